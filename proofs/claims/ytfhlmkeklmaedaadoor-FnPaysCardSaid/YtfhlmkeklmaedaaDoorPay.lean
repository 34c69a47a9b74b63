/- PayFor: the program's and the reference's, each by its contract. No condition. -/
import Derived.Test.YtfhlmkeklmaedaaDoorWork
import Derived.Test.YtfhlmkeklmaedaaDoorStrP
import Derived.Test.YtfhlmkeklmaedaaDoorGross
namespace Go.Proofs.YtfhlmkeklmaedaaDoor
open Go.ChangeShapes Go.WideShapes Go.ChangeAt Go.RowKit
set_option linter.unusedVariables false
set_option maxRecDepth 100000
def taxF (g t : Int) : Int := (g * t + 50) / 100
def payF (x : WorkerT) (h : Int) : PayT := ⟨h, grossF x.rate h, taxF (grossF x.rate h) x.tax, grossF x.rate h - taxF (grossF x.rate h) x.tax⟩
theorem taxF_two (g t : Int) : (2 * g * t + 100) / 200 = taxF g t := by
  unfold taxF
  rw [show 2 * g * t + 100 = 2 * (g * t + 50) by rw [Int.mul_add, ← Int.mul_assoc]; omega, show (200 : Int) = 2 * 100 from rfl, Int.mul_ediv_mul_of_pos _ _ (by decide)]
theorem taxF_bd {g t : Int} (hg : 0 ≤ g ∧ g ≤ 1600001) (ht : 0 ≤ t ∧ t ≤ 60) : 0 ≤ taxF g t ∧ taxF g t ≤ g ∧ (0 ≤ g * t ∧ g * t ≤ 96000060) := by
  have h1 := mul_bd g t 1600001 60 hg.1 hg.2 ht.1 ht.2
  have h2 : g * t ≤ g * 60 := Int.mul_le_mul_of_nonneg_left ht.2 hg.1
  unfold taxF
  omega
theorem validW_parts {x : WorkerT} (h : validW x = true) : nameB x.nm = true ∧ (1 ≤ x.rate ∧ x.rate ≤ 10000) ∧ 0 ≤ x.tax ∧ x.tax ≤ 60 := by
  unfold validW at h
  simpa only [Bool.and_eq_true, decide_eq_true_eq] using h
theorem payFor_c (x : WorkerT) (h : Int) (w : World) (hv : validW x = true) (hh : 0 ≤ h ∧ h ≤ 120) :
    Calls Tryd.prog 39 #[vWorker x, .int .i64 h] w fun e w' => e = .returned (vPay (payF x h)) ∧ Below w.heap.size w w' := by
  obtain ⟨_, hr, ht⟩ := validW_parts hv
  have hg := grossF_bd hr hh
  have hb := taxF_bd hg ht
  have h2 := taxF_two (grossF x.rate h) x.tax
  unfold payF
  have Hr := Lib.hid hr
  have Hh := Lib.hid hh
  clear hv hr hh ht
  generalize hG : grossF x.rate h = G at *
  have HG := Lib.hid hG
  have H2 := Lib.hid h2
  have hm : 0 ≤ 2 * G * x.tax ∧ 2 * G * x.tax ≤ 192000120 := by rw [Int.mul_assoc]; omega
  obtain ⟨hm1, hm2⟩ := hm
  obtain ⟨hb1, hb2, hb3⟩ := hb
  generalize hT : taxF G x.tax = T at *
  clear hG h2 hT
  go_enter Tryd.func39, Tryd.ntmps39
  go_wp2_with fail
  with_reducible refine (grossFor_any _ _ Hr.out Hh.out _).mono ?_
  rw [HG.out]
  rintro e w' ⟨rfl, rfl⟩
  have h3 : (2 * G * x.tax + 100) / 200 = T := H2.out
  go_wp2
  exact bodyPost_ret (v := vPay ⟨h, G, T, G - T⟩) (by simp [results, Tryd.results39, go_sem]) rfl ⟨rfl, (((Below.refl _ _).alloc (Nat.le_refl _) _).alloc (by simp) _)⟩
theorem l23Pay_c (x : WorkerT) (h : Int) (w : World) (hv : validW x = true) (hh : 0 ≤ h ∧ h ≤ 120) {b off : Nat} (c1 : w.cell? ⟨b, off + 1, none⟩ = some (.int .i64 x.rate)) (c2 : w.cell? ⟨b, off + 2, none⟩ = some (.int .i64 x.tax)) :
    Calls Tryd.prog 41 #[.pointer (some ⟨b, off, none⟩), .int .i64 h] w fun e w' => e = .returned (vPay (payF x h)) ∧ Below w.heap.size w w' := by
  obtain ⟨_, hr, ht⟩ := validW_parts hv
  have hg := grossF_bd hr hh
  have hb := taxF_bd hg ht
  have h2 : (grossF x.rate h * x.tax + 50) / 100 = taxF (grossF x.rate h) x.tax := rfl
  have hlt := World.block_lt_of_cell? w _ c1
  unfold payF
  have Hr := Lib.hid hr
  have Hh := Lib.hid hh
  clear hv hr hh ht
  generalize hG : grossF x.rate h = G at *
  have HG := Lib.hid hG
  have H2 := Lib.hid h2
  obtain ⟨hb1, hb2, hb3⟩ := hb
  generalize hT : taxF G x.tax = T at *
  clear hG h2 hT
  go_enter Tryd.func41, Tryd.ntmps41
  go_wp2_with fail
  with_reducible refine (l23Gross_any _ _ Hr.out Hh.out _).mono ?_
  rw [HG.out]
  rintro e w' ⟨rfl, rfl⟩
  have h3 : (G * x.tax + 50) / 100 = T := H2.out
  go_wp2
  exact bodyPost_ret (v := vPay ⟨h, G, T, G - T⟩) (by simp [results, Tryd.results41, go_sem]) rfl ⟨rfl, (Below.refl _ _).alloc (Nat.le_refl _) _⟩
def PayForC (x : WorkerT) (h : Int) : Int := if validW x = true then (if 0 ≤ h ∧ h ≤ 120 then 0 else 2) else 1
def PayForR (x : WorkerT) (h : Int) : PayT := if PayForC x h = 0 then payF x h else zPay
theorem PayFor_c (x : WorkerT) (h : Int) (w : World) (a : okWorker x) :
    Calls Tryd.prog 12 #[vWorker x, .int .i64 h] w fun e w' => e = .returned (.tuple #[vPay (PayForR x h), .int .i64 (PayForC x h)]) ∧ Below w.heap.size w w' := by
  have Ha := Lib.hid a
  clear a
  cases hv : validW x with
  | false =>
    have e1 : PayForC x h = 1 := by unfold PayForC; rw [hv]; rfl
    have e2 : PayForR x h = zPay := by unfold PayForR; rw [e1]; rfl
    rw [e1, e2]
    have Hv := Lib.hid hv
    clear hv e1 e2
    go_enter Tryd.func12, Tryd.ntmps12
    go_wp2_with fail
    with_reducible refine (isWorker_c x _ Ha.out).mono ?_
    rw [Hv.out]
    rintro e w1 ⟨rfl, hb⟩
    have hb2 := ((((Below.refl w.heap.size w).alloc (Nat.le_refl _) _).alloc (by simp) _).trans (hb.mono (by simp; omega)))
    have Hb2 := Lib.hid hb2
    obtain ⟨hc, hf⟩ := bcell hb
    clear hb hb2
    go_wp2
    exact bodyPost_ret (v := .tuple #[vPay zPay, .int .i64 1]) (by simp [results, Tryd.results12, go_sem, zPay, hc]) rfl ⟨rfl, Hb2.out.run (g := w.heap.size + 1) (by omega) [_, _, _, _]⟩
  | true =>
    by_cases hh : 0 ≤ h ∧ h ≤ 120
    · have e1 : PayForC x h = 0 := by unfold PayForC; rw [hv, if_pos rfl, if_pos hh]
      have e2 : PayForR x h = payF x h := by unfold PayForR; rw [e1]; rfl
      rw [e1, e2]
      obtain ⟨y, hy⟩ : ∃ y, payF x h = y := ⟨_, rfl⟩
      rw [hy]
      have Hy := Lib.hid hy
      clear hy
      have Hv := Lib.hid hv
      have Hh := Lib.hid hh
      clear hv e1 e2 hh
      go_enter Tryd.func12, Tryd.ntmps12
      go_wp2_with fail
      with_reducible refine (isWorker_c x _ Ha.out).mono ?_
      rw [Hv.out]
      rintro e w1 ⟨rfl, hb⟩
      have hb2 := ((((Below.refl w.heap.size w).alloc (Nat.le_refl _) _).alloc (by simp) _).trans (hb.mono (by simp; omega)))
      have hz1 : w.heap.size + 1 < w1.heap.size := by have := hb.size; simp at this; omega
      have Hb2 := Lib.hid hb2
      obtain ⟨hc, hf⟩ := bcell hb
      clear hb hb2
      go_wp2_with fail
      with_reducible refine (areHours_yes _ _ Hh.out).mono ?_
      rintro e w' ⟨rfl, rfl⟩
      go_wp2_with fail
      with_reducible refine (payFor_c x h _ Hv.out Hh.out).mono ?_
      rw [Hy.out]
      rintro e w2 ⟨rfl, hb3⟩
      have hb4 := Hb2.out.trans (hb3.mono Hb2.out.size)
      have Hb4 := Lib.hid hb4
      obtain ⟨hc2, hf2⟩ := bcell hb3
      clear hb3 hb4
      go_wp2
      exact bodyPost_ret (v := .tuple #[vPay y, .int .i64 0]) (by simp [results, Tryd.results12, go_sem, hc2, hc, hz1]) rfl ⟨rfl, Hb4.out.run (g := w.heap.size + 1) (by omega) [_, _, _, _]⟩
    · have e1 : PayForC x h = 2 := by unfold PayForC; rw [hv, if_pos rfl, if_neg hh]
      have e2 : PayForR x h = zPay := by unfold PayForR; rw [e1]; rfl
      rw [e1, e2]
      have Hv := Lib.hid hv
      have Hh := Lib.hid (show h < 0 ∨ 120 < h by omega)
      clear hv e1 e2 hh
      go_enter Tryd.func12, Tryd.ntmps12
      go_wp2_with fail
      with_reducible refine (isWorker_c x _ Ha.out).mono ?_
      rw [Hv.out]
      rintro e w1 ⟨rfl, hb⟩
      have hb2 := ((((Below.refl w.heap.size w).alloc (Nat.le_refl _) _).alloc (by simp) _).trans (hb.mono (by simp; omega)))
      have Hb2 := Lib.hid hb2
      obtain ⟨hc, hf⟩ := bcell hb
      clear hb hb2
      go_wp2_with fail
      with_reducible refine (areHours_no _ _ Hh.out).mono ?_
      rintro e w' ⟨rfl, rfl⟩
      go_wp2
      exact bodyPost_ret (v := .tuple #[vPay zPay, .int .i64 2]) (by simp [results, Tryd.results12, go_sem, zPay, hc]) rfl ⟨rfl, Hb2.out.run (g := w.heap.size + 1) (by omega) [_, _, _, _]⟩
theorem sPayFor_c (x : WorkerT) (h : Int) (w : World) (a : okWorker x) :
    Calls Tryd.prog 13 #[vWorker x, .int .i64 h] w fun e w' => e = .returned (.tuple #[vPay (PayForR x h), .int .i64 (PayForC x h)]) ∧ Below w.heap.size w w' := by
  have Ha := Lib.hid a
  clear a
  cases hv : validW x with
  | false =>
    have e1 : PayForC x h = 1 := by unfold PayForC; rw [hv]; rfl
    have e2 : PayForR x h = zPay := by unfold PayForR; rw [e1]; rfl
    rw [e1, e2]
    have Hv := Lib.hid hv
    clear hv e1 e2
    go_enter Tryd.func13, Tryd.ntmps13
    go_wp2_with fail
    have hone := l23One_c x ((w.alloc (.cells #[.string x.nm, .int .i64 x.rate, .int .i64 x.tax] 29)).alloc (.cells #[.int .i64 0, .int .i64 0, .int .i64 0, .int .i64 0] 31)) Ha.out (b := w.heap.size) (off := 0) (by simp [go_sem]) (by simp [go_sem]) (by simp [go_sem])
    with_reducible refine hone.mono ?_
    clear hone
    rw [Hv.out]
    rintro e w' ⟨rfl, rfl⟩
    go_wp2
    exact bodyPost_ret (v := .tuple #[vPay zPay, .int .i64 1]) (by simp [results, Tryd.results13, go_sem, zPay]) rfl ⟨rfl, (((Below.refl w.heap.size w).alloc (Nat.le_refl _) _).alloc (by simp) _)⟩
  | true =>
    by_cases hh : 0 ≤ h ∧ h ≤ 120
    · have e1 : PayForC x h = 0 := by unfold PayForC; rw [hv, if_pos rfl, if_pos hh]
      have e2 : PayForR x h = payF x h := by unfold PayForR; rw [e1]; rfl
      rw [e1, e2]
      obtain ⟨y, hy⟩ : ∃ y, payF x h = y := ⟨_, rfl⟩
      rw [hy]
      have Hy := Lib.hid hy
      clear hy
      have Hv := Lib.hid hv
      have Hh := Lib.hid hh
      clear hv e1 e2 hh
      go_enter Tryd.func13, Tryd.ntmps13
      go_wp2_with fail
      have hone := l23One_c x ((w.alloc (.cells #[.string x.nm, .int .i64 x.rate, .int .i64 x.tax] 29)).alloc (.cells #[.int .i64 0, .int .i64 0, .int .i64 0, .int .i64 0] 31)) Ha.out (b := w.heap.size) (off := 0) (by simp [go_sem]) (by simp [go_sem]) (by simp [go_sem])
      with_reducible refine hone.mono ?_
      clear hone
      rw [Hv.out]
      rintro e w' ⟨rfl, rfl⟩
      go_wp2_with fail
      with_reducible refine (l23Hours_yes _ _ Hh.out).mono ?_
      rintro e w' ⟨rfl, rfl⟩
      go_wp2_with fail
      have hpay := l23Pay_c x h ((w.alloc (.cells #[.string x.nm, .int .i64 x.rate, .int .i64 x.tax] 29)).alloc (.cells #[.int .i64 0, .int .i64 0, .int .i64 0, .int .i64 0] 31)) Hv.out Hh.out (b := w.heap.size) (off := 0) (by simp [go_sem]) (by simp [go_sem])
      with_reducible refine hpay.mono ?_
      clear hpay
      rw [Hy.out]
      rintro e w2 ⟨rfl, hb⟩
      have hb2 := ((((Below.refl w.heap.size w).alloc (Nat.le_refl _) _).alloc (by simp) _).trans (hb.mono (by simp; omega)))
      have Hb2 := Lib.hid hb2
      obtain ⟨hc, hf⟩ := bcell hb
      clear hb hb2
      go_wp2
      exact bodyPost_ret (v := .tuple #[vPay y, .int .i64 0]) (by simp [results, Tryd.results13, go_sem, hc]) rfl ⟨rfl, Hb2.out.run (g := w.heap.size + 1) (by omega) [_, _, _, _]⟩
    · have e1 : PayForC x h = 2 := by unfold PayForC; rw [hv, if_pos rfl, if_neg hh]
      have e2 : PayForR x h = zPay := by unfold PayForR; rw [e1]; rfl
      rw [e1, e2]
      have Hv := Lib.hid hv
      have Hh := Lib.hid (show h < 0 ∨ 120 < h by omega)
      clear hv e1 e2 hh
      go_enter Tryd.func13, Tryd.ntmps13
      go_wp2_with fail
      have hone := l23One_c x ((w.alloc (.cells #[.string x.nm, .int .i64 x.rate, .int .i64 x.tax] 29)).alloc (.cells #[.int .i64 0, .int .i64 0, .int .i64 0, .int .i64 0] 31)) Ha.out (b := w.heap.size) (off := 0) (by simp [go_sem]) (by simp [go_sem]) (by simp [go_sem])
      with_reducible refine hone.mono ?_
      clear hone
      rw [Hv.out]
      rintro e w' ⟨rfl, rfl⟩
      go_wp2_with fail
      with_reducible refine (l23Hours_no _ _ Hh.out).mono ?_
      rintro e w' ⟨rfl, rfl⟩
      go_wp2
      exact bodyPost_ret (v := .tuple #[vPay zPay, .int .i64 2]) (by simp [results, Tryd.results13, go_sem, zPay]) rfl ⟨rfl, (((Below.refl w.heap.size w).alloc (Nat.le_refl _) _).alloc (by simp) _)⟩
end Go.Proofs.YtfhlmkeklmaedaaDoor
