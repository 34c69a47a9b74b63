/- Digits of amounts: a digit at a place, the number that a counter shows, the sum of the digits. The condition: the library's table of powers of ten lies as its text lays it. -/
import Derived.Test.YtahkkdkdaedioaaDoorWhl
import Derived.Test.YtahkkdkdaedioaaDoorDec
import Derived.Test.YtahkkdkdaedioaaDoorAmt
namespace Go.Proofs.YtahkkdkdaedioaaDoor
open Go.ChangeShapes Go.WideShapes Go.ChangeAt Go.RowKit
set_option linter.unusedVariables false
set_option maxRecDepth 100000
theorem dec_len (u : Nat) : (Lib.decDigits u).length = if u < 10 then 1 else (Lib.decDigits (u / 10)).length + 1 := by
  rw [Lib.decDigits]
  split <;> simp
theorem itoaB_len {n : Int} (h : 0 ≤ n) : (itoaB n).size = (Lib.decDigits n.toNat).length := by
  show (Lib.itoa n).toArray.size = _
  rw [List.size_toArray]
  unfold Lib.itoa
  rw [if_neg (by omega)]
theorem digit_sum {n : Int} (h : 0 ≤ n ∧ n ≤ 9999) : sumI (wl n (itoaB n).size) = dsum n := by
  rw [itoaB_len h.1, dec_len]
  have hu : (n.toNat : Int) = n := by omega
  generalize n.toNat = u at hu
  subst hu
  split
  · simp [wl, List.range_succ, shr, sumI, dsum, digA, p10]; omega
  · rw [dec_len]
    split
    · simp [wl, List.range_succ, shr, sumI, dsum, digA, p10]; omega
    · rw [dec_len]
      split
      · simp [wl, List.range_succ, shr, sumI, dsum, digA, p10]; omega
      · rw [dec_len]
        split
        · simp [wl, List.range_succ, shr, sumI, dsum, digA, p10]; omega
        · omega
theorem wl_digit {n : Int} {p : Nat} (hp : p < 4) : (wl n 4)[p]? = some (digA n (p : Int)) := by
  have : p = 0 ∨ p = 1 ∨ p = 2 ∨ p = 3 := by omega
  rcases this with rfl | rfl | rfl | rfl <;> simp [wl, List.range_succ, shr, digA, p10] <;> omega
/-- what a counter shows -/
def shownN (ds : List Int) : Int := ds.foldr (fun d a => 10 * a + d) 0
theorem shownN_le : ∀ {ds : List Int}, (∀ x ∈ ds, 0 ≤ x ∧ x ≤ 9) → 0 ≤ shownN ds ∧ shownN ds < (10 : Int) ^ ds.length
  | [], _ => by simp [shownN]
  | d :: ds, h => by
    have ih := shownN_le (ds := ds) fun x hx => h x (by simp [hx])
    have hd := h d (by simp)
    have e : shownN (d :: ds) = 10 * shownN ds + d := rfl
    rw [e, List.length_cons, Int.pow_succ]
    omega
theorem shownN_bd {ds : List Int} (h : ∀ x ∈ ds, 0 ≤ x ∧ x ≤ 9) (hl : ds.length ≤ 4) : 0 ≤ shownN ds ∧ shownN ds ≤ 9999 := by
  have h1 := shownN_le h
  have h2 : ds.length = 0 ∨ ds.length = 1 ∨ ds.length = 2 ∨ ds.length = 3 ∨ ds.length = 4 := by omega
  rcases h2 with h2 | h2 | h2 | h2 | h2 <;> rw [h2] at h1 <;> omega
theorem shown_read {n : Int} {f : FaultT} (hn : 0 ≤ n ∧ n ≤ 9999) {p : Nat} (hp : p < 4) (hf : f.place = (p : Int)) : shownN ((wl n 4).set p f.digit) = readF n f := by
  unfold readF
  rw [hf]
  have : p = 0 ∨ p = 1 ∨ p = 2 ∨ p = 3 := by omega
  rcases this with rfl | rfl | rfl | rfl <;> simp [wl, List.range_succ, shr, digA, p10, shownN] <;> omega
theorem run_ctr (a : Option Addr) (n c : Nat) (W : World) : (Instr.field 81 (.agg #[.slice a n c]) 0).run Tryd.prog W = .ok (.slice a n c) W := by kernel_rfl
theorem absOf_c {n : Int} {w : World} (h : 0 ≤ n ∧ n ≤ 9223372036854775807) : Calls Tryd.prog 82 #[.int .i64 n] w fun e w' => e = .returned (.int .i64 n) ∧ w = w' := by
  obtain ⟨h0, h1⟩ := h
  have hz : IntKind.i64.wrap (-n) = -n := IntWalk.i64_in _ (by omega)
  have hm : (if n < -n then -n else n) = n := if_neg (by omega)
  go_enter Tryd.func82, Tryd.ntmps82
  go_wp2
  go_ret
  exact ⟨ret_int (by first | exact hm | simp [hz]; omega | omega), rfl⟩
theorem digitList_c {n : Int} {w : World} (h : 0 ≤ n ∧ n ≤ 9999) (ht : PowAt w) :
    Calls Tryd.prog 78 #[.int .i64 n] w fun e w' => ∃ u, e = .returned u ∧ OwnInt64S w.heap.size w' u (wl n (itoaB n).size) ∧ Below w.heap.size w w' := by
  have hcon := digitsOf_c (n := n) (by omega) (by omega) ht
  have hs := itoaB_size (n := n) (by omega) (by omega)
  have Hcon := Lib.hid hcon
  have H := Lib.hid h
  generalize (itoaB n).size = D at Hcon hs ⊢
  clear hcon ht h
  go_enter Tryd.func78, Tryd.ntmps78
  go_wp2_with fail
  with_reducible refine (absOf_c (by have := H.out; omega)).mono ?_
  rintro e w1 ⟨rfl, rfl⟩
  go_wp2_with fail
  with_reducible refine Hcon.out.mono ?_
  rintro e w2 ⟨rfl, hb2⟩
  have Hb2 := Lib.hid hb2
  clear hb2
  go_wp2_with fail
  with_reducible refine (absOf_c (by have := H.out; omega)).mono ?_
  rintro e w3 ⟨rfl, rfl⟩
  go_wp2_with fail
  with_reducible refine (wheelsShow_c (K := D) hs (by have := H.out; omega) (by have := H.out; omega)).mono ?_
  rintro e w4 ⟨u, rfl, hu, hb⟩
  obtain ⟨ua, uc, rfl⟩ := hu.shape
  have hfd := run_ctr ua (wl n D).length uc
  have Hu := Lib.hid (hu.mono Hb2.out.size)
  have Hb := Lib.hid (Hb2.out.trans (hb.mono Hb2.out.size))
  clear hu hb
  go_wp2
  go_ret
  exact ⟨_, rfl, Hu.out, Hb.out⟩
theorem digitSum_c {n : Int} {w : World} (h : 0 ≤ n ∧ n ≤ 9999) (ht : PowAt w) :
    Calls Tryd.prog 54 #[.int .i64 n] w fun e w' => e = .returned (.int .i64 (dsum n)) ∧ Below w.heap.size w w' := by
  have hcon := digitList_c h ht
  have hd := digit_sum h
  have hs := itoaB_size (n := n) (by omega) (by omega)
  have hok := wl_ok n (itoaB n).size
  have hll := wl_length n (itoaB n).size
  generalize (itoaB n).size = D at hcon hs hd hok hll
  generalize wl n D = ds at hcon hd hok hll
  rw [← hd]
  have Hcon := Lib.hid hcon
  have Hok := Lib.hid hok
  have Hll := Lib.hid hll
  clear hcon hd hok ht h hll
  go_enter Tryd.func54, Tryd.ntmps54
  go_wp2_with fail
  with_reducible refine Hcon.out.mono ?_
  rintro e w1 ⟨u, rfl, hu, hb⟩
  obtain ⟨ao, cap, rfl, ho⟩ := RdI.open hu.rds
  rw [Hll.out] at ho ⊢
  have Ho := Lib.hid ho
  have Hb := Lib.hid hb
  clear ho hu hb Hcon
  go_wp2
  go_loop [9, 3] (fun i s => ∃ k : Nat, k ≤ D ∧ i = .int .i64 k ∧ ∃ t : Int, s = .int .i64 t ∧ (0 ≤ t ∧ t ≤ 9 * k) ∧ Hid (t = sumI (ds.take k))) (fun i _ => D - (intOf i).toNat)
  case atStart => exact ⟨0, Nat.zero_le _, rfl, 0, rfl, by omega, rfl⟩
  case round =>
    obtain ⟨k, hk, rfl, t, rfl, ⟨ht0, ht1⟩, ht⟩ := hrel
    by_cases hkn : k < D
    · obtain ⟨b, off, rfl, hlt, hc⟩ := Ho.out (by omega)
      obtain ⟨x, hx, hcx, bx⟩ := hc k (by omega)
      obtain ⟨hx0, hx1⟩ := Hok.out x (List.mem_of_getElem? hx)
      have Hx := Lib.hid hx
      clear hx hc bx
      go_wp2
      go_round
      case rel => exact ⟨k + 1, by omega, by go_num, t + x, by go_num, by omega, by show _ = _; rw [take_snoc Hx.out, sumI_snoc, ← ht.out]⟩
      case measure => simp [intOf]; omega
    · obtain rfl : k = D := by omega
      go_wp2
      go_ret
      refine ⟨ret_int ?_, Hb.out⟩
      rw [ht.out, List.take_of_length_le (by have := Hll.out; omega)]
theorem digitAt_c {n : Int} {p : Nat} {w : World} (h : 0 ≤ n ∧ n ≤ 9999) (hp : p < 4) :
    Calls Tryd.prog 66 #[.int .i64 n, .int .i64 (p : Int)] w fun e w' => e = .returned (.int .i64 (digA n (p : Int))) ∧ Below w.heap.size w w' := by
  have hcon := wheelsShow_c (K := 4) (n := n) (w := w) (by decide) (by omega) (by omega)
  rw [show ((4 : Nat) : Int) = 4 from rfl] at hcon
  have hd := wl_digit (n := n) hp
  have hll := wl_length n 4
  generalize wl n 4 = ds at hcon hd hll
  generalize digA n (p : Int) = d at hd ⊢
  have Hcon := Lib.hid hcon
  have Hd := Lib.hid hd
  have Hll := Lib.hid hll
  clear hcon hd hll h
  go_enter Tryd.func66, Tryd.ntmps66
  go_wp2_with fail
  with_reducible refine Hcon.out.mono ?_
  rintro e w1 ⟨u, rfl, hu, hb⟩
  obtain ⟨ao, cap, rfl, ho⟩ := RdI.open hu.rds
  rw [Hll.out] at ho ⊢
  obtain ⟨b, off, rfl, hlt, hc⟩ := ho (by omega)
  obtain ⟨x, hx, hcx, bx⟩ := hc p (by omega)
  obtain rfl : x = d := Option.some.inj (hx.symm.trans Hd.out)
  have hp4 : (p : Int) < 4 := by omega
  have Hb := Lib.hid hb
  have hfd := run_ctr (some ⟨b, off, none⟩) 4 cap
  clear hc hx hu hb ho bx Hcon
  go_wp2
  go_ret
  exact ⟨rfl, Hb.out⟩
theorem shown_c {ds : List Int} {u : Value} {w : World} {A : Nat} (ha : RdI A w u ds) (hok : ∀ x ∈ ds, 0 ≤ x ∧ x ≤ 9) (hl : ds.length = 4) :
    Calls Tryd.prog 58 #[.agg #[u]] w fun e w' => e = .returned (.int .i64 (shownN ds)) ∧ Below w.heap.size w w' := by
  obtain ⟨ao, cap, rfl, ho⟩ := RdI.open ha
  rw [hl] at ho ⊢
  obtain ⟨b, off, rfl, hlt, hc⟩ := ho (by omega)
  have Hc := Lib.hid hc
  have Hok := Lib.hid hok
  have Hl := Lib.hid hl
  have hlt2 := hlt.2
  have hne : w.heap.size ≠ b := by omega
  clear hc ho ha hl hlt hok
  go_enter Tryd.func58, Tryd.ntmps58
  go_wp2
  go_loop [4, 3] (fun i s => ∃ (k : Nat) (t : Int), k ≤ 4 ∧ i = .int .i64 ((k : Int) - 1) ∧ s = .int .i64 t ∧ (0 ≤ t ∧ t ≤ 9999) ∧ Hid (t = shownN (ds.drop k))) (fun i _ => (intOf i + 1).toNat)
  case atStart => exact ⟨4, 0, by omega, rfl, rfl, by omega, by show (0 : Int) = _; rw [List.drop_of_length_le (by have := Hl.out; omega)]; rfl⟩
  case round =>
    obtain ⟨k, t, hk, rfl, rfl, ⟨ht0, ht1⟩, Ht⟩ := hrel
    rcases k with _ | k
    · have He : Hid (t = shownN ds) := Lib.hid (by rw [Ht.out]; rfl)
      have hneg : ¬ (0 : Int) ≤ ((0 : Nat) : Int) - 1 := by omega
      clear Ht
      go_wp2
      go_ret
      exact ⟨ret_int He.out, (Below.refl _ _).alloc (Nat.le_refl _) _⟩
    · obtain ⟨x, hx, hcx, _⟩ := Hc.out k (by omega)
      have hst : shownN (ds.drop k) = 10 * t + x := by
        have h2 : ds.drop k = x :: ds.drop (k + 1) := by
          have h3 := List.getElem?_eq_some_iff.1 hx
          rw [List.drop_eq_getElem_cons h3.1, h3.2]
        rw [h2, Ht.out]; rfl
      have hxb := Hok.out x (List.mem_of_getElem? hx)
      have hkz : ((k + 1 : Nat) : Int) - 1 = (k : Int) := by omega
      have hk4 : (k : Int) < 4 := by omega
      have hbn : 0 ≤ 10 * t + x ∧ 10 * t + x ≤ 9999 := by
        rw [← hst]
        exact shownN_bd (fun z hz => Hok.out z (List.mem_of_mem_drop hz)) (by rw [List.length_drop]; have := Hl.out; omega)
      have Hst := Lib.hid hst
      obtain ⟨hx0, hx1⟩ := hxb
      rw [hkz]
      clear hst hx hkz
      go_wp2
      go_round
      case rel => exact ⟨k, 10 * t + x, by omega, by go_num, by go_num, hbn, by show _ = _; rw [Hst.out]⟩
      case measure => simp [intOf] <;> omega
end Go.Proofs.YtahkkdkdaedioaaDoor
