/- The fewest faults and a diagnosis: what the program's functions return. The condition: the library's table of powers of ten lies as its text lays it. -/
import Derived.Test.YtahkkdkdaedioaaDoorFewJ
namespace Go.Proofs.YtahkkdkdaedioaaDoor
open Go.ChangeShapes Go.WideShapes Go.ChangeAt Go.RowKit Go.Sort
set_option linter.unusedVariables false
set_option maxRecDepth 100000
theorem few_len_le {xs : List Int} (h : amtOk xs = true) (r : ReportT) : (fewF xs r).1.length ≤ 300000 := by
  unfold fewF
  split
  · simp
  · split
    · exact expl_len h r 0 (by decide)
    · split
      · exact expl_len h r 1 (by decide)
      · split
        · exact expl_len h r 2 (by decide)
        · simp
set_option maxHeartbeats 1000000 in
theorem FewestFaults_c {xs : List Int} {r : ReportT} {v : Value} {w : World} {A : Nat} (ha : RdI A w v xs) (hr : okReport r) (ht : PowAt w) :
    Calls Tryd.prog 11 #[v, vReport r] w fun e w' => e = .returned (.tuple #[.int .i64 (ffA xs r), .int .i64 (ffC xs r)]) ∧ Below w.heap.size w w' := by
  have hb0 : Below w.heap.size w (w.alloc (.cells #[.int .i64 r.count, .int .i64 r.sum, .int .i64 r.digits] 29)) := (Below.refl _ _).alloc (Nat.le_refl _) _
  have ha0 := Rds.onn ha hb0
  have ht0 := ht.below hb0
  obtain ⟨ao, cap, rfl⟩ := ha.shape
  have Ha0 := Lib.hid ha0
  have Ht0 := Lib.hid ht0
  have Hb0 := Lib.hid hb0
  have Hr := Lib.hid hr
  clear ha ha0 ht ht0 hb0 hr
  cases hx : amtOk xs with
  | false =>
    have e1 : ffA xs r = 0 := by unfold ffA; rw [hx]; rfl
    have e2 : ffC xs r = 1 := by unfold ffC; rw [hx]; rfl
    rw [e1, e2]
    have Hx := Lib.hid hx
    clear hx e1 e2
    go_enter Tryd.func11, Tryd.ntmps11
    go_wp2_with fail
    with_reducible refine (ValidAmounts_c Ha0.out).mono ?_
    rw [Hx.out]
    rintro e w' ⟨rfl, rfl⟩
    go_wp2
    go_ret2
    exact ⟨rfl, Hb0.out⟩
  | true =>
    have E1 := Lib.hid (show ffA xs r = if fewB xs r = true then (fewF xs r).2 else 0 by unfold ffA; rw [if_pos hx])
    have E2 := Lib.hid (show ffC xs r = if fewB xs r = true then 0 else 3 by unfold ffC; rw [if_pos hx])
    have Hx := Lib.hid hx
    clear hx
    have hll := few_len_le Hx.out r
    go_enter Tryd.func11, Tryd.ntmps11
    go_wp2_with fail
    with_reducible refine (ValidAmounts_c Ha0.out).mono ?_
    rw [Hx.out]
    rintro e w' ⟨rfl, rfl⟩
    go_wp2_with fail
    with_reducible refine (fewest_c Ha0.out Hx.out Hr.out Ht0.out).mono ?_
    rintro e w2 ⟨u, rfl, hu, hb2⟩
    have hB : fewB xs r = !(fewF xs r).1.isEmpty := rfl
    generalize hc : (fewF xs r).2 = c
    generalize hX0 : (fewF xs r).1 = X at hu hll hB
    have HB := Lib.hid hB
    have Hc := Lib.hid hc
    clear hB hc hX0
    obtain ⟨uo, uc, hue⟩ := hu.shape
    obtain ⟨L, hL⟩ : ∃ L, L = X.length := ⟨_, rfl⟩
    rw [← hL] at hue hll
    subst hue
    have Hb2 := Lib.hid (Hb0.out.trans (hb2.mono Hb0.out.size))
    clear hu hb2
    by_cases h0 : L = 0
    · obtain rfl : X = [] := List.eq_nil_of_length_eq_zero (by omega)
      clear hL
      subst h0
      go_wp2
      go_ret2
      rw [E1.out, E2.out, HB.out]
      exact ⟨rfl, Hb2.out⟩
    · have hX : X.isEmpty = false := by
        cases X with
        | nil => simp at hL; omega
        | cons a b => rfl
      rw [hX] at HB
      have h0' : ((L : Int) == 0) = false := by simpa using h0
      clear hL hX
      go_wp2
      go_ret2
      rw [E1.out, E2.out, HB.out, Hc.out]
      exact ⟨rfl, Hb2.out⟩
theorem sizeFF_c {ao : Option Addr} {n cap : Nat} {w : World} (hn : n ≤ 9223372036854775807) :
    Calls Tryd.prog 36 #[.slice ao n cap] w fun e w' => e = .returned (.int .i64 n) ∧ w = w' := by
  go_enter Tryd.func36, Tryd.ntmps36
  go_wp2
  go_ret
  exact ⟨rfl, rfl⟩
set_option maxHeartbeats 1000000 in
theorem Diagnose_c {xs : List Int} {r : ReportT} {v : Value} {w : World} {A : Nat} (ha : RdI A w v xs) (hr : okReport r) (ht : PowAt w) :
    Calls Tryd.prog 10 #[v, vReport r] w fun e w' => ∃ u0, e = .returned (.tuple #[u0, .int .i64 (dgN xs r), .int .i64 (ffC xs r)]) ∧ OwnFaultS w.heap.size w' u0 (dgA xs r) ∧ Below w.heap.size w w' := by
  have hb0 : Below w.heap.size w (w.alloc (.cells #[.int .i64 r.count, .int .i64 r.sum, .int .i64 r.digits] 29)) := (Below.refl _ _).alloc (Nat.le_refl _) _
  have ha0 := Rds.onn ha hb0
  have ht0 := ht.below hb0
  obtain ⟨ao, cap, rfl⟩ := ha.shape
  have Ha0 := Lib.hid ha0
  have Ht0 := Lib.hid ht0
  have Hb0 := Lib.hid hb0
  have Hr := Lib.hid hr
  clear ha ha0 ht ht0 hb0 hr
  cases hx : amtOk xs with
  | false =>
    have e1 : dgA xs r = [] := by unfold dgA; rw [hx]; rfl
    have e2 : ffC xs r = 1 := by unfold ffC; rw [hx]; rfl
    have e3 : dgN xs r = 0 := by unfold dgN; rw [hx]; rfl
    rw [e1, e2, e3]
    have Hx := Lib.hid hx
    clear hx e1 e2 e3
    go_enter Tryd.func10, Tryd.ntmps10
    go_wp2_with fail
    with_reducible refine (ValidAmounts_c Ha0.out).mono ?_
    rw [Hx.out]
    rintro e w' ⟨rfl, rfl⟩
    go_wp2
    go_ret3
    exact ⟨_, rfl, Own.nil _ _ _ _, Hb0.out⟩
  | true =>
    have E1 := Lib.hid (show dgA xs r = if fewB xs r = true then fewA xs r else [] by unfold dgA; rw [if_pos hx])
    have E2 := Lib.hid (show ffC xs r = if fewB xs r = true then 0 else 3 by unfold ffC; rw [if_pos hx])
    have E3 := Lib.hid (show dgN xs r = if fewB xs r = true then fewN xs r else 0 by unfold dgN; rw [if_pos hx])
    have Hx := Lib.hid hx
    clear hx
    have hll := few_len_le Hx.out r
    go_enter Tryd.func10, Tryd.ntmps10
    go_wp2_with fail
    with_reducible refine (ValidAmounts_c Ha0.out).mono ?_
    rw [Hx.out]
    rintro e w' ⟨rfl, rfl⟩
    go_wp2_with fail
    with_reducible refine (fewest_c Ha0.out Hx.out Hr.out Ht0.out).mono ?_
    rintro e w2 ⟨u, rfl, hu, hb2⟩
    have hB : fewB xs r = !(fewF xs r).1.isEmpty := rfl
    have hNn : fewN xs r = (fewF xs r).1.length := rfl
    have hAa : fewA xs r = (fewF xs r).1.headD [] := rfl
    generalize (fewF xs r).2 = c
    generalize hX0 : (fewF xs r).1 = X at hu hll hB hNn hAa
    have HB := Lib.hid hB
    have HNn := Lib.hid hNn
    have HAa := Lib.hid hAa
    clear hX0 hB hNn hAa
    have hws := Hb0.out.size
    have Hb2 := Lib.hid (Hb0.out.trans (hb2.mono Hb0.out.size))
    clear hb2
    cases X with
    | nil =>
      obtain ⟨uo, uc, hue⟩ := hu.shape
      subst hue
      clear hu
      go_wp2
      go_ret3
      rw [E1.out, E2.out, E3.out, HB.out]
      exact ⟨_, rfl, Own.nil _ _ _ _, Hb2.out⟩
    | cons f fs =>
      obtain ⟨g, off, cap2, ro, rc, hv, hcell, hrow⟩ := hu.at (k := 0) (xs := f) rfl
      obtain ⟨L, hL⟩ : ∃ L, L = (f :: fs).length := ⟨_, rfl⟩
      rw [← hL] at hv hll
      subst hv
      have hL0 : 0 < L := by rw [hL]; simp
      have hLi : (0 : Int) < (L : Int) := by omega
      have h0' : ((L : Int) == 0) = false := by simp; omega
      have hrow2 := hrow.1.mono hws
      have Hrow := Lib.hid hrow2
      have hcell0 : w2.cell? ⟨g, off, none⟩ = some (.slice ro f.length rc) := by simpa using hcell
      generalize hfl : f.length = fl at hcell0
      have Hfl := Lib.hid hfl
      have HL := Lib.hid hL
      clear hu hcell hrow hrow2 hL hfl
      go_wp2
      go_quiet ((go_at_call 36; exact quiet_at0 (sizeFF_c (by omega))))
      go_wp2
      go_ret3
      rw [E1.out, E2.out, E3.out, HB.out, HNn.out, HAa.out, ← Hfl.out]
      exact ⟨_, by rw [HL.out]; rfl, Hrow.out, Hb2.out.drewNy _⟩
end Go.Proofs.YtahkkdkdaedioaaDoor
