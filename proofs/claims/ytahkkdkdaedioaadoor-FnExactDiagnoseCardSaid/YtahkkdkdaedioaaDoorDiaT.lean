/- The fewest faults and a diagnosis: what the reference's functions return. No condition. -/
import Derived.Test.YtahkkdkdaedioaaDoorExpS
namespace Go.Proofs.YtahkkdkdaedioaaDoor
open Go.ChangeShapes Go.WideShapes Go.ChangeAt Go.RowKit Go.Sort
set_option linter.unusedVariables false
set_option maxRecDepth 100000
set_option maxHeartbeats 1000000 in
theorem sFewestFaults_c {xs : List Int} {r : ReportT} {v : Value} {w : World} {A : Nat} (ha : RdI A w v xs) (hr : okReport r) :
    Calls Tryd.prog 17 #[v, vReport r] w fun e w' => e = .returned (.tuple #[.int .i64 (ffA xs r), .int .i64 (ffC xs r)]) ∧ Below w.heap.size w w' := by
  have hb0 : Below w.heap.size w (w.alloc (.cells #[.int .i64 r.count, .int .i64 r.sum, .int .i64 r.digits] 29)) := (Below.refl _ _).alloc (Nat.le_refl _) _
  have ha0 := Rds.onn ha hb0
  obtain ⟨ao, cap, rfl⟩ := ha.shape
  have Ha0 := Lib.hid ha0
  have Hb0 := Lib.hid hb0
  have Hr := Lib.hid hr
  clear ha ha0 hb0 hr
  cases hx : amtOk xs with
  | false =>
    have e1 : ffA xs r = 0 := by unfold ffA; rw [hx]; rfl
    have e2 : ffC xs r = 1 := by unfold ffC; rw [hx]; rfl
    rw [e1, e2]
    have Hx := Lib.hid hx
    clear hx e1 e2
    go_enter Tryd.func17, Tryd.ntmps17
    go_wp2_with fail
    with_reducible refine (l19Ok_c Ha0.out).mono ?_
    rw [Hx.out]
    rintro e w' ⟨rfl, rfl⟩
    go_wp2
    go_ret2
    exact ⟨rfl, Hb0.out⟩
  | true =>
    have E1 := Lib.hid (show ffA xs r = if fewB xs r = true then (fewF xs r).2 else 0 by unfold ffA; rw [if_pos hx])
    have E2 := Lib.hid (show ffC xs r = if fewB xs r = true then 0 else 3 by unfold ffC; rw [if_pos hx])
    have Hx := Lib.hid hx
    clear hx
    go_enter Tryd.func17, Tryd.ntmps17
    go_wp2_with fail
    with_reducible refine (l19Ok_c Ha0.out).mono ?_
    rw [Hx.out]
    rintro e w' ⟨rfl, rfl⟩
    go_wp2_with fail
    with_reducible refine (l19Explain_c Ha0.out Hx.out Hr.out).mono ?_
    rintro e w2 ⟨u, rfl, hu, hb2⟩
    have hcnt := few_count (xs := xs) (r := r)
    have hal := fewA_len xs r
    have Hb2 := Lib.hid (Hb0.out.trans (hb2.mono Hb0.out.size))
    obtain ⟨uo, uc, hue⟩ := hu.shape
    generalize hB : fewB xs r = b at hcnt
    generalize fewA xs r = X at hu hue hcnt hal
    obtain ⟨L, hL⟩ : ∃ L, L = X.length := ⟨_, rfl⟩
    rw [← hL] at hue hal hcnt
    subst hue
    have HB := Lib.hid hB
    have Hcnt := Lib.hid hcnt
    clear hu hb2 hL hB hcnt
    cases b with
    | false =>
      go_wp2
      go_ret2
      rw [E1.out, E2.out, HB.out]
      exact ⟨rfl, Hb2.out⟩
    | true =>
      go_wp2
      go_ret2
      rw [E1.out, E2.out, HB.out]
      refine ⟨?_, Hb2.out⟩
      rw [if_pos rfl, if_pos rfl, ← Hcnt.out (by first | rfl | trivial)]
      rfl
set_option maxHeartbeats 1000000 in
theorem sDiagnose_c {xs : List Int} {r : ReportT} {v : Value} {w : World} {A : Nat} (ha : RdI A w v xs) (hr : okReport r) :
    Calls Tryd.prog 26 #[v, vReport r] w fun e w' => ∃ u0, e = .returned (.tuple #[u0, .int .i64 (dgN xs r), .int .i64 (ffC xs r)]) ∧ OwnFaultS w.heap.size w' u0 (dgA xs r) ∧ Below w.heap.size w w' := by
  have hb0 : Below w.heap.size w (w.alloc (.cells #[.int .i64 r.count, .int .i64 r.sum, .int .i64 r.digits] 29)) := (Below.refl _ _).alloc (Nat.le_refl _) _
  have ha0 := Rds.onn ha hb0
  obtain ⟨ao, cap, rfl⟩ := ha.shape
  have Ha0 := Lib.hid ha0
  have Hb0 := Lib.hid hb0
  have Hr := Lib.hid hr
  clear ha ha0 hb0 hr
  cases hx : amtOk xs with
  | false =>
    have e1 : dgA xs r = [] := by unfold dgA; rw [hx]; rfl
    have e2 : ffC xs r = 1 := by unfold ffC; rw [hx]; rfl
    have e3 : dgN xs r = 0 := by unfold dgN; rw [hx]; rfl
    rw [e1, e2, e3]
    have Hx := Lib.hid hx
    clear hx e1 e2 e3
    go_enter Tryd.func26, Tryd.ntmps26
    go_wp2_with fail
    with_reducible refine (l19Ok_c Ha0.out).mono ?_
    rw [Hx.out]
    rintro e w' ⟨rfl, rfl⟩
    go_wp2
    go_ret3
    exact ⟨_, rfl, Own.nil _ _ _ _, Hb0.out⟩
  | true =>
    have E1 := Lib.hid (show dgA xs r = if fewB xs r = true then fewA xs r else [] by unfold dgA; rw [if_pos hx])
    have E2 := Lib.hid (show ffC xs r = if fewB xs r = true then 0 else 3 by unfold ffC; rw [if_pos hx])
    have E3 := Lib.hid (show dgN xs r = if fewB xs r = true then fewN xs r else 0 by unfold dgN; rw [if_pos hx])
    have Hx := Lib.hid hx
    clear hx
    go_enter Tryd.func26, Tryd.ntmps26
    go_wp2_with fail
    with_reducible refine (l19Ok_c Ha0.out).mono ?_
    rw [Hx.out]
    rintro e w' ⟨rfl, rfl⟩
    go_wp2_with fail
    with_reducible refine (l19Explain_c Ha0.out Hx.out Hr.out).mono ?_
    rintro e w2 ⟨u, rfl, hu, hb2⟩
    have Hu := Lib.hid (hu.mono Hb0.out.size)
    have Hb2 := Lib.hid (Hb0.out.trans (hb2.mono Hb0.out.size))
    obtain ⟨uo, uc, hue⟩ := hu.shape
    generalize hB : fewB xs r = b
    obtain ⟨L, hL⟩ : ∃ L, L = (fewA xs r).length := ⟨_, rfl⟩
    rw [← hL] at hue
    subst hue
    have HB := Lib.hid hB
    clear hu hb2 hL hB
    cases b with
    | false =>
      go_wp2
      go_ret3
      rw [E1.out, E2.out, E3.out, HB.out]
      exact ⟨_, rfl, Own.nil _ _ _ _, Hb2.out⟩
    | true =>
      go_wp2
      go_ret3
      rw [E1.out, E2.out, E3.out, HB.out]
      exact ⟨_, rfl, Hu.out, Hb2.out⟩
end Go.Proofs.YtahkkdkdaedioaaDoor
