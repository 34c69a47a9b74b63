/- The law 'the program's TrainOne returns what the reference's returns'. No condition. -/
import Derived.Test.YtfojfcmjoacbgaaTrainI
import Derived.Test.YtfojfcmjoacbgaaLaw
import Derived.Test.YtfojfcmjoacbgaaMarkO
namespace Go.Proofs.Ytfojfcmjoacbgaa
open Go.ChangeShapes Go.WideShapes Go.ChangeAt Go.RowKit
set_option linter.unusedVariables false
set_option maxRecDepth 100000
set_option maxHeartbeats 1000000 in
theorem walk1_FnExactTrainOne (w : World) {x0 : List OperatorT} {x1 : List Int} {r0 : Int} {r1 : Int} {r2 : Int} {v0 : Value} (a0 : RdOperatorS w.heap.size w v0 x0) {v1 : Value} (a1 : RdInt64S w.heap.size w v1 x1) 
    (hS : ∀ (w : World), ∀ (B0 : Nat) (v0 : Value), B0 ≤ w.heap.size → RdOperatorS B0 w v0 x0 → ∀ (B1 : Nat) (v1 : Value), B1 ≤ w.heap.size → RdInt64S B1 w v1 x1 → Calls Try.prog 36 #[v0, v1] w fun e w' => e = .returned (.tuple #[.int .i64 r0, .int .i64 r1, .int .i64 r2]) ∧ Below w.heap.size w w')
    (hI : ∀ (w : World), ∀ (B0 : Nat) (v0 : Value), B0 ≤ w.heap.size → RdOperatorS B0 w v0 x0 → ∀ (B1 : Nat) (v1 : Value), B1 ≤ w.heap.size → RdInt64S B1 w v1 x1 → Calls Try.prog 37 #[v0, v1] w fun e w' => e = .returned (.tuple #[.int .i64 r0, .int .i64 r1, .int .i64 r2]) ∧ Below w.heap.size w w') (c0 : x1.length ≤ 1048576) (c1 : szOperatorS x0 ≤ 1048576) :
    Calls Try.prog 10 #[v0, v1] w fun e w' => e = .returned (.bool true) ∧ Below w.heap.size w w' := by
  have hB0 : Below w.heap.size w w := Below.refl _ _
  obtain ⟨ao1, cap1, rfl⟩ := a1.shape
  have C0 := Lib.hid c0
  have C1 := Lib.hid c1
  have N1 := Lib.hid (szOperatorS_nonneg x0)
  clear c1
  go_enter Try.func10, Try.ntmps10
  go_wp2_with fail
  refine (szOperatorS_c a0 (by omega) C1.out).mono ?_
  rintro e w1 ⟨rfl, hb1⟩
  have hs1 : w.heap.size ≤ w1.heap.size := hb1.size
  have hB1 : Below w.heap.size w w1 := hB0.trans (hb1.mono hB0.size)
  replace a0 := a0.below hb1 (by omega)
  replace a1 := a1.below hb1 (by omega)
  have L1 := C1.out
  go_wp2_with fail
  refine (toOperatorS_c a0 (by have := C1.out; have := N1.out; omega)).mono ?_
  rintro e w2 ⟨vt1_0, rfl, t1_0, hb2⟩
  have hs2 : w1.heap.size ≤ w2.heap.size := hb2.size
  have hB2 : Below w.heap.size w w2 := hB1.trans (hb2.mono hB1.size)
  replace a0 := a0.below hb2 (by omega)
  replace a1 := a1.below hb2 (by omega)
  have rt1_0 := t1_0.rds
  clear t1_0
  go_wp2_with fail
  refine (toInt64S_c a1 (by have := C0.out; show (x1.length : Int) ≤ 1048576; omega)).mono ?_
  rintro e w3 ⟨vt2_1, rfl, t2_1, hb3⟩
  have hs3 : w2.heap.size ≤ w3.heap.size := hb3.size
  have hB3 : Below w.heap.size w w3 := hB2.trans (hb3.mono hB2.size)
  replace a0 := a0.below hb3 (by omega)
  replace a1 := a1.below hb3 (by omega)
  replace rt1_0 := rt1_0.below hb3 (by omega)
  have rt2_1 := t2_1.rds
  clear t2_1
  go_wp2_with fail
  refine (hS w3 _ _ (by omega) rt1_0 _ _ (by omega) rt2_1).mono ?_
  rintro e w4 ⟨rfl, hb4⟩
  have hs4 : w3.heap.size ≤ w4.heap.size := hb4.size
  have hB4 : Below w.heap.size w w4 := hB3.trans (hb4.mono hB3.size)
  replace a0 := a0.below hb4 (by omega)
  replace a1 := a1.below hb4 (by omega)
  replace rt1_0 := rt1_0.below hb4 (by omega)
  replace rt2_1 := rt2_1.below hb4 (by omega)
  go_wp2_with fail
  refine (toOperatorS_c a0 (by have := C1.out; have := N1.out; omega)).mono ?_
  rintro e w5 ⟨Vx0, rfl, ox0, hb5⟩
  have hs5 : w4.heap.size ≤ w5.heap.size := hb5.size
  have hB5 : Below w.heap.size w w5 := hB4.trans (hb5.mono hB4.size)
  replace a0 := a0.below hb5 (by omega)
  replace a1 := a1.below hb5 (by omega)
  replace rt1_0 := rt1_0.below hb5 (by omega)
  replace rt2_1 := rt2_1.below hb5 (by omega)
  replace ox0 := ox0.top
  have rx0 := ox0.rds
  go_wp2_with fail
  refine (toInt64S_c a1 (by have := C0.out; show (x1.length : Int) ≤ 1048576; omega)).mono ?_
  rintro e w6 ⟨Vx1, rfl, ox1, hb6⟩
  have hs6 : w5.heap.size ≤ w6.heap.size := hb6.size
  have hB6 : Below w.heap.size w w6 := hB5.trans (hb6.mono hB5.size)
  replace a0 := a0.below hb6 (by omega)
  replace a1 := a1.below hb6 (by omega)
  replace rt1_0 := rt1_0.below hb6 (by omega)
  replace rt2_1 := rt2_1.below hb6 (by omega)
  replace rx0 := rx0.below hb6 (by omega)
  replace ox0 := ox0.below hb6 (by omega)
  replace ox1 := ox1.top
  have rx1 := ox1.rds
  go_wp2_with fail
  refine (hI w6 _ _ (by omega) rx0 _ _ (by omega) rx1).mono ?_
  rintro e w7 ⟨rfl, hb7⟩
  have hs7 : w6.heap.size ≤ w7.heap.size := hb7.size
  have hB7 : Below w.heap.size w w7 := hB6.trans (hb7.mono hB6.size)
  replace a0 := a0.below hb7 (by omega)
  replace a1 := a1.below hb7 (by omega)
  replace rt1_0 := rt1_0.below hb7 (by omega)
  replace rt2_1 := rt2_1.below hb7 (by omega)
  replace rx0 := rx0.below hb7 (by omega)
  replace ox0 := ox0.below hb7 (by omega)
  replace rx1 := rx1.below hb7 (by omega)
  replace ox1 := ox1.below hb7 (by omega)
  go_wp2_with fail
  refine (toOperatorS_c a0 (by have := C1.out; have := N1.out; omega)).mono ?_
  rintro e w8 ⟨vt7_9, rfl, t7_9, hb8⟩
  have hs8 : w7.heap.size ≤ w8.heap.size := hb8.size
  have hB8 : Below w.heap.size w w8 := hB7.trans (hb8.mono hB7.size)
  replace a0 := a0.below hb8 (by omega)
  replace a1 := a1.below hb8 (by omega)
  replace rt1_0 := rt1_0.below hb8 (by omega)
  replace rt2_1 := rt2_1.below hb8 (by omega)
  replace rx0 := rx0.below hb8 (by omega)
  replace ox0 := ox0.below hb8 (by omega)
  replace rx1 := rx1.below hb8 (by omega)
  replace ox1 := ox1.below hb8 (by omega)
  have rt7_9 := t7_9.rds
  clear t7_9
  go_wp2_with fail
  refine (eqOperatorS_c rx0 rt7_9).mono ?_
  rintro e w9 ⟨rfl, hb9⟩
  have hs9 : w8.heap.size ≤ w9.heap.size := hb9.size
  have hB9 : Below w.heap.size w w9 := hB8.trans (hb9.mono hB8.size)
  replace a0 := a0.below hb9 (by omega)
  replace a1 := a1.below hb9 (by omega)
  replace rt1_0 := rt1_0.below hb9 (by omega)
  replace rt2_1 := rt2_1.below hb9 (by omega)
  replace rx0 := rx0.below hb9 (by omega)
  replace ox0 := ox0.below hb9 (by omega)
  replace rx1 := rx1.below hb9 (by omega)
  replace ox1 := ox1.below hb9 (by omega)
  replace rt7_9 := rt7_9.below hb9 (by omega)
  go_wp2_with fail
  refine (toInt64S_c a1 (by have := C0.out; show (x1.length : Int) ≤ 1048576; omega)).mono ?_
  rintro e w10 ⟨vt9_9, rfl, t9_9, hb10⟩
  have hs10 : w9.heap.size ≤ w10.heap.size := hb10.size
  have hB10 : Below w.heap.size w w10 := hB9.trans (hb10.mono hB9.size)
  replace a0 := a0.below hb10 (by omega)
  replace a1 := a1.below hb10 (by omega)
  replace rt1_0 := rt1_0.below hb10 (by omega)
  replace rt2_1 := rt2_1.below hb10 (by omega)
  replace rx0 := rx0.below hb10 (by omega)
  replace ox0 := ox0.below hb10 (by omega)
  replace rx1 := rx1.below hb10 (by omega)
  replace ox1 := ox1.below hb10 (by omega)
  replace rt7_9 := rt7_9.below hb10 (by omega)
  have rt9_9 := t9_9.rds
  clear t9_9
  go_wp2_with fail
  refine (eqInt64S_c rx1 rt9_9).mono ?_
  rintro e w11 ⟨rfl, hb11⟩
  have hs11 : w10.heap.size ≤ w11.heap.size := hb11.size
  have hB11 : Below w.heap.size w w11 := hB10.trans (hb11.mono hB10.size)
  replace a0 := a0.below hb11 (by omega)
  replace a1 := a1.below hb11 (by omega)
  replace rt1_0 := rt1_0.below hb11 (by omega)
  replace rt2_1 := rt2_1.below hb11 (by omega)
  replace rx0 := rx0.below hb11 (by omega)
  replace ox0 := ox0.below hb11 (by omega)
  replace rx1 := rx1.below hb11 (by omega)
  replace ox1 := ox1.below hb11 (by omega)
  replace rt7_9 := rt7_9.below hb11 (by omega)
  replace rt9_9 := rt9_9.below hb11 (by omega)
  go_wp2
  go_ret
  exact ⟨rfl, hB11⟩
theorem walk0_FnExactTrainOne (w : World) {x0 : List OperatorT} {x1 : List Int} {r0 : Int} {r1 : Int} {r2 : Int} {v0 : Value} (a0 : RdOperatorS w.heap.size w v0 x0) {v1 : Value} (a1 : RdInt64S w.heap.size w v1 x1) 
    (hS : (x1.length ≤ 1048576) → (szOperatorS x0 ≤ 1048576) → ∀ (w : World), ∀ (B0 : Nat) (v0 : Value), B0 ≤ w.heap.size → RdOperatorS B0 w v0 x0 → ∀ (B1 : Nat) (v1 : Value), B1 ≤ w.heap.size → RdInt64S B1 w v1 x1 → Calls Try.prog 36 #[v0, v1] w fun e w' => e = .returned (.tuple #[.int .i64 r0, .int .i64 r1, .int .i64 r2]) ∧ Below w.heap.size w w')
    (hI : (x1.length ≤ 1048576) → (szOperatorS x0 ≤ 1048576) → ∀ (w : World), ∀ (B0 : Nat) (v0 : Value), B0 ≤ w.heap.size → RdOperatorS B0 w v0 x0 → ∀ (B1 : Nat) (v1 : Value), B1 ≤ w.heap.size → RdInt64S B1 w v1 x1 → Calls Try.prog 37 #[v0, v1] w fun e w' => e = .returned (.tuple #[.int .i64 r0, .int .i64 r1, .int .i64 r2]) ∧ Below w.heap.size w w') :
    Calls Try.prog 10 #[v0, v1] w fun e w' => e = .returned (.bool true) ∧ Below w.heap.size w w' := by
  by_cases c0 : x1.length ≤ 1048576
  · have _t := True.intro
    by_cases c1 : szOperatorS x0 ≤ 1048576
    · have _t := True.intro
      exact walk1_FnExactTrainOne w a0 a1 (hS c0 c1) (hI c0 c1) c0 c1
    · clear hS hI
      obtain ⟨ao1, cap1, rfl⟩ := a1.shape
      have C1 := Lib.hid c1
      clear c1
      go_enter Try.func10, Try.ntmps10
      go_wp2_with fail
      refine (szOperatorS_no a0 (by omega) (by have := C1.out; omega)).mono ?_
      rintro e w' ⟨rfl, hb1⟩
      go_wp2
      go_ret
      exact ⟨rfl, hb1⟩
  · clear hS hI
    obtain ⟨ao1, cap1, rfl⟩ := a1.shape
    go_enter Try.func10, Try.ntmps10
    go_wp2
    go_ret
    exact ⟨rfl, Below.refl _ _⟩
theorem walk_FnExactTrainOne (w : World) {x0 : List OperatorT} {v0 : Value} (a0 : RdOperatorS w.heap.size w v0 x0) {x1 : List Int} {v1 : Value} (a1 : RdInt64S w.heap.size w v1 x1) :
    Calls Try.prog 10 #[v0, v1] w fun e w' => e = .returned (.bool true) ∧ Below w.heap.size w w' :=
  walk0_FnExactTrainOne (r0 := TRK x0 x1) (r1 := TRM x0 x1) (r2 := TRC x0 x1) w a0 a1 (fun _ _ w A v h1 ha B u h2 hb => sTrainOne_c h1 h2 ha hb) (fun _ _ w A v h1 ha B u h2 hb => TrainOne_c h1 h2 ha hb)
namespace fnExactTrainOne
theorem own : ownKnob Try.prog.godebug = none := by kernel_rfl
set_option maxRecDepth 100000 in
theorem lifted (os : Os) (started : os.Started) (H : Type) (enc : TypeId × Value → H) :
    ReturnsInHanded {} Try.checked os 10 .any (Rows.fnExactTrainOneSpec.pre6 enc Try.prog Try.f10 Rows.fnExactTrainOneRow.domain false) (Rows.fnExactTrainOneSpec.post enc Try.prog Try.f10 false true false false) := by
  refine returnsInHanded_of_change_sized (C := Try.checked) own started (by kernel_rfl) Try.func10
    (ChangeSpec.witness6 (enc := enc) (C := Try.checked) false ⟨#[], #[.slice none 0 0, .slice none 0 0], []⟩ 8 (by kernel_rfl) (by kernel_rfl) (by kernel_rfl) (by kernel_rfl)) ?_
  intro W base args ds gs before hval0 hW hcnd hsz _
  have hval : ∀ (j : Nat) t v, Try.f10.params[j]? = some t → args[j]? = some v → Value.okWide Try.prog W .any base t v := hval0
  have hW' := hW
  obtain ⟨p, q, hA0, hV, rfl, hfz, hnd⟩ := hW
  have hA : DataW.TrodAll enc Try.prog W 0 (fun _ => true) true Try.f10.params.toList args.toList ds p := hA0
  rw [Try.params10] at hA hval
  obtain ⟨v0, vs0, d0, ds0, p0, s0, hargs, rfl, rfl, h0, q0⟩ := trodAll_cons hA
  obtain ⟨v1, vs1, d1, ds1, p1, s1, rfl, rfl, rfl, h1, q1⟩ := trodAll_cons q0
  obtain ⟨rfl, rfl, rfl⟩ := trodAll_nil q1
  obtain rfl : args = #[v0, v1] := by cases args; simp_all
  obtain ⟨x0, r0⟩ := openOperatorS (hval 0 22 v0 rfl rfl) h0
  obtain ⟨x1, r1, _⟩ := open_rdI Try.underlying34 Try.underlying2 (by kernel_rfl) (hval 1 34 v1 rfl rfl) h1
  exact (walk_FnExactTrainOne W r0 r1).mono fun e W' hh => ⟨_, hh.1, law_post (f := Try.f10) (s := Rows.fnExactTrainOneSpec) (T := 4) (by kernel_rfl) (of_decide_eq_true (by kernel_rfl)) rfl rfl Try.underlying4 rfl hW' hh.2⟩
theorem proved : Rows.FnExactTrainOneSaid :=
  OpenClaim.holds_of_wide 10 Try.f10 rfl rfl rfl rfl rfl rfl rfl ⟨rfl, rfl, rfl, rfl, rfl⟩ rfl rfl rfl rfl rfl (by kernel_rfl) Try.func10 (by kernel_rfl)
    (of_decide_eq_true (by kernel_rfl)) (by unfold Func.isWrapper; first | (rw [if_pos (by decide +kernel)]; kernel_rfl) | (rw [if_neg (by decide +kernel)]; exact ⟨rfl, rfl⟩))
    (fun os started H enc _ => lifted os started H enc)
end fnExactTrainOne
#print axioms fnExactTrainOne.proved
end Go.Proofs.Ytfojfcmjoacbgaa
