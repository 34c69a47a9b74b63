/- The law 'the program's SameOperators returns what the reference's returns'. No condition. -/
import Derived.Test.YtfojfcmjoacbgaaStrO
import Derived.Test.YtfojfcmjoacbgaaLaw
namespace Go.Proofs.Ytfojfcmjoacbgaa
open Go.ChangeShapes Go.WideShapes Go.ChangeAt Go.RowKit
set_option linter.unusedVariables false
set_option maxRecDepth 100000
theorem walk1_FnExactSameOperators (w : World) {x0 : List OperatorT} {x1 : List OperatorT} {r0 : Bool} {v0 : Value} (a0 : RdOperatorS w.heap.size w v0 x0) {v1 : Value} (a1 : RdOperatorS w.heap.size w v1 x1) 
    (hS : ∀ (w : World), ∀ (B0 : Nat) (v0 : Value), B0 ≤ w.heap.size → RdOperatorS B0 w v0 x0 → ∀ (B1 : Nat) (v1 : Value), B1 ≤ w.heap.size → RdOperatorS B1 w v1 x1 → Calls Try.prog 14 #[v0, v1] w fun e w' => e = .returned (.bool r0) ∧ Below w.heap.size w w')
    (hI : ∀ (w : World), ∀ (B0 : Nat) (v0 : Value), B0 ≤ w.heap.size → RdOperatorS B0 w v0 x0 → ∀ (B1 : Nat) (v1 : Value), B1 ≤ w.heap.size → RdOperatorS B1 w v1 x1 → Calls Try.prog 16 #[v0, v1] w fun e w' => e = .returned (.bool r0) ∧ Below w.heap.size w w') (c0 : szOperatorS x0 ≤ 1048576) (c1 : szOperatorS x1 ≤ 1048576 - szOperatorS x0) :
    Calls Try.prog 3 #[v0, v1] w fun e w' => e = .returned (.bool true) ∧ Below w.heap.size w w' := by
  have hB0 : Below w.heap.size w w := Below.refl _ _
  have C0 := Lib.hid c0
  have C1 := Lib.hid c1
  have N0 := Lib.hid (szOperatorS_nonneg x0)
  have N1 := Lib.hid (szOperatorS_nonneg x1)
  clear c0
  clear c1
  go_enter Try.func3, Try.ntmps3
  go_wp2_with fail
  refine (szOperatorS_c a0 (by omega) C0.out).mono ?_
  rintro e w1 ⟨rfl, hb1⟩
  have hs1 : w.heap.size ≤ w1.heap.size := hb1.size
  have hB1 : Below w.heap.size w w1 := hB0.trans (hb1.mono hB0.size)
  replace a0 := a0.below hb1 (by omega)
  replace a1 := a1.below hb1 (by omega)
  have L0 := C0.out
  go_wp2_with fail
  refine (szOperatorS_c a1 (by have := N0.out; omega) C1.out).mono ?_
  rintro e w2 ⟨rfl, hb2⟩
  have hs2 : w1.heap.size ≤ w2.heap.size := hb2.size
  have hB2 : Below w.heap.size w w2 := hB1.trans (hb2.mono hB1.size)
  replace a0 := a0.below hb2 (by omega)
  replace a1 := a1.below hb2 (by omega)
  have L1 := C1.out
  go_wp2_with fail
  refine (toOperatorS_c a0 (by have := C0.out; have := N0.out; have := N1.out; omega)).mono ?_
  rintro e w3 ⟨vt2_0, rfl, t2_0, hb3⟩
  have hs3 : w2.heap.size ≤ w3.heap.size := hb3.size
  have hB3 : Below w.heap.size w w3 := hB2.trans (hb3.mono hB2.size)
  replace a0 := a0.below hb3 (by omega)
  replace a1 := a1.below hb3 (by omega)
  have rt2_0 := t2_0.rds
  clear t2_0
  go_wp2_with fail
  refine (toOperatorS_c a1 (by have := C1.out; have := N0.out; have := N1.out; omega)).mono ?_
  rintro e w4 ⟨vt3_1, rfl, t3_1, hb4⟩
  have hs4 : w3.heap.size ≤ w4.heap.size := hb4.size
  have hB4 : Below w.heap.size w w4 := hB3.trans (hb4.mono hB3.size)
  replace a0 := a0.below hb4 (by omega)
  replace a1 := a1.below hb4 (by omega)
  replace rt2_0 := rt2_0.below hb4 (by omega)
  have rt3_1 := t3_1.rds
  clear t3_1
  go_wp2_with fail
  refine (hS w4 _ _ (by omega) rt2_0 _ _ (by omega) rt3_1).mono ?_
  rintro e w5 ⟨rfl, hb5⟩
  have hs5 : w4.heap.size ≤ w5.heap.size := hb5.size
  have hB5 : Below w.heap.size w w5 := hB4.trans (hb5.mono hB4.size)
  replace a0 := a0.below hb5 (by omega)
  replace a1 := a1.below hb5 (by omega)
  replace rt2_0 := rt2_0.below hb5 (by omega)
  replace rt3_1 := rt3_1.below hb5 (by omega)
  go_wp2_with fail
  refine (toOperatorS_c a0 (by have := C0.out; have := N0.out; have := N1.out; omega)).mono ?_
  rintro e w6 ⟨Vx0, rfl, ox0, hb6⟩
  have hs6 : w5.heap.size ≤ w6.heap.size := hb6.size
  have hB6 : Below w.heap.size w w6 := hB5.trans (hb6.mono hB5.size)
  replace a0 := a0.below hb6 (by omega)
  replace a1 := a1.below hb6 (by omega)
  replace rt2_0 := rt2_0.below hb6 (by omega)
  replace rt3_1 := rt3_1.below hb6 (by omega)
  replace ox0 := ox0.top
  have rx0 := ox0.rds
  go_wp2_with fail
  refine (toOperatorS_c a1 (by have := C1.out; have := N0.out; have := N1.out; omega)).mono ?_
  rintro e w7 ⟨Vx1, rfl, ox1, hb7⟩
  have hs7 : w6.heap.size ≤ w7.heap.size := hb7.size
  have hB7 : Below w.heap.size w w7 := hB6.trans (hb7.mono hB6.size)
  replace a0 := a0.below hb7 (by omega)
  replace a1 := a1.below hb7 (by omega)
  replace rt2_0 := rt2_0.below hb7 (by omega)
  replace rt3_1 := rt3_1.below hb7 (by omega)
  replace rx0 := rx0.below hb7 (by omega)
  replace ox0 := ox0.below hb7 (by omega)
  replace ox1 := ox1.top
  have rx1 := ox1.rds
  go_wp2_with fail
  refine (hI w7 _ _ (by omega) rx0 _ _ (by omega) rx1).mono ?_
  rintro e w8 ⟨rfl, hb8⟩
  have hs8 : w7.heap.size ≤ w8.heap.size := hb8.size
  have hB8 : Below w.heap.size w w8 := hB7.trans (hb8.mono hB7.size)
  replace a0 := a0.below hb8 (by omega)
  replace a1 := a1.below hb8 (by omega)
  replace rt2_0 := rt2_0.below hb8 (by omega)
  replace rt3_1 := rt3_1.below hb8 (by omega)
  replace rx0 := rx0.below hb8 (by omega)
  replace ox0 := ox0.below hb8 (by omega)
  replace rx1 := rx1.below hb8 (by omega)
  replace ox1 := ox1.below hb8 (by omega)
  go_wp2_with fail
  refine (toOperatorS_c a0 (by have := C0.out; have := N0.out; have := N1.out; omega)).mono ?_
  rintro e w9 ⟨vt8_9, rfl, t8_9, hb9⟩
  have hs9 : w8.heap.size ≤ w9.heap.size := hb9.size
  have hB9 : Below w.heap.size w w9 := hB8.trans (hb9.mono hB8.size)
  replace a0 := a0.below hb9 (by omega)
  replace a1 := a1.below hb9 (by omega)
  replace rt2_0 := rt2_0.below hb9 (by omega)
  replace rt3_1 := rt3_1.below hb9 (by omega)
  replace rx0 := rx0.below hb9 (by omega)
  replace ox0 := ox0.below hb9 (by omega)
  replace rx1 := rx1.below hb9 (by omega)
  replace ox1 := ox1.below hb9 (by omega)
  have rt8_9 := t8_9.rds
  clear t8_9
  go_wp2_with fail
  refine (eqOperatorS_c rx0 rt8_9).mono ?_
  rintro e w10 ⟨rfl, hb10⟩
  have hs10 : w9.heap.size ≤ w10.heap.size := hb10.size
  have hB10 : Below w.heap.size w w10 := hB9.trans (hb10.mono hB9.size)
  replace a0 := a0.below hb10 (by omega)
  replace a1 := a1.below hb10 (by omega)
  replace rt2_0 := rt2_0.below hb10 (by omega)
  replace rt3_1 := rt3_1.below hb10 (by omega)
  replace rx0 := rx0.below hb10 (by omega)
  replace ox0 := ox0.below hb10 (by omega)
  replace rx1 := rx1.below hb10 (by omega)
  replace ox1 := ox1.below hb10 (by omega)
  replace rt8_9 := rt8_9.below hb10 (by omega)
  go_wp2_with fail
  refine (toOperatorS_c a1 (by have := C1.out; have := N0.out; have := N1.out; omega)).mono ?_
  rintro e w11 ⟨vt10_9, rfl, t10_9, hb11⟩
  have hs11 : w10.heap.size ≤ w11.heap.size := hb11.size
  have hB11 : Below w.heap.size w w11 := hB10.trans (hb11.mono hB10.size)
  replace a0 := a0.below hb11 (by omega)
  replace a1 := a1.below hb11 (by omega)
  replace rt2_0 := rt2_0.below hb11 (by omega)
  replace rt3_1 := rt3_1.below hb11 (by omega)
  replace rx0 := rx0.below hb11 (by omega)
  replace ox0 := ox0.below hb11 (by omega)
  replace rx1 := rx1.below hb11 (by omega)
  replace ox1 := ox1.below hb11 (by omega)
  replace rt8_9 := rt8_9.below hb11 (by omega)
  have rt10_9 := t10_9.rds
  clear t10_9
  go_wp2_with fail
  refine (eqOperatorS_c rx1 rt10_9).mono ?_
  rintro e w12 ⟨rfl, hb12⟩
  have hs12 : w11.heap.size ≤ w12.heap.size := hb12.size
  have hB12 : Below w.heap.size w w12 := hB11.trans (hb12.mono hB11.size)
  replace a0 := a0.below hb12 (by omega)
  replace a1 := a1.below hb12 (by omega)
  replace rt2_0 := rt2_0.below hb12 (by omega)
  replace rt3_1 := rt3_1.below hb12 (by omega)
  replace rx0 := rx0.below hb12 (by omega)
  replace ox0 := ox0.below hb12 (by omega)
  replace rx1 := rx1.below hb12 (by omega)
  replace ox1 := ox1.below hb12 (by omega)
  replace rt8_9 := rt8_9.below hb12 (by omega)
  replace rt10_9 := rt10_9.below hb12 (by omega)
  go_wp2
  go_ret
  exact ⟨rfl, hB12⟩
theorem walk0_FnExactSameOperators (w : World) {x0 : List OperatorT} {x1 : List OperatorT} {r0 : Bool} {v0 : Value} (a0 : RdOperatorS w.heap.size w v0 x0) {v1 : Value} (a1 : RdOperatorS w.heap.size w v1 x1) 
    (hS : (szOperatorS x0 ≤ 1048576) → (szOperatorS x1 ≤ 1048576 - szOperatorS x0) → ∀ (w : World), ∀ (B0 : Nat) (v0 : Value), B0 ≤ w.heap.size → RdOperatorS B0 w v0 x0 → ∀ (B1 : Nat) (v1 : Value), B1 ≤ w.heap.size → RdOperatorS B1 w v1 x1 → Calls Try.prog 14 #[v0, v1] w fun e w' => e = .returned (.bool r0) ∧ Below w.heap.size w w')
    (hI : (szOperatorS x0 ≤ 1048576) → (szOperatorS x1 ≤ 1048576 - szOperatorS x0) → ∀ (w : World), ∀ (B0 : Nat) (v0 : Value), B0 ≤ w.heap.size → RdOperatorS B0 w v0 x0 → ∀ (B1 : Nat) (v1 : Value), B1 ≤ w.heap.size → RdOperatorS B1 w v1 x1 → Calls Try.prog 16 #[v0, v1] w fun e w' => e = .returned (.bool r0) ∧ Below w.heap.size w w') :
    Calls Try.prog 3 #[v0, v1] w fun e w' => e = .returned (.bool true) ∧ Below w.heap.size w w' := by
  by_cases c0 : szOperatorS x0 ≤ 1048576
  · have _t := True.intro
    by_cases c1 : szOperatorS x1 ≤ 1048576 - szOperatorS x0
    · have _t := True.intro
      exact walk1_FnExactSameOperators w a0 a1 (hS c0 c1) (hI c0 c1) c0 c1
    · clear hS hI
      have C0 := Lib.hid c0
      clear c0
      have C1 := Lib.hid c1
      clear c1
      go_enter Try.func3, Try.ntmps3
      go_wp2_with fail
      refine (szOperatorS_c a0 (by omega) (by have := C0.out; omega)).mono ?_
      rintro e w' ⟨rfl, hb0⟩
      replace a1 := a1.below hb0 (by first | omega | exact Nat.le_refl _)
      have L0 := C0.out
      go_wp2_with fail
      refine (szOperatorS_no a1 (by have := szOperatorS_nonneg x0; omega) (by have := C1.out; omega)).mono ?_
      rintro e w' ⟨rfl, hb1⟩
      go_wp2
      go_ret
      exact ⟨rfl, (hb0).trans (hb1.mono (hb0).size)⟩
  · clear hS hI
    have C0 := Lib.hid c0
    clear c0
    go_enter Try.func3, Try.ntmps3
    go_wp2_with fail
    refine (szOperatorS_no a0 (by omega) (by have := C0.out; omega)).mono ?_
    rintro e w' ⟨rfl, hb0⟩
    go_wp2
    go_ret
    exact ⟨rfl, hb0⟩
theorem walk_FnExactSameOperators (w : World) {x0 : List OperatorT} {v0 : Value} (a0 : RdOperatorS w.heap.size w v0 x0) {x1 : List OperatorT} {v1 : Value} (a1 : RdOperatorS w.heap.size w v1 x1) :
    Calls Try.prog 3 #[v0, v1] w fun e w' => e = .returned (.bool true) ∧ Below w.heap.size w w' :=
  walk0_FnExactSameOperators (r0 := decide (x0 = x1)) w a0 a1 (fun _ _ w A v _ ha B u _ hc => sSameOperators_c ha hc) (fun _ _ w A v _ ha B u _ hc => SameOperators_c ha hc)
namespace fnExactSameOperators
theorem own : ownKnob Try.prog.godebug = none := by kernel_rfl
set_option maxRecDepth 100000 in
theorem lifted (os : Os) (started : os.Started) (H : Type) (enc : TypeId × Value → H) :
    ReturnsInHanded {} Try.checked os 3 .any (Rows.fnExactSameOperatorsSpec.pre6 enc Try.prog Try.f3 Rows.fnExactSameOperatorsRow.domain false) (Rows.fnExactSameOperatorsSpec.post enc Try.prog Try.f3 false true false false) := by
  refine returnsInHanded_of_change_sized (C := Try.checked) own started (by kernel_rfl) Try.func3
    (ChangeSpec.witness6 (enc := enc) (C := Try.checked) false ⟨#[], #[.slice none 0 0, .slice none 0 0], []⟩ 8 (by kernel_rfl) (by kernel_rfl) (by kernel_rfl) (by kernel_rfl)) ?_
  intro W base args ds gs before hval0 hW hcnd hsz _
  have hval : ∀ (j : Nat) t v, Try.f3.params[j]? = some t → args[j]? = some v → Value.okWide Try.prog W .any base t v := hval0
  have hW' := hW
  obtain ⟨p, q, hA0, hV, rfl, hfz, hnd⟩ := hW
  have hA : DataW.TrodAll enc Try.prog W 0 (fun _ => true) true Try.f3.params.toList args.toList ds p := hA0
  rw [Try.params3] at hA hval
  obtain ⟨v0, vs0, d0, ds0, p0, s0, hargs, rfl, rfl, h0, q0⟩ := trodAll_cons hA
  obtain ⟨v1, vs1, d1, ds1, p1, s1, rfl, rfl, rfl, h1, q1⟩ := trodAll_cons q0
  obtain ⟨rfl, rfl, rfl⟩ := trodAll_nil q1
  obtain rfl : args = #[v0, v1] := by cases args; simp_all
  obtain ⟨x0, r0⟩ := openOperatorS (hval 0 22 v0 rfl rfl) h0
  obtain ⟨x1, r1⟩ := openOperatorS (hval 1 22 v1 rfl rfl) h1
  exact (walk_FnExactSameOperators W r0 r1).mono fun e W' hh => ⟨_, hh.1, law_post (f := Try.f3) (s := Rows.fnExactSameOperatorsSpec) (T := 4) (by kernel_rfl) (of_decide_eq_true (by kernel_rfl)) rfl rfl Try.underlying4 rfl hW' hh.2⟩
theorem proved : Rows.FnExactSameOperatorsSaid :=
  OpenClaim.holds_of_wide 3 Try.f3 rfl rfl rfl rfl rfl rfl rfl ⟨rfl, rfl, rfl, rfl, rfl⟩ rfl rfl rfl rfl rfl (by kernel_rfl) Try.func3 (by kernel_rfl)
    (of_decide_eq_true (by kernel_rfl)) (by unfold Func.isWrapper; first | (rw [if_pos (by decide +kernel)]; kernel_rfl) | (rw [if_neg (by decide +kernel)]; exact ⟨rfl, rfl⟩))
    (fun os started H enc _ => lifted os started H enc)
end fnExactSameOperators
#print axioms fnExactSameOperators.proved
end Go.Proofs.Ytfojfcmjoacbgaa
