/- The law 'the program's TotalWithFailure returns what the reference's returns'. No condition. -/
import Derived.Test.YtljjilgpmckccaaRestS
import Derived.Test.YtljjilgpmckccaaLaw
namespace Go.Proofs.Ytljjilgpmckccaa
open Go.ChangeShapes Go.WideShapes Go.ChangeAt Go.RowKit
set_option linter.unusedVariables false
theorem walk1_FnExactTotalWithFailure (w : World) {x0 : List Int} {x1 : List Int} {x2 : Int} {x3 : Int} {r0 : Int} {r1 : Int} {v0 : Value} (a0 : RdInt64S w.heap.size w v0 x0) {v1 : Value} (a1 : RdInt64S w.heap.size w v1 x1) (a2 : okInt64 x2) (a3 : okInt64 x3) 
    (hS : ∀ (w : World), ∀ (B0 : Nat) (v0 : Value), B0 ≤ w.heap.size → RdInt64S B0 w v0 x0 → ∀ (B1 : Nat) (v1 : Value), B1 ≤ w.heap.size → RdInt64S B1 w v1 x1 → Calls Try.prog 17 #[v0, v1, .int .i64 x2, .int .i64 x3] w fun e w' => e = .returned (.tuple #[.int .i64 r0, .int .i64 r1]) ∧ Below w.heap.size w w')
    (hI : ∀ (w : World), ∀ (B0 : Nat) (v0 : Value), B0 ≤ w.heap.size → RdInt64S B0 w v0 x0 → ∀ (B1 : Nat) (v1 : Value), B1 ≤ w.heap.size → RdInt64S B1 w v1 x1 → Calls Try.prog 18 #[v0, v1, .int .i64 x2, .int .i64 x3] w fun e w' => e = .returned (.tuple #[.int .i64 r0, .int .i64 r1]) ∧ Below w.heap.size w w') (c0 : x0.length ≤ 1048576) (c1 : x1.length ≤ 1048576) :
    Calls Try.prog 4 #[v0, v1, .int .i64 x2, .int .i64 x3] w fun e w' => e = .returned (.bool true) ∧ Below w.heap.size w w' := by
  have hB0 : Below w.heap.size w w := Below.refl _ _
  obtain ⟨ao0, cap0, rfl⟩ := a0.shape
  obtain ⟨ao1, cap1, rfl⟩ := a1.shape
  have C0 := Lib.hid c0
  have C1 := Lib.hid c1
  go_enter Try.func4, Try.ntmps4
  go_wp2_with fail
  refine (toInt64S_c a0 (by have := C0.out; show (x0.length : Int) ≤ 1048576; omega)).mono ?_
  rintro e w1 ⟨vt0_0, rfl, t0_0, hb1⟩
  have hs1 : w.heap.size ≤ w1.heap.size := hb1.size
  have hB1 : Below w.heap.size w w1 := hB0.trans (hb1.mono hB0.size)
  replace a0 := a0.below hb1 (by omega)
  replace a1 := a1.below hb1 (by omega)
  have rt0_0 := t0_0.rds
  clear t0_0
  go_wp2_with fail
  refine (toInt64S_c a1 (by have := C1.out; show (x1.length : Int) ≤ 1048576; omega)).mono ?_
  rintro e w2 ⟨vt1_1, rfl, t1_1, hb2⟩
  have hs2 : w1.heap.size ≤ w2.heap.size := hb2.size
  have hB2 : Below w.heap.size w w2 := hB1.trans (hb2.mono hB1.size)
  replace a0 := a0.below hb2 (by omega)
  replace a1 := a1.below hb2 (by omega)
  replace rt0_0 := rt0_0.below hb2 (by omega)
  have rt1_1 := t1_1.rds
  clear t1_1
  go_wp2_with fail
  refine (hS w2 _ _ (by omega) rt0_0 _ _ (by omega) rt1_1).mono ?_
  rintro e w3 ⟨rfl, hb3⟩
  have hs3 : w2.heap.size ≤ w3.heap.size := hb3.size
  have hB3 : Below w.heap.size w w3 := hB2.trans (hb3.mono hB2.size)
  replace a0 := a0.below hb3 (by omega)
  replace a1 := a1.below hb3 (by omega)
  replace rt0_0 := rt0_0.below hb3 (by omega)
  replace rt1_1 := rt1_1.below hb3 (by omega)
  go_wp2_with fail
  refine (toInt64S_c a0 (by have := C0.out; show (x0.length : Int) ≤ 1048576; omega)).mono ?_
  rintro e w4 ⟨Vx0, rfl, ox0, hb4⟩
  have hs4 : w3.heap.size ≤ w4.heap.size := hb4.size
  have hB4 : Below w.heap.size w w4 := hB3.trans (hb4.mono hB3.size)
  replace a0 := a0.below hb4 (by omega)
  replace a1 := a1.below hb4 (by omega)
  replace rt0_0 := rt0_0.below hb4 (by omega)
  replace rt1_1 := rt1_1.below hb4 (by omega)
  replace ox0 := ox0.top
  have rx0 := ox0.rds
  go_wp2_with fail
  refine (toInt64S_c a1 (by have := C1.out; show (x1.length : Int) ≤ 1048576; omega)).mono ?_
  rintro e w5 ⟨Vx1, rfl, ox1, hb5⟩
  have hs5 : w4.heap.size ≤ w5.heap.size := hb5.size
  have hB5 : Below w.heap.size w w5 := hB4.trans (hb5.mono hB4.size)
  replace a0 := a0.below hb5 (by omega)
  replace a1 := a1.below hb5 (by omega)
  replace rt0_0 := rt0_0.below hb5 (by omega)
  replace rt1_1 := rt1_1.below hb5 (by omega)
  replace rx0 := rx0.below hb5 (by omega)
  replace ox0 := ox0.below hb5 (by omega)
  replace ox1 := ox1.top
  have rx1 := ox1.rds
  go_wp2_with fail
  refine (hI w5 _ _ (by omega) rx0 _ _ (by omega) rx1).mono ?_
  rintro e w6 ⟨rfl, hb6⟩
  have hs6 : w5.heap.size ≤ w6.heap.size := hb6.size
  have hB6 : Below w.heap.size w w6 := hB5.trans (hb6.mono hB5.size)
  replace a0 := a0.below hb6 (by omega)
  replace a1 := a1.below hb6 (by omega)
  replace rt0_0 := rt0_0.below hb6 (by omega)
  replace rt1_1 := rt1_1.below hb6 (by omega)
  replace rx0 := rx0.below hb6 (by omega)
  replace ox0 := ox0.below hb6 (by omega)
  replace rx1 := rx1.below hb6 (by omega)
  replace ox1 := ox1.below hb6 (by omega)
  go_wp2_with fail
  refine (toInt64S_c a0 (by have := C0.out; show (x0.length : Int) ≤ 1048576; omega)).mono ?_
  rintro e w7 ⟨vt6_9, rfl, t6_9, hb7⟩
  have hs7 : w6.heap.size ≤ w7.heap.size := hb7.size
  have hB7 : Below w.heap.size w w7 := hB6.trans (hb7.mono hB6.size)
  replace a0 := a0.below hb7 (by omega)
  replace a1 := a1.below hb7 (by omega)
  replace rt0_0 := rt0_0.below hb7 (by omega)
  replace rt1_1 := rt1_1.below hb7 (by omega)
  replace rx0 := rx0.below hb7 (by omega)
  replace ox0 := ox0.below hb7 (by omega)
  replace rx1 := rx1.below hb7 (by omega)
  replace ox1 := ox1.below hb7 (by omega)
  have rt6_9 := t6_9.rds
  clear t6_9
  go_wp2_with fail
  refine (eqInt64S_c rx0 rt6_9).mono ?_
  rintro e w8 ⟨rfl, hb8⟩
  have hs8 : w7.heap.size ≤ w8.heap.size := hb8.size
  have hB8 : Below w.heap.size w w8 := hB7.trans (hb8.mono hB7.size)
  replace a0 := a0.below hb8 (by omega)
  replace a1 := a1.below hb8 (by omega)
  replace rt0_0 := rt0_0.below hb8 (by omega)
  replace rt1_1 := rt1_1.below hb8 (by omega)
  replace rx0 := rx0.below hb8 (by omega)
  replace ox0 := ox0.below hb8 (by omega)
  replace rx1 := rx1.below hb8 (by omega)
  replace ox1 := ox1.below hb8 (by omega)
  replace rt6_9 := rt6_9.below hb8 (by omega)
  go_wp2_with fail
  refine (toInt64S_c a1 (by have := C1.out; show (x1.length : Int) ≤ 1048576; omega)).mono ?_
  rintro e w9 ⟨vt8_9, rfl, t8_9, hb9⟩
  have hs9 : w8.heap.size ≤ w9.heap.size := hb9.size
  have hB9 : Below w.heap.size w w9 := hB8.trans (hb9.mono hB8.size)
  replace a0 := a0.below hb9 (by omega)
  replace a1 := a1.below hb9 (by omega)
  replace rt0_0 := rt0_0.below hb9 (by omega)
  replace rt1_1 := rt1_1.below hb9 (by omega)
  replace rx0 := rx0.below hb9 (by omega)
  replace ox0 := ox0.below hb9 (by omega)
  replace rx1 := rx1.below hb9 (by omega)
  replace ox1 := ox1.below hb9 (by omega)
  replace rt6_9 := rt6_9.below hb9 (by omega)
  have rt8_9 := t8_9.rds
  clear t8_9
  go_wp2_with fail
  refine (eqInt64S_c rx1 rt8_9).mono ?_
  rintro e w10 ⟨rfl, hb10⟩
  have hs10 : w9.heap.size ≤ w10.heap.size := hb10.size
  have hB10 : Below w.heap.size w w10 := hB9.trans (hb10.mono hB9.size)
  replace a0 := a0.below hb10 (by omega)
  replace a1 := a1.below hb10 (by omega)
  replace rt0_0 := rt0_0.below hb10 (by omega)
  replace rt1_1 := rt1_1.below hb10 (by omega)
  replace rx0 := rx0.below hb10 (by omega)
  replace ox0 := ox0.below hb10 (by omega)
  replace rx1 := rx1.below hb10 (by omega)
  replace ox1 := ox1.below hb10 (by omega)
  replace rt6_9 := rt6_9.below hb10 (by omega)
  replace rt8_9 := rt8_9.below hb10 (by omega)
  go_wp2
  go_ret
  exact ⟨rfl, hB10⟩
theorem walk0_FnExactTotalWithFailure (w : World) {x0 : List Int} {x1 : List Int} {x2 : Int} {x3 : Int} {r0 : Int} {r1 : Int} {v0 : Value} (a0 : RdInt64S w.heap.size w v0 x0) {v1 : Value} (a1 : RdInt64S w.heap.size w v1 x1) (a2 : okInt64 x2) (a3 : okInt64 x3) 
    (hS : (x0.length ≤ 1048576) → (x1.length ≤ 1048576) → ∀ (w : World), ∀ (B0 : Nat) (v0 : Value), B0 ≤ w.heap.size → RdInt64S B0 w v0 x0 → ∀ (B1 : Nat) (v1 : Value), B1 ≤ w.heap.size → RdInt64S B1 w v1 x1 → Calls Try.prog 17 #[v0, v1, .int .i64 x2, .int .i64 x3] w fun e w' => e = .returned (.tuple #[.int .i64 r0, .int .i64 r1]) ∧ Below w.heap.size w w')
    (hI : (x0.length ≤ 1048576) → (x1.length ≤ 1048576) → ∀ (w : World), ∀ (B0 : Nat) (v0 : Value), B0 ≤ w.heap.size → RdInt64S B0 w v0 x0 → ∀ (B1 : Nat) (v1 : Value), B1 ≤ w.heap.size → RdInt64S B1 w v1 x1 → Calls Try.prog 18 #[v0, v1, .int .i64 x2, .int .i64 x3] w fun e w' => e = .returned (.tuple #[.int .i64 r0, .int .i64 r1]) ∧ Below w.heap.size w w') :
    Calls Try.prog 4 #[v0, v1, .int .i64 x2, .int .i64 x3] w fun e w' => e = .returned (.bool true) ∧ Below w.heap.size w w' := by
  by_cases c0 : x0.length ≤ 1048576
  · have _t := True.intro
    by_cases c1 : x1.length ≤ 1048576
    · have _t := True.intro
      exact walk1_FnExactTotalWithFailure w a0 a1 a2 a3 (hS c0 c1) (hI c0 c1) c0 c1
    · clear hS hI
      obtain ⟨ao0, cap0, rfl⟩ := a0.shape
      obtain ⟨ao1, cap1, rfl⟩ := a1.shape
      go_enter Try.func4, Try.ntmps4
      go_wp2
      go_ret
      exact ⟨rfl, Below.refl _ _⟩
  · clear hS hI
    obtain ⟨ao0, cap0, rfl⟩ := a0.shape
    go_enter Try.func4, Try.ntmps4
    go_wp2
    go_ret
    exact ⟨rfl, Below.refl _ _⟩
theorem walk_FnExactTotalWithFailure (w : World) {x0 : List Int} {v0 : Value} (a0 : RdInt64S w.heap.size w v0 x0) {x1 : List Int} {v1 : Value} (a1 : RdInt64S w.heap.size w v1 x1) {x2 : Int} (a2 : okInt64 x2) {x3 : Int} (a3 : okInt64 x3) :
    Calls Try.prog 4 #[v0, v1, .int .i64 x2, .int .i64 x3] w fun e w' => e = .returned (.bool true) ∧ Below w.heap.size w w' :=
  walk0_FnExactTotalWithFailure w a0 a1 a2 a3 (fun _ _ w A v _ ha B u _ hc => sTotal_c w A v ha B u hc) (fun h _ w A v _ ha B u _ hc => TotalWithFailure_c h w A v ha B u hc)
namespace fnExactTotalWithFailure
theorem own : ownKnob Try.prog.godebug = none := by kernel_rfl
set_option maxRecDepth 100000 in
theorem lifted (os : Os) (started : os.Started) (H : Type) (enc : TypeId × Value → H) :
    ReturnsInHanded {} Try.checked os 4 .any (Rows.fnExactTotalWithFailureSpec.pre6 enc Try.prog Try.f4 Rows.fnExactTotalWithFailureRow.domain false) (Rows.fnExactTotalWithFailureSpec.post enc Try.prog Try.f4 false true false false) := by
  refine returnsInHanded_of_change_sized (C := Try.checked) own started (by kernel_rfl) Try.func4
    (ChangeSpec.witness6 (enc := enc) (C := Try.checked) false ⟨#[], #[.slice none 0 0, .slice none 0 0, .int .i64 0, .int .i64 0], []⟩ 8 (by kernel_rfl) (by kernel_rfl) (by kernel_rfl) (by kernel_rfl)) ?_
  intro W base args ds gs before hval0 hW hcnd hsz _
  have hval : ∀ (j : Nat) t v, Try.f4.params[j]? = some t → args[j]? = some v → Value.okWide Try.prog W .any base t v := hval0
  have hW' := hW
  obtain ⟨p, q, hA0, hV, rfl, hfz, hnd⟩ := hW
  have hA : DataW.TrodAll enc Try.prog W 0 (fun _ => true) true Try.f4.params.toList args.toList ds p := hA0
  rw [Try.params4] at hA hval
  obtain ⟨v0, vs0, d0, ds0, p0, s0, hargs, rfl, rfl, h0, q0⟩ := trodAll_cons hA
  obtain ⟨v1, vs1, d1, ds1, p1, s1, rfl, rfl, rfl, h1, q1⟩ := trodAll_cons q0
  obtain ⟨v2, vs2, d2, ds2, p2, s2, rfl, rfl, rfl, h2, q2⟩ := trodAll_cons q1
  obtain ⟨v3, vs3, d3, ds3, p3, s3, rfl, rfl, rfl, h3, q3⟩ := trodAll_cons q2
  obtain ⟨rfl, rfl, rfl⟩ := trodAll_nil q3
  obtain rfl : args = #[v0, v1, v2, v3] := by cases args; simp_all
  obtain ⟨x0, r0, _⟩ := open_rdI Try.underlying22 Try.underlying2 (by kernel_rfl) (hval 0 22 v0 rfl rfl) h0
  obtain ⟨x1, r1, _⟩ := open_rdI Try.underlying22 Try.underlying2 (by kernel_rfl) (hval 1 22 v1 rfl rfl) h1
  obtain ⟨a2, rfl, _, _, w2⟩ := open_int Try.underlying2 (hval 2 2 v2 rfl rfl) h2
  have r2 := i64_bd w2
  obtain ⟨a3, rfl, _, _, w3⟩ := open_int Try.underlying2 (hval 3 2 v3 rfl rfl) h3
  have r3 := i64_bd w3
  exact (walk_FnExactTotalWithFailure W r0 r1 r2 r3).mono fun e W' hh => ⟨_, hh.1, law_post (f := Try.f4) (s := Rows.fnExactTotalWithFailureSpec) (T := 4) (by kernel_rfl) (of_decide_eq_true (by kernel_rfl)) rfl rfl Try.underlying4 rfl hW' hh.2⟩
theorem proved : Rows.FnExactTotalWithFailureSaid :=
  OpenClaim.holds_of_wide 4 Try.f4 rfl rfl rfl rfl rfl rfl rfl ⟨rfl, rfl, rfl, rfl, rfl⟩ rfl rfl rfl rfl rfl (by kernel_rfl) Try.func4 (by kernel_rfl)
    (of_decide_eq_true (by kernel_rfl)) (by unfold Func.isWrapper; first | (rw [if_pos (by decide +kernel)]; kernel_rfl) | (rw [if_neg (by decide +kernel)]; exact ⟨rfl, rfl⟩))
    (fun os started H enc _ => lifted os started H enc)
end fnExactTotalWithFailure
#print axioms fnExactTotalWithFailure.proved
end Go.Proofs.Ytljjilgpmckccaa
