/- The law 'the program's SpanBound returns what the reference's returns'. No condition. -/
import Derived.Test.YtpnmcgjfemaleaaBound2
import Derived.Test.YtpnmcgjfemaleaaBound3
import Derived.Test.YtpnmcgjfemaleaaMatL
namespace Go.Proofs.Ytpnmcgjfemaleaa
open Go.ChangeShapes Go.WideShapes Go.ChangeAt Go.RowKit
set_option linter.unusedVariables false
set_option maxRecDepth 100000
theorem walk1_FnExactSpanBound (w : World) {x0 : List (List Int)} {r0 : Int} {r1 : Int} {v0 : Value} (a0 : RdInt64SS w.heap.size w v0 x0) 
    (hS : ∀ (w : World), ∀ (B0 : Nat) (v0 : Value), B0 ≤ w.heap.size → RdInt64SS B0 w v0 x0 → Calls Try.prog 19 #[v0] w fun e w' => e = .returned (.tuple #[.int .i64 r0, .int .i64 r1]) ∧ Below w.heap.size w w')
    (hI : ∀ (w : World), ∀ (B0 : Nat) (v0 : Value), B0 ≤ w.heap.size → RdInt64SS B0 w v0 x0 → Calls Try.prog 20 #[v0] w fun e w' => e = .returned (.tuple #[.int .i64 r0, .int .i64 r1]) ∧ Below w.heap.size w w') (c0 : szInt64SS x0 ≤ 1048576) :
    Calls Try.prog 4 #[v0] w fun e w' => e = .returned (.bool true) ∧ Below w.heap.size w w' := by
  have hB0 : Below w.heap.size w w := Below.refl _ _
  have C0 := Lib.hid c0
  have N0 := Lib.hid (szInt64SS_nonneg x0)
  clear c0
  go_enter Try.func4, Try.ntmps4
  go_wp2_with fail
  refine (szInt64SS_c a0 (by omega) C0.out).mono ?_
  rintro e w1 ⟨rfl, hb1⟩
  have hs1 : w.heap.size ≤ w1.heap.size := hb1.size
  have hB1 : Below w.heap.size w w1 := hB0.trans (hb1.mono hB0.size)
  replace a0 := a0.below hb1 (by omega)
  have L0 := C0.out
  go_wp2_with fail
  refine (toInt64SS_c a0 (by have := C0.out; have := N0.out; omega)).mono ?_
  rintro e w2 ⟨vt1_0, rfl, t1_0, hb2⟩
  have hs2 : w1.heap.size ≤ w2.heap.size := hb2.size
  have hB2 : Below w.heap.size w w2 := hB1.trans (hb2.mono hB1.size)
  replace a0 := a0.below hb2 (by omega)
  have rt1_0 := t1_0.rds
  clear t1_0
  go_wp2_with fail
  refine (hS w2 _ _ (by omega) rt1_0).mono ?_
  rintro e w3 ⟨rfl, hb3⟩
  have hs3 : w2.heap.size ≤ w3.heap.size := hb3.size
  have hB3 : Below w.heap.size w w3 := hB2.trans (hb3.mono hB2.size)
  replace a0 := a0.below hb3 (by omega)
  replace rt1_0 := rt1_0.below hb3 (by omega)
  go_wp2_with fail
  refine (toInt64SS_c a0 (by have := C0.out; have := N0.out; omega)).mono ?_
  rintro e w4 ⟨Vx0, rfl, ox0, hb4⟩
  have hs4 : w3.heap.size ≤ w4.heap.size := hb4.size
  have hB4 : Below w.heap.size w w4 := hB3.trans (hb4.mono hB3.size)
  replace a0 := a0.below hb4 (by omega)
  replace rt1_0 := rt1_0.below hb4 (by omega)
  replace ox0 := ox0.top
  have rx0 := ox0.rds
  go_wp2_with fail
  refine (hI w4 _ _ (by omega) rx0).mono ?_
  rintro e w5 ⟨rfl, hb5⟩
  have hs5 : w4.heap.size ≤ w5.heap.size := hb5.size
  have hB5 : Below w.heap.size w w5 := hB4.trans (hb5.mono hB4.size)
  replace a0 := a0.below hb5 (by omega)
  replace rt1_0 := rt1_0.below hb5 (by omega)
  replace rx0 := rx0.below hb5 (by omega)
  replace ox0 := ox0.below hb5 (by omega)
  go_wp2_with fail
  refine (toInt64SS_c a0 (by have := C0.out; have := N0.out; omega)).mono ?_
  rintro e w6 ⟨vt5_9, rfl, t5_9, hb6⟩
  have hs6 : w5.heap.size ≤ w6.heap.size := hb6.size
  have hB6 : Below w.heap.size w w6 := hB5.trans (hb6.mono hB5.size)
  replace a0 := a0.below hb6 (by omega)
  replace rt1_0 := rt1_0.below hb6 (by omega)
  replace rx0 := rx0.below hb6 (by omega)
  replace ox0 := ox0.below hb6 (by omega)
  have rt5_9 := t5_9.rds
  clear t5_9
  go_wp2_with fail
  refine (eqInt64SS_c rx0 rt5_9).mono ?_
  rintro e w7 ⟨rfl, hb7⟩
  have hs7 : w6.heap.size ≤ w7.heap.size := hb7.size
  have hB7 : Below w.heap.size w w7 := hB6.trans (hb7.mono hB6.size)
  replace a0 := a0.below hb7 (by omega)
  replace rt1_0 := rt1_0.below hb7 (by omega)
  replace rx0 := rx0.below hb7 (by omega)
  replace ox0 := ox0.below hb7 (by omega)
  replace rt5_9 := rt5_9.below hb7 (by omega)
  go_wp2
  go_ret
  exact ⟨rfl, hB7⟩
theorem walk0_FnExactSpanBound (w : World) {x0 : List (List Int)} {r0 : Int} {r1 : Int} {v0 : Value} (a0 : RdInt64SS w.heap.size w v0 x0) 
    (hS : (szInt64SS x0 ≤ 1048576) → ∀ (w : World), ∀ (B0 : Nat) (v0 : Value), B0 ≤ w.heap.size → RdInt64SS B0 w v0 x0 → Calls Try.prog 19 #[v0] w fun e w' => e = .returned (.tuple #[.int .i64 r0, .int .i64 r1]) ∧ Below w.heap.size w w')
    (hI : (szInt64SS x0 ≤ 1048576) → ∀ (w : World), ∀ (B0 : Nat) (v0 : Value), B0 ≤ w.heap.size → RdInt64SS B0 w v0 x0 → Calls Try.prog 20 #[v0] w fun e w' => e = .returned (.tuple #[.int .i64 r0, .int .i64 r1]) ∧ Below w.heap.size w w') :
    Calls Try.prog 4 #[v0] w fun e w' => e = .returned (.bool true) ∧ Below w.heap.size w w' := by
  by_cases c0 : szInt64SS x0 ≤ 1048576
  · have _t := True.intro
    exact walk1_FnExactSpanBound w a0 (hS c0) (hI c0) c0
  · clear hS hI
    have C0 := Lib.hid c0
    clear c0
    go_enter Try.func4, Try.ntmps4
    go_wp2_with fail
    refine (szInt64SS_no a0 (by omega) (by have := C0.out; omega)).mono ?_
    rintro e w' ⟨rfl, hb0⟩
    go_wp2
    go_ret
    exact ⟨rfl, hb0⟩
theorem walk_FnExactSpanBound (w : World) {x0 : List (List Int)} {v0 : Value} (a0 : RdInt64SS w.heap.size w v0 x0) :
    Calls Try.prog 4 #[v0] w fun e w' => e = .returned (.bool true) ∧ Below w.heap.size w w' :=
  walk0_FnExactSpanBound (r0 := SBV x0) (r1 := SBC x0) w a0 (fun _ w A v h ha => sSpanBound_c h ha) (fun _ w A v h ha => SpanBound_c h ha)
namespace fnExactSpanBound
theorem own : ownKnob Try.prog.godebug = none := by kernel_rfl
set_option maxRecDepth 100000 in
theorem lifted (os : Os) (started : os.Started) (H : Type) (enc : TypeId × Value → H) :
    ReturnsInHanded {} Try.checked os 4 .any (Rows.fnExactSpanBoundSpec.pre6 enc Try.prog Try.f4 Rows.fnExactSpanBoundRow.domain false) (Rows.fnExactSpanBoundSpec.post enc Try.prog Try.f4 false true false false) := by
  refine returnsInHanded_of_change_sized (C := Try.checked) own started (by kernel_rfl) Try.func4
    (ChangeSpec.witness6 (enc := enc) (C := Try.checked) false ⟨#[], #[.slice none 0 0], []⟩ 8 (by kernel_rfl) (by kernel_rfl) (by kernel_rfl) (by kernel_rfl)) ?_
  intro W base args ds gs before hval0 hW hcnd hsz _
  have hval : ∀ (j : Nat) t v, Try.f4.params[j]? = some t → args[j]? = some v → Value.okWide Try.prog W .any base t v := hval0
  have hW' := hW
  obtain ⟨p, q, hA0, hV, rfl, hfz, hnd⟩ := hW
  have hA : DataW.TrodAll enc Try.prog W 0 (fun _ => true) true Try.f4.params.toList args.toList ds p := hA0
  rw [Try.params4] at hA hval
  obtain ⟨v0, vs0, d0, ds0, p0, s0, hargs, rfl, rfl, h0, q0⟩ := trodAll_cons hA
  obtain ⟨rfl, rfl, rfl⟩ := trodAll_nil q0
  obtain rfl : args = #[v0] := by cases args; simp_all
  obtain ⟨x0, r0, _⟩ := open_rdM Try.underlying22 Try.underlying29 Try.underlying2 (by kernel_rfl) (by kernel_rfl) (hval 0 22 v0 rfl rfl) h0
  exact (walk_FnExactSpanBound W r0).mono fun e W' hh => ⟨_, hh.1, law_post (f := Try.f4) (s := Rows.fnExactSpanBoundSpec) (T := 4) (by kernel_rfl) (of_decide_eq_true (by kernel_rfl)) rfl rfl Try.underlying4 rfl hW' hh.2⟩
theorem proved : Rows.FnExactSpanBoundSaid :=
  OpenClaim.holds_of_wide 4 Try.f4 rfl rfl rfl rfl rfl rfl rfl ⟨rfl, rfl, rfl, rfl, rfl⟩ rfl rfl rfl rfl rfl (by kernel_rfl) Try.func4 (by kernel_rfl)
    (of_decide_eq_true (by kernel_rfl)) (by unfold Func.isWrapper; first | (rw [if_pos (by decide +kernel)]; kernel_rfl) | (rw [if_neg (by decide +kernel)]; exact ⟨rfl, rfl⟩))
    (fun os started H enc _ => lifted os started H enc)
end fnExactSpanBound
#print axioms fnExactSpanBound.proved
end Go.Proofs.Ytpnmcgjfemaleaa
