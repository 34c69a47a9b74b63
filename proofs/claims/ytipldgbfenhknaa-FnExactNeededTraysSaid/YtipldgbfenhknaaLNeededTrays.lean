/- The law 'the program's NeededTrays returns what the reference's returns'. No condition. -/
import Derived.Test.YtipldgbfenhknaaNTr
import Derived.Test.YtipldgbfenhknaaStpM
import Derived.Test.YtipldgbfenhknaaLaw
namespace Go.Proofs.Ytipldgbfenhknaa
open Go.ChangeShapes Go.WideShapes Go.ChangeAt Go.RowKit
set_option linter.unusedVariables false
set_option maxRecDepth 100000
set_option maxHeartbeats 1000000 in
theorem walk1_FnExactNeededTrays (w : World) {x0 : List StepT} {x1 : Int} {r0 : List Int} {r1 : Int} {v0 : Value} (a0 : RdStepS w.heap.size w v0 x0) (a1 : okInt64 x1) (bg0 : cntInt64S r0 ≤ 1000000000)
    (hS : ∀ (w : World), ∀ (B0 : Nat) (v0 : Value), B0 ≤ w.heap.size → RdStepS B0 w v0 x0 → Calls Try.prog 5 #[v0, .int .i64 x1] w fun e w' => ∃ u0, e = .returned (.tuple #[u0, .int .i64 r1]) ∧ OwnInt64S w.heap.size w' u0 r0 ∧ Below w.heap.size w w')
    (hI : ∀ (w : World), ∀ (B0 : Nat) (v0 : Value), B0 ≤ w.heap.size → RdStepS B0 w v0 x0 → Calls Try.prog 7 #[v0, .int .i64 x1] w fun e w' => ∃ u0, e = .returned (.tuple #[u0, .int .i64 r1]) ∧ OwnInt64S w.heap.size w' u0 r0 ∧ Below w.heap.size w w') (c0 : szStepS x0 ≤ 1048576) :
    Calls Try.prog 3 #[v0, .int .i64 x1] w fun e w' => e = .returned (.bool true) ∧ Below w.heap.size w w' := by
  have hB0 : Below w.heap.size w w := Below.refl _ _
  have Bg0 := Lib.hid bg0
  clear bg0
  have C0 := Lib.hid c0
  have N0 := Lib.hid (szStepS_nonneg x0)
  clear c0
  go_enter Try.func3, Try.ntmps3
  go_wp2_with fail
  refine (szStepS_c a0 (by omega) C0.out).mono ?_
  rintro e w1 ⟨rfl, hb1⟩
  have hs1 : w.heap.size ≤ w1.heap.size := hb1.size
  have hB1 : Below w.heap.size w w1 := hB0.trans (hb1.mono hB0.size)
  replace a0 := a0.below hb1 (by omega)
  have L0 := C0.out
  go_wp2_with fail
  refine (toStepS_c a0 (by have := C0.out; have := N0.out; omega)).mono ?_
  rintro e w2 ⟨vt1_0, rfl, t1_0, hb2⟩
  have hs2 : w1.heap.size ≤ w2.heap.size := hb2.size
  have hB2 : Below w.heap.size w w2 := hB1.trans (hb2.mono hB1.size)
  replace a0 := a0.below hb2 (by omega)
  have rt1_0 := t1_0.rds
  clear t1_0
  go_wp2_with fail
  refine (hS w2 _ _ (by omega) rt1_0).mono ?_
  rintro e w3 ⟨Vw0, rfl, ow0, hb3⟩
  have hs3 : w2.heap.size ≤ w3.heap.size := hb3.size
  have hB3 : Below w.heap.size w w3 := hB2.trans (hb3.mono hB2.size)
  replace a0 := a0.below hb3 (by omega)
  replace rt1_0 := rt1_0.below hb3 (by omega)
  replace ow0 := ow0.top
  have rw0 := ow0.rds
  clear ow0
  go_wp2_with fail
  refine (toStepS_c a0 (by have := C0.out; have := N0.out; omega)).mono ?_
  rintro e w4 ⟨Vx0, rfl, ox0, hb4⟩
  have hs4 : w3.heap.size ≤ w4.heap.size := hb4.size
  have hB4 : Below w.heap.size w w4 := hB3.trans (hb4.mono hB3.size)
  replace a0 := a0.below hb4 (by omega)
  replace rt1_0 := rt1_0.below hb4 (by omega)
  replace rw0 := rw0.below hb4 (by omega)
  replace ox0 := ox0.top
  have rx0 := ox0.rds
  go_wp2_with fail
  refine (hI w4 _ _ (by omega) rx0).mono ?_
  rintro e w5 ⟨Vg0, rfl, og0, hb5⟩
  have hs5 : w4.heap.size ≤ w5.heap.size := hb5.size
  have hB5 : Below w.heap.size w w5 := hB4.trans (hb5.mono hB4.size)
  replace a0 := a0.below hb5 (by omega)
  replace rt1_0 := rt1_0.below hb5 (by omega)
  replace rw0 := rw0.below hb5 (by omega)
  replace rx0 := rx0.below hb5 (by omega)
  replace ox0 := ox0.below hb5 (by omega)
  replace og0 := og0.top
  have rg0 := og0.rds
  go_wp2_with fail
  refine (eqInt64S_c rg0 rw0).mono ?_
  rintro e w6 ⟨rfl, hb6⟩
  have hs6 : w5.heap.size ≤ w6.heap.size := hb6.size
  have hB6 : Below w.heap.size w w6 := hB5.trans (hb6.mono hB5.size)
  replace a0 := a0.below hb6 (by omega)
  replace rt1_0 := rt1_0.below hb6 (by omega)
  replace rw0 := rw0.below hb6 (by omega)
  replace rx0 := rx0.below hb6 (by omega)
  replace ox0 := ox0.below hb6 (by omega)
  replace rg0 := rg0.below hb6 (by omega)
  replace og0 := og0.below hb6 (by omega)
  go_wp2_with fail
  refine (toStepS_c a0 (by have := C0.out; have := N0.out; omega)).mono ?_
  rintro e w7 ⟨vt6_9, rfl, t6_9, hb7⟩
  have hs7 : w6.heap.size ≤ w7.heap.size := hb7.size
  have hB7 : Below w.heap.size w w7 := hB6.trans (hb7.mono hB6.size)
  replace a0 := a0.below hb7 (by omega)
  replace rt1_0 := rt1_0.below hb7 (by omega)
  replace rw0 := rw0.below hb7 (by omega)
  replace rx0 := rx0.below hb7 (by omega)
  replace ox0 := ox0.below hb7 (by omega)
  replace rg0 := rg0.below hb7 (by omega)
  replace og0 := og0.below hb7 (by omega)
  have rt6_9 := t6_9.rds
  clear t6_9
  go_wp2_with fail
  refine (eqStepS_c rx0 rt6_9).mono ?_
  rintro e w8 ⟨rfl, hb8⟩
  have hs8 : w7.heap.size ≤ w8.heap.size := hb8.size
  have hB8 : Below w.heap.size w w8 := hB7.trans (hb8.mono hB7.size)
  replace a0 := a0.below hb8 (by omega)
  replace rt1_0 := rt1_0.below hb8 (by omega)
  replace rw0 := rw0.below hb8 (by omega)
  replace rx0 := rx0.below hb8 (by omega)
  replace ox0 := ox0.below hb8 (by omega)
  replace rg0 := rg0.below hb8 (by omega)
  replace og0 := og0.below hb8 (by omega)
  replace rt6_9 := rt6_9.below hb8 (by omega)
  go_wp2_with fail
  refine (markStepS_c _ ox0 (by omega) (by first | omega | (have := cntStepS_le x0; have := C0.out; have := N0.out;  omega))).mono ?_
  rintro e w9 ⟨rfl, ox0, hw9, hg9⟩
  have hb9 := hw9.below (by omega)
  have hs9 : w8.heap.size ≤ w9.heap.size := hb9.size
  have hB9 : Below w.heap.size w w9 := hB8.trans (hb9.mono (by have := hB3.size; omega))
  replace a0 := a0.below hb9 (by omega)
  replace rt1_0 := rt1_0.below hb9 (by omega)
  replace rw0 := rw0.below hb9 (by omega)
  clear rx0
  replace og0 := og0.within hw9 (by omega)
  replace rg0 := og0.rds
  clear rt6_9
  have rx0 := ox0.rds
  go_wp2_with fail
  refine (eqInt64S_c rg0 rw0).mono ?_
  rintro e w10 ⟨rfl, hb10⟩
  have hs10 : w9.heap.size ≤ w10.heap.size := hb10.size
  have hB10 : Below w.heap.size w w10 := hB9.trans (hb10.mono hB9.size)
  replace a0 := a0.below hb10 (by omega)
  replace rt1_0 := rt1_0.below hb10 (by omega)
  replace rw0 := rw0.below hb10 (by omega)
  replace ox0 := ox0.below hb10 (by omega)
  replace rg0 := rg0.below hb10 (by omega)
  replace og0 := og0.below hb10 (by omega)
  replace rx0 := rx0.below hb10 (by omega)
  go_wp2_with fail
  refine (markInt64S_c _ og0 (by omega) (by first | omega | (have := Bg0.out; omega))).mono ?_
  rintro e w11 ⟨rfl, og0, hw11, hg11⟩
  have hb11 := hw11.below (by omega)
  have hs11 : w10.heap.size ≤ w11.heap.size := hb11.size
  have hB11 : Below w.heap.size w w11 := hB10.trans (hb11.mono (by have := hB4.size; omega))
  replace a0 := a0.below hb11 (by omega)
  replace rt1_0 := rt1_0.below hb11 (by omega)
  replace rw0 := rw0.below hb11 (by omega)
  clear ox0
  clear rg0
  clear rx0
  have rg0 := og0.rds
  go_wp2_with fail
  refine (heldInt64S_c _ rg0 (by omega) (by first | omega | (have := Bg0.out; omega))).mono ?_
  rintro e w12 ⟨rfl, hb12⟩
  have hs12 : w11.heap.size ≤ w12.heap.size := hb12.size
  have hB12 : Below w.heap.size w w12 := hB11.trans (hb12.mono hB11.size)
  replace a0 := a0.below hb12 (by omega)
  replace rt1_0 := rt1_0.below hb12 (by omega)
  replace rw0 := rw0.below hb12 (by omega)
  replace og0 := og0.below hb12 (by omega)
  replace rg0 := rg0.below hb12 (by omega)
  go_wp2_with fail
  refine (toStepS_c a0 (by have := C0.out; have := N0.out; omega)).mono ?_
  rintro e w13 ⟨vt12_0, rfl, t12_0, hb13⟩
  have hs13 : w12.heap.size ≤ w13.heap.size := hb13.size
  have hB13 : Below w.heap.size w w13 := hB12.trans (hb13.mono hB12.size)
  replace a0 := a0.below hb13 (by omega)
  replace rt1_0 := rt1_0.below hb13 (by omega)
  replace rw0 := rw0.below hb13 (by omega)
  replace og0 := og0.below hb13 (by omega)
  replace rg0 := rg0.below hb13 (by omega)
  have rt12_0 := t12_0.rds
  clear t12_0
  go_wp2_with fail
  refine (hI w13 _ _ (by omega) rt12_0).mono ?_
  rintro e w14 ⟨Vh0, rfl, oh0, hb14⟩
  have hs14 : w13.heap.size ≤ w14.heap.size := hb14.size
  have hB14 : Below w.heap.size w w14 := hB13.trans (hb14.mono hB13.size)
  replace a0 := a0.below hb14 (by omega)
  replace rt1_0 := rt1_0.below hb14 (by omega)
  replace rw0 := rw0.below hb14 (by omega)
  replace og0 := og0.below hb14 (by omega)
  replace rg0 := rg0.below hb14 (by omega)
  replace rt12_0 := rt12_0.below hb14 (by omega)
  replace oh0 := oh0.top
  have rh0 := oh0.rds
  clear oh0
  go_wp2_with fail
  refine (eqInt64S_c rh0 rw0).mono ?_
  rintro e w15 ⟨rfl, hb15⟩
  have hs15 : w14.heap.size ≤ w15.heap.size := hb15.size
  have hB15 : Below w.heap.size w w15 := hB14.trans (hb15.mono hB14.size)
  replace a0 := a0.below hb15 (by omega)
  replace rt1_0 := rt1_0.below hb15 (by omega)
  replace rw0 := rw0.below hb15 (by omega)
  replace og0 := og0.below hb15 (by omega)
  replace rg0 := rg0.below hb15 (by omega)
  replace rt12_0 := rt12_0.below hb15 (by omega)
  replace rh0 := rh0.below hb15 (by omega)
  go_wp2_with fail
  refine (heldInt64S_c _ rg0 (by omega) (by first | omega | (have := Bg0.out; omega))).mono ?_
  rintro e w16 ⟨rfl, hb16⟩
  have hs16 : w15.heap.size ≤ w16.heap.size := hb16.size
  have hB16 : Below w.heap.size w w16 := hB15.trans (hb16.mono hB15.size)
  replace a0 := a0.below hb16 (by omega)
  replace rt1_0 := rt1_0.below hb16 (by omega)
  replace rw0 := rw0.below hb16 (by omega)
  replace og0 := og0.below hb16 (by omega)
  replace rg0 := rg0.below hb16 (by omega)
  replace rt12_0 := rt12_0.below hb16 (by omega)
  replace rh0 := rh0.below hb16 (by omega)
  go_wp2
  go_ret
  exact ⟨rfl, hB16⟩
theorem walk0_FnExactNeededTrays (w : World) {x0 : List StepT} {x1 : Int} {r0 : List Int} {r1 : Int} {v0 : Value} (a0 : RdStepS w.heap.size w v0 x0) (a1 : okInt64 x1) (bg0 : cntInt64S r0 ≤ 1000000000)
    (hS : (szStepS x0 ≤ 1048576) → ∀ (w : World), ∀ (B0 : Nat) (v0 : Value), B0 ≤ w.heap.size → RdStepS B0 w v0 x0 → Calls Try.prog 5 #[v0, .int .i64 x1] w fun e w' => ∃ u0, e = .returned (.tuple #[u0, .int .i64 r1]) ∧ OwnInt64S w.heap.size w' u0 r0 ∧ Below w.heap.size w w')
    (hI : (szStepS x0 ≤ 1048576) → ∀ (w : World), ∀ (B0 : Nat) (v0 : Value), B0 ≤ w.heap.size → RdStepS B0 w v0 x0 → Calls Try.prog 7 #[v0, .int .i64 x1] w fun e w' => ∃ u0, e = .returned (.tuple #[u0, .int .i64 r1]) ∧ OwnInt64S w.heap.size w' u0 r0 ∧ Below w.heap.size w w') :
    Calls Try.prog 3 #[v0, .int .i64 x1] w fun e w' => e = .returned (.bool true) ∧ Below w.heap.size w w' := by
  by_cases c0 : szStepS x0 ≤ 1048576
  · have _t := True.intro
    exact walk1_FnExactNeededTrays w a0 a1 bg0 (hS c0) (hI c0) c0
  · clear hS hI
    have C0 := Lib.hid c0
    clear c0
    go_enter Try.func3, Try.ntmps3
    go_wp2_with fail
    refine (szStepS_no a0 (by omega) (by have := C0.out; omega)).mono ?_
    rintro e w' ⟨rfl, hb0⟩
    go_wp2
    go_ret
    exact ⟨rfl, hb0⟩
theorem UseR_len (xs : List StepT) : (UseR xs).length ≤ 6 := by
  unfold UseR
  split
  · exact selI_len _ 6
  · decide
theorem NTR_len (xs : List StepT) (a : Int) : (NTR xs a).length ≤ 6 := by
  unfold NTR
  split
  · exact UseR_len _
  · decide
theorem walk_FnExactNeededTrays (w : World) {x0 : List StepT} {v0 : Value} (a0 : RdStepS w.heap.size w v0 x0) {x1 : Int} (a1 : okInt64 x1) :
    Calls Try.prog 3 #[v0, .int .i64 x1] w fun e w' => e = .returned (.bool true) ∧ Below w.heap.size w w' :=
  walk0_FnExactNeededTrays (r0 := NTR x0 x1) (r1 := NTC x0 x1) w a0 a1 (by have := NTR_len x0 x1; unfold cntInt64S; omega) (fun _ w A v _ ha => sNeededTrays_c x1 a1 ha) (fun _ w A v _ ha => NeededTrays_c x1 a1 ha)
namespace fnExactNeededTrays
theorem own : ownKnob Try.prog.godebug = none := by kernel_rfl
set_option maxRecDepth 100000 in
theorem lifted (os : Os) (started : os.Started) (H : Type) (enc : TypeId × Value → H) :
    ReturnsInHanded {} Try.checked os 3 .any (Rows.fnExactNeededTraysSpec.pre6 enc Try.prog Try.f3 Rows.fnExactNeededTraysRow.domain false) (Rows.fnExactNeededTraysSpec.post enc Try.prog Try.f3 false true false false) := by
  refine returnsInHanded_of_change_sized (C := Try.checked) own started (by kernel_rfl) Try.func3
    (ChangeSpec.witness6 (enc := enc) (C := Try.checked) false ⟨#[], #[.slice none 0 0, .int .i64 0], []⟩ 8 (by kernel_rfl) (by kernel_rfl) (by kernel_rfl) (by kernel_rfl)) ?_
  intro W base args ds gs before hval0 hW hcnd hsz _
  have hval : ∀ (j : Nat) t v, Try.f3.params[j]? = some t → args[j]? = some v → Value.okWide Try.prog W .any base t v := hval0
  have hW' := hW
  obtain ⟨p, q, hA0, hV, rfl, hfz, hnd⟩ := hW
  have hA : DataW.TrodAll enc Try.prog W 0 (fun _ => true) true Try.f3.params.toList args.toList ds p := hA0
  rw [Try.params3] at hA hval
  obtain ⟨v0, vs0, d0, ds0, p0, s0, hargs, rfl, rfl, h0, q0⟩ := trodAll_cons hA
  obtain ⟨v1, vs1, d1, ds1, p1, s1, rfl, rfl, rfl, h1, q1⟩ := trodAll_cons q0
  obtain ⟨rfl, rfl, rfl⟩ := trodAll_nil q1
  obtain rfl : args = #[v0, v1] := by cases args; simp_all
  obtain ⟨x0, r0⟩ := openStepS (hval 0 22 v0 rfl rfl) h0
  obtain ⟨a1, rfl, _, _, w1⟩ := open_int Try.underlying2 (hval 1 2 v1 rfl rfl) h1
  have r1 := i64_bd w1
  exact (walk_FnExactNeededTrays W r0 r1).mono fun e W' hh => ⟨_, hh.1, law_post (f := Try.f3) (s := Rows.fnExactNeededTraysSpec) (T := 4) (by kernel_rfl) (of_decide_eq_true (by kernel_rfl)) rfl rfl Try.underlying4 rfl hW' hh.2⟩
theorem proved : Rows.FnExactNeededTraysSaid :=
  OpenClaim.holds_of_wide 3 Try.f3 rfl rfl rfl rfl rfl rfl rfl ⟨rfl, rfl, rfl, rfl, rfl⟩ rfl rfl rfl rfl rfl (by kernel_rfl) Try.func3 (by kernel_rfl)
    (of_decide_eq_true (by kernel_rfl)) (by unfold Func.isWrapper; first | (rw [if_pos (by decide +kernel)]; kernel_rfl) | (rw [if_neg (by decide +kernel)]; exact ⟨rfl, rfl⟩))
    (fun os started H enc _ => lifted os started H enc)
end fnExactNeededTrays
#print axioms fnExactNeededTrays.proved
end Go.Proofs.Ytipldgbfenhknaa
