/- The law 'the program's BestChecks returns what the reference's returns'. No condition. -/
import Derived.Test.YtljjilgpmckccaaRestS
import Derived.Test.YtljjilgpmckccaaLaw
namespace Go.Proofs.Ytljjilgpmckccaa
open Go.ChangeShapes Go.WideShapes Go.ChangeAt Go.RowKit
set_option linter.unusedVariables false
theorem walk1_FnExactBestChecks (w : World) {x0 : List Int} {x1 : Int} {r0 : List Int} {r1 : Int} {v0 : Value} (a0 : RdInt64S w.heap.size w v0 x0) (a1 : okInt64 x1) (bg0 : cntInt64S r0 ≤ 1000000000)
    (hS : ∀ (w : World), ∀ (B0 : Nat) (v0 : Value), B0 ≤ w.heap.size → RdInt64S B0 w v0 x0 → Calls Try.prog 25 #[v0, .int .i64 x1] w fun e w' => ∃ u0, e = .returned (.tuple #[u0, .int .i64 r1]) ∧ OwnInt64S w.heap.size w' u0 r0 ∧ Below w.heap.size w w')
    (hI : ∀ (w : World), ∀ (B0 : Nat) (v0 : Value), B0 ≤ w.heap.size → RdInt64S B0 w v0 x0 → Calls Try.prog 26 #[v0, .int .i64 x1] w fun e w' => ∃ u0, e = .returned (.tuple #[u0, .int .i64 r1]) ∧ OwnInt64S w.heap.size w' u0 r0 ∧ Below w.heap.size w w') (c0 : x0.length ≤ 1048576) :
    Calls Try.prog 7 #[v0, .int .i64 x1] w fun e w' => e = .returned (.bool true) ∧ Below w.heap.size w w' := by
  have hB0 : Below w.heap.size w w := Below.refl _ _
  obtain ⟨ao0, cap0, rfl⟩ := a0.shape
  have Bg0 := Lib.hid bg0
  clear bg0
  have C0 := Lib.hid c0
  go_enter Try.func7, Try.ntmps7
  go_wp2_with fail
  refine (toInt64S_c a0 (by have := C0.out; show (x0.length : Int) ≤ 1048576; omega)).mono ?_
  rintro e w1 ⟨vt0_0, rfl, t0_0, hb1⟩
  have hs1 : w.heap.size ≤ w1.heap.size := hb1.size
  have hB1 : Below w.heap.size w w1 := hB0.trans (hb1.mono hB0.size)
  replace a0 := a0.below hb1 (by omega)
  have rt0_0 := t0_0.rds
  clear t0_0
  go_wp2_with fail
  refine (hS w1 _ _ (by omega) rt0_0).mono ?_
  rintro e w2 ⟨Vw0, rfl, ow0, hb2⟩
  have hs2 : w1.heap.size ≤ w2.heap.size := hb2.size
  have hB2 : Below w.heap.size w w2 := hB1.trans (hb2.mono hB1.size)
  replace a0 := a0.below hb2 (by omega)
  replace rt0_0 := rt0_0.below hb2 (by omega)
  replace ow0 := ow0.top
  have rw0 := ow0.rds
  clear ow0
  go_wp2_with fail
  refine (toInt64S_c a0 (by have := C0.out; show (x0.length : Int) ≤ 1048576; omega)).mono ?_
  rintro e w3 ⟨Vx0, rfl, ox0, hb3⟩
  have hs3 : w2.heap.size ≤ w3.heap.size := hb3.size
  have hB3 : Below w.heap.size w w3 := hB2.trans (hb3.mono hB2.size)
  replace a0 := a0.below hb3 (by omega)
  replace rt0_0 := rt0_0.below hb3 (by omega)
  replace rw0 := rw0.below hb3 (by omega)
  replace ox0 := ox0.top
  have rx0 := ox0.rds
  go_wp2_with fail
  refine (hI w3 _ _ (by omega) rx0).mono ?_
  rintro e w4 ⟨Vg0, rfl, og0, hb4⟩
  have hs4 : w3.heap.size ≤ w4.heap.size := hb4.size
  have hB4 : Below w.heap.size w w4 := hB3.trans (hb4.mono hB3.size)
  replace a0 := a0.below hb4 (by omega)
  replace rt0_0 := rt0_0.below hb4 (by omega)
  replace rw0 := rw0.below hb4 (by omega)
  replace rx0 := rx0.below hb4 (by omega)
  replace ox0 := ox0.below hb4 (by omega)
  replace og0 := og0.top
  have rg0 := og0.rds
  go_wp2_with fail
  refine (eqInt64S_c rg0 rw0).mono ?_
  rintro e w5 ⟨rfl, hb5⟩
  have hs5 : w4.heap.size ≤ w5.heap.size := hb5.size
  have hB5 : Below w.heap.size w w5 := hB4.trans (hb5.mono hB4.size)
  replace a0 := a0.below hb5 (by omega)
  replace rt0_0 := rt0_0.below hb5 (by omega)
  replace rw0 := rw0.below hb5 (by omega)
  replace rx0 := rx0.below hb5 (by omega)
  replace ox0 := ox0.below hb5 (by omega)
  replace rg0 := rg0.below hb5 (by omega)
  replace og0 := og0.below hb5 (by omega)
  go_wp2_with fail
  refine (toInt64S_c a0 (by have := C0.out; show (x0.length : Int) ≤ 1048576; omega)).mono ?_
  rintro e w6 ⟨vt5_9, rfl, t5_9, hb6⟩
  have hs6 : w5.heap.size ≤ w6.heap.size := hb6.size
  have hB6 : Below w.heap.size w w6 := hB5.trans (hb6.mono hB5.size)
  replace a0 := a0.below hb6 (by omega)
  replace rt0_0 := rt0_0.below hb6 (by omega)
  replace rw0 := rw0.below hb6 (by omega)
  replace rx0 := rx0.below hb6 (by omega)
  replace ox0 := ox0.below hb6 (by omega)
  replace rg0 := rg0.below hb6 (by omega)
  replace og0 := og0.below hb6 (by omega)
  have rt5_9 := t5_9.rds
  clear t5_9
  go_wp2_with fail
  refine (eqInt64S_c rx0 rt5_9).mono ?_
  rintro e w7 ⟨rfl, hb7⟩
  have hs7 : w6.heap.size ≤ w7.heap.size := hb7.size
  have hB7 : Below w.heap.size w w7 := hB6.trans (hb7.mono hB6.size)
  replace a0 := a0.below hb7 (by omega)
  replace rt0_0 := rt0_0.below hb7 (by omega)
  replace rw0 := rw0.below hb7 (by omega)
  replace rx0 := rx0.below hb7 (by omega)
  replace ox0 := ox0.below hb7 (by omega)
  replace rg0 := rg0.below hb7 (by omega)
  replace og0 := og0.below hb7 (by omega)
  replace rt5_9 := rt5_9.below hb7 (by omega)
  go_wp2_with fail
  refine (markInt64S_c _ ox0 (by omega) (by first | omega | (have := cntInt64S_le x0; have := C0.out; have : szInt64S x0 ≤ 1048576 := (by show (x0.length : Int) ≤ 1048576; omega);  omega))).mono ?_
  rintro e w8 ⟨rfl, ox0, hw8, hg8⟩
  have hb8 := hw8.below
  have hs8 : w7.heap.size ≤ w8.heap.size := hb8.size
  have hB8 : Below w.heap.size w w8 := hB7.trans (hb8.mono (by have := hB2.size; omega))
  replace a0 := a0.below hb8 (by omega)
  replace rt0_0 := rt0_0.below hb8 (by omega)
  replace rw0 := rw0.below hb8 (by omega)
  clear rx0
  replace og0 := og0.within hw8 (by omega)
  replace rg0 := og0.rds
  clear rt5_9
  have rx0 := ox0.rds
  go_wp2_with fail
  refine (eqInt64S_c rg0 rw0).mono ?_
  rintro e w9 ⟨rfl, hb9⟩
  have hs9 : w8.heap.size ≤ w9.heap.size := hb9.size
  have hB9 : Below w.heap.size w w9 := hB8.trans (hb9.mono hB8.size)
  replace a0 := a0.below hb9 (by omega)
  replace rt0_0 := rt0_0.below hb9 (by omega)
  replace rw0 := rw0.below hb9 (by omega)
  replace ox0 := ox0.below hb9 (by omega)
  replace rg0 := rg0.below hb9 (by omega)
  replace og0 := og0.below hb9 (by omega)
  replace rx0 := rx0.below hb9 (by omega)
  go_wp2_with fail
  refine (markInt64S_c _ og0 (by omega) (by first | omega | (have := Bg0.out; omega))).mono ?_
  rintro e w10 ⟨rfl, og0, hw10, hg10⟩
  have hb10 := hw10.below
  have hs10 : w9.heap.size ≤ w10.heap.size := hb10.size
  have hB10 : Below w.heap.size w w10 := hB9.trans (hb10.mono (by have := hB3.size; omega))
  replace a0 := a0.below hb10 (by omega)
  replace rt0_0 := rt0_0.below hb10 (by omega)
  replace rw0 := rw0.below hb10 (by omega)
  clear ox0
  clear rg0
  clear rx0
  have rg0 := og0.rds
  go_wp2_with fail
  refine (heldInt64S_c _ rg0 (by omega) (by first | omega | (have := Bg0.out; omega))).mono ?_
  rintro e w11 ⟨rfl, hb11⟩
  have hs11 : w10.heap.size ≤ w11.heap.size := hb11.size
  have hB11 : Below w.heap.size w w11 := hB10.trans (hb11.mono hB10.size)
  replace a0 := a0.below hb11 (by omega)
  replace rt0_0 := rt0_0.below hb11 (by omega)
  replace rw0 := rw0.below hb11 (by omega)
  replace og0 := og0.below hb11 (by omega)
  replace rg0 := rg0.below hb11 (by omega)
  go_wp2_with fail
  refine (toInt64S_c a0 (by have := C0.out; show (x0.length : Int) ≤ 1048576; omega)).mono ?_
  rintro e w12 ⟨vt11_0, rfl, t11_0, hb12⟩
  have hs12 : w11.heap.size ≤ w12.heap.size := hb12.size
  have hB12 : Below w.heap.size w w12 := hB11.trans (hb12.mono hB11.size)
  replace a0 := a0.below hb12 (by omega)
  replace rt0_0 := rt0_0.below hb12 (by omega)
  replace rw0 := rw0.below hb12 (by omega)
  replace og0 := og0.below hb12 (by omega)
  replace rg0 := rg0.below hb12 (by omega)
  have rt11_0 := t11_0.rds
  clear t11_0
  go_wp2_with fail
  refine (hI w12 _ _ (by omega) rt11_0).mono ?_
  rintro e w13 ⟨Vh0, rfl, oh0, hb13⟩
  have hs13 : w12.heap.size ≤ w13.heap.size := hb13.size
  have hB13 : Below w.heap.size w w13 := hB12.trans (hb13.mono hB12.size)
  replace a0 := a0.below hb13 (by omega)
  replace rt0_0 := rt0_0.below hb13 (by omega)
  replace rw0 := rw0.below hb13 (by omega)
  replace og0 := og0.below hb13 (by omega)
  replace rg0 := rg0.below hb13 (by omega)
  replace rt11_0 := rt11_0.below hb13 (by omega)
  replace oh0 := oh0.top
  have rh0 := oh0.rds
  clear oh0
  go_wp2_with fail
  refine (eqInt64S_c rh0 rw0).mono ?_
  rintro e w14 ⟨rfl, hb14⟩
  have hs14 : w13.heap.size ≤ w14.heap.size := hb14.size
  have hB14 : Below w.heap.size w w14 := hB13.trans (hb14.mono hB13.size)
  replace a0 := a0.below hb14 (by omega)
  replace rt0_0 := rt0_0.below hb14 (by omega)
  replace rw0 := rw0.below hb14 (by omega)
  replace og0 := og0.below hb14 (by omega)
  replace rg0 := rg0.below hb14 (by omega)
  replace rt11_0 := rt11_0.below hb14 (by omega)
  replace rh0 := rh0.below hb14 (by omega)
  go_wp2_with fail
  refine (heldInt64S_c _ rg0 (by omega) (by first | omega | (have := Bg0.out; omega))).mono ?_
  rintro e w15 ⟨rfl, hb15⟩
  have hs15 : w14.heap.size ≤ w15.heap.size := hb15.size
  have hB15 : Below w.heap.size w w15 := hB14.trans (hb15.mono hB14.size)
  replace a0 := a0.below hb15 (by omega)
  replace rt0_0 := rt0_0.below hb15 (by omega)
  replace rw0 := rw0.below hb15 (by omega)
  replace og0 := og0.below hb15 (by omega)
  replace rg0 := rg0.below hb15 (by omega)
  replace rt11_0 := rt11_0.below hb15 (by omega)
  replace rh0 := rh0.below hb15 (by omega)
  go_wp2
  go_ret
  exact ⟨rfl, hB15⟩
theorem walk0_FnExactBestChecks (w : World) {x0 : List Int} {x1 : Int} {r0 : List Int} {r1 : Int} {v0 : Value} (a0 : RdInt64S w.heap.size w v0 x0) (a1 : okInt64 x1) (bg0 : cntInt64S r0 ≤ 1000000000)
    (hS : (x0.length ≤ 1048576) → ∀ (w : World), ∀ (B0 : Nat) (v0 : Value), B0 ≤ w.heap.size → RdInt64S B0 w v0 x0 → Calls Try.prog 25 #[v0, .int .i64 x1] w fun e w' => ∃ u0, e = .returned (.tuple #[u0, .int .i64 r1]) ∧ OwnInt64S w.heap.size w' u0 r0 ∧ Below w.heap.size w w')
    (hI : (x0.length ≤ 1048576) → ∀ (w : World), ∀ (B0 : Nat) (v0 : Value), B0 ≤ w.heap.size → RdInt64S B0 w v0 x0 → Calls Try.prog 26 #[v0, .int .i64 x1] w fun e w' => ∃ u0, e = .returned (.tuple #[u0, .int .i64 r1]) ∧ OwnInt64S w.heap.size w' u0 r0 ∧ Below w.heap.size w w') :
    Calls Try.prog 7 #[v0, .int .i64 x1] w fun e w' => e = .returned (.bool true) ∧ Below w.heap.size w w' := by
  by_cases c0 : x0.length ≤ 1048576
  · have _t := True.intro
    exact walk1_FnExactBestChecks w a0 a1 bg0 (hS c0) (hI c0) c0
  · clear hS hI
    obtain ⟨ao0, cap0, rfl⟩ := a0.shape
    go_enter Try.func7, Try.ntmps7
    go_wp2
    go_ret
    exact ⟨rfl, Below.refl _ _⟩
theorem walk_FnExactBestChecks (w : World) {x0 : List Int} {v0 : Value} (a0 : RdInt64S w.heap.size w v0 x0) {x1 : Int} (a1 : okInt64 x1) :
    Calls Try.prog 7 #[v0, .int .i64 x1] w fun e w' => e = .returned (.bool true) ∧ Below w.heap.size w w' :=
  walk0_FnExactBestChecks w a0 a1 (BCr_le x0 x1) (fun _ w A v hA ha => sBestChecks_c w A hA v ha) (fun h w A v hA ha => BestChecks_c h w A hA v ha)
namespace fnExactBestChecks
theorem own : ownKnob Try.prog.godebug = none := by kernel_rfl
set_option maxRecDepth 100000 in
theorem lifted (os : Os) (started : os.Started) (H : Type) (enc : TypeId × Value → H) :
    ReturnsInHanded {} Try.checked os 7 .any (Rows.fnExactBestChecksSpec.pre6 enc Try.prog Try.f7 Rows.fnExactBestChecksRow.domain false) (Rows.fnExactBestChecksSpec.post enc Try.prog Try.f7 false true false false) := by
  refine returnsInHanded_of_change_sized (C := Try.checked) own started (by kernel_rfl) Try.func7
    (ChangeSpec.witness6 (enc := enc) (C := Try.checked) false ⟨#[], #[.slice none 0 0, .int .i64 0], []⟩ 8 (by kernel_rfl) (by kernel_rfl) (by kernel_rfl) (by kernel_rfl)) ?_
  intro W base args ds gs before hval0 hW hcnd hsz _
  have hval : ∀ (j : Nat) t v, Try.f7.params[j]? = some t → args[j]? = some v → Value.okWide Try.prog W .any base t v := hval0
  have hW' := hW
  obtain ⟨p, q, hA0, hV, rfl, hfz, hnd⟩ := hW
  have hA : DataW.TrodAll enc Try.prog W 0 (fun _ => true) true Try.f7.params.toList args.toList ds p := hA0
  rw [Try.params7] at hA hval
  obtain ⟨v0, vs0, d0, ds0, p0, s0, hargs, rfl, rfl, h0, q0⟩ := trodAll_cons hA
  obtain ⟨v1, vs1, d1, ds1, p1, s1, rfl, rfl, rfl, h1, q1⟩ := trodAll_cons q0
  obtain ⟨rfl, rfl, rfl⟩ := trodAll_nil q1
  obtain rfl : args = #[v0, v1] := by cases args; simp_all
  obtain ⟨x0, r0, _⟩ := open_rdI Try.underlying22 Try.underlying2 (by kernel_rfl) (hval 0 22 v0 rfl rfl) h0
  obtain ⟨a1, rfl, _, _, w1⟩ := open_int Try.underlying2 (hval 1 2 v1 rfl rfl) h1
  have r1 := i64_bd w1
  exact (walk_FnExactBestChecks W r0 r1).mono fun e W' hh => ⟨_, hh.1, law_post (f := Try.f7) (s := Rows.fnExactBestChecksSpec) (T := 4) (by kernel_rfl) (of_decide_eq_true (by kernel_rfl)) rfl rfl Try.underlying4 rfl hW' hh.2⟩
theorem proved : Rows.FnExactBestChecksSaid :=
  OpenClaim.holds_of_wide 7 Try.f7 rfl rfl rfl rfl rfl rfl rfl ⟨rfl, rfl, rfl, rfl, rfl⟩ rfl rfl rfl rfl rfl (by kernel_rfl) Try.func7 (by kernel_rfl)
    (of_decide_eq_true (by kernel_rfl)) (by unfold Func.isWrapper; first | (rw [if_pos (by decide +kernel)]; kernel_rfl) | (rw [if_neg (by decide +kernel)]; exact ⟨rfl, rfl⟩))
    (fun os started H enc _ => lifted os started H enc)
end fnExactBestChecks
#print axioms fnExactBestChecks.proved
end Go.Proofs.Ytljjilgpmckccaa
