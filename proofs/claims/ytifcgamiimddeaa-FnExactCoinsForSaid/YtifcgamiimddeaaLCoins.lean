/- The law 'the program's CoinsFor returns what the reference's returns'. No condition. -/
import Derived.Test.YtifcgamiimddeaaCoins
import Derived.Test.YtifcgamiimddeaaLaw
namespace Go.Proofs.Ytifcgamiimddeaa
open Go.ChangeShapes Go.WideShapes Go.ChangeAt Go.RowKit
set_option linter.unusedVariables false
theorem walk1_FnExactCoinsFor (w : World) {x0 : Int} {r0 : List Int} {r1 : Int} (a0 : okInt64 x0) (bg0 : cntInt64S r0 ≤ 1000000000)
    (hS : ∀ (w : World), Calls Try.prog 10 #[.int .i64 x0] w fun e w' => ∃ u0, e = .returned (.tuple #[u0, .int .i64 r1]) ∧ OwnInt64S w.heap.size w' u0 r0 ∧ Below w.heap.size w w')
    (hI : ∀ (w : World), Calls Try.prog 11 #[.int .i64 x0] w fun e w' => ∃ u0, e = .returned (.tuple #[u0, .int .i64 r1]) ∧ OwnInt64S w.heap.size w' u0 r0 ∧ Below w.heap.size w w')  :
    Calls Try.prog 4 #[.int .i64 x0] w fun e w' => e = .returned (.bool true) ∧ Below w.heap.size w w' := by
  have hB0 : Below w.heap.size w w := Below.refl _ _
  have Bg0 := Lib.hid bg0
  clear bg0
  go_enter Try.func4, Try.ntmps4
  go_wp2_with fail
  refine (hS w).mono ?_
  rintro e w1 ⟨Vw0, rfl, ow0, hb1⟩
  have hs1 : w.heap.size ≤ w1.heap.size := hb1.size
  have hB1 : Below w.heap.size w w1 := hB0.trans (hb1.mono hB0.size)
  have rw0 := ow0.rds
  clear ow0
  go_wp2_with fail
  refine (hI w1).mono ?_
  rintro e w2 ⟨Vg0, rfl, og0, hb2⟩
  have hs2 : w1.heap.size ≤ w2.heap.size := hb2.size
  have hB2 : Below w.heap.size w w2 := hB1.trans (hb2.mono hB1.size)
  replace rw0 := rw0.below hb2 (by omega)
  have rg0 := og0.rds
  go_wp2_with fail
  refine (eqInt64S_c rg0 rw0).mono ?_
  rintro e w3 ⟨rfl, hb3⟩
  have hs3 : w2.heap.size ≤ w3.heap.size := hb3.size
  have hB3 : Below w.heap.size w w3 := hB2.trans (hb3.mono hB2.size)
  replace rw0 := rw0.below hb3 (by omega)
  replace rg0 := rg0.below hb3 (by omega)
  replace og0 := og0.below hb3 (Nat.le_refl _)
  go_wp2_with fail
  refine (markInt64S_c _ og0 (by omega) (by first | omega | (have := Bg0.out; omega))).mono ?_
  rintro e w4 ⟨rfl, og0, hb4⟩
  have hs4 : w3.heap.size ≤ w4.heap.size := hb4.size
  have hB4 : Below w.heap.size w w4 := hB3.trans (hb4.mono (by have := hB1.size; omega))
  replace rw0 := rw0.below hb4 (by omega)
  clear rg0
  have rg0 := og0.rds
  go_wp2_with fail
  refine (heldInt64S_c _ rg0 (by omega) (by first | omega | (have := Bg0.out; omega))).mono ?_
  rintro e w5 ⟨rfl, hb5⟩
  have hs5 : w4.heap.size ≤ w5.heap.size := hb5.size
  have hB5 : Below w.heap.size w w5 := hB4.trans (hb5.mono hB4.size)
  replace rw0 := rw0.below hb5 (by omega)
  replace og0 := og0.below hb5 (Nat.le_refl _)
  replace rg0 := rg0.below hb5 (by omega)
  go_wp2_with fail
  refine (hI w5).mono ?_
  rintro e w6 ⟨Vh0, rfl, oh0, hb6⟩
  have hs6 : w5.heap.size ≤ w6.heap.size := hb6.size
  have hB6 : Below w.heap.size w w6 := hB5.trans (hb6.mono hB5.size)
  replace rw0 := rw0.below hb6 (by omega)
  replace og0 := og0.below hb6 (Nat.le_refl _)
  replace rg0 := rg0.below hb6 (by omega)
  have rh0 := oh0.rds
  clear oh0
  go_wp2_with fail
  refine (eqInt64S_c rh0 rw0).mono ?_
  rintro e w7 ⟨rfl, hb7⟩
  have hs7 : w6.heap.size ≤ w7.heap.size := hb7.size
  have hB7 : Below w.heap.size w w7 := hB6.trans (hb7.mono hB6.size)
  replace rw0 := rw0.below hb7 (by omega)
  replace og0 := og0.below hb7 (Nat.le_refl _)
  replace rg0 := rg0.below hb7 (by omega)
  replace rh0 := rh0.below hb7 (by omega)
  go_wp2_with fail
  refine (heldInt64S_c _ rg0 (by omega) (by first | omega | (have := Bg0.out; omega))).mono ?_
  rintro e w8 ⟨rfl, hb8⟩
  have hs8 : w7.heap.size ≤ w8.heap.size := hb8.size
  have hB8 : Below w.heap.size w w8 := hB7.trans (hb8.mono hB7.size)
  replace rw0 := rw0.below hb8 (by omega)
  replace og0 := og0.below hb8 (Nat.le_refl _)
  replace rg0 := rg0.below hb8 (by omega)
  replace rh0 := rh0.below hb8 (by omega)
  go_wp2
  go_ret
  exact ⟨rfl, hB8⟩
theorem walk0_FnExactCoinsFor (w : World) {x0 : Int} {r0 : List Int} {r1 : Int} (a0 : okInt64 x0) (bg0 : cntInt64S r0 ≤ 1000000000)
    (hS : ∀ (w : World), Calls Try.prog 10 #[.int .i64 x0] w fun e w' => ∃ u0, e = .returned (.tuple #[u0, .int .i64 r1]) ∧ OwnInt64S w.heap.size w' u0 r0 ∧ Below w.heap.size w w')
    (hI : ∀ (w : World), Calls Try.prog 11 #[.int .i64 x0] w fun e w' => ∃ u0, e = .returned (.tuple #[u0, .int .i64 r1]) ∧ OwnInt64S w.heap.size w' u0 r0 ∧ Below w.heap.size w w') :
    Calls Try.prog 4 #[.int .i64 x0] w fun e w' => e = .returned (.bool true) ∧ Below w.heap.size w w' := by
  exact walk1_FnExactCoinsFor w a0 bg0 hS hI 
theorem walk_FnExactCoinsFor (w : World) {x0 : Int} (a0 : okInt64 x0) :
    Calls Try.prog 4 #[.int .i64 x0] w fun e w' => e = .returned (.bool true) ∧ Below w.heap.size w w' :=
  walk0_FnExactCoinsFor w a0 (CoinsR_le x0) (fun w => sCoinsFor_c x0 w) (fun w => CoinsFor_c x0 w)
namespace fnExactCoinsFor
theorem own : ownKnob Try.prog.godebug = none := by kernel_rfl
set_option maxRecDepth 100000 in
theorem lifted (os : Os) (started : os.Started) (H : Type) (enc : TypeId × Value → H) :
    ReturnsInHanded {} Try.checked os 4 .any (Rows.fnExactCoinsForSpec.pre6 enc Try.prog Try.f4 Rows.fnExactCoinsForRow.domain false) (Rows.fnExactCoinsForSpec.post enc Try.prog Try.f4 false true false false) := by
  refine returnsInHanded_of_change_sized (C := Try.checked) own started (by kernel_rfl) Try.func4
    (ChangeSpec.witness6 (enc := enc) (C := Try.checked) false ⟨#[], #[.int .i64 0], []⟩ 8 (by kernel_rfl) (by kernel_rfl) (by kernel_rfl) (by kernel_rfl)) ?_
  intro W base args ds gs before hval0 hW hcnd hsz _
  have hval : ∀ (j : Nat) t v, Try.f4.params[j]? = some t → args[j]? = some v → Value.okWide Try.prog W .any base t v := hval0
  have hW' := hW
  obtain ⟨p, q, hA0, hV, rfl, hfz, hnd⟩ := hW
  have hA : DataW.TrodAll enc Try.prog W 0 (fun _ => true) true Try.f4.params.toList args.toList ds p := hA0
  rw [Try.params4] at hA hval
  obtain ⟨v0, vs0, d0, ds0, p0, s0, hargs, rfl, rfl, h0, q0⟩ := trodAll_cons hA
  obtain ⟨rfl, rfl, rfl⟩ := trodAll_nil q0
  obtain rfl : args = #[v0] := by cases args; simp_all
  obtain ⟨a0, rfl, _, _, w0⟩ := open_int Try.underlying2 (hval 0 2 v0 rfl rfl) h0
  have r0 := i64_bd w0
  exact (walk_FnExactCoinsFor W r0).mono fun e W' hh => ⟨_, hh.1, law_post (f := Try.f4) (s := Rows.fnExactCoinsForSpec) (T := 4) (by kernel_rfl) (of_decide_eq_true (by kernel_rfl)) rfl rfl Try.underlying4 rfl hW' hh.2⟩
theorem proved : Rows.FnExactCoinsForSaid :=
  OpenClaim.holds_of_wide 4 Try.f4 rfl rfl rfl rfl rfl rfl rfl ⟨rfl, rfl, rfl, rfl, rfl⟩ rfl rfl rfl rfl rfl (by kernel_rfl) Try.func4 (by kernel_rfl)
    (of_decide_eq_true (by kernel_rfl)) (by unfold Func.isWrapper; first | (rw [if_pos (by decide +kernel)]; kernel_rfl) | (rw [if_neg (by decide +kernel)]; exact ⟨rfl, rfl⟩))
    (fun os started H enc _ => lifted os started H enc)
end fnExactCoinsFor
#print axioms fnExactCoinsFor.proved
end Go.Proofs.Ytifcgamiimddeaa
