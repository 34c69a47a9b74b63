/- The law 'the program's ClassOf returns what the reference's returns'. No condition. -/
import Derived.Test.YtifcgamiimddeaaClass
import Derived.Test.YtifcgamiimddeaaLaw
namespace Go.Proofs.Ytifcgamiimddeaa
open Go.ChangeShapes Go.WideShapes Go.ChangeAt Go.RowKit
set_option linter.unusedVariables false
theorem walk1_FnExactClassOf (w : World) {x0 : List Int} {x1 : Int} {r0 : Int} {r1 : Int} {v0 : Value} (a0 : RdInt64S w.heap.size w v0 x0) (a1 : okInt64 x1) 
    (hS : ∀ (w : World), ∀ (B0 : Nat) (v0 : Value), RdInt64S B0 w v0 x0 → Calls Try.prog 15 #[v0, .int .i64 x1] w fun e w' => e = .returned (.tuple #[.int .i64 r0, .int .i64 r1]) ∧ Below w.heap.size w w')
    (hI : ∀ (w : World), ∀ (B0 : Nat) (v0 : Value), RdInt64S B0 w v0 x0 → Calls Try.prog 17 #[v0, .int .i64 x1] w fun e w' => e = .returned (.tuple #[.int .i64 r0, .int .i64 r1]) ∧ Below w.heap.size w w') (c0 : x0.length ≤ 1048576) :
    Calls Try.prog 5 #[v0, .int .i64 x1] w fun e w' => e = .returned (.bool true) ∧ Below w.heap.size w w' := by
  have hB0 : Below w.heap.size w w := Below.refl _ _
  obtain ⟨ao0, cap0, rfl⟩ := a0.shape
  have C0 := Lib.hid c0
  go_enter Try.func5, Try.ntmps5
  go_wp2_with fail
  refine (toInt64S_c a0 (by have := C0.out; show (x0.length : Int) ≤ 1048576; omega)).mono ?_
  rintro e w1 ⟨vt0_0, rfl, t0_0, hb1⟩
  have hs1 : w.heap.size ≤ w1.heap.size := hb1.size
  have hB1 : Below w.heap.size w w1 := hB0.trans (hb1.mono hB0.size)
  replace a0 := a0.below hb1 (by omega)
  have rt0_0 := t0_0.rds
  clear t0_0
  go_wp2_with fail
  refine (hS w1 _ _ rt0_0).mono ?_
  rintro e w2 ⟨rfl, hb2⟩
  have hs2 : w1.heap.size ≤ w2.heap.size := hb2.size
  have hB2 : Below w.heap.size w w2 := hB1.trans (hb2.mono hB1.size)
  replace a0 := a0.below hb2 (by omega)
  replace rt0_0 := rt0_0.below hb2 (by omega)
  go_wp2_with fail
  refine (toInt64S_c a0 (by have := C0.out; show (x0.length : Int) ≤ 1048576; omega)).mono ?_
  rintro e w3 ⟨Vx0, rfl, ox0, hb3⟩
  have hs3 : w2.heap.size ≤ w3.heap.size := hb3.size
  have hB3 : Below w.heap.size w w3 := hB2.trans (hb3.mono hB2.size)
  replace a0 := a0.below hb3 (by omega)
  replace rt0_0 := rt0_0.below hb3 (by omega)
  have rx0 := ox0.rds
  go_wp2_with fail
  refine (hI w3 _ _ rx0).mono ?_
  rintro e w4 ⟨rfl, hb4⟩
  have hs4 : w3.heap.size ≤ w4.heap.size := hb4.size
  have hB4 : Below w.heap.size w w4 := hB3.trans (hb4.mono hB3.size)
  replace a0 := a0.below hb4 (by omega)
  replace rt0_0 := rt0_0.below hb4 (by omega)
  replace rx0 := rx0.below hb4 (by omega)
  replace ox0 := ox0.below hb4 (Nat.le_refl _)
  go_wp2_with fail
  refine (toInt64S_c a0 (by have := C0.out; show (x0.length : Int) ≤ 1048576; omega)).mono ?_
  rintro e w5 ⟨vt4_9, rfl, t4_9, hb5⟩
  have hs5 : w4.heap.size ≤ w5.heap.size := hb5.size
  have hB5 : Below w.heap.size w w5 := hB4.trans (hb5.mono hB4.size)
  replace a0 := a0.below hb5 (by omega)
  replace rt0_0 := rt0_0.below hb5 (by omega)
  replace rx0 := rx0.below hb5 (by omega)
  replace ox0 := ox0.below hb5 (Nat.le_refl _)
  have rt4_9 := t4_9.rds
  clear t4_9
  go_wp2_with fail
  refine (eqInt64S_c rx0 rt4_9).mono ?_
  rintro e w6 ⟨rfl, hb6⟩
  have hs6 : w5.heap.size ≤ w6.heap.size := hb6.size
  have hB6 : Below w.heap.size w w6 := hB5.trans (hb6.mono hB5.size)
  replace a0 := a0.below hb6 (by omega)
  replace rt0_0 := rt0_0.below hb6 (by omega)
  replace rx0 := rx0.below hb6 (by omega)
  replace ox0 := ox0.below hb6 (Nat.le_refl _)
  replace rt4_9 := rt4_9.below hb6 (by omega)
  go_wp2
  go_ret
  exact ⟨rfl, hB6⟩
theorem walk0_FnExactClassOf (w : World) {x0 : List Int} {x1 : Int} {r0 : Int} {r1 : Int} {v0 : Value} (a0 : RdInt64S w.heap.size w v0 x0) (a1 : okInt64 x1) 
    (hS : ∀ (w : World), ∀ (B0 : Nat) (v0 : Value), RdInt64S B0 w v0 x0 → Calls Try.prog 15 #[v0, .int .i64 x1] w fun e w' => e = .returned (.tuple #[.int .i64 r0, .int .i64 r1]) ∧ Below w.heap.size w w')
    (hI : ∀ (w : World), ∀ (B0 : Nat) (v0 : Value), RdInt64S B0 w v0 x0 → Calls Try.prog 17 #[v0, .int .i64 x1] w fun e w' => e = .returned (.tuple #[.int .i64 r0, .int .i64 r1]) ∧ Below w.heap.size w w') :
    Calls Try.prog 5 #[v0, .int .i64 x1] w fun e w' => e = .returned (.bool true) ∧ Below w.heap.size w w' := by
  by_cases c0 : x0.length ≤ 1048576
  · have _t := True.intro
    exact walk1_FnExactClassOf w a0 a1 hS hI c0
  · clear hS hI
    obtain ⟨ao0, cap0, rfl⟩ := a0.shape
    go_enter Try.func5, Try.ntmps5
    go_wp2
    go_ret
    exact ⟨rfl, Below.refl _ _⟩
theorem walk_FnExactClassOf (w : World) {x0 : List Int} {x1 : Int} {v0 : Value} (a0 : RdInt64S w.heap.size w v0 x0) (a1 : okInt64 x1) :
    Calls Try.prog 5 #[v0, .int .i64 x1] w fun e w' => e = .returned (.bool true) ∧ Below w.heap.size w w' :=
  walk0_FnExactClassOf w a0 a1 (fun w A v h => sClassOf_c x1 w A v h) (fun w A v h => ClassOf_c x1 w A v h)
namespace fnExactClassOf
theorem own : ownKnob Try.prog.godebug = none := by kernel_rfl
set_option maxRecDepth 100000 in
theorem lifted (os : Os) (started : os.Started) (H : Type) (enc : TypeId × Value → H) :
    ReturnsInHanded {} Try.checked os 5 .any (Rows.fnExactClassOfSpec.pre6 enc Try.prog Try.f5 Rows.fnExactClassOfRow.domain false) (Rows.fnExactClassOfSpec.post enc Try.prog Try.f5 false true false false) := by
  refine returnsInHanded_of_change_sized (C := Try.checked) own started (by kernel_rfl) Try.func5
    (ChangeSpec.witness6 (enc := enc) (C := Try.checked) false ⟨#[], #[.slice none 0 0, .int .i64 0], []⟩ 8 (by kernel_rfl) (by kernel_rfl) (by kernel_rfl) (by kernel_rfl)) ?_
  intro W base args ds gs before hval0 hW hcnd hsz _
  have hval : ∀ (j : Nat) t v, Try.f5.params[j]? = some t → args[j]? = some v → Value.okWide Try.prog W .any base t v := hval0
  have hW' := hW
  obtain ⟨p, q, hA0, hV, rfl, hfz, hnd⟩ := hW
  have hA : DataW.TrodAll enc Try.prog W 0 (fun _ => true) true Try.f5.params.toList args.toList ds p := hA0
  rw [Try.params5] at hA hval
  obtain ⟨v0, vs0, d0, ds0, p0, s0, hargs, rfl, rfl, h0, q0⟩ := trodAll_cons hA
  obtain ⟨v1, vs1, d1, ds1, p1, s1, rfl, rfl, rfl, h1, q1⟩ := trodAll_cons q0
  obtain ⟨rfl, rfl, rfl⟩ := trodAll_nil q1
  obtain rfl : args = #[v0, v1] := by cases args; simp_all
  obtain ⟨x0, r0, _⟩ := open_rdI Try.underlying25 Try.underlying2 (by kernel_rfl) (hval 0 25 v0 rfl rfl) h0
  obtain ⟨a1, rfl, _, _, w1⟩ := open_int Try.underlying2 (hval 1 2 v1 rfl rfl) h1
  have r1 := i64_bd w1
  exact (walk_FnExactClassOf W r0 r1).mono fun e W' hh => ⟨_, hh.1, law_post (f := Try.f5) (s := Rows.fnExactClassOfSpec) (T := 4) (by kernel_rfl) (of_decide_eq_true (by kernel_rfl)) rfl rfl Try.underlying4 rfl hW' hh.2⟩
theorem proved : Rows.FnExactClassOfSaid :=
  OpenClaim.holds_of_wide 5 Try.f5 rfl rfl rfl rfl rfl rfl rfl ⟨rfl, rfl, rfl, rfl, rfl⟩ rfl rfl rfl rfl rfl (by kernel_rfl) Try.func5 (by kernel_rfl)
    (of_decide_eq_true (by kernel_rfl)) (by unfold Func.isWrapper; first | (rw [if_pos (by decide +kernel)]; kernel_rfl) | (rw [if_neg (by decide +kernel)]; exact ⟨rfl, rfl⟩))
    (fun os started H enc _ => lifted os started H enc)
end fnExactClassOf
#print axioms fnExactClassOf.proved
end Go.Proofs.Ytifcgamiimddeaa
