/- The law 'the program's OperatorsText returns what the reference's returns'. The condition: the table of names lies as the program's text lays it. -/
import Derived.Test.YtfojfcmjoacbgaaDoorOpT2
import Derived.Test.YtfojfcmjoacbgaaDoorLaw
import Derived.Test.YtfojfcmjoacbgaaDoorTie
import Derived.Test.YtfojfcmjoacbgaaDoorCards
namespace Go.Proofs.YtfojfcmjoacbgaaDoor
open Go.ChangeShapes Go.WideShapes Go.ChangeAt Go.RowKit
set_option linter.unusedVariables false
set_option maxRecDepth 100000
set_option maxHeartbeats 1000000 in
theorem walk1_FnExactOperatorsText (w : World) {x0 : List OperatorT} {r0 : ByteArray} {v0 : Value} (a0 : RdOperatorS w.heap.size w v0 x0) 
    (hS : ∀ (wz : World), Below w.heap.size w wz → ∀ (B0 : Nat) (v0 : Value), B0 ≤ wz.heap.size → RdOperatorS B0 wz v0 x0 → Calls Tryd.prog 10 #[v0] wz fun e w' => e = .returned (.string r0) ∧ Below wz.heap.size wz w')
    (hI : ∀ (wz : World), Below w.heap.size w wz → ∀ (B0 : Nat) (v0 : Value), B0 ≤ wz.heap.size → RdOperatorS B0 wz v0 x0 → Calls Tryd.prog 12 #[v0] wz fun e w' => e = .returned (.string r0) ∧ Below wz.heap.size wz w') (c0 : szOperatorS x0 ≤ 1048576) :
    Calls Tryd.prog 4 #[v0] w fun e w' => e = .returned (.bool true) ∧ Below w.heap.size w w' := by
  have hB0 : Below w.heap.size w w := Below.refl _ _
  have C0 := Lib.hid c0
  have N0 := Lib.hid (szOperatorS_nonneg x0)
  clear c0
  go_enter Tryd.func4, Tryd.ntmps4
  go_wp2_with fail
  refine (szOperatorS_c a0 (by omega) C0.out).mono ?_
  rintro e w1 ⟨rfl, hb1⟩
  have hs1 : w.heap.size ≤ w1.heap.size := hb1.size
  have hB1 : Below w.heap.size w w1 := hB0.trans (hb1.mono hB0.size)
  replace a0 := a0.below hb1 (by omega)
  have L0 := C0.out
  go_wp2_with fail
  refine (toOperatorS_c a0 (by have := C0.out; have := N0.out; omega)).mono ?_
  rintro e w2 ⟨vt1_0, rfl, t1_0, hb2⟩
  have hs2 : w1.heap.size ≤ w2.heap.size := hb2.size
  have hB2 : Below w.heap.size w w2 := hB1.trans (hb2.mono hB1.size)
  replace a0 := a0.below hb2 (by omega)
  have rt1_0 := t1_0.rds
  clear t1_0
  go_wp2_with fail
  refine (hS w2 hB2 _ _ (by omega) rt1_0).mono ?_
  rintro e w3 ⟨rfl, hb3⟩
  have hs3 : w2.heap.size ≤ w3.heap.size := hb3.size
  have hB3 : Below w.heap.size w w3 := hB2.trans (hb3.mono hB2.size)
  replace a0 := a0.below hb3 (by omega)
  replace rt1_0 := rt1_0.below hb3 (by omega)
  go_wp2_with fail
  refine (toOperatorS_c a0 (by have := C0.out; have := N0.out; omega)).mono ?_
  rintro e w4 ⟨Vx0, rfl, ox0, hb4⟩
  have hs4 : w3.heap.size ≤ w4.heap.size := hb4.size
  have hB4 : Below w.heap.size w w4 := hB3.trans (hb4.mono hB3.size)
  replace a0 := a0.below hb4 (by omega)
  replace rt1_0 := rt1_0.below hb4 (by omega)
  replace ox0 := ox0.top
  have rx0 := ox0.rds
  go_wp2_with fail
  refine (hI w4 hB4 _ _ (by omega) rx0).mono ?_
  rintro e w5 ⟨rfl, hb5⟩
  have hs5 : w4.heap.size ≤ w5.heap.size := hb5.size
  have hB5 : Below w.heap.size w w5 := hB4.trans (hb5.mono hB4.size)
  replace a0 := a0.below hb5 (by omega)
  replace rt1_0 := rt1_0.below hb5 (by omega)
  replace rx0 := rx0.below hb5 (by omega)
  replace ox0 := ox0.below hb5 (by omega)
  go_wp2_with fail
  refine (toOperatorS_c a0 (by have := C0.out; have := N0.out; omega)).mono ?_
  rintro e w6 ⟨vt5_9, rfl, t5_9, hb6⟩
  have hs6 : w5.heap.size ≤ w6.heap.size := hb6.size
  have hB6 : Below w.heap.size w w6 := hB5.trans (hb6.mono hB5.size)
  replace a0 := a0.below hb6 (by omega)
  replace rt1_0 := rt1_0.below hb6 (by omega)
  replace rx0 := rx0.below hb6 (by omega)
  replace ox0 := ox0.below hb6 (by omega)
  have rt5_9 := t5_9.rds
  clear t5_9
  go_wp2_with fail
  refine (eqOperatorS_c rx0 rt5_9).mono ?_
  rintro e w7 ⟨rfl, hb7⟩
  have hs7 : w6.heap.size ≤ w7.heap.size := hb7.size
  have hB7 : Below w.heap.size w w7 := hB6.trans (hb7.mono hB6.size)
  replace a0 := a0.below hb7 (by omega)
  replace rt1_0 := rt1_0.below hb7 (by omega)
  replace rx0 := rx0.below hb7 (by omega)
  replace ox0 := ox0.below hb7 (by omega)
  replace rt5_9 := rt5_9.below hb7 (by omega)
  go_wp2
  go_ret
  exact ⟨rfl, hB7⟩
theorem walk0_FnExactOperatorsText (w : World) {x0 : List OperatorT} {r0 : ByteArray} {v0 : Value} (a0 : RdOperatorS w.heap.size w v0 x0) 
    (hS : (szOperatorS x0 ≤ 1048576) → ∀ (wz : World), Below w.heap.size w wz → ∀ (B0 : Nat) (v0 : Value), B0 ≤ wz.heap.size → RdOperatorS B0 wz v0 x0 → Calls Tryd.prog 10 #[v0] wz fun e w' => e = .returned (.string r0) ∧ Below wz.heap.size wz w')
    (hI : (szOperatorS x0 ≤ 1048576) → ∀ (wz : World), Below w.heap.size w wz → ∀ (B0 : Nat) (v0 : Value), B0 ≤ wz.heap.size → RdOperatorS B0 wz v0 x0 → Calls Tryd.prog 12 #[v0] wz fun e w' => e = .returned (.string r0) ∧ Below wz.heap.size wz w') :
    Calls Tryd.prog 4 #[v0] w fun e w' => e = .returned (.bool true) ∧ Below w.heap.size w w' := by
  by_cases c0 : szOperatorS x0 ≤ 1048576
  · have _t := True.intro
    exact walk1_FnExactOperatorsText w a0 (hS c0) (hI c0) c0
  · clear hS hI
    have C0 := Lib.hid c0
    clear c0
    go_enter Tryd.func4, Tryd.ntmps4
    go_wp2_with fail
    refine (szOperatorS_no a0 (by omega) (by have := C0.out; omega)).mono ?_
    rintro e w' ⟨rfl, hb0⟩
    go_wp2
    go_ret
    exact ⟨rfl, hb0⟩
theorem walk_FnExactOperatorsText (w : World) (hn : NamesAt w) {x0 : List OperatorT} {v0 : Value} (a0 : RdOperatorS w.heap.size w v0 x0) :
    Calls Tryd.prog 4 #[v0] w fun e w' => e = .returned (.bool true) ∧ Below w.heap.size w w' :=
  walk0_FnExactOperatorsText (r0 := OTV x0) w a0 (fun _ _ _ _ _ _ ha => sOperatorsText_c ha) (fun _ _ hB _ _ _ ha => OperatorsText_c (hn.below hB) ha)
namespace fnExactOperatorsText
theorem own : ownKnob Tryd.prog.godebug = none := by kernel_rfl
theorem door_met (os : Os) (args : Array Value) : laidMetH Tryd.prog Rows.fnExactOperatorsTextRow.laid ((World.doorLaid Tryd.prog 24 os).forCall (fun _ _ => 0) ⟨#[], args, []⟩).memory :=
  laidMetH_of_parts3 (fuel := 8) (laidMet_of_run' 8 (by kernel_rfl) (by kernel_rfl)) (by kernel_rfl) (by kernel_rfl)
set_option maxRecDepth 100000 in
theorem lifted (os : Os) (started : os.Started) (H : Type) (enc : TypeId × Value → H) :
    ReturnsInHanded {} Tryd.checked os 4 .any (fun w args => (Rows.fnExactOperatorsTextSpec.pre enc Tryd.prog Tryd.f4 [] false w args ∧ laidMetH Tryd.prog Rows.fnExactOperatorsTextRow.laid w) ∧ sizedMet enc Tryd.prog Tryd.f4 (OpenSpec.ofChange Rows.fnExactOperatorsTextSpec) false w args) (Rows.fnExactOperatorsTextSpec.post enc Tryd.prog Tryd.f4 false true false false) := by
  refine returnsInHanded_of_change_and (C := Tryd.checked) (X := fun w _ => laidMetH Tryd.prog Rows.fnExactOperatorsTextRow.laid w) (fun _ _ _ hh h => h.of_heap hh) own started (by kernel_rfl) Tryd.func4
    (ChangeSpec.witness_shaped (enc := enc) (C := Tryd.checked) (os := os) (X := fun w _ => laidMetH Tryd.prog Rows.fnExactOperatorsTextRow.laid w) false (World.doorLaid Tryd.prog 24 os) #[.slice none 0 0] 8 rfl (World.shaped_of_RefB (by kernel_rfl) (by kernel_rfl)) (by kernel_rfl) (by kernel_rfl) (by kernel_rfl) (door_met os _)) ?_
  intro W base args ds gs before hval0 hW _ _ hL _
  have hval : ∀ (j : Nat) t v, Tryd.f4.params[j]? = some t → args[j]? = some v → Value.okWide Tryd.prog W .any base t v := hval0
  have hW' := hW
  obtain ⟨p, q, hA0, hV, rfl, hfz, hnd⟩ := hW
  have hA : DataW.TrodAll enc Tryd.prog W 0 (fun _ => true) true Tryd.f4.params.toList args.toList ds p := hA0
  rw [Tryd.params4] at hA hval
  obtain ⟨v0, vs0, d0, ds0, p0, s0, hargs, rfl, rfl, h0, q0⟩ := trodAll_cons hA
  obtain ⟨rfl, rfl, rfl⟩ := trodAll_nil q0
  obtain rfl : args = #[v0] := by cases args; simp_all
  obtain ⟨x0, r0⟩ := openOperatorS (hval 0 24 v0 rfl rfl) h0
  obtain ⟨gv, tv, cv, fv, dv, pv, rfl, _⟩ := trodVars_one hV
  exact (walk_FnExactOperatorsText W (names_of1 hL) r0).mono fun e W' hh => ⟨_, hh.1, law_postV (f := Tryd.f4) (s := Rows.fnExactOperatorsTextSpec) (T := 4) (by kernel_rfl) (of_decide_eq_true (by kernel_rfl)) (by kernel_rfl) rfl Tryd.underlying4 rfl hW' hh.2⟩
theorem row_holds : Rows.FnExactOperatorsTextSaid :=
  OpenClaim.holds_of_wide 4 Tryd.f4 rfl rfl rfl rfl rfl rfl rfl ⟨rfl, rfl, rfl, rfl, rfl⟩ rfl rfl rfl rfl rfl (by kernel_rfl) Tryd.func4 (by kernel_rfl)
    (of_decide_eq_true (by kernel_rfl)) (by unfold Func.isWrapper; first | (rw [if_pos (by decide +kernel)]; kernel_rfl) | (rw [if_neg (by decide +kernel)]; exact ⟨rfl, rfl⟩))
    (fun os started H enc _ => lifted os started H enc)
theorem proved : Rows.FnExactOperatorsTextCardSaid :=
  Claim7.holds_tied_plain_at .later [] [.widerDeep] true (true, "df23d3e588466ae55218c06e354f05847a2902e31ee36944d59f37db580f0d21") false
    row_holds (fun _ h => by cases h) (by kernel_rfl) (fun _ h => by cases h) fnExactOperatorsText_row_tie rfl ⟨rfl, rfl⟩ (by kernel_rfl) rfl
    (fun f fn hf hfn => by
      obtain rfl : f = 4 := Option.some.inj ((show Tryd.prog.funcNamed "loop.example/g01012/laws.FnExactOperatorsText" = some 4 by kernel_rfl).symm.trans hf) |>.symm
      obtain rfl : fn = Tryd.f4 := (Option.some.inj (Tryd.func4.symm.trans hfn)).symm
      exact ⟨by kernel_rfl, fun j t ht => by
        rw [Tryd.params4] at ht
        have hm : t ∈ [24] := by simpa using Array.mem_of_getElem? ht
        have hall : ([24].all fun u => !Tryd.prog.wantsStandIn u) = true := by kernel_rfl
        exact (show Tryd.prog.wantsStandIn t = false by simpa using List.all_eq_true.1 hall t hm)⟩)
    (by kernel_rfl)
end fnExactOperatorsText
#print axioms fnExactOperatorsText.proved
end Go.Proofs.YtfojfcmjoacbgaaDoor
