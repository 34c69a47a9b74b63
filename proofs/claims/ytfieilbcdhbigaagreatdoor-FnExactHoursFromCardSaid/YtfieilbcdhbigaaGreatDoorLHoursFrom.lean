/- The law 'the program's HoursFrom returns what the reference's returns': the tied card. The conditions are the card's own: the listed variables lie as the program's text lays them. -/
import Derived.Test.YtfieilbcdhbigaaGreatDoorHrsS
import Derived.Test.YtfieilbcdhbigaaGreatDoorLayC
namespace Go.Proofs.YtfieilbcdhbigaaGreatDoor
open Go.ChangeShapes Go.WideShapes Go.ChangeAt Go.RowKit
set_option linter.unusedVariables false
set_option maxRecDepth 100000
set_option maxHeartbeats 2000000 in
theorem walk_FnExactHoursFrom (w : World) {xs : List ItemT} {d : List (List Int)} {lv dv : Value} (wd : Int) (nm : ByteArray) (hn : nm.size ≤ 9223372036854775807) (a0 : RdItemS w.heap.size w lv xs) (a1 : RdCardS w.heap.size w dv d) :
    Calls Tryz.prog 3 #[.agg #[.int .i64 wd, lv], dv, .string nm] w fun e w' => e = .returned (.bool true) ∧ Below w.heap.size w w' := by
  obtain ⟨lo, lcap, rfl⟩ := a0.shape
  obtain ⟨dao, dcap, rfl⟩ := a1.shape
  obtain ⟨n, hnn⟩ : ∃ n, n = xs.length := ⟨_, rfl⟩
  obtain ⟨m, hmm⟩ : ∃ m, m = d.length := ⟨_, rfl⟩
  rw [← hnn] at a0 ⊢
  rw [← hmm] at a1 ⊢
  clear hnn hmm
  obtain ⟨W, hW⟩ : ∃ W, W = w.alloc (.cells #[.int .i64 wd, .slice lo n lcap] 24) := ⟨_, rfl⟩
  have hb0 : Below w.heap.size w W := by rw [hW]; exact (Below.refl _ _).alloc (Nat.le_refl _) _
  have hA : Box W w.heap.size [.int .i64 wd, .slice lo n lcap] := by rw [hW]; exact Box.new w [.int .i64 wd, .slice lo n lcap] 24
  have BA := Lib.hid hA
  have RA := Lib.hid (Rds.onn a0 hb0)
  have RD := Lib.hid (RdInt64SS.onn a1 hb0)
  have HB := Lib.hid hb0
  have HW := Lib.hid hW
  clear a0 a1 hb0 hA hW
  by_cases hl : nm.size ≤ 1048576
  case neg =>
    go_enter Tryz.func3, Tryz.ntmps3
    go_wp2
    go_ret
    rw [← HW.out]
    exact ⟨rfl, HB.out⟩
  have p0 := BA.out.cell 0 _ rfl
  have p1 := BA.out.cell 1 _ rfl
  by_cases c0 : szItemS xs ≤ 1048576
  case neg =>
    go_enter Tryz.func3, Tryz.ntmps3
    go_wp2_with fail
    rw [← HW.out]
    with_reducible refine (szLayout_no (wd := wd) RA.out ⟨by omega, by omega⟩ (by omega)).mono ?_
    rintro e w1 ⟨rfl, hb⟩
    go_wp2
    go_ret
    exact ⟨rfl, HB.out.trans (hb.mono HB.out.size)⟩
  have h0 := szItemS_nonneg xs
  have C0 := Lib.hid c0
  have N0 := Lib.hid h0
  by_cases c1 : szCardS d ≤ 1048576 - szItemS xs
  case neg =>
    have C1 := Lib.hid c1
    clear c1
    go_enter Tryz.func3, Tryz.ntmps3
    go_wp2_with fail
    rw [← HW.out]
    with_reducible refine (szLayout_c (wd := wd) RA.out (by omega) C0.out).mono ?_
    rintro e w1 ⟨rfl, hb⟩
    replace RD := Lib.hid (RdInt64SS.onn RD.out hb)
    replace HB := Lib.hid (HB.out.trans (hb.mono HB.out.size))
    clear hb p0 p1
    go_wp2_with fail
    with_reducible refine (szCardS_no RD.out ⟨by have := C0.out; have := N0.out; omega, by have := C0.out; have := N0.out; omega⟩ (by have := C1.out; omega)).mono ?_
    rintro e w2 ⟨rfl, hb⟩
    go_wp2
    go_ret
    exact ⟨rfl, HB.out.trans (hb.mono HB.out.size)⟩
  have C1 := Lib.hid c1
  have h1 := szCardS_nonneg d
  have N1 := Lib.hid h1
  have lt1 : ¬ 1048576 - szItemS xs < 0 := by omega
  have lt2 : ¬ 1048576 - szItemS xs - szCardS d < 0 := by omega
  clear c0 c1 h0 h1
  go_enter Tryz.func3, Tryz.ntmps3
  go_wp2_with fail
  rw [← HW.out]
  with_reducible refine (szLayout_c (wd := wd) RA.out (by omega) C0.out).mono ?_
  rintro e w1 ⟨rfl, hb⟩
  replace BA := Lib.hid (Box.on BA.out hb)
  replace RA := Lib.hid (Rds.onn RA.out hb)
  replace RD := Lib.hid (RdInt64SS.onn RD.out hb)
  replace HB := Lib.hid (HB.out.trans (hb.mono HB.out.size))
  clear hb
  clear p0 p1
  go_wp2_with fail
  with_reducible refine (szCardS_c RD.out (by have := N0.out; omega) C1.out).mono ?_
  rintro e w2 ⟨rfl, hb⟩
  replace BA := Lib.hid (Box.on BA.out hb)
  replace RA := Lib.hid (Rds.onn RA.out hb)
  replace RD := Lib.hid (RdInt64SS.onn RD.out hb)
  replace HB := Lib.hid (HB.out.trans (hb.mono HB.out.size))
  clear hb
  have c_BA0 := BA.out.cell 0 _ rfl
  have c_BA1 := BA.out.cell 1 _ rfl
  clear lt1
  go_wp2_with fail
  with_reducible refine (toLayout_c (wd := wd) RA.out C0.out).mono ?_
  rintro e w3 ⟨u1, rfl, o1, hb⟩
  replace BA := Lib.hid (Box.on BA.out hb)
  replace RA := Lib.hid (Rds.onn RA.out hb)
  replace RD := Lib.hid (RdInt64SS.onn RD.out hb)
  replace HB := Lib.hid (HB.out.trans (hb.mono HB.out.size))
  clear hb
  have R1 := Lib.hid (Own.rds o1)
  clear o1 c_BA0 c_BA1
  go_wp2_with fail
  with_reducible refine (toCardS_c RD.out (by have := N0.out; have := C1.out; omega)).mono ?_
  rintro e w4 ⟨u2, rfl, o2, hb⟩
  replace BA := Lib.hid (Box.on BA.out hb)
  replace RA := Lib.hid (Rds.onn RA.out hb)
  replace RD := Lib.hid (RdInt64SS.onn RD.out hb)
  replace R1 := Lib.hid (Rds.onn R1.out hb)
  replace HB := Lib.hid (HB.out.trans (hb.mono HB.out.size))
  clear hb
  have R2 := Lib.hid (OwnCardS.rds o2)
  clear o2
  go_wp2_with fail
  with_reducible refine (sHoursFrom_c wd nm hn R1.out R2.out).mono ?_
  rintro e w5 ⟨rfl, hb⟩
  replace BA := Lib.hid (Box.on BA.out hb)
  replace RA := Lib.hid (Rds.onn RA.out hb)
  replace RD := Lib.hid (RdInt64SS.onn RD.out hb)
  replace R1 := Lib.hid (Rds.onn R1.out hb)
  replace R2 := Lib.hid (RdInt64SS.onn R2.out hb)
  replace HB := Lib.hid (HB.out.trans (hb.mono HB.out.size))
  clear hb
  clear R1 R2
  have c_BA0 := BA.out.cell 0 _ rfl
  have c_BA1 := BA.out.cell 1 _ rfl
  go_wp2_with fail
  with_reducible refine (toLayout_c (wd := wd) RA.out C0.out).mono ?_
  rintro e w6 ⟨u3, rfl, o3, hb⟩
  replace BA := Lib.hid (Box.on BA.out hb)
  replace RA := Lib.hid (Rds.onn RA.out hb)
  replace RD := Lib.hid (RdInt64SS.onn RD.out hb)
  replace HB := Lib.hid (HB.out.trans (hb.mono HB.out.size))
  clear hb
  have R3 := Lib.hid (Own.rds o3)
  obtain ⟨uo3, uc3, rfl⟩ := o3.shape
  clear o3 c_BA0 c_BA1
  obtain ⟨W6, hW6⟩ : ∃ W6, W6 = w6.alloc (.cells #[.int .i64 wd, .slice uo3 xs.length uc3] 32) := ⟨_, rfl⟩
  have hb6 : Below w6.heap.size w6 W6 := by rw [hW6]; exact (Below.refl _ _).alloc (Nat.le_refl _) _
  have hX : Box W6 w6.heap.size [.int .i64 wd, .slice uo3 xs.length uc3] := by rw [hW6]; exact Box.new w6 [.int .i64 wd, .slice uo3 xs.length uc3] 32
  replace BA := Lib.hid (Box.on BA.out hb6)
  replace RA := Lib.hid (Rds.onn RA.out hb6)
  replace RD := Lib.hid (RdInt64SS.onn RD.out hb6)
  replace R3 := Lib.hid (Rds.onn R3.out hb6)
  replace HB := Lib.hid (HB.out.trans (hb6.mono HB.out.size))
  have BX := Lib.hid hX
  have HW6 := Lib.hid hW6
  clear hb6 hX hW6
  go_wp2_with fail
  rw [← HW6.out]
  with_reducible refine (toCardS_c RD.out (by have := N0.out; have := C1.out; omega)).mono ?_
  rintro e w7 ⟨u4, rfl, o4, hb⟩
  replace BA := Lib.hid (Box.on BA.out hb)
  replace RA := Lib.hid (Rds.onn RA.out hb)
  replace RD := Lib.hid (RdInt64SS.onn RD.out hb)
  replace R3 := Lib.hid (Rds.onn R3.out hb)
  replace BX := Lib.hid (Box.on BX.out hb)
  replace HB := Lib.hid (HB.out.trans (hb.mono HB.out.size))
  clear hb
  have R4 := Lib.hid (OwnCardS.rds o4)
  clear o4
  have c_BX0 := BX.out.cell 0 _ rfl
  have c_BX1 := BX.out.cell 1 _ rfl
  go_wp2_with fail
  with_reducible refine (HoursFrom_c wd nm hn R3.out R4.out).mono ?_
  rintro e w8 ⟨rfl, hb⟩
  replace BA := Lib.hid (Box.on BA.out hb)
  replace RA := Lib.hid (Rds.onn RA.out hb)
  replace RD := Lib.hid (RdInt64SS.onn RD.out hb)
  replace R3 := Lib.hid (Rds.onn R3.out hb)
  replace BX := Lib.hid (Box.on BX.out hb)
  replace R4 := Lib.hid (RdInt64SS.onn R4.out hb)
  replace HB := Lib.hid (HB.out.trans (hb.mono HB.out.size))
  clear hb
  clear c_BX0 c_BX1
  obtain ⟨g0, hg0⟩ : ∃ g, g = hoursV wd xs d nm := ⟨_, rfl⟩
  obtain ⟨g1, hg1⟩ : ∃ g, g = hoursC wd xs d nm := ⟨_, rfl⟩
  rw [← hg0, ← hg1]
  clear hg0 hg1
  go_upto_region 16 with fail
  have x0 := BX.out.cell 0 _ rfl
  have x1 := BX.out.cell 1 _ rfl
  have y0 := BA.out.cell 0 _ rfl
  have y1 := BA.out.cell 1 _ rfl
  have xl := BX.out.lt
  have yl := BA.out.lt
  refine wp_region_below (fun i v w => match i with | 0 => v = .agg #[.int .i64 wd, .slice uo3 xs.length uc3] | 1 => v = .agg #[.int .i64 wd, .slice lo n lcap] | 2 => ∃ u, v = .agg #[.int .i64 wd, u] ∧ RdItemS w.heap.size w u xs | 3 => v = .bool true | 4 => v = .bool false | _ => True) (by kernel_rfl) (by kernel_rfl) (by kernel_rfl) ?_ ?_ ?_
  · intro i v w w' h hb
    match i, h with
    | 0, h => exact h
    | 1, h => exact h
    | 2, h => obtain ⟨u, h1, h2⟩ := h; exact ⟨u, h1, Rds.onn h2 hb⟩
    | 3, h => exact h
    | 4, h => exact h
    | (_ + 5), h => exact h
  · intro vs hvs
    match vs, hvs with
    | [v0, v1, v2, v3, v4], _ =>
      refine ⟨?_, ?_, ?_, ?_, ?_, trivial⟩
      · intro wr hC hd
        clear hd
        have e0 := (hC.cell (p := ⟨w6.heap.size, 0, none⟩) xl).trans x0
        have e1 := (hC.cell (p := ⟨w6.heap.size, 1, none⟩) xl).trans x1
        unfold relAt
        simp only [putAll]
        go_simp
        simp only [relUpon]
        exact ⟨Below.refl _ _, by first | rfl | trivial⟩
      · intro wr hC hd
        clear hd
        have e0 := (hC.cell (p := ⟨w.heap.size, 0, none⟩) yl).trans y0
        have e1 := (hC.cell (p := ⟨w.heap.size, 1, none⟩) yl).trans y1
        unfold relAt
        simp only [putAll]
        go_simp
        simp only [relUpon]
        exact ⟨Below.refl _ _, by first | rfl | trivial⟩
      · intro wr hC hd
        have d1 : v1 = .agg #[.int .i64 wd, .slice lo n lcap] := by first | exact hd.1 rfl | exact hd.2.1 rfl | exact hd.2.2.1 rfl | exact hd.2.2.2.1 rfl | exact hd.2.2.2.2.1 rfl | exact hd.2.2.2.2.2.1 rfl | exact hd.2.2.2.2.2.2.1 rfl | exact hd.2.2.2.2.2.2.2.1 rfl | exact hd.2.2.2.2.2.2.2.2.1 rfl | exact hd.2.2.2.2.2.2.2.2.2.1 rfl
        subst d1
        clear hd
        unfold relAt
        simp only [putAll]
        go_simp
        simp only [relUpon]
        with_reducible refine (toLayout_c (wd := wd) (Rds.onn RA.out hC) C0.out).mono ?_
        rintro e w9 ⟨u9, rfl, o9, hb9⟩
        exact ⟨_, rfl, hb9, u9, rfl, Own.rds o9⟩
      · intro wr hC hd
        have d0 : v0 = .agg #[.int .i64 wd, .slice uo3 xs.length uc3] := by first | exact hd.1 rfl | exact hd.2.1 rfl | exact hd.2.2.1 rfl | exact hd.2.2.2.1 rfl | exact hd.2.2.2.2.1 rfl | exact hd.2.2.2.2.2.1 rfl | exact hd.2.2.2.2.2.2.1 rfl | exact hd.2.2.2.2.2.2.2.1 rfl | exact hd.2.2.2.2.2.2.2.2.1 rfl | exact hd.2.2.2.2.2.2.2.2.2.1 rfl
        subst d0
        have d2 : ∃ u, v2 = .agg #[.int .i64 wd, u] ∧ RdItemS wr.heap.size wr u xs := by first | exact hd.1 rfl | exact hd.2.1 rfl | exact hd.2.2.1 rfl | exact hd.2.2.2.1 rfl | exact hd.2.2.2.2.1 rfl | exact hd.2.2.2.2.2.1 rfl | exact hd.2.2.2.2.2.2.1 rfl | exact hd.2.2.2.2.2.2.2.1 rfl | exact hd.2.2.2.2.2.2.2.2.1 rfl | exact hd.2.2.2.2.2.2.2.2.2.1 rfl
        clear hd
        obtain ⟨u9, rfl, h9⟩ := d2
        unfold relAt
        simp only [putAll]
        go_simp
        simp only [relUpon]
        with_reducible refine (eqLayout_c (wd := wd) (Rds.onn R3.out hC) h9).mono ?_
        rintro e w9 ⟨rfl, hb9⟩
        exact ⟨_, rfl, hb9, rfl⟩
      · intro wr hC hd
        have d3 : v3 = .bool true := by first | exact hd.1 rfl | exact hd.2.1 rfl | exact hd.2.2.1 rfl | exact hd.2.2.2.1 rfl | exact hd.2.2.2.2.1 rfl | exact hd.2.2.2.2.2.1 rfl | exact hd.2.2.2.2.2.2.1 rfl | exact hd.2.2.2.2.2.2.2.1 rfl | exact hd.2.2.2.2.2.2.2.2.1 rfl | exact hd.2.2.2.2.2.2.2.2.2.1 rfl
        subst d3
        clear hd
        unfold relAt
        simp only [putAll]
        go_simp
        simp only [relUpon]
        exact ⟨Below.refl _ _, by first | rfl | trivial⟩
  · intro vs wq hvs hC hI
    match vs, hvs, hI with
    | [v0, v1, v2, v3, v4], _, hI =>
      have d0 : v0 = .agg #[.int .i64 wd, .slice uo3 xs.length uc3] := hI 0 (by decide)
      subst d0
      have d1 : v1 = .agg #[.int .i64 wd, .slice lo n lcap] := hI 1 (by decide)
      subst d1
      have d2 : ∃ u, v2 = .agg #[.int .i64 wd, u] ∧ RdItemS wq.heap.size wq u xs := hI 2 (by decide)
      have d3 : v3 = .bool true := hI 3 (by decide)
      subst d3
      have d4 : v4 = .bool false := hI 4 (by decide)
      subst d4
      clear hI
      simp only [putAll]
      go_simp
      obtain ⟨u5, rfl, h5⟩ := d2
      replace RD := Lib.hid (RdInt64SS.onn RD.out hC)
      replace R4 := Lib.hid (RdInt64SS.onn R4.out hC)
      replace HB := Lib.hid (HB.out.trans (hC.mono HB.out.size))
      clear hC x0 x1 y0 y1 xl yl h5
      go_wp2_with fail
      with_reducible refine (toCardS_c RD.out (by have := N0.out; have := C1.out; omega)).mono ?_
      rintro e w21 ⟨u6, rfl, o6, hb⟩
      have R6 := Lib.hid (OwnCardS.rds o6)
      replace R4 := Lib.hid (RdInt64SS.onn R4.out hb)
      replace HB := Lib.hid (HB.out.trans (hb.mono HB.out.size))
      clear o6 hb
      go_wp2_with fail
      with_reducible refine (eqCardS_c R4.out R6.out).mono ?_
      rintro e w22 ⟨rfl, hb⟩
      replace HB := Lib.hid (HB.out.trans (hb.mono HB.out.size))
      clear hb
      go_wp2
      go_ret
      exact ⟨rfl, HB.out⟩
namespace fnExactHoursFrom
theorem own : ownKnob Tryz.prog.godebug = none := by kernel_rfl
set_option maxRecDepth 100000 in
theorem lifted (os : Os) (started : os.Started) (H : Type) (enc : TypeId × Value → H) :
    ReturnsInHanded {} Tryz.checked os 3 .any (fun w args => (Rows.fnExactHoursFromSpec.pre enc Tryz.prog Tryz.f3 [] false w args ∧ laidMetH Tryz.prog Rows.fnExactHoursFromRow.laid w) ∧ sizedMet enc Tryz.prog Tryz.f3 (OpenSpec.ofChange Rows.fnExactHoursFromSpec) false w args) (Rows.fnExactHoursFromSpec.post enc Tryz.prog Tryz.f3 false true false false) := by
  refine returnsInHanded_of_change_and (C := Tryz.checked) (X := fun w _ => laidMetH Tryz.prog Rows.fnExactHoursFromRow.laid w) (fun _ _ _ hh h => h.of_heap hh) own started (by kernel_rfl) Tryz.func3
    (ChangeSpec.witness_shaped (enc := enc) (C := Tryz.checked) (os := os) (X := fun w _ => laidMetH Tryz.prog Rows.fnExactHoursFromRow.laid w) false (World.laidAll Tryz.prog os Rows.fnExactHoursFromRow.laid) #[.agg #[.int .i64 0, .slice none 0 0], .slice none 0 0, .string ⟨#[]⟩] 8 (World.laidAll_os _ _ _) (World.shaped_of_ZipB (by kernel_rfl) (by kernel_rfl)) (by kernel_rfl) (by kernel_rfl) (by kernel_rfl)
      (by rw [MakeChecks.laidMetH_plain _ _ _ (by kernel_rfl)]; exact laidMet_laidAll _ (by kernel_rfl) (by kernel_rfl))) ?_
  intro W base args ds gs before hval0 hW _ _ hL _
  have hval : ∀ (j : Nat) t v, Tryz.f3.params[j]? = some t → args[j]? = some v → Value.okWide Tryz.prog W .any base t v := hval0
  have hW' := hW
  obtain ⟨p, q, hA0, hV, rfl, hfz, hnd⟩ := hW
  have hA : DataW.TrodAll enc Tryz.prog W 0 (fun _ => true) true Tryz.f3.params.toList args.toList ds p := hA0
  rw [Tryz.params3] at hA hval
  obtain ⟨v0, vs0, d0, ds0, p0, s0, hargs, rfl, rfl, h0, q0⟩ := trodAll_cons hA
  obtain ⟨v1, vs1, d1, ds1, p1, s1, rfl, rfl, rfl, h1, q1⟩ := trodAll_cons q0
  obtain ⟨v2, vs2, d2, ds2, p2, s2, rfl, rfl, rfl, h2, q2⟩ := trodAll_cons q1
  obtain ⟨rfl, rfl, rfl⟩ := trodAll_nil q2
  obtain rfl : args = #[v0, v1, v2] := by cases args; simp_all
  obtain ⟨wd0, lv0, x0, rfl, wb0, r0⟩ := openLayout (hval 0 24 v0 rfl rfl) h0
  obtain ⟨x1, r1⟩ := openCardS (hval 1 25 v1 rfl rfl) h1
  obtain ⟨x2, rfl, _, _, hx2⟩ := Go.ChangeMaps.open_string Tryz.underlying9 (hval 2 9 v2 rfl rfl) h2
  have sz2 : x2.size ≤ 9223372036854775807 := by unfold maxLen at hx2; omega
  obtain ⟨rfl, rfl⟩ := trodVars_none hV
  exact (walk_FnExactHoursFrom W wd0 x2 sz2 r0 r1).mono fun e W' hh => ⟨_, hh.1, law_postV (f := Tryz.f3) (s := Rows.fnExactHoursFromSpec) (T := 4) (by kernel_rfl) (of_decide_eq_true (by kernel_rfl)) (by kernel_rfl) rfl Tryz.underlying4 rfl hW' hh.2⟩
theorem row_holds : Rows.FnExactHoursFromSaid :=
  OpenClaim.holds_of_wide 3 Tryz.f3 rfl rfl rfl rfl rfl rfl rfl ⟨rfl, rfl, rfl, rfl, rfl⟩ rfl rfl rfl rfl rfl (by kernel_rfl) Tryz.func3 (by kernel_rfl)
    (of_decide_eq_true (by kernel_rfl)) (by unfold Func.isWrapper; first | (rw [if_pos (by decide +kernel)]; kernel_rfl) | (rw [if_neg (by decide +kernel)]; exact ⟨rfl, rfl⟩))
    (fun os started H enc _ => lifted os started H enc)
theorem proved : Rows.FnExactHoursFromCardSaid :=
  Claim7.holds_tied_plain_at .later [] [.data, .data, .data, .data, .pinned] true (true, "24b9c3873373c100848743ccb4d765bc196dfd092f57c8d14b03f88d262f083a") false
    row_holds (fun _ h => by cases h) (by kernel_rfl) (fun _ h => by cases h) fnExactHoursFrom_row_tie rfl ⟨rfl, rfl⟩ (by kernel_rfl) rfl
    (fun f fn hf hfn => by
      obtain rfl : f = 3 := Option.some.inj ((show Tryz.prog.funcNamed "loop.example/g01012/laws.FnExactHoursFrom" = some 3 by kernel_rfl).symm.trans hf) |>.symm
      obtain rfl : fn = Tryz.f3 := (Option.some.inj (Tryz.func3.symm.trans hfn)).symm
      exact ⟨by kernel_rfl, fun j t ht => by
        rw [Tryz.params3] at ht
        have hm : t ∈ [24, 25, 9] := by simpa using Array.mem_of_getElem? ht
        have hall : ([24, 25, 9].all fun u => !Tryz.prog.wantsStandIn u) = true := by kernel_rfl
        exact (show Tryz.prog.wantsStandIn t = false by simpa using List.all_eq_true.1 hall t hm)⟩)
    (by kernel_rfl)
end fnExactHoursFrom
#print axioms fnExactHoursFrom.proved
end Go.Proofs.YtfieilbcdhbigaaGreatDoor
