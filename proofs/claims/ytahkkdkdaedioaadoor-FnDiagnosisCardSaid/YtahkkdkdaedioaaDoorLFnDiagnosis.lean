/- The law of the diagnosis: it is valid and explains the report; single faults explain it alone. Printed by gfndiag.py. The condition: the library's table of powers of ten lies as its text lays it. -/
import Derived.Test.YtahkkdkdaedioaaDoorDgF
import Derived.Test.YtahkkdkdaedioaaDoorDgG
import Derived.Test.YtahkkdkdaedioaaDoorSglI
import Derived.Test.YtahkkdkdaedioaaDoorDiaI
import Derived.Test.YtahkkdkdaedioaaDoorA2L
import Derived.Test.YtahkkdkdaedioaaDoorPow
import Derived.Test.YtahkkdkdaedioaaDoorLawD
import Derived.Test.YtahkkdkdaedioaaDoorCards
import Derived.Test.YtahkkdkdaedioaaDoorTie
import Derived.Deep.DeepCutAuto
namespace Go.Proofs.YtahkkdkdaedioaaDoor
open Go.ChangeShapes Go.WideShapes Go.ChangeAt Go.RowKit Go.Sort
set_option linter.unusedVariables false
set_option maxRecDepth 100000
theorem ne_empty {s : ByteArray} (h : 1 ≤ s.size) : s.toList.isEmpty = false := by
  have h3 : s.data.toList.length = s.size := Array.length_toList
  rw [ByteArray.toList_eq]
  cases hq : s.data.toList with
  | nil => rw [hq] at h3; simp at h3; omega
  | cons a l => rfl
set_option maxRecDepth 100000 in
set_option maxHeartbeats 4000000 in
theorem walk_FnDiagnosis (w : World) (t : PowAt w) {x0 : List Int} {v0 : Value} (a0 : Rds eB w.heap.size w v0 x0) :
    Calls Tryd.prog 3 #[v0] w fun e w' => e = .returned (.bool true) ∧ Below w.heap.size w w' := by
  by_cases hbig : (3000 : Int) < x0.length ∨ (3000 : Int) < ([] : List Int).length
  · go_enter Tryd.func3, Tryd.ntmps3
    go_wp2_with fail
    refine (a2Long_any a0 (Rds.nil eB 0 w)).mono ?_
    rw [decide_eq_true hbig]
    rintro e w' ⟨rfl, rfl⟩
    go_wp2
    go_ret
    exact ⟨rfl, Below.refl _ _⟩
  have Hbig := Lib.hid hbig
  clear hbig
  obtain ⟨vo, vcap, hv0⟩ := a0.shape
  subst hv0
  go_enter Tryd.func3, Tryd.ntmps3
  go_wp2_with fail
  refine (a2Long_any a0 (Rds.nil eB 0 w)).mono ?_
  rw [decide_eq_false Hbig.out]
  rintro e w' ⟨rfl, rfl⟩
  clear Hbig
  obtain ⟨B, a⟩ : Below w.heap.size w w ∧ Rds eB w.heap.size w (.slice vo x0.length vcap) x0 := ⟨Below.refl _ _, a0⟩
  clear a0
  go_upto_region 3 with fail
  go_wp2_with fail
  with_reducible refine (A2Amounts_any a (Nat.le_refl _)).mono ?_
  rintro e w1 ⟨⟨u, v, xs, fs, rfl, ou, ov, hxs, hfs⟩, bb⟩
  have l := ou.rds
  have f := ov.rds
  replace t := t.below bb
  replace B := B.trans (bb.mono B.size)
  obtain ⟨lo, lcap, hl⟩ := ou.shape
  subst hl
  obtain ⟨fo, fcap, hf⟩ := ov.shape
  subst hf
  have HX := Lib.hid hxs
  have HF := Lib.hid hfs
  clear bb ou ov hxs hfs a
  go_upto_region 4 with fail
  as_aux_lemma =>
  obtain ⟨r, hr⟩ : ∃ r, repOf (afterL xs fs) = r := ⟨_, rfl⟩
  have Hr := Lib.hid hr
  clear hr
  go_wp2_with fail
  with_reducible refine (ReportAfter_c l f HX.out HF.out t).mono ?_
  rintro e w1 ⟨rfl, bb⟩
  replace t := t.below bb
  replace l := Rds.onn l bb
  replace f := Rds.onn f bb
  replace B := B.trans (bb.mono B.size)
  clear bb
  rw [Hr.out]
  obtain ⟨W, hW⟩ : ∃ W, W = (w1.alloc (.cells #[.int .i64 r.count, .int .i64 r.sum, .int .i64 r.digits] 29)) := ⟨_, rfl⟩
  have bb : Below w1.heap.size w1 W := by rw [hW]; exact (Below.refl _ _).alloc (Nat.le_refl _) _
  have kr : Box W w1.heap.size [.int .i64 r.count, .int .i64 r.sum, .int .i64 r.digits] := by rw [hW]; exact Box.new w1 [.int .i64 r.count, .int .i64 r.sum, .int .i64 r.digits] _
  have HW := Lib.hid hW
  clear hW
  replace t := t.below bb
  replace l := Rds.onn l bb
  replace f := Rds.onn f bb
  replace B := B.trans (bb.mono B.size)
  clear bb
  go_upto_region 5 with fail
  rw [← HW.out]
  clear HW
  generalize w1.heap.size = Xkr at kr ⊢
  as_aux_lemma =>
  clear f
  obtain ⟨e1, e2, e3, e4, e5, e6, e7, e8, e9⟩ := few_facts HX.out HF.out Hr.out.symm
  have hro : okReport r := by rw [← Hr.out]; exact isRep_ok (rep_isRep HX.out HF.out)
  have hsv := sgl_valid HX.out hro
  have hsc : SFC xs = 0 := by unfold SFC; rw [if_pos HX.out]
  have hsr : SFR xs r = sglF xs r := by unfold SFR; rw [if_pos HX.out]
  have hsl := SFR_len xs r
  rw [hsr] at hsl
  obtain ⟨found, hfd⟩ : ∃ z, fewA xs r = z := ⟨_, rfl⟩
  rw [hfd] at e2 e5 e6 e7 e8 e9
  obtain ⟨cnt, hcnt⟩ : ∃ z, fewN xs r = z := ⟨_, rfl⟩
  rw [hcnt] at e3 e4 e9
  obtain ⟨sg, hsg⟩ : ∃ z, sglF xs r = z := ⟨_, rfl⟩
  rw [hsg] at e8 e9 hsv hsr hsl
  have E1 := Lib.hid e1
  have E2 := Lib.hid e2
  have E3 := Lib.hid e3
  have E4 := Lib.hid e4
  have E5 := Lib.hid e5
  have E6 := Lib.hid e6
  have E7 := Lib.hid e7
  have E8 := Lib.hid e8
  have E9 := Lib.hid e9
  have Hro := Lib.hid hro
  have Hsv := Lib.hid hsv
  have Hsc := Lib.hid hsc
  have Hsr := Lib.hid hsr
  have Hsl := Lib.hid hsl
  clear e1 e2 e3 e4 e5 e6 e7 e8 e9 hro hsv hsc hsr hsl hfd hcnt hsg Hr
  have ckr0 := kr.cell 0 _ rfl
  have ckr1 := kr.cell 1 _ rfl
  have ckr2 := kr.cell 2 _ rfl
  go_wp2_with fail
  with_reducible refine (Diagnose_c l Hro.out t).mono ?_
  rintro e w1 ⟨u0, rfl, of, bb⟩
  clear ckr0 ckr1 ckr2
  replace t := t.below bb
  replace l := Rds.onn l bb
  replace kr := kr.on bb
  replace B := B.trans (bb.mono B.size)
  clear bb
  have d := of.rds
  rw [E2.out] at d
  rw [E3.out, E1.out]
  obtain ⟨qo, dcap, hd⟩ := d.shape
  subst hd
  clear of
  go_upto_region 6 with fail
  as_aux_lemma =>
  have ckr0 := kr.cell 0 _ rfl
  have ckr1 := kr.cell 1 _ rfl
  have ckr2 := kr.cell 2 _ rfl
  go_wp2_with fail
  with_reducible refine (FewestFaults_c l Hro.out t).mono ?_
  rintro e w1 ⟨rfl, bb⟩
  clear ckr0 ckr1 ckr2
  replace t := t.below bb
  replace l := Rds.onn l bb
  replace d := Rds.onn d bb
  replace kr := kr.on bb
  replace B := B.trans (bb.mono B.size)
  clear bb
  rw [E5.out, E1.out]
  go_upto_region 7 with fail
  as_aux_lemma =>
  have ckr0 := kr.cell 0 _ rfl
  have ckr1 := kr.cell 1 _ rfl
  have ckr2 := kr.cell 2 _ rfl
  go_wp2_with fail
  with_reducible refine (SingleFaults_c l Hro.out t).mono ?_
  rintro e w1 ⟨us, rfl, os, bb⟩
  clear ckr0 ckr1 ckr2
  replace t := t.below bb
  replace l := Rds.onn l bb
  replace d := Rds.onn d bb
  replace kr := kr.on bb
  replace B := B.trans (bb.mono B.size)
  clear bb
  have s := os.rds
  rw [Hsr.out] at s
  rw [Hsc.out]
  obtain ⟨so, scap, hs⟩ := s.shape
  subst hs
  clear os
  go_upto_region 8 with fail
  as_aux_lemma =>
  obtain ⟨nd, hnd⟩ : ∃ z, found.length = z := ⟨_, rfl⟩
  obtain ⟨ns, hns⟩ : ∃ z, sg.length = z := ⟨_, rfl⟩
  rw [hnd] at E5 E8 E9 d ⊢
  rw [hns] at E9 s Hsl ⊢
  have Hnd := Lib.hid hnd
  have Hns := Lib.hid hns
  clear hnd hns
  have hnd2 : nd ≤ 2 := by have := E6.out.2.2; have := Hnd.out; omega
  have hns2 : ns ≤ 504 := Hsl.out
  have hcn : 1 ≤ cnt := E4.out
  have hcn2 : ¬ cnt < 1 := by omega
  go_wp2_with fail
  with_reducible refine (sValidFaults_yes l d HX.out E6.out).mono ?_
  rintro e w1 ⟨rfl, bb⟩
  replace t := t.below bb
  replace l := Rds.onn l bb
  replace d := Rds.onn d bb
  replace s := Rds.onn s bb
  replace kr := kr.on bb
  replace B := B.trans (bb.mono B.size)
  clear bb
  go_wp2_with fail
  with_reducible refine (ValidFaults_yes l d HX.out E6.out).mono ?_
  rintro e w1 ⟨rfl, bb⟩
  replace t := t.below bb
  replace l := Rds.onn l bb
  replace d := Rds.onn d bb
  replace s := Rds.onn s bb
  replace kr := kr.on bb
  replace B := B.trans (bb.mono B.size)
  clear bb
  go_wp2_with fail
  with_reducible refine (sReportAfter_c l d HX.out E6.out).mono ?_
  rintro e w1 ⟨rfl, bb⟩
  replace t := t.below bb
  replace l := Rds.onn l bb
  replace d := Rds.onn d bb
  replace s := Rds.onn s bb
  replace kr := kr.on bb
  replace B := B.trans (bb.mono B.size)
  clear bb
  rw [E7.out]
  obtain ⟨W, hW⟩ : ∃ W, W = (w1.alloc (.cells #[.int .i64 r.count, .int .i64 r.sum, .int .i64 r.digits] 29)) := ⟨_, rfl⟩
  have bb : Below w1.heap.size w1 W := by rw [hW]; exact (Below.refl _ _).alloc (Nat.le_refl _) _
  have kg : Box W w1.heap.size [.int .i64 r.count, .int .i64 r.sum, .int .i64 r.digits] := by rw [hW]; exact Box.new w1 [.int .i64 r.count, .int .i64 r.sum, .int .i64 r.digits] _
  have HW := Lib.hid hW
  clear hW
  replace t := t.below bb
  replace l := Rds.onn l bb
  replace d := Rds.onn d bb
  replace s := Rds.onn s bb
  replace kr := kr.on bb
  replace B := B.trans (bb.mono B.size)
  clear bb
  go_upto_region 11 with fail
  rw [← HW.out]
  clear HW
  generalize w1.heap.size = Xkg at kg ⊢
  as_aux_lemma =>
  have HB := Lib.hid B
  have HS := Lib.hid s
  have HL := Lib.hid l
  have HT := Lib.hid t
  have HKR := Lib.hid kr
  have hbox0 := kr.cell 0 _ rfl
  have hbox1 := kr.cell 1 _ rfl
  have hbox2 := kr.cell 2 _ rfl
  have hbox3 := kg.cell 0 _ rfl
  have hbox4 := kg.cell 1 _ rfl
  have hbox5 := kg.cell 2 _ rfl
  have hcase : (nd = 2 ∧ ns = 0) ∨ (nd = 1 ∧ (ns : Int) = cnt) ∨ (nd ≠ 2 ∧ nd ≠ 1) := by
    by_cases h2 : nd = 2
    · left
      refine ⟨h2, ?_⟩
      have h3 := E8.out h2
      have := Hns.out
      rw [h3] at this
      exact this.symm
    · by_cases h1 : nd = 1
      · exact .inr (.inl ⟨h1, E9.out h1⟩)
      · exact .inr (.inr ⟨h2, h1⟩)
  clear B s l t kr kg d
  go_upto_region 11 with fail
  go_cut [118] (fun tv wx => tv = .bool false ∧ W = wx)
  case first =>
    rcases hcase with ⟨h1, h2⟩ | ⟨h1, h2⟩ | ⟨h1, h2⟩
    · subst h1
      subst h2
      go_wp2_with fail
      go_meet
      case rel => exact ⟨by simp, rfl⟩
    · subst h1
      have h3 : ((ns : Int) != cnt) = false := by simpa using h2
      clear h2
      go_wp2_with fail
      go_meet
      case rel => exact ⟨by simp, rfl⟩
    · have h3 : ((nd : Int) == 2) = false := by simp; omega
      have h4 : ((nd : Int) == 1) = false := by simp; omega
      clear h1 h2
      go_wp2_with fail
      go_meet
      case rel => exact ⟨by simp, rfl⟩
  case rest =>
    obtain ⟨rfl, hw⟩ := hcut
    subst hw
    clear hcase hbox0 hbox1 hbox2 hbox3 hbox4 hbox5
    go_wp2_with fail
    go_loopw [16] (fun iv wr => ∃ k : Nat, k ≤ ns ∧ iv = .int .i64 k ∧ Below W.heap.size W wr) (fun iv _ => ns - (intOf iv).toNat)
    case atStart => exact ⟨0, Nat.zero_le _, rfl, Below.refl _ _⟩
    case round =>
      obtain ⟨k, hk, rfl, hb⟩ := hrel
      by_cases hkn : k < ns
      · have hks : (k : Int) < (ns : Int) := by omega
        have hrow := HS.out
        obtain ⟨so2, scap2, hsh, hof⟩ := eFault_open hrow
        rw [Hns.out] at hsh hof
        injection hsh with e1 e2 e3
        subst e1
        subst e3
        obtain ⟨b2, off2, hao, hlt2, hc⟩ := hof (by omega)
        subst hao
        obtain ⟨y, hy, ⟨c0, c1, c2, c3⟩, hyo⟩ := hc k hkn
        obtain ⟨hyf, hyr⟩ := Hsv.out y (List.mem_of_getElem? hy)
        replace c0 := (hb.cell (p := ⟨b2, off2 + k * 4, none⟩) hlt2.2).trans c0
        replace c1 := (hb.cell (p := ⟨b2, off2 + k * 4 + 1, none⟩) hlt2.2).trans c1
        replace c2 := (hb.cell (p := ⟨b2, off2 + k * 4 + 2, none⟩) hlt2.2).trans c2
        replace c3 := (hb.cell (p := ⟨b2, off2 + k * 4 + 3, none⟩) hlt2.2).trans c3
        have hwr : b2 < wr.heap.size := Nat.lt_of_lt_of_le hlt2.2 hb.size
        have hbl : Below wr.heap.size wr (wr.alloc (.cells #[.int .i64 y.kind, .int .i64 y.card, .int .i64 y.place, .int .i64 y.digit] 40)) := (Below.refl _ _).alloc (Nat.le_refl _) _
        have hone : RdFaultS (wr.heap.size + 1) (wr.alloc (.cells #[.int .i64 y.kind, .int .i64 y.card, .int .i64 y.place, .int .i64 y.digit] 40)) (.slice (some ⟨wr.heap.size, 0, none⟩) 1 1) [y] := rds_one (E := eFault) (x := y) hyo rfl
        have hlw := Rds.onn HL.out hb
        have hlw2 := Rds.onn hlw hbl
        have Hcon := Lib.hid (sReportAfter_c hlw2 hone HX.out (fsOk_one hyf))
        have Hyf := Lib.hid hyf
        have Hyr := Lib.hid hyr
        have Hb := Lib.hid hb
        have Hbl := Lib.hid hbl
        clear hc hy hyo hyf hyr hrow hof hlw hlw2 hone hbl hb e2
        go_wp2_with fail
        with_reducible refine Hcon.out.mono ?_
        rw [Hyr.out]
        rintro e w2 ⟨rfl, hb2⟩
        have hz2 : wr.heap.size < w2.heap.size := Nat.lt_of_lt_of_le (by simp) hb2.size
        have hbw : Below wr.heap.size wr w2 := Hbl.out.trans (hb2.mono Hbl.out.size)
        have hbz := hbw.alloc hbw.size (.cells #[.int .i64 r.count, .int .i64 r.sum, .int .i64 r.digits] 29)
        obtain ⟨Z, hZ⟩ : ∃ Z, Z = w2.alloc (.cells #[.int .i64 r.count, .int .i64 r.sum, .int .i64 r.digits] 29) := ⟨_, rfl⟩
        have kz : Box Z w2.heap.size [.int .i64 r.count, .int .i64 r.sum, .int .i64 r.digits] := by rw [hZ]; exact Box.new w2 [.int .i64 r.count, .int .i64 r.sum, .int .i64 r.digits] _
        rw [← hZ] at hbz
        have z0 := kz.cell 0 _ rfl
        have z1 := kz.cell 1 _ rfl
        have z2 := kz.cell 2 _ rfl
        replace c0 := (hbz.cell (p := ⟨b2, off2 + k * 4, none⟩) hwr).trans c0
        replace c1 := (hbz.cell (p := ⟨b2, off2 + k * 4 + 1, none⟩) hwr).trans c1
        replace c2 := (hbz.cell (p := ⟨b2, off2 + k * 4 + 2, none⟩) hwr).trans c2
        replace c3 := (hbz.cell (p := ⟨b2, off2 + k * 4 + 3, none⟩) hwr).trans c3
        have hkz := (HKR.out.on Hb.out).on hbz
        have q0 := hkz.cell 0 _ rfl
        have q1 := hkz.cell 1 _ rfl
        have q2 := hkz.cell 2 _ rfl
        have HZ := Lib.hid hZ
        have Hbz := Lib.hid hbz
        have htz := (HT.out.below Hb.out).below hbz
        have Htz := Lib.hid htz
        clear hbz hkz kz hZ htz hbw hb2
        go_upto_region 17 with fail
        rw [← HZ.out]
        generalize w2.heap.size = XZ at z0 z1 z2 ⊢
        go_wp2_with fail
        with_reducible refine (FaultText_c y Hyf.out (by have := (amtOk_parts HX.out).1; omega) _ Htz.out).mono ?_
        rintro e w3 ⟨⟨s, rfl, hs1, hs2⟩, hb3⟩
        have Hb3 := Lib.hid ((Hb.out.trans (Hbz.out.mono Hb.out.size)).trans (hb3.mono (Hb.out.trans (Hbz.out.mono Hb.out.size)).size))
        have hse : s.toList.isEmpty = false := ne_empty hs1
        clear hb3 z0 z1 z2 q0 q1 q2 c0 c1 c2 c3 Hbz HZ Hb
        go_wp2
        go_roundw
        case rel => exact ⟨k + 1, by omega, by go_num, Hb3.out⟩
        case measure => simp [intOf]; omega
      · have Hb := Lib.hid (HB.out.trans (hb.mono HB.out.size))
        clear hb
        go_wp2
        go_ret
        exact ⟨rfl, Hb.out⟩
namespace fnDiagnosis
theorem own : ownKnob Tryd.prog.godebug = none := by kernel_rfl
theorem door_met (os : Os) (args : Array Value) : laidMetH Tryd.prog Rows.fnDiagnosisRow.laid ((World.doorLaid Tryd.prog 24 os).forCall (fun _ _ => 0) ⟨#[], args, []⟩).memory :=
  laidMetH_of_parts3 (fuel := 8) (laidMet_of_run' 8 (by kernel_rfl) (by kernel_rfl)) (by kernel_rfl) (by kernel_rfl)
set_option maxRecDepth 100000 in
theorem lifted (os : Os) (started : os.Started) (H : Type) (enc : TypeId × Value → H) :
    ReturnsInHanded {} Tryd.checked os 3 .any (fun w args => (Rows.fnDiagnosisSpec.pre enc Tryd.prog Tryd.f3 [] false w args ∧ laidMetH Tryd.prog Rows.fnDiagnosisRow.laid w) ∧ sizedMet enc Tryd.prog Tryd.f3 (OpenSpec.ofChange Rows.fnDiagnosisSpec) false w args) (Rows.fnDiagnosisSpec.post enc Tryd.prog Tryd.f3 false true false false) := by
  refine returnsInHanded_of_change_and (C := Tryd.checked) (X := fun w _ => laidMetH Tryd.prog Rows.fnDiagnosisRow.laid w) (fun _ _ _ hh h => h.of_heap hh) own started (by kernel_rfl) Tryd.func3
    (ChangeSpec.witness_shaped (enc := enc) (C := Tryd.checked) (os := os) (X := fun w _ => laidMetH Tryd.prog Rows.fnDiagnosisRow.laid w) false (World.doorLaid Tryd.prog 24 os) #[.slice none 0 0] 8 rfl (World.shaped_of_RefB (by kernel_rfl) (by kernel_rfl)) (by kernel_rfl) (by kernel_rfl) (by kernel_rfl) (door_met os _)) ?_
  intro W base args ds gs before hval0 hW _ _ hL _
  have hval : ∀ (j : Nat) t v, Tryd.f3.params[j]? = some t → args[j]? = some v → Value.okWide Tryd.prog W .any base t v := hval0
  have hW' := hW
  obtain ⟨p, q, hA0, hV, rfl, hfz, hnd⟩ := hW
  have hA : DataW.TrodAll enc Tryd.prog W 0 (fun _ => true) true Tryd.f3.params.toList args.toList ds p := hA0
  rw [Tryd.params3] at hA hval
  obtain ⟨v0, vs0, d0, ds0, p0, s0, hargs, rfl, rfl, h0, q0⟩ := trodAll_cons hA
  obtain ⟨rfl, rfl, rfl⟩ := trodAll_nil q0
  obtain rfl : args = #[v0] := by cases args; simp_all
  obtain ⟨x0, r0, _⟩ := open_rdB Tryd.underlying22 Tryd.underlying5 (by kernel_rfl) (hval 0 22 v0 rfl rfl) h0
  obtain ⟨rfl, rfl⟩ := trodVars_none hV
  exact (walk_FnDiagnosis W (pow_of3 hL) r0).mono fun e W' hh => ⟨_, hh.1, law_postV (f := Tryd.f3) (s := Rows.fnDiagnosisSpec) (T := 4) (by kernel_rfl) (of_decide_eq_true (by kernel_rfl)) (by kernel_rfl) rfl Tryd.underlying4 rfl hW' hh.2⟩
theorem row_holds : Rows.FnDiagnosisSaid :=
  OpenClaim.holds_of_wide 3 Tryd.f3 rfl rfl rfl rfl rfl rfl rfl ⟨rfl, rfl, rfl, rfl, rfl⟩ rfl rfl rfl rfl rfl (by kernel_rfl) Tryd.func3 (by kernel_rfl)
    (of_decide_eq_true (by kernel_rfl)) (by unfold Func.isWrapper; first | (rw [if_pos (by decide +kernel)]; kernel_rfl) | (rw [if_neg (by decide +kernel)]; exact ⟨rfl, rfl⟩))
    (fun os started H enc _ => lifted os started H enc)
theorem proved : Rows.FnDiagnosisCardSaid :=
  Claim7.holds_tied_plain_at .later [] [.data, .data, .data] true (true, "27f1a4c2c09c8dbe7363f4c58242c9a7653fe1f6b3e24b5110c4d1452dbcbd24") false
    row_holds (fun _ h => by cases h) (by kernel_rfl) (fun _ h => by cases h) fnDiagnosis_row_tie rfl ⟨rfl, rfl⟩ (by kernel_rfl) rfl
    (fun f fn hf hfn => by
      obtain rfl : f = 3 := Option.some.inj ((show Tryd.prog.funcNamed "loop.example/g01012/laws.FnDiagnosis" = some 3 by kernel_rfl).symm.trans hf) |>.symm
      obtain rfl : fn = Tryd.f3 := (Option.some.inj (Tryd.func3.symm.trans hfn)).symm
      exact ⟨by kernel_rfl, fun j t ht => by
        rw [Tryd.params3] at ht
        have hm : t ∈ [22] := by simpa using Array.mem_of_getElem? ht
        have hall : ([22].all fun u => !Tryd.prog.wantsStandIn u) = true := by kernel_rfl
        exact (show Tryd.prog.wantsStandIn t = false by simpa using List.all_eq_true.1 hall t hm)⟩)
    (by kernel_rfl)
end fnDiagnosis
#print axioms fnDiagnosis.proved
end Go.Proofs.YtahkkdkdaedioaaDoor
