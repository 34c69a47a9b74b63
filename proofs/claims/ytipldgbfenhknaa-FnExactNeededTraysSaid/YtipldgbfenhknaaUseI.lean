/- What trays a flow uses: the program's answer by its contract. No condition. -/
import Derived.Test.YtipldgbfenhknaaUseS
namespace Go.Proofs.Ytipldgbfenhknaa
open Go.ChangeShapes Go.WideShapes Go.ChangeAt Go.RowKit
set_option linter.unusedVariables false
set_option maxRecDepth 100000
theorem clo_U (B i : Nat) (b : Bool) (w : World) (hi : i < 6) (hc : w.cell? ⟨B, i, none⟩ = some (.bool b)) :
    Calls Try.prog 34 #[.int .i64 (i : Int), .pointer (some ⟨B, 0, none⟩)] w fun e w' => e = .returned (.bool b) ∧ Below w.heap.size w w' := by
  go_enter Try.func34, Try.ntmps34
  go_wp2
  go_ret
  exact ⟨rfl, Below.refl _ _⟩
theorem cols_U {w : World} {n : Nat} {p : Int → Bool} {B : Nat} (hn : n ≤ 1000)
    (hclo : ∀ (i : Nat) (W : World), i < n → Below w.heap.size w W → Calls Try.prog 34 #[.int .i64 (i : Int), .pointer (some ⟨B, 0, none⟩)] W fun e w' => e = .returned (.bool (p i)) ∧ Below W.heap.size W w') :
    Calls Try.prog 33 #[.int .i64 (n : Int), .func (.func 34) #[] #[.pointer (some ⟨B, 0, none⟩)]] w fun e w' => ∃ u, e = .returned u ∧ Own eI 2 w.heap.size w' u (selI p n) ∧ Below w.heap.size w w' := by
  obtain ⟨i0, hi, hz0, hz1, hz2⟩ := info_parts Try.infoInt64
  have Hclo := Lib.hid hclo
  have ho0 : Own eI 2 w.heap.size (w.alloc (.cells #[] 2)) (.slice (some ⟨w.heap.size, 0, none⟩) 0 0) (selI p 0) :=
    Own.lit (E := eI) (xs := []) (cs := #[]) (Nat.le_refl _) rfl rfl (by decide) (fun x hx => by cases hx)
  have hb0 : Below w.heap.size w (w.alloc (.cells #[] 2)) := (Below.refl _ _).alloc (Nat.le_refl _) _
  clear hclo
  go_enter Try.func33, Try.ntmps33
  go_wp2
  go_loopw [5, 9] (fun v i wr => ∃ k : Nat, k ≤ n ∧ i = .int .i64 k ∧ Own eI 2 w.heap.size wr v (selI p k) ∧ Below w.heap.size w wr) (fun _ i _ => n - (intOf i).toNat)
  case atStart => exact ⟨0, Nat.zero_le _, rfl, ho0, hb0⟩
  case round =>
    obtain ⟨k, hk, rfl, hown, hb⟩ := hrel
    clear ho0 hb0
    by_cases hkn : k < n
    · have hc := Hclo.out k _ hkn hb
      have Hc := Lib.hid hc
      have hsl := selI_len p k
      have hss := selI_succ p k
      have Hss := Lib.hid hss
      have Hb := Lib.hid hb
      have Hown := Lib.hid hown
      clear hc hss hb hown
      go_wp2_with fail
      with_reducible refine Hc.out.mono ?_
      cases hp : p (k : Int) with
      | true =>
        have Hp := Lib.hid hp
        clear hp
        rintro e w1 ⟨rfl, hb1⟩
        have hb2 := Hb.out.trans (hb1.mono Hb.out.size)
        have hown1 := Hown.out.below hb1 (Nat.le_refl _)
        have Hqp : eI.ok (k : Int) := by show -9223372036854775808 ≤ (k : Int) ∧ (k : Int) ≤ 9223372036854775807; omega
        have hsz := hb2.size
        clear hb1 Hb Hown
        go_wp2_with (first | (at_builtin; refine wpList_appS (E := eI) rfl _ _ 24 rfl Try.underlying24 hi hz0 hz1 hz2 rfl (by decide) rfl rfl (hown1.alloc _) (rds_one (E := eI) (x := (k : Int)) Hqp rfl) ?b1 ?b2 ?b3 ?_))
        case b1 => unfold maxLen; simp; omega
        case b2 => simp; omega
        case b3 => simp; omega
        intro v' w3 hown3 hg3
        have hb3 : Below w.heap.size w w3 := hg3.alloc.below hb2 hb2.size (fun j hj => (hown1.lt j hj).1)
        clear hg3 hb2 hown1 Hqp
        go_wp2
        go_roundw
        case rel => exact ⟨k + 1, by omega, by go_num, by rw [Hss.out, Hp.out]; exact hown3, hb3⟩
        case measure => simp [intOf]; omega
      | false =>
        have Hp := Lib.hid hp
        clear hp
        rintro e w1 ⟨rfl, hb1⟩
        have hb2 := Hb.out.trans (hb1.mono Hb.out.size)
        have hown1 := Hown.out.below hb1 (Nat.le_refl _)
        clear hb1 Hb Hown
        go_wp2
        go_roundw
        case rel => exact ⟨k + 1, by omega, by go_num, by rw [Hss.out, Hp.out]; simpa using hown1, hb2⟩
        case measure => simp [intOf]; omega
    · obtain rfl : k = n := by omega
      go_wp2
      go_ret
      exact ⟨_, rfl, hown, hb⟩

theorem tray6_nat (U : Int → Bool) {i : Nat} (h : i < 6) : (tray6 U)[i]? = some (.bool (U (i : Int))) := by
  have := tray6_at U (t := (i : Int)) ⟨by omega, by omega⟩
  simpa using this
theorem tray6_setN (U : Int → Bool) {i : Nat} (b : Bool) (h : i < 6) : (tray6 U).set i (.bool (U (i : Int) || b)) = tray6 (addT U (i : Int) b) := by
  have := tray6_set U (t := (i : Int)) b ⟨by omega, by omega⟩
  simpa using this
set_option maxHeartbeats 2000000 in
theorem FlowUses_c {xs : List StepT} {v : Value} {w : World} {A : Nat} (ha : RdStepS A w v xs) :
    Calls Try.prog 21 #[v] w fun e w' => ∃ u, e = .returned (.tuple #[u, .int .i64 (UseC xs)]) ∧ OwnInt64S w.heap.size w' u (UseR xs) ∧ Below w.heap.size w w' := by
  have hle := ha.le
  have Ha := Lib.hid ha
  obtain ⟨ao, cap, rfl, ho⟩ := eStep_open ha
  obtain ⟨n, hn⟩ : ∃ n, n = xs.length := ⟨_, rfl⟩
  rw [← hn] at Ha hle ho ⊢
  have Hn := Lib.hid hn
  have Ho := Lib.hid ho
  clear ho hn ha
  cases hf : flB xs 20 with
  | false =>
    have e1 : UseC xs = 2 := by unfold UseC; rw [hf]; rfl
    have e2 : UseR xs = [] := by unfold UseR; rw [hf]; rfl
    rw [e1, e2]
    have Hf := Lib.hid hf
    clear e1 e2 hf
    go_enter Try.func21, Try.ntmps21
    go_wp2_with fail
    with_reducible refine (ValidFlow_c 20 ⟨by decide, by decide⟩ Ha.out).mono ?_
    rw [Hf.out]
    rintro e w1 ⟨rfl, hb⟩
    go_wp2
    go_ret2
    exact ⟨_, rfl, Own.nil _ _ _ _, hb⟩
  | true =>
    have e1 : UseC xs = 0 := by unfold UseC; rw [hf]; rfl
    have e2 : UseR xs = selI (usesF xs).1 6 := by unfold UseR; rw [hf]; rfl
    rw [e1, e2]
    have Hfp := Lib.hid (flB_parts hf)
    have hn20 : n ≤ 20 := by have := Hfp.out.1; have := Hn.out; omega
    have Hf := Lib.hid hf
    clear e1 e2 hf
    go_enter Try.func21, Try.ntmps21
    go_wp2_with fail
    with_reducible refine (ValidFlow_c 20 ⟨by decide, by decide⟩ Ha.out).mono ?_
    rw [Hf.out]
    rintro e w1 ⟨rfl, hb⟩
    obtain ⟨W1, hW1⟩ : ∃ W, W = (w1.alloc (.cells #[.bool false, .bool false, .bool false, .bool false, .bool false, .bool false] 59)).alloc (.cells #[.bool false, .bool false, .bool false, .bool false, .bool false, .bool false] 59) := ⟨_, rfl⟩
    have hU : Box W1 w1.heap.size (tray6 fun _ => false) := by
      rw [hW1]; exact (Box.new w1 (tray6 fun _ => false) 59).alloc _
    have hM : Box W1 (w1.heap.size + 1) (tray6 fun _ => false) := by
      rw [hW1]
      have h := Box.new (w1.alloc (.cells #[.bool false, .bool false, .bool false, .bool false, .bool false, .bool false] 59)) (tray6 fun _ => false) 59
      rw [show (tray6 fun _ => false).toArray = #[.bool false, .bool false, .bool false, .bool false, .bool false, .bool false] from rfl] at h
      simpa using h
    have hb0 : Below w.heap.size w W1 := by rw [hW1]; exact (hb.alloc hb.size _).alloc (by have := hb.size; simp; omega) _
    have hsw := hb.size
    have HU := Lib.hid hU
    have HM := Lib.hid hM
    have Hb0 := Lib.hid hb0
    have HW1 := Lib.hid hW1
    clear hU hM hb0 hb hW1
    go_wp2_with fail
    rw [← HW1.out]
    go_loopw [15] (fun i wr => ∃ k : Nat, k ≤ n ∧ i = .int .i64 k ∧ Box wr w1.heap.size (tray6 (usesF (xs.take k)).1) ∧ Box wr (w1.heap.size + 1) (tray6 (usesF (xs.take k)).2) ∧ Below w.heap.size w wr) (fun i _ => n - (intOf i).toNat)
    case atStart => exact ⟨0, Nat.zero_le _, rfl, HU.out, HM.out, Hb0.out⟩
    case round =>
      obtain ⟨k, hk, rfl, hU, hM, hbb⟩ := hrel
      clear HU HM Hb0 HW1
      by_cases hkn : k < n
      · obtain ⟨b, off, rfl, hlt, hcc⟩ := Ho.out (by omega)
        obtain ⟨x, hx, ⟨c0, c1, c2, c3, c4, c5, c6, c7, c8⟩, bx⟩ := hcc k hkn
        have hA : StAt w b (off + k * 9) x := ⟨hlt.2, c0, c1, c2, c3, c4, c5, c6, c7, c8⟩
        have HA := Lib.hid (hA.below hbb hlt.2)
        have Hok := Lib.hid (Hfp.out.2 x (List.mem_of_getElem? hx))
        have Hs := Lib.hid (usesF_snoc hx)
        obtain ⟨s, hs⟩ : ∃ s, usesF (xs.take k) = s := ⟨_, rfl⟩
        rw [hs] at hU hM
        have Hse := Lib.hid hs
        have d0 := HA.out.c0
        have d1 := HA.out.c1
        have d2 := HA.out.c2
        have d3 := HA.out.c3
        have d4 := HA.out.c4
        have d5 := HA.out.c5
        have d6 := HA.out.c6
        have d7 := HA.out.c7
        have d8 := HA.out.c8
        have hX := Box.new wr [.int .i64 x.kd, .int .i64 x.ta, .int .i64 x.tb, .int .i64 x.tc, .int .i64 x.ff, .int .i64 x.ft, .int .i64 x.sf, .int .i64 x.st, .string x.tx] 44
        have hU1 := hU.alloc (.cells #[.int .i64 x.kd, .int .i64 x.ta, .int .i64 x.tb, .int .i64 x.tc, .int .i64 x.ff, .int .i64 x.ft, .int .i64 x.sf, .int .i64 x.st, .string x.tx] 44)
        have hM1 := hM.alloc (.cells #[.int .i64 x.kd, .int .i64 x.ta, .int .i64 x.tb, .int .i64 x.tc, .int .i64 x.ff, .int .i64 x.ft, .int .i64 x.sf, .int .i64 x.st, .string x.tx] 44)
        have hb1 := hbb.alloc hbb.size (.cells #[.int .i64 x.kd, .int .i64 x.ta, .int .i64 x.tb, .int .i64 x.tc, .int .i64 x.ff, .int .i64 x.ft, .int .i64 x.sf, .int .i64 x.st, .string x.tx] 44)
        have hBX : w1.heap.size + 1 < wr.heap.size := hM.lt
        have HX := Lib.hid hX
        have HU := Lib.hid hU1
        have HM := Lib.hid hM1
        have Hb := Lib.hid hb1
        clear hx hcc c0 c1 c2 c3 c4 c5 c6 c7 c8 hA hs bx hU hM hbb hX hU1 hM1 hb1
        go_upto_region 7 with fail
        clear d0 d1 d2 d3 d4 d5 d6 d7 d8 HA
        generalize wr.alloc (.cells #[.int .i64 x.kd, .int .i64 x.ta, .int .i64 x.tb, .int .i64 x.tc, .int .i64 x.ff, .int .i64 x.ft, .int .i64 x.sf, .int .i64 x.st, .string x.tx] 44) = W at HX HU HM Hb ⊢
        go_cut [] (fun wx => Box wx wr.heap.size [.int .i64 x.kd, .int .i64 x.ta, .int .i64 x.tb, .int .i64 x.tc, .int .i64 x.ff, .int .i64 x.ft, .int .i64 x.sf, .int .i64 x.st, .string x.tx] ∧ Box wx w1.heap.size (tray6 (addT s.1 x.ta (!s.2 x.ta))) ∧ Box wx (w1.heap.size + 1) (tray6 s.2) ∧ Below w.heap.size w wx)
        case first =>
          obtain ⟨a, ha⟩ := Int.eq_ofNat_of_zero_le Hok.out.ta.1
          have ha6 : a < 6 := by have := Hok.out.ta.2; omega
          have ha7 : (a : Int) < 6 := by omega
          have x1 := HX.out.cell 1 _ rfl
          rw [ha] at x1
          try rw [ha]
          have Ha1 := Lib.hid ha
          have HUs := Lib.hid (tray6_setN s.1 (i := a) (!s.2 (a : Int)) ha6)
          have u1 := HU.out.cell a _ (tray6_nat _ ha6)
          have m1 := HM.out.cell a _ (tray6_nat _ ha6)
          have f1 := HU.out.free a
          clear ha
          cases hp : s.1 (a : Int) with
          | true =>
            rw [hp] at u1 HUs
            rw [Bool.true_or] at HUs
            have Hp := Lib.hid hp
            clear hp
            go_still_tail 13, (by kernel_rfl)
            change wpList _ _ _ _ _ (World.drew _)
            have HXd := Lib.hid HX.out.drew1
            have HUd := Lib.hid HU.out.drew1
            have HMd := Lib.hid HM.out.drew1
            have Hbd := Lib.hid Hb.out.drew1
            go_wp2_with fail
            go_meet
            refine ⟨HXd.out.other (by show w1.heap.size ≠ wr.heap.size; omega) _, ?_, HMd.out.other (by show w1.heap.size ≠ w1.heap.size + 1; omega) _, Hbd.out.setCell (by show w.heap.size ≤ w1.heap.size; omega) _⟩
            have h := HUd.out.set1 (j := a) (by simp [tray6]; omega) (.bool true)
            rw [HUs.out] at h
            rw [Ha1.out]
            first | exact h | (rw [Hm.out]; exact h)
          | false =>
            rw [hp] at u1 HUs
            rw [Bool.false_or] at HUs
            have Hp := Lib.hid hp
            clear hp
            cases hm : s.2 (a : Int) with
            | true =>
              rw [hm] at m1 HUs
              rw [show (!true) = false from rfl] at HUs
              have Hm := Lib.hid hm
              clear hm
              go_still_tail 13, (by kernel_rfl)
              change wpList _ _ _ _ _ (World.drew _)
              have HXd := Lib.hid HX.out.drew1
              have HUd := Lib.hid HU.out.drew1
              have HMd := Lib.hid HM.out.drew1
              have Hbd := Lib.hid Hb.out.drew1
              go_wp2_with fail
              go_meet
              refine ⟨HXd.out.other (by show w1.heap.size ≠ wr.heap.size; omega) _, ?_, HMd.out.other (by show w1.heap.size ≠ w1.heap.size + 1; omega) _, Hbd.out.setCell (by show w.heap.size ≤ w1.heap.size; omega) _⟩
              have h := HUd.out.set1 (j := a) (by simp [tray6]; omega) (.bool false)
              rw [HUs.out] at h
              rw [Ha1.out]
              first | exact h | (rw [Hm.out]; exact h)
            | false =>
              rw [hm] at m1 HUs
              rw [show (!false) = true from rfl] at HUs
              have Hm := Lib.hid hm
              clear hm
              go_still_tail 13, (by kernel_rfl)
              change wpList _ _ _ _ _ (World.drew _)
              have HXd := Lib.hid HX.out.drew1
              have HUd := Lib.hid HU.out.drew1
              have HMd := Lib.hid HM.out.drew1
              have Hbd := Lib.hid Hb.out.drew1
              go_wp2_with fail
              go_meet
              refine ⟨HXd.out.other (by show w1.heap.size ≠ wr.heap.size; omega) _, ?_, HMd.out.other (by show w1.heap.size ≠ w1.heap.size + 1; omega) _, Hbd.out.setCell (by show w.heap.size ≤ w1.heap.size; omega) _⟩
              have h := HUd.out.set1 (j := a) (by simp [tray6]; omega) (.bool true)
              rw [HUs.out] at h
              rw [Ha1.out]
              first | exact h | (rw [Hm.out]; exact h)
        case rest =>
        obtain ⟨hX, hU, hM, hb⟩ := hcut
        clear HX HU HM Hb
        have h1 : tray6 (addT s.1 x.ta (!s.2 x.ta)) = tray6 (step1 s x).1 := rfl
        rw [h1] at hU
        have h2 : tray6 s.2 = tray6 (step1 s x).2 := rfl
        rw [h2] at hM
        clear h1 h2
        generalize hs1 : step1 s x = s1 at hU hM
        have Hs1 := Lib.hid hs1
        have HX := Lib.hid hX
        have HU := Lib.hid hU
        have HM := Lib.hid hM
        have Hb := Lib.hid hb
        clear hs1 hX hU hM hb
        have x0 := HX.out.cell 0 _ rfl
        have x3 := HX.out.cell 3 _ rfl
        by_cases h2 : twoP x.kd
        · have H2 := Lib.hid h2
          clear h2
          go_wp2_with fail
          with_reducible refine (takesTwo_yes _ _ H2.out).mono ?_
          rintro e w9 ⟨rfl, rfl⟩
          go_upto_region 9 with fail
          clear x0 x3
          go_cut [] (fun wx => Box wx wr.heap.size [.int .i64 x.kd, .int .i64 x.ta, .int .i64 x.tb, .int .i64 x.tc, .int .i64 x.ff, .int .i64 x.ft, .int .i64 x.sf, .int .i64 x.st, .string x.tx] ∧ Box wx w1.heap.size (tray6 (addT s1.1 x.tb (!s1.2 x.tb))) ∧ Box wx (w1.heap.size + 1) (tray6 s1.2) ∧ Below w.heap.size w wx)
          case first =>
            obtain ⟨a, ha⟩ := Int.eq_ofNat_of_zero_le Hok.out.tb.1
            have ha6 : a < 6 := by have := Hok.out.tb.2; omega
            have ha7 : (a : Int) < 6 := by omega
            have x1 := HX.out.cell 2 _ rfl
            rw [ha] at x1
            try rw [ha]
            have Ha1 := Lib.hid ha
            have HUs := Lib.hid (tray6_setN s1.1 (i := a) (!s1.2 (a : Int)) ha6)
            have u1 := HU.out.cell a _ (tray6_nat _ ha6)
            have m1 := HM.out.cell a _ (tray6_nat _ ha6)
            have f1 := HU.out.free a
            clear ha
            cases hp : s1.1 (a : Int) with
            | true =>
              rw [hp] at u1 HUs
              rw [Bool.true_or] at HUs
              have Hp := Lib.hid hp
              clear hp
              go_still_tail 13, (by kernel_rfl)
              change wpList _ _ _ _ _ (World.drew _)
              have HXd := Lib.hid HX.out.drew1
              have HUd := Lib.hid HU.out.drew1
              have HMd := Lib.hid HM.out.drew1
              have Hbd := Lib.hid Hb.out.drew1
              go_wp2_with fail
              go_meet
              refine ⟨HXd.out.other (by show w1.heap.size ≠ wr.heap.size; omega) _, ?_, HMd.out.other (by show w1.heap.size ≠ w1.heap.size + 1; omega) _, Hbd.out.setCell (by show w.heap.size ≤ w1.heap.size; omega) _⟩
              have h := HUd.out.set1 (j := a) (by simp [tray6]; omega) (.bool true)
              rw [HUs.out] at h
              rw [Ha1.out]
              first | exact h | (rw [Hm.out]; exact h)
            | false =>
              rw [hp] at u1 HUs
              rw [Bool.false_or] at HUs
              have Hp := Lib.hid hp
              clear hp
              cases hm : s1.2 (a : Int) with
              | true =>
                rw [hm] at m1 HUs
                rw [show (!true) = false from rfl] at HUs
                have Hm := Lib.hid hm
                clear hm
                go_still_tail 13, (by kernel_rfl)
                change wpList _ _ _ _ _ (World.drew _)
                have HXd := Lib.hid HX.out.drew1
                have HUd := Lib.hid HU.out.drew1
                have HMd := Lib.hid HM.out.drew1
                have Hbd := Lib.hid Hb.out.drew1
                go_wp2_with fail
                go_meet
                refine ⟨HXd.out.other (by show w1.heap.size ≠ wr.heap.size; omega) _, ?_, HMd.out.other (by show w1.heap.size ≠ w1.heap.size + 1; omega) _, Hbd.out.setCell (by show w.heap.size ≤ w1.heap.size; omega) _⟩
                have h := HUd.out.set1 (j := a) (by simp [tray6]; omega) (.bool false)
                rw [HUs.out] at h
                rw [Ha1.out]
                first | exact h | (rw [Hm.out]; exact h)
              | false =>
                rw [hm] at m1 HUs
                rw [show (!false) = true from rfl] at HUs
                have Hm := Lib.hid hm
                clear hm
                go_still_tail 13, (by kernel_rfl)
                change wpList _ _ _ _ _ (World.drew _)
                have HXd := Lib.hid HX.out.drew1
                have HUd := Lib.hid HU.out.drew1
                have HMd := Lib.hid HM.out.drew1
                have Hbd := Lib.hid Hb.out.drew1
                go_wp2_with fail
                go_meet
                refine ⟨HXd.out.other (by show w1.heap.size ≠ wr.heap.size; omega) _, ?_, HMd.out.other (by show w1.heap.size ≠ w1.heap.size + 1; omega) _, Hbd.out.setCell (by show w.heap.size ≤ w1.heap.size; omega) _⟩
                have h := HUd.out.set1 (j := a) (by simp [tray6]; omega) (.bool true)
                rw [HUs.out] at h
                rw [Ha1.out]
                first | exact h | (rw [Hm.out]; exact h)
          case rest =>
          obtain ⟨hX, hU, hM, hb⟩ := hcut
          clear HX HU HM Hb
          have e1 : addT s1.1 x.tb (!s1.2 x.tb) = (step2 s1 x).1 := by rw [step2_two H2.out]
          have e2 : s1.2 = (step2 s1 x).2 := by rw [step2_two H2.out]
          rw [e1] at hU
          rw [e2] at hM
          have HX := Lib.hid hX
          have HU2 := Lib.hid hU
          have HM2 := Lib.hid hM
          have Hb2 := Lib.hid hb
          clear e1 e2 hX hU hM hb
          have x0 := HX.out.cell 0 _ rfl
          have x3 := HX.out.cell 3 _ rfl
          by_cases h7 : x.kd = 7
          · have q7 : (x.kd != 7) = false := by simpa using h7
            have Hst : Hid (usesF (xs.take (k + 1)) = step2 s1 x) := Lib.hid (by rw [Hs.out, Hse.out, stepU_eq, if_pos h7, Hs1.out])
            clear h7
            go_wp2
            go_roundw
            case rel => exact ⟨k + 1, by omega, by go_num, by rw [Hst.out]; exact HU2.out, by rw [Hst.out]; exact HM2.out, Hb2.out⟩
            case measure => simp [intOf]; omega
          · have q7 : (x.kd != 7) = true := by simpa using h7
            have Hst : Hid (usesF (xs.take (k + 1)) = ((step2 s1 x).1, addT (step2 s1 x).2 x.tc true)) := Lib.hid (by rw [Hs.out, Hse.out, stepU_eq, if_neg h7, Hs1.out])
            obtain ⟨a, ha⟩ := Int.eq_ofNat_of_zero_le Hok.out.tc.1
            have ha6 : a < 6 := by have := Hok.out.tc.2; omega
            have ha7 : (a : Int) < 6 := by omega
            rw [ha] at x3
            have Ha1 := Lib.hid ha
            have m1 := HM2.out.cell a _ (tray6_nat _ ha6)
            have f1 := HM2.out.free a
            have hset := HM2.out.set1 (j := a) (by simp [tray6]; omega) (.bool ((step2 s1 x).2 (a : Int) || true))
            rw [tray6_setN _ true ha6, ← ha, Bool.or_true] at hset
            have Hset := Lib.hid hset
            have hoth := HU2.out.other (p := ⟨w1.heap.size + 1, a, none⟩) (by show w1.heap.size + 1 ≠ w1.heap.size; omega) (.bool true)
            have Hoth := Lib.hid hoth
            have hb3 := Hb2.out.setCell (p := ⟨w1.heap.size + 1, a, none⟩) (by show w.heap.size ≤ w1.heap.size + 1; omega) (.bool true)
            have Hb3 := Lib.hid hb3
            clear h7 ha hset hoth hb3
            go_wp2
            go_roundw
            case rel => exact ⟨k + 1, by omega, by go_num, by rw [Hst.out]; exact Hoth.out, by rw [Hst.out]; exact Hset.out, Hb3.out⟩
            case measure => simp [intOf]; omega
        · have H2 := Lib.hid h2
          clear h2
          go_wp2_with fail
          with_reducible refine (takesTwo_no _ _ H2.out).mono ?_
          rintro e w9 ⟨rfl, rfl⟩
          have e1 : s1 = step2 s1 x := by rw [step2_one H2.out]
          have HU2 : Hid (Box _ w1.heap.size (tray6 (step2 s1 x).1)) := Lib.hid (by rw [← e1]; exact HU.out)
          have HM2 : Hid (Box _ (w1.heap.size + 1) (tray6 (step2 s1 x).2)) := Lib.hid (by rw [← e1]; exact HM.out)
          have Hb2 := Hb
          clear e1
          by_cases h7 : x.kd = 7
          · have q7 : (x.kd != 7) = false := by simpa using h7
            have Hst : Hid (usesF (xs.take (k + 1)) = step2 s1 x) := Lib.hid (by rw [Hs.out, Hse.out, stepU_eq, if_pos h7, Hs1.out])
            clear h7
            go_wp2
            go_roundw
            case rel => exact ⟨k + 1, by omega, by go_num, by rw [Hst.out]; exact HU2.out, by rw [Hst.out]; exact HM2.out, Hb2.out⟩
            case measure => simp [intOf]; omega
          · have q7 : (x.kd != 7) = true := by simpa using h7
            have Hst : Hid (usesF (xs.take (k + 1)) = ((step2 s1 x).1, addT (step2 s1 x).2 x.tc true)) := Lib.hid (by rw [Hs.out, Hse.out, stepU_eq, if_neg h7, Hs1.out])
            obtain ⟨a, ha⟩ := Int.eq_ofNat_of_zero_le Hok.out.tc.1
            have ha6 : a < 6 := by have := Hok.out.tc.2; omega
            have ha7 : (a : Int) < 6 := by omega
            rw [ha] at x3
            have Ha1 := Lib.hid ha
            have m1 := HM2.out.cell a _ (tray6_nat _ ha6)
            have f1 := HM2.out.free a
            have hset := HM2.out.set1 (j := a) (by simp [tray6]; omega) (.bool ((step2 s1 x).2 (a : Int) || true))
            rw [tray6_setN _ true ha6, ← ha, Bool.or_true] at hset
            have Hset := Lib.hid hset
            have hoth := HU2.out.other (p := ⟨w1.heap.size + 1, a, none⟩) (by show w1.heap.size + 1 ≠ w1.heap.size; omega) (.bool true)
            have Hoth := Lib.hid hoth
            have hb3 := Hb2.out.setCell (p := ⟨w1.heap.size + 1, a, none⟩) (by show w.heap.size ≤ w1.heap.size + 1; omega) (.bool true)
            have Hb3 := Lib.hid hb3
            clear h7 ha hset hoth hb3
            go_wp2
            go_roundw
            case rel => exact ⟨k + 1, by omega, by go_num, by rw [Hst.out]; exact Hoth.out, by rw [Hst.out]; exact Hset.out, Hb3.out⟩
            case measure => simp [intOf]; omega
      · obtain rfl : k = n := by omega
        have hN := Hn.out
        rw [List.take_of_length_le (by omega)] at hU
        have HU := Lib.hid hU
        have Hbf := Lib.hid hbb
        clear hU hM hbb hN
        have hcols := cols_U (B := w1.heap.size) (w := wr) (n := 6) (p := (usesF xs).1) (by decide) (fun i W' hi6 hb' => clo_U w1.heap.size i _ W' hi6 ((HU.out.on hb').cell i _ (tray6_nat _ hi6)))
        rw [show ((6 : Nat) : Int) = 6 from rfl] at hcols
        have Hcols := Lib.hid hcols
        clear hcols
        go_wp2_with fail
        with_reducible refine Hcols.out.mono ?_
        rintro e w9 ⟨u, rfl, hu, hb9⟩
        have hb10 := Hbf.out.trans (hb9.mono Hbf.out.size)
        have Hu := Lib.hid (hu.mono Hbf.out.size)
        clear hu hb9
        go_wp2
        go_ret2
        exact ⟨_, rfl, Hu.out, hb10⟩
end Go.Proofs.Ytipldgbfenhknaa
