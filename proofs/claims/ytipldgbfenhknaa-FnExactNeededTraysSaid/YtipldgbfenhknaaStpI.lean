/- Valid steps and flows: the program's tests, each by its contract. No condition. -/
import Derived.Test.YtipldgbfenhknaaStpV
import Derived.Test.YtipldgbfenhknaaQB
namespace Go.Proofs.Ytipldgbfenhknaa
open Go.ChangeShapes Go.WideShapes Go.ChangeAt Go.RowKit
set_option linter.unusedVariables false
set_option maxRecDepth 100000
set_option maxHeartbeats 1000000 in
theorem ValidStep_c (x : StepT) (c9 : Int) (w : World) (a : okStep x) (hc : 1 ≤ c9 ∧ c9 ≤ 20) :
    Calls Try.prog 31 #[vStep x, .int .i64 c9] w fun e w' => e = .returned (.bool (stB x c9)) ∧ Below w.heap.size w w' := by
  have Hc := Lib.hid hc
  have Ha := Lib.hid a
  have hW : Box (w.alloc (.cells #[.int .i64 x.kd, .int .i64 x.ta, .int .i64 x.tb, .int .i64 x.tc, .int .i64 x.ff, .int .i64 x.ft, .int .i64 x.sf, .int .i64 x.st, .string x.tx] 44)) w.heap.size [.int .i64 x.kd, .int .i64 x.ta, .int .i64 x.tb, .int .i64 x.tc, .int .i64 x.ff, .int .i64 x.ft, .int .i64 x.sf, .int .i64 x.st, .string x.tx] := Box.new w _ _
  have hbW : Below w.heap.size w (w.alloc (.cells #[.int .i64 x.kd, .int .i64 x.ta, .int .i64 x.tb, .int .i64 x.tc, .int .i64 x.ff, .int .i64 x.ft, .int .i64 x.sf, .int .i64 x.st, .string x.tx] 44)) := (Below.refl _ _).alloc (Nat.le_refl _) _
  have HW := Lib.hid hW
  have HbW := Lib.hid hbW
  clear a hc hW hbW
  go_enter Try.func31, Try.ntmps31
  go_wp2_with fail
  with_reducible refine (inside_yes _ _ _ _ Hc.out.1 Hc.out.2).mono ?_
  rintro e w1 ⟨rfl, rfl⟩
  by_cases k_kd : 1 ≤ x.kd ∧ x.kd ≤ 7
  case neg =>
    have K := Lib.hid k_kd
    have k2 : x.kd < 1 ∨ 7 < x.kd := by omega
    have K2 := Lib.hid k2
    clear k2
    clear k_kd
    go_wp2_with fail
    with_reducible refine (inside_no _ _ _ _ K2.out).mono ?_
    rintro e w1 ⟨rfl, rfl⟩
    go_wp2
    go_ret
    exact ⟨ret_bool (stB_no fun h => K.out h.kd).symm, HbW.out⟩
  have K_kd := Lib.hid k_kd
  clear k_kd
  go_wp2_with fail
  with_reducible refine (inside_yes _ _ _ _ K_kd.out.1 K_kd.out.2).mono ?_
  rintro e w1 ⟨rfl, rfl⟩
  by_cases k_ta : trayP x.ta
  case neg =>
    have K := Lib.hid k_ta
    clear k_ta
    go_wp2_with fail
    with_reducible refine (isTray_no _ _ K.out).mono ?_
    rintro e w1 ⟨rfl, rfl⟩
    go_wp2
    go_ret
    exact ⟨ret_bool (stB_no fun h => K.out h.ta).symm, HbW.out⟩
  have K_ta := Lib.hid k_ta
  clear k_ta
  go_wp2_with fail
  with_reducible refine (isTray_yes _ _ K_ta.out).mono ?_
  rintro e w1 ⟨rfl, rfl⟩
  by_cases k_tb : trayP x.tb
  case neg =>
    have K := Lib.hid k_tb
    clear k_tb
    go_wp2_with fail
    with_reducible refine (isTray_no _ _ K.out).mono ?_
    rintro e w1 ⟨rfl, rfl⟩
    go_wp2
    go_ret
    exact ⟨ret_bool (stB_no fun h => K.out h.tb).symm, HbW.out⟩
  have K_tb := Lib.hid k_tb
  clear k_tb
  go_wp2_with fail
  with_reducible refine (isTray_yes _ _ K_tb.out).mono ?_
  rintro e w1 ⟨rfl, rfl⟩
  by_cases k_tc : trayP x.tc
  case neg =>
    have K := Lib.hid k_tc
    clear k_tc
    go_wp2_with fail
    with_reducible refine (isTray_no _ _ K.out).mono ?_
    rintro e w1 ⟨rfl, rfl⟩
    go_wp2
    go_ret
    exact ⟨ret_bool (stB_no fun h => K.out h.tc).symm, HbW.out⟩
  have K_tc := Lib.hid k_tc
  clear k_tc
  go_wp2_with fail
  with_reducible refine (isTray_yes _ _ K_tc.out).mono ?_
  rintro e w1 ⟨rfl, rfl⟩
  go_upto_region 3 with fail
  generalize w.alloc (.cells #[.int .i64 x.kd, .int .i64 x.ta, .int .i64 x.tb, .int .i64 x.tc, .int .i64 x.ff, .int .i64 x.ft, .int .i64 x.sf, .int .i64 x.st, .string x.tx] 44) = W at HW HbW ⊢
  have c0 := HW.out.cell 0 _ rfl
  have c2 := HW.out.cell 2 _ rfl
  have c3 := HW.out.cell 3 _ rfl
  have c4 := HW.out.cell 4 _ rfl
  have c5 := HW.out.cell 5 _ rfl
  go_cut [33] (fun c wx => ∃ q : Bool, c = .bool q ∧ Hid (q = false → (x.tb = 0 ∨ twoP x.kd) ∧ (x.tc = 0 ∨ ¬ x.kd = 7) ∧ fieldP x.ff x.ft c9) ∧ Hid (q = true → stB x c9 = false) ∧ Below W.heap.size W wx)
  case first =>
    by_cases k2 : x.tb = 0
    · have q2 : (x.tb != 0) = false := by simpa using k2
      have K2 := Lib.hid k2
      clear k2
      by_cases k3 : x.tc = 0
      · have q3 : (x.tc != 0) = false := by simpa using k3
        have K3 := Lib.hid k3
        clear k3
        go_wp2_with fail
        with_reducible refine (isField_c x.ff x.ft c9 _ (by have := Hc.out; omega)).mono ?_
        by_cases kf : fieldP x.ff x.ft c9
        · have Kf := Lib.hid kf
          rw [decide_eq_true kf]
          clear kf
          rintro e w1 ⟨rfl, hb⟩
          clear c0 c2 c3 c4 c5
          go_wp2_with fail
          go_meet
          exact ⟨false, rfl, fun _ => ⟨.inl K2.out, .inl K3.out, Kf.out⟩, fun h => (by cases h), hb⟩
        · have Kf := Lib.hid kf
          rw [decide_eq_false kf]
          clear kf
          rintro e w1 ⟨rfl, hb⟩
          clear c0 c2 c3 c4 c5
          go_wp2_with fail
          go_meet
          exact ⟨true, rfl, fun h => (by cases h), fun _ => stB_no fun h => Kf.out h.ff, hb⟩
      · have q3 : (x.tc != 0) = true := by simpa using k3
        have K3 := Lib.hid k3
        clear k3
        by_cases k7 : x.kd = 7
        · have q7 : (x.kd == 7) = true := by simpa using k7
          have K7 := Lib.hid k7
          clear k7
          go_wp2_with fail
          go_meet
          exact ⟨true, rfl, fun h => (by cases h), fun _ => stB_no fun h => h.c0.elim (fun e => K3.out e) (fun e => e K7.out), Below.refl _ _⟩
        · have q7 : (x.kd == 7) = false := by simpa using k7
          have K7 := Lib.hid k7
          clear k7
          go_wp2_with fail
          with_reducible refine (isField_c x.ff x.ft c9 _ (by have := Hc.out; omega)).mono ?_
          by_cases kf : fieldP x.ff x.ft c9
          · have Kf := Lib.hid kf
            rw [decide_eq_true kf]
            clear kf
            rintro e w1 ⟨rfl, hb⟩
            clear c0 c2 c3 c4 c5
            go_wp2_with fail
            go_meet
            exact ⟨false, rfl, fun _ => ⟨.inl K2.out, .inr K7.out, Kf.out⟩, fun h => (by cases h), hb⟩
          · have Kf := Lib.hid kf
            rw [decide_eq_false kf]
            clear kf
            rintro e w1 ⟨rfl, hb⟩
            clear c0 c2 c3 c4 c5
            go_wp2_with fail
            go_meet
            exact ⟨true, rfl, fun h => (by cases h), fun _ => stB_no fun h => Kf.out h.ff, hb⟩
    · have q2 : (x.tb != 0) = true := by simpa using k2
      have K0 := Lib.hid k2
      clear k2
      by_cases k2 : twoP x.kd
      · have K2 := Lib.hid k2
        clear k2
        go_wp2_with fail
        with_reducible refine (takesTwo_yes _ _ K2.out).mono ?_
        rintro e w1 ⟨rfl, rfl⟩
        by_cases k3 : x.tc = 0
        · have q3 : (x.tc != 0) = false := by simpa using k3
          have K3 := Lib.hid k3
          clear k3
          go_wp2_with fail
          with_reducible refine (isField_c x.ff x.ft c9 _ (by have := Hc.out; omega)).mono ?_
          by_cases kf : fieldP x.ff x.ft c9
          · have Kf := Lib.hid kf
            rw [decide_eq_true kf]
            clear kf
            rintro e w1 ⟨rfl, hb⟩
            clear c0 c2 c3 c4 c5
            go_wp2_with fail
            go_meet
            exact ⟨false, rfl, fun _ => ⟨.inr K2.out, .inl K3.out, Kf.out⟩, fun h => (by cases h), hb⟩
          · have Kf := Lib.hid kf
            rw [decide_eq_false kf]
            clear kf
            rintro e w1 ⟨rfl, hb⟩
            clear c0 c2 c3 c4 c5
            go_wp2_with fail
            go_meet
            exact ⟨true, rfl, fun h => (by cases h), fun _ => stB_no fun h => Kf.out h.ff, hb⟩
        · have q3 : (x.tc != 0) = true := by simpa using k3
          have K3 := Lib.hid k3
          clear k3
          have k7 : ¬ x.kd = 7 := by have := K2.out; unfold twoP at this; omega
          have q7 : (x.kd == 7) = false := by simpa using k7
          have K7 := Lib.hid k7
          clear k7
          go_wp2_with fail
          with_reducible refine (isField_c x.ff x.ft c9 _ (by have := Hc.out; omega)).mono ?_
          by_cases kf : fieldP x.ff x.ft c9
          · have Kf := Lib.hid kf
            rw [decide_eq_true kf]
            clear kf
            rintro e w1 ⟨rfl, hb⟩
            clear c0 c2 c3 c4 c5
            go_wp2_with fail
            go_meet
            exact ⟨false, rfl, fun _ => ⟨.inr K2.out, .inr K7.out, Kf.out⟩, fun h => (by cases h), hb⟩
          · have Kf := Lib.hid kf
            rw [decide_eq_false kf]
            clear kf
            rintro e w1 ⟨rfl, hb⟩
            clear c0 c2 c3 c4 c5
            go_wp2_with fail
            go_meet
            exact ⟨true, rfl, fun h => (by cases h), fun _ => stB_no fun h => Kf.out h.ff, hb⟩
      · have K2 := Lib.hid k2
        clear k2
        go_wp2_with fail
        with_reducible refine (takesTwo_no _ _ K2.out).mono ?_
        rintro e w1 ⟨rfl, rfl⟩
        go_wp2_with fail
        go_meet
        exact ⟨true, rfl, fun h => (by cases h), fun _ => stB_no fun h => h.b0.elim (fun e => K0.out e) (fun e => K2.out e), Below.refl _ _⟩
  case rest =>
    obtain ⟨q, rfl, HP, HN, hbx⟩ := hcut
    have HX := Lib.hid (HW.out.on hbx)
    have HbX := Lib.hid (HbW.out.trans (hbx.mono (by have := HW.out.lt; omega)))
    clear c0 c2 c3 c4 c5 hbx HbW HW
    have c0 := HX.out.cell 0 _ rfl
    have c4 := HX.out.cell 4 _ rfl
    have c5 := HX.out.cell 5 _ rfl
    have c6 := HX.out.cell 6 _ rfl
    have c7 := HX.out.cell 7 _ rfl
    have c8 := HX.out.cell 8 _ rfl
    cases q with
    | true =>
      have HN1 := Lib.hid (HN.out rfl)
      clear HN HP
      go_wp2
      go_ret
      exact ⟨ret_bool HN1.out.symm, HbX.out⟩
    | false =>
      obtain ⟨f1, f2, f3⟩ := HP.out rfl
      have F1 := Lib.hid f1
      have F2 := Lib.hid f2
      have F3 := Lib.hid f3
      have f4 : 0 ≤ x.ff ∧ x.ff < x.ft ∧ x.ft ≤ 20 := by have := Hc.out; unfold fieldP at f3; omega
      obtain ⟨f5, f6, f7⟩ := f4
      clear f1 f2 f3 HP HN
      have hsz := Ha.out.2.2.2.2.2.2.2.2
      by_cases k7 : x.kd = 7
      · have q7 : (x.kd == 7) = true := by simpa using k7
        have q7n : (x.kd != 7) = false := by simpa using k7
        have q5 : (x.kd == 5) = false := by simpa using (show ¬ x.kd = 5 by omega)
        have K7 := Lib.hid k7
        have K5 : Hid (¬ x.kd = 5) := Lib.hid (by omega)
        clear k7
        go_wp2_with fail
        with_reducible refine (isNumberField_c x.sf x.st c9 _ (by have := Hc.out; omega)).mono ?_
        by_cases ks : fieldP x.sf x.st c9 ∧ x.st - x.sf ≤ 12
        · have Ks := Lib.hid ks
          rw [decide_eq_true ks]
          clear ks
          rintro e w1 ⟨rfl, hb⟩
          have HY := Lib.hid (HX.out.on hb)
          have HbY := Lib.hid (HbX.out.trans (hb.mono HbX.out.size))
          clear hb HX HbX c0 c4 c5 c6 c7 c8
          have c0 := HY.out.cell 0 _ rfl
          have c8 := HY.out.cell 8 _ rfl
          by_cases k8 : x.tx.size = 0
          · have q8 := txt_empty k8
            have K8 := Lib.hid k8
            clear k8
            go_wp2
            go_ret
            exact ⟨ret_bool (stB_yes ⟨K_kd.out, K_ta.out, K_tb.out, K_tc.out, F1.out, F2.out, F3.out, fun _ => Ks.out, fun e => absurd K7.out e, fun e => absurd e K5.out, fun _ => K8.out⟩).symm, HbY.out⟩
          · have q8 := txt_full k8
            have K8 := Lib.hid k8
            clear k8
            go_wp2
            go_ret
            exact ⟨ret_bool (stB_no fun h => K8.out (h.notx K5.out)).symm, HbY.out⟩
        · have Ks := Lib.hid ks
          rw [decide_eq_false ks]
          clear ks
          rintro e w1 ⟨rfl, hb⟩
          have HbY := Lib.hid (HbX.out.trans (hb.mono HbX.out.size))
          clear hb HX HbX c0 c4 c5 c6 c7 c8
          go_wp2
          go_ret
          exact ⟨ret_bool (stB_no fun h => Ks.out (h.sum K7.out)).symm, HbY.out⟩
      · have q7 : (x.kd == 7) = false := by simpa using k7
        have q7n : (x.kd != 7) = true := by simpa using k7
        have K7 := Lib.hid k7
        clear k7
        by_cases s1 : x.sf = 0
        case neg =>
          have r1 : (x.sf == 0) = false := by simpa using s1
          have S1 := Lib.hid s1
          clear s1
          go_wp2
          go_ret
          exact ⟨ret_bool (stB_no fun h => S1.out (h.nosum K7.out).1).symm, HbX.out⟩
        by_cases s2 : x.st = 0
        case neg =>
          have r1 : (x.sf == 0) = true := by simpa using s1
          have r2 : (x.st == 0) = false := by simpa using s2
          have S2 := Lib.hid s2
          clear s1 s2
          go_wp2
          go_ret
          exact ⟨ret_bool (stB_no fun h => S2.out (h.nosum K7.out).2).symm, HbX.out⟩
        have r1 : (x.sf == 0) = true := by simpa using s1
        have r2 : (x.st == 0) = true := by simpa using s2
        have S1 := Lib.hid s1
        have S2 := Lib.hid s2
        clear s1 s2
        by_cases k5 : x.kd = 5
        · have q5 : (x.kd == 5) = true := by simpa using k5
          have K5 := Lib.hid k5
          clear k5
          go_wp2_with fail
          with_reducible refine (areCharacters_c x.tx _ hsz).mono ?_
          cases kc : chS x.tx with
          | false =>
            have Kc := Lib.hid kc
            clear kc
            rintro e w1 ⟨rfl, rfl⟩
            go_wp2
            go_ret
            exact ⟨ret_bool (stB_no fun h => by have h9 := (h.tx K5.out).1; rw [Kc.out] at h9; cases h9).symm, HbX.out⟩
          | true =>
            have Kc := Lib.hid kc
            clear kc
            rintro e w1 ⟨rfl, rfl⟩
            by_cases ke : (x.tx.size : Int) = x.ft - x.ff
            · have qe : ((x.tx.size : Int) == x.ft - x.ff) = true := by simpa using ke
              have Ke := Lib.hid ke
              clear ke
              go_wp2
              go_ret
              exact ⟨ret_bool (stB_yes ⟨K_kd.out, K_ta.out, K_tb.out, K_tc.out, F1.out, F2.out, F3.out, fun e => absurd e K7.out, fun _ => ⟨S1.out, S2.out⟩, fun _ => ⟨Kc.out, Ke.out⟩, fun e => absurd K5.out e⟩).symm, HbX.out⟩
            · have qe : ((x.tx.size : Int) == x.ft - x.ff) = false := by simpa using ke
              have Ke := Lib.hid ke
              clear ke
              go_wp2
              go_ret
              exact ⟨ret_bool (stB_no fun h => Ke.out (h.tx K5.out).2).symm, HbX.out⟩
        · have q5 : (x.kd == 5) = false := by simpa using k5
          have K5 := Lib.hid k5
          clear k5
          by_cases k8 : x.tx.size = 0
          · have q8 := txt_empty k8
            have K8 := Lib.hid k8
            clear k8
            go_wp2
            go_ret
            exact ⟨ret_bool (stB_yes ⟨K_kd.out, K_ta.out, K_tb.out, K_tc.out, F1.out, F2.out, F3.out, fun e => absurd e K7.out, fun _ => ⟨S1.out, S2.out⟩, fun e => absurd e K5.out, fun _ => K8.out⟩).symm, HbX.out⟩
          · have q8 := txt_full k8
            have K8 := Lib.hid k8
            clear k8
            go_wp2
            go_ret
            exact ⟨ret_bool (stB_no fun h => K8.out (h.notx K5.out)).symm, HbX.out⟩
end Go.Proofs.Ytipldgbfenhknaa
