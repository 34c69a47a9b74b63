/- Valid steps and flows: the reference's tests, each by its contract. No condition. -/
import Derived.Test.YtipldgbfenhknaaStpF
namespace Go.Proofs.Ytipldgbfenhknaa
open Go.ChangeShapes Go.WideShapes Go.ChangeAt Go.RowKit Go.Sort
set_option linter.unusedVariables false
set_option maxRecDepth 100000
/-- a step lies in memory -/
structure StAt (w : World) (b off : Nat) (x : StepT) : Prop where
  lt : b < w.heap.size
  c0 : w.cell? ⟨b, off, none⟩ = some (.int .i64 x.kd)
  c1 : w.cell? ⟨b, off + 1, none⟩ = some (.int .i64 x.ta)
  c2 : w.cell? ⟨b, off + 2, none⟩ = some (.int .i64 x.tb)
  c3 : w.cell? ⟨b, off + 3, none⟩ = some (.int .i64 x.tc)
  c4 : w.cell? ⟨b, off + 4, none⟩ = some (.int .i64 x.ff)
  c5 : w.cell? ⟨b, off + 5, none⟩ = some (.int .i64 x.ft)
  c6 : w.cell? ⟨b, off + 6, none⟩ = some (.int .i64 x.sf)
  c7 : w.cell? ⟨b, off + 7, none⟩ = some (.int .i64 x.st)
  c8 : w.cell? ⟨b, off + 8, none⟩ = some (.string x.tx)
theorem StAt.below {w w' : World} {b off : Nat} {x : StepT} {B : Nat} (h : StAt w b off x) (hb : Below B w w') (hB : b < B := by omega) : StAt w' b off x :=
  ⟨Nat.lt_of_lt_of_le h.lt hb.size, (hb.cell (p := ⟨b, off, none⟩) hB).trans h.c0, (hb.cell (p := ⟨b, off + 1, none⟩) hB).trans h.c1, (hb.cell (p := ⟨b, off + 2, none⟩) hB).trans h.c2, (hb.cell (p := ⟨b, off + 3, none⟩) hB).trans h.c3, (hb.cell (p := ⟨b, off + 4, none⟩) hB).trans h.c4, (hb.cell (p := ⟨b, off + 5, none⟩) hB).trans h.c5, (hb.cell (p := ⟨b, off + 6, none⟩) hB).trans h.c6, (hb.cell (p := ⟨b, off + 7, none⟩) hB).trans h.c7, (hb.cell (p := ⟨b, off + 8, none⟩) hB).trans h.c8⟩
theorem txt_empty2 {s : ByteArray} (h : s.size = 0) : (s.toList == []) = true := by
  have := txt_empty h
  simpa using this
theorem txt_full2 {s : ByteArray} (h : ¬ s.size = 0) : (s.toList == []) = false := by
  have := txt_full h
  cases hd : s.toList with
  | nil => rw [hd] at this; cases this
  | cons a b => rfl
theorem StAt.on {w w' : World} {b off : Nat} {x : StepT} (h : StAt w b off x) (hb : Below w.heap.size w w') : StAt w' b off x :=
  ⟨Nat.lt_of_lt_of_le h.lt hb.size, (hb.cell (p := ⟨b, off, none⟩) h.lt).trans h.c0, (hb.cell (p := ⟨b, off + 1, none⟩) h.lt).trans h.c1, (hb.cell (p := ⟨b, off + 2, none⟩) h.lt).trans h.c2, (hb.cell (p := ⟨b, off + 3, none⟩) h.lt).trans h.c3, (hb.cell (p := ⟨b, off + 4, none⟩) h.lt).trans h.c4, (hb.cell (p := ⟨b, off + 5, none⟩) h.lt).trans h.c5, (hb.cell (p := ⟨b, off + 6, none⟩) h.lt).trans h.c6, (hb.cell (p := ⟨b, off + 7, none⟩) h.lt).trans h.c7, (hb.cell (p := ⟨b, off + 8, none⟩) h.lt).trans h.c8⟩
set_option maxHeartbeats 2000000 in
theorem l15Step_c (x : StepT) (c9 : Int) (b off : Nat) (w : World) (a : okStep x) (hc : 1 ≤ c9 ∧ c9 ≤ 20) (hA : StAt w b off x) :
    Calls Try.prog 24 #[.pointer (some ⟨b, off, none⟩), .int .i64 c9] w fun e w' => e = .returned (.bool (stB x c9)) ∧ Below w.heap.size w w' := by
  have Hc := Lib.hid hc
  have Ha := Lib.hid a
  have HA := Lib.hid hA
  have a0 := hA.c0
  have a1 := hA.c1
  have a2 := hA.c2
  have a3 := hA.c3
  have a4 := hA.c4
  have a5 := hA.c5
  clear a hc hA
  go_enter Try.func24, Try.ntmps24
  by_cases k_kd : 1 ≤ x.kd ∧ x.kd ≤ 7
  case neg =>
    have K := Lib.hid k_kd
    have k2 : x.kd < 1 ∨ 7 < x.kd := by omega
    have K2 := Lib.hid k2
    clear k2
    clear k_kd
    go_wp2_with fail
    with_reducible refine (l00In_no _ _ _ _ K2.out).mono ?_
    rintro e w1 ⟨rfl, rfl⟩
    go_wp2
    go_ret
    exact ⟨ret_bool (stB_no fun h => K.out h.kd).symm, Below.refl _ _⟩
  have K_kd := Lib.hid k_kd
  clear k_kd
  go_wp2_with fail
  with_reducible refine (l00In_yes _ _ _ _ K_kd.out.1 K_kd.out.2).mono ?_
  rintro e w1 ⟨rfl, rfl⟩
  by_cases k_ta : trayP x.ta
  case neg =>
    have K := Lib.hid k_ta
    clear k_ta
    go_wp2_with fail
    with_reducible refine (l15Tray_no _ _ K.out).mono ?_
    rintro e w1 ⟨rfl, rfl⟩
    go_wp2
    go_ret
    exact ⟨ret_bool (stB_no fun h => K.out h.ta).symm, Below.refl _ _⟩
  have K_ta := Lib.hid k_ta
  clear k_ta
  go_wp2_with fail
  with_reducible refine (l15Tray_yes _ _ K_ta.out).mono ?_
  rintro e w1 ⟨rfl, rfl⟩
  by_cases k_tb : trayP x.tb
  case neg =>
    have K := Lib.hid k_tb
    clear k_tb
    go_wp2_with fail
    with_reducible refine (l15Tray_no _ _ K.out).mono ?_
    rintro e w1 ⟨rfl, rfl⟩
    go_wp2
    go_ret
    exact ⟨ret_bool (stB_no fun h => K.out h.tb).symm, Below.refl _ _⟩
  have K_tb := Lib.hid k_tb
  clear k_tb
  go_wp2_with fail
  with_reducible refine (l15Tray_yes _ _ K_tb.out).mono ?_
  rintro e w1 ⟨rfl, rfl⟩
  by_cases k_tc : trayP x.tc
  case neg =>
    have K := Lib.hid k_tc
    clear k_tc
    go_wp2_with fail
    with_reducible refine (l15Tray_no _ _ K.out).mono ?_
    rintro e w1 ⟨rfl, rfl⟩
    go_wp2
    go_ret
    exact ⟨ret_bool (stB_no fun h => K.out h.tc).symm, Below.refl _ _⟩
  have K_tc := Lib.hid k_tc
  clear k_tc
  go_wp2_with fail
  with_reducible refine (l15Tray_yes _ _ K_tc.out).mono ?_
  rintro e w1 ⟨rfl, rfl⟩
  go_wp2_with fail
  with_reducible refine (l02Field_c x.ff x.ft c9 _ (by have := Hc.out; omega)).mono ?_
  by_cases kf : fieldP x.ff x.ft c9
  case neg =>
    have K := Lib.hid kf
    rw [decide_eq_false kf]
    clear kf
    rintro e w1 ⟨rfl, hb⟩
    clear a0 a1 a2 a3 a4 a5
    go_wp2
    go_ret
    exact ⟨ret_bool (stB_no fun h => K.out h.ff).symm, hb⟩
  have Kf := Lib.hid kf
  rw [decide_eq_true kf]
  clear kf
  rintro e w1 ⟨rfl, hb⟩
  have HA1 := Lib.hid (HA.out.on hb)
  have HB1 := Lib.hid hb
  clear a0 a1 a2 a3 a4 a5 HA hb
  have a0 := HA1.out.c0
  have a2 := HA1.out.c2
  go_upto_region 3 with fail
  go_cut [56] (fun c wx => c = .bool (decide (¬ (x.tb = 0 ∨ twoP x.kd))) ∧ wx = w1)
  case first =>
    by_cases k2 : x.tb = 0
    · have q2 : (x.tb != 0) = false := by simpa using k2
      have K2 := Lib.hid k2
      clear k2
      go_wp2_with fail
      go_meet
      exact ⟨congrArg Value.bool (decide_eq_false (fun h => h (.inl K2.out))).symm, rfl⟩
    · have q2 : (x.tb != 0) = true := by simpa using k2
      have K0 := Lib.hid k2
      clear k2
      by_cases k2 : twoP x.kd
      · have K2 := Lib.hid k2
        clear k2
        go_wp2_with fail
        with_reducible refine (l15Both_yes _ _ K2.out).mono ?_
        rintro e w1 ⟨rfl, rfl⟩
        go_wp2_with fail
        go_meet
        exact ⟨congrArg Value.bool (decide_eq_false (fun h => h (.inr K2.out))).symm, rfl⟩
      · have K2 := Lib.hid k2
        clear k2
        go_wp2_with fail
        with_reducible refine (l15Both_no _ _ K2.out).mono ?_
        rintro e w1 ⟨rfl, rfl⟩
        go_wp2_with fail
        go_meet
        exact ⟨congrArg Value.bool (decide_eq_true (p := ¬ (x.tb = 0 ∨ twoP x.kd)) (fun h => h.elim K0.out K2.out)).symm, rfl⟩
  case rest =>
    obtain ⟨rfl, hwc⟩ := hcut
    subst hwc
    by_cases k2 : x.tb = 0 ∨ twoP x.kd
    case neg =>
      have K := Lib.hid k2
      rw [decide_eq_true (p := ¬ (x.tb = 0 ∨ twoP x.kd)) k2]
      clear k2
      go_wp2
      go_ret
      exact ⟨ret_bool (stB_no fun h => K.out h.b0).symm, HB1.out⟩
    rw [decide_eq_false (p := ¬ (x.tb = 0 ∨ twoP x.kd)) (fun h => h k2)]
    have K2 := Lib.hid k2
    clear k2
    have hsz := Ha.out.2.2.2.2.2.2.2.2
    have a3 := HA1.out.c3
    have a4 := HA1.out.c4
    have a5 := HA1.out.c5
    have a6 := HA1.out.c6
    have a7 := HA1.out.c7
    have a8 := HA1.out.c8
    by_cases k7 : x.kd = 7
    case pos =>
      have q7 : (x.kd == 7) = true := by simpa using k7
      have q5 : ¬ x.kd = 5 := by omega
      have K7 := Lib.hid k7
      have K5 := Lib.hid q5
      clear k7 q5
      go_upto_region 6 with fail
      have g0 := cell_regrown HA1.out.c0
      have g1 := cell_regrown HA1.out.c1
      have g2 := cell_regrown HA1.out.c2
      have g3 := cell_regrown HA1.out.c3
      have g4 := cell_regrown HA1.out.c4
      have g5 := cell_regrown HA1.out.c5
      have g6 := cell_regrown HA1.out.c6
      have g7 := cell_regrown HA1.out.c7
      have g8 := cell_regrown HA1.out.c8
      clear a0 a2 a3 a4 a5 a6 a7 a8
      by_cases k3 : x.tc = 0
      case neg =>
        have q3 : (x.tc == 0) = false := by simpa using k3
        have K3 := Lib.hid k3
        clear k3
        refine wp_region_quiet_below (by kernel_rfl) (by kernel_rfl) ?_
        repeat ((with_reducible refine wpQuiet_step (fun K hK => ?_)); go_simp; first | ((with_reducible refine hK _ ?_); clear hK K) | ((with_reducible rw [if_neg]); rotate_left; (intro hgd; cases hgd); (with_reducible refine hK _ ?_); clear hK K) | (apply Exists.intro; refine ⟨fun _ => ?_, hK _ ?_⟩; ((fail)); clear hK K))
        refine wpQuiet_nil ?_
        intro _ hw'
        obtain ⟨⟨dq, osq⟩, hw''⟩ := hw'
        subst hw''
        have hbq := below_regrown wc dq osq
        generalize grow (redrawn wc dq) osq = wq at hbq ⊢
        have HQ := Lib.hid (HB1.out.trans (hbq.mono HB1.out.size))
        clear hbq g0 g1 g2 g3 g4 g5 g6 g7 g8
        go_wp2
        go_ret
        exact ⟨ret_bool (stB_no fun h => h.c0.elim K3.out (fun e => e K7.out)).symm, HQ.out⟩
      have q3 : (x.tc == 0) = true := by simpa using k3
      have K3 := Lib.hid k3
      clear k3
      by_cases ks : fieldP x.sf x.st c9
      case neg =>
        have hfd : ∀ d os, Calls Try.prog 37 #[.agg #[.int .i64 x.sf, .int .i64 x.st], .int .i64 c9] (grow (redrawn wc d) os) fun e w' => e = .returned (.bool false) ∧ Below (grow (redrawn wc d) os).heap.size (grow (redrawn wc d) os) w' := fun d os => by have h := l02Field_c x.sf x.st c9 (grow (redrawn wc d) os) (by have := Hc.out; omega); rw [decide_eq_false ks] at h; exact h
        have Hfd := Lib.hid hfd
        have Ks := Lib.hid ks
        clear ks hfd
        refine wp_region_quiet_below (by kernel_rfl) (by kernel_rfl) ?_
        repeat ((with_reducible refine wpQuiet_step (fun K hK => ?_)); go_simp; first | ((with_reducible refine hK _ ?_); clear hK K) | ((with_reducible rw [if_neg]); rotate_left; (intro hgd; cases hgd); (with_reducible refine hK _ ?_); clear hK K) | (apply Exists.intro; refine ⟨fun _ => ?_, hK _ ?_⟩; ((first | (go_at_call 37; with_reducible exact qb_below (Hfd.out _ _)))); clear hK K))
        refine wpQuiet_nil ?_
        intro _ hw'
        obtain ⟨⟨dq, osq⟩, hw''⟩ := hw'
        subst hw''
        have hbq := below_regrown wc dq osq
        generalize grow (redrawn wc dq) osq = wq at hbq ⊢
        have HQ := Lib.hid (HB1.out.trans (hbq.mono HB1.out.size))
        clear hbq g0 g1 g2 g3 g4 g5 g6 g7 g8
        go_wp2
        go_ret
        exact ⟨ret_bool (stB_no fun h => Ks.out (h.sum K7.out).1).symm, HQ.out⟩
      have hfd : ∀ d os, Calls Try.prog 37 #[.agg #[.int .i64 x.sf, .int .i64 x.st], .int .i64 c9] (grow (redrawn wc d) os) fun e w' => e = .returned (.bool true) ∧ Below (grow (redrawn wc d) os).heap.size (grow (redrawn wc d) os) w' := fun d os => by have h := l02Field_c x.sf x.st c9 (grow (redrawn wc d) os) (by have := Hc.out; omega); rw [decide_eq_true ks] at h; exact h
      have Hfd := Lib.hid hfd
      have hwr : IntKind.i64.wrap (x.st - x.sf) = x.st - x.sf := IntWalk.i64_in _ (by have := Hc.out; unfold fieldP at ks; omega)
      have Ks := Lib.hid ks
      clear ks hfd
      by_cases kl : x.st - x.sf ≤ 12
      case neg =>
        have ql : decide (x.st - x.sf ≤ 12) = false := decide_eq_false kl
        have Kl := Lib.hid kl
        clear kl
        refine wp_region_quiet_below (by kernel_rfl) (by kernel_rfl) ?_
        repeat ((with_reducible refine wpQuiet_step (fun K hK => ?_)); go_simp; first | ((with_reducible refine hK _ ?_); clear hK K) | ((with_reducible rw [if_neg]); rotate_left; (intro hgd; cases hgd); (with_reducible refine hK _ ?_); clear hK K) | (apply Exists.intro; refine ⟨fun _ => ?_, hK _ ?_⟩; ((first | (go_at_call 37; with_reducible exact qb_below (Hfd.out _ _)))); clear hK K))
        refine wpQuiet_nil ?_
        intro _ hw'
        obtain ⟨⟨dq, osq⟩, hw''⟩ := hw'
        subst hw''
        have hbq := below_regrown wc dq osq
        generalize grow (redrawn wc dq) osq = wq at hbq ⊢
        have HQ := Lib.hid (HB1.out.trans (hbq.mono HB1.out.size))
        clear hbq g0 g1 g2 g3 g4 g5 g6 g7 g8
        go_wp2
        go_ret
        exact ⟨ret_bool (stB_no fun h => (by have h1 := Kl.out; have h2 := (h.sum K7.out).2; omega)).symm, HQ.out⟩
      have ql : decide (x.st - x.sf ≤ 12) = true := decide_eq_true kl
      have Kl := Lib.hid kl
      clear kl
      by_cases k8 : x.tx.size = 0
      case neg =>
        have q8 := txt_full k8
        have q9 := txt_full2 k8
        have K8 := Lib.hid k8
        clear k8
        refine wp_region_quiet_below (by kernel_rfl) (by kernel_rfl) ?_
        repeat ((with_reducible refine wpQuiet_step (fun K hK => ?_)); go_simp; first | ((with_reducible refine hK _ ?_); clear hK K) | ((with_reducible rw [if_neg]); rotate_left; (intro hgd; cases hgd); (with_reducible refine hK _ ?_); clear hK K) | (apply Exists.intro; refine ⟨fun _ => ?_, hK _ ?_⟩; ((first | (go_at_call 37; with_reducible exact qb_below (Hfd.out _ _)))); clear hK K))
        refine wpQuiet_nil ?_
        intro _ hw'
        obtain ⟨⟨dq, osq⟩, hw''⟩ := hw'
        subst hw''
        have hbq := below_regrown wc dq osq
        generalize grow (redrawn wc dq) osq = wq at hbq ⊢
        have HQ := Lib.hid (HB1.out.trans (hbq.mono HB1.out.size))
        clear hbq g0 g1 g2 g3 g4 g5 g6 g7 g8
        go_wp2
        go_ret
        exact ⟨ret_bool (stB_no fun h => K8.out (h.notx K5.out)).symm, HQ.out⟩
      have q8 := txt_empty k8
      have q9 := txt_empty2 k8
      have K8 := Lib.hid k8
      clear k8
      refine wp_region_quiet_below (by kernel_rfl) (by kernel_rfl) ?_
      repeat ((with_reducible refine wpQuiet_step (fun K hK => ?_)); go_simp; first | ((with_reducible refine hK _ ?_); clear hK K) | ((with_reducible rw [if_neg]); rotate_left; (intro hgd; cases hgd); (with_reducible refine hK _ ?_); clear hK K) | (apply Exists.intro; refine ⟨fun _ => ?_, hK _ ?_⟩; ((first | (go_at_call 37; with_reducible exact qb_below (Hfd.out _ _)))); clear hK K))
      refine wpQuiet_nil ?_
      intro _ hw'
      obtain ⟨⟨dq, osq⟩, hw''⟩ := hw'
      subst hw''
      have hbq := below_regrown wc dq osq
      generalize grow (redrawn wc dq) osq = wq at hbq ⊢
      have HQ := Lib.hid (HB1.out.trans (hbq.mono HB1.out.size))
      clear hbq g0 g1 g2 g3 g4 g5 g6 g7 g8
      go_wp2
      go_ret
      exact ⟨ret_bool (stB_yes ⟨K_kd.out, K_ta.out, K_tb.out, K_tc.out, K2.out, .inl K3.out, Kf.out, fun _ => ⟨Ks.out, Kl.out⟩, fun e => absurd K7.out e, fun e => absurd e K5.out, fun _ => K8.out⟩).symm, HQ.out⟩
    have q7 : (x.kd == 7) = false := by simpa using k7
    have K7 := Lib.hid k7
    clear k7
    by_cases s1 : x.sf = 0
    case neg =>
      have r1 : (x.sf == 0) = false := by simpa using s1
      have S1 := Lib.hid s1
      clear s1
      go_wp2
      go_ret
      exact ⟨ret_bool (stB_no fun h => S1.out (h.nosum K7.out).1).symm, HB1.out⟩
    by_cases s2 : x.st = 0
    case neg =>
      have r1 : (x.sf == 0) = true := by simpa using s1
      have r2 : (x.st == 0) = false := by simpa using s2
      have S2 := Lib.hid s2
      clear s1 s2
      go_wp2
      go_ret
      exact ⟨ret_bool (stB_no fun h => S2.out (h.nosum K7.out).2).symm, HB1.out⟩
    have r1 : (x.sf == 0) = true := by simpa using s1
    have r2 : (x.st == 0) = true := by simpa using s2
    have S1 := Lib.hid s1
    have S2 := Lib.hid s2
    clear s1 s2
    by_cases k5 : x.kd = 5
    case pos =>
      have q5 : (x.kd == 5) = true := by simpa using k5
      have K5 := Lib.hid k5
      clear k5
      obtain ⟨t, ht⟩ : ∃ t, t = txC x.tx x.ff x.ft := ⟨_, rfl⟩
      have htx : ∀ d os, Calls Try.prog 38 #[.string x.tx, .agg #[.int .i64 x.ff, .int .i64 x.ft]] (grow (redrawn wc d) os) fun e w' => e = .returned (.int .i64 t) ∧ Below (grow (redrawn wc d) os).heap.size (grow (redrawn wc d) os) w' := fun d os => by have h := l09Text_c x.tx x.ff x.ft (grow (redrawn wc d) os) hsz (by have := Kf.out; have := Hc.out; unfold fieldP at *; omega); rw [← ht] at h; exact h
      have Htx := Lib.hid htx
      have Ht := Lib.hid ht
      clear ht htx
      go_upto_region 10 with fail
      have g0 := cell_regrown HA1.out.c0
      have g1 := cell_regrown HA1.out.c1
      have g2 := cell_regrown HA1.out.c2
      have g3 := cell_regrown HA1.out.c3
      have g4 := cell_regrown HA1.out.c4
      have g5 := cell_regrown HA1.out.c5
      have g6 := cell_regrown HA1.out.c6
      have g7 := cell_regrown HA1.out.c7
      have g8 := cell_regrown HA1.out.c8
      clear a0 a2 a3 a4 a5 a6 a7 a8
      refine wp_region_quiet_below (by kernel_rfl) (by kernel_rfl) ?_
      repeat ((with_reducible refine wpQuiet_step (fun K hK => ?_)); go_simp; first | ((with_reducible refine hK _ ?_); clear hK K) | ((with_reducible rw [if_neg]); rotate_left; (intro hgd; cases hgd); (with_reducible refine hK _ ?_); clear hK K) | (apply Exists.intro; refine ⟨fun _ => ?_, hK _ ?_⟩; ((first | (go_at_call 38; with_reducible exact qb_below (Htx.out _ _)))); clear hK K))
      refine wpQuiet_nil ?_
      intro _ hw'
      obtain ⟨⟨dq, osq⟩, hw''⟩ := hw'
      subst hw''
      have hbq := below_regrown wc dq osq
      generalize grow (redrawn wc dq) osq = wq at hbq ⊢
      have HQ := Lib.hid (HB1.out.trans (hbq.mono HB1.out.size))
      clear hbq g0 g1 g2 g3 g4 g5 g6 g7 g8
      go_wp2
      go_ret
      refine ⟨ret_bool ?_, HQ.out⟩
      rw [Ht.out]
      unfold txC
      by_cases he : (x.tx.size : Int) = x.ft - x.ff
      · rw [if_pos he]
        cases hq : chS x.tx with
        | true => exact (stB_yes ⟨K_kd.out, K_ta.out, K_tb.out, K_tc.out, K2.out, .inr K7.out, Kf.out, fun e => absurd e K7.out, fun _ => ⟨S1.out, S2.out⟩, fun _ => ⟨hq, he⟩, fun e => absurd K5.out e⟩).symm
        | false => exact (stB_no fun h => by have h9 := (h.tx K5.out).1; rw [hq] at h9; cases h9).symm
      · rw [if_neg he]
        exact (stB_no fun h => he (h.tx K5.out).2).symm
    have q5 : (x.kd == 5) = false := by simpa using k5
    have K5 := Lib.hid k5
    clear k5
    by_cases k8 : x.tx.size = 0
    · have q8 := txt_empty k8
      have K8 := Lib.hid k8
      clear k8
      go_wp2
      go_ret
      exact ⟨ret_bool (stB_yes ⟨K_kd.out, K_ta.out, K_tb.out, K_tc.out, K2.out, .inr K7.out, Kf.out, fun e => absurd e K7.out, fun _ => ⟨S1.out, S2.out⟩, fun e => absurd e K5.out, fun _ => K8.out⟩).symm, HB1.out⟩
    · have q8 := txt_full k8
      have K8 := Lib.hid k8
      clear k8
      go_wp2
      go_ret
      exact ⟨ret_bool (stB_no fun h => K8.out (h.notx K5.out)).symm, HB1.out⟩
theorem l15Flow_c {xs : List StepT} {v : Value} {w : World} {A : Nat} (c9 : Int) (hc : C9 c9) (ha : RdStepS A w v xs) :
    Calls Try.prog 14 #[v, .int .i64 c9] w fun e w' => e = .returned (.bool (flB xs c9)) ∧ Below w.heap.size w w' := by
  have hle := ha.le
  have Hc := Lib.hid hc
  obtain ⟨ao, cap, rfl, ho⟩ := eStep_open ha
  obtain ⟨n, hn⟩ : ∃ n, n = xs.length := ⟨_, rfl⟩
  rw [← hn] at hle ho ⊢
  have Hn := Lib.hid hn
  have Ho := Lib.hid ho
  clear ho hn ha hc
  go_enter Try.func14, Try.ntmps14
  go_wp2
  go_loopw [5] (fun i wr => ∃ k : Nat, k ≤ n ∧ i = .int .i64 k ∧ Hid ((xs.take k).any (badS c9) = false) ∧ Below w.heap.size w wr) (fun i _ => n - (intOf i).toNat)
  case atStart => exact ⟨0, Nat.zero_le _, rfl, rfl, Below.refl _ _⟩
  case round =>
    obtain ⟨k, hk, rfl, hp, hbb⟩ := hrel
    by_cases hkn : k < n
    · obtain ⟨b, off, rfl, hlt, hcc⟩ := Ho.out (by omega)
      obtain ⟨x, hx, ⟨c0, c1, c2, c3, c4, c5, c6, c7, c8⟩, bx⟩ := hcc k hkn
      have hA : StAt w b (off + k * 9) x := ⟨hlt.2, c0, c1, c2, c3, c4, c5, c6, c7, c8⟩
      have HA := Lib.hid (hA.below hbb hlt.2)
      have Hx := Lib.hid hx
      have Hbx := Lib.hid bx
      have Hb := Lib.hid hbb
      clear hx hcc bx c0 c1 c2 c3 c4 c5 c6 c7 c8 hA hbb
      go_wp2_with fail
      with_reducible refine (l15Step_c x c9 b (off + k * 9) wr Hbx.out Hc.out HA.out).mono ?_
      cases hq : stB x c9 with
      | true =>
        have Hq := Lib.hid hq
        clear hq
        rintro e w1 ⟨rfl, hb1⟩
        have hb2 := Hb.out.trans (hb1.mono Hb.out.size)
        clear hb1 Hb HA
        go_wp2
        go_roundw
        case rel => exact ⟨k + 1, by omega, by go_num, by show _ = false; rw [take_snoc Hx.out, List.any_append, hp.out]; simp [badS, Hq.out], hb2⟩
        case measure => simp [intOf]; omega
      | false =>
        have Hq := Lib.hid hq
        clear hq
        rintro e w1 ⟨rfl, hb1⟩
        have hb2 := Hb.out.trans (hb1.mono Hb.out.size)
        clear hb1 Hb HA
        go_wp2
        go_ret
        exact ⟨ret_bool (flB_bad Hx.out Hq.out).symm, hb2⟩
    · have e1 : flB xs c9 = decide (n ≤ 20) := by
        have h1 := hp.out
        rw [List.take_of_length_le (by have := Hn.out; omega)] at h1
        rw [flB_all h1, Hn.out]
      have E1 := Lib.hid e1
      clear e1
      go_wp2
      go_ret
      exact ⟨ret_bool (by rw [E1.out]; exact decide_eq_decide.2 (by omega)), hbb⟩
end Go.Proofs.Ytipldgbfenhknaa
