/- The law 'the program's PayrollOf returns what the reference's returns': the tied card. The conditions are the card's own: the listed variables lie as the program's text lays them. -/
import Derived.Test.YtfieilbcdhbigaaGreatDoorMP26
import Derived.Test.YtfieilbcdhbigaaGreatDoorMP14
import Derived.Test.YtfieilbcdhbigaaGreatDoorMP19
import Derived.Test.YtfieilbcdhbigaaGreatDoorMP11
namespace Go.Proofs.YtfieilbcdhbigaaGreatDoor
open Go.ChangeShapes Go.WideShapes Go.ChangeAt Go.RowKit
set_option linter.unusedVariables false
set_option maxRecDepth 100000
theorem Box.wthI {w w' : World} {b lo hi : Nat} {cs : List Value} (h : Box w b cs) (hw : Within lo hi w w') (hb : b < lo ∨ hi ≤ b) : Box w' b cs := by
  have h2 := hw.block b h.lt hb
  exact ⟨Nat.lt_of_lt_of_le h.lt hw.size, fun j v hj => (World.cell?_of_block (w := w) (a := ⟨b, j, none⟩) h2).trans (h.cell j v hj), fun j => (World.frozen?_of_block (w := w) (a := ⟨b, j, none⟩) h2).trans (h.free j)⟩
theorem prL_cnt (L : List WorkerT) (wd : Int) (xs : List ItemT) (d : List (List Int)) : (cntPayS (prL (prR L wd xs d)) : Int) ≤ 1000000000 := by
  unfold prR cntPayS
  by_cases h : payC (validWs L) wd xs d = 0
  · rw [if_pos h]
    cases hq : pyF (itAt xs whoT) (itAt xs hrsT) d L with
    | error c => show ((4 * 0 : Nat) : Int) ≤ _; decide
    | ok l =>
      have h1 := pyF_len hq
      have h2 := (validWs_parts (payC_ok h).ok).1
      show ((4 * l.length : Nat) : Int) ≤ _
      omega
  · rw [if_neg h]; show ((4 * 0 : Nat) : Int) ≤ _; decide
set_option maxHeartbeats 3000000 in
theorem walk_FnExactPayrollOf (w : World) {L : List WorkerT} {xs : List ItemT} {d : List (List Int)} {tv lv dv : Value} (wd : Int) (a0 : RdWorkerS w.heap.size w tv L) (a1 : RdItemS w.heap.size w lv xs) (a2 : RdCardS w.heap.size w dv d) :
    Calls Tryz.prog 5 #[tv, .agg #[.int .i64 wd, lv], dv] w fun e w' => e = .returned (.bool true) ∧ Below w.heap.size w w' := by
  obtain ⟨lo, lcap, rfl⟩ := a1.shape
  obtain ⟨n9, hnn⟩ : ∃ n9, n9 = xs.length := ⟨_, rfl⟩
  rw [← hnn] at a1 ⊢
  clear hnn
  obtain ⟨tao, tcap, rfl⟩ := a0.shape
  obtain ⟨dao, dcap, rfl⟩ := a2.shape
  obtain ⟨n8, hnn⟩ : ∃ n8, n8 = L.length := ⟨_, rfl⟩
  rw [← hnn] at a0 ⊢
  clear hnn
  obtain ⟨n7, hnn⟩ : ∃ n7, n7 = d.length := ⟨_, rfl⟩
  rw [← hnn] at a2 ⊢
  clear hnn
  obtain ⟨W, hW⟩ : ∃ W, W = w.alloc (.cells #[.int .i64 wd, .slice lo n9 lcap] 24) := ⟨_, rfl⟩
  have hB0 : Below w.heap.size w W := by rw [hW]; exact (Below.refl _ _).alloc (Nat.le_refl _) _
  have BA : Box W w.heap.size [.int .i64 wd, .slice lo n9 lcap] := by rw [hW]; exact Box.new w [.int .i64 wd, .slice lo n9 lcap] 24
  have hs0 : w.heap.size < W.heap.size := by rw [hW]; simp
  replace a0 := a0.below hB0 (Nat.le_refl _)
  replace a1 := a1.below hB0 (Nat.le_refl _)
  replace a2 := a2.below hB0 (Nat.le_refl _)
  have HW := Lib.hid hW
  clear hW
  have n0 := szWorkerS_nonneg L
  have n1 := szItemS_nonneg xs
  have n2 := szCardS_nonneg d
  have N0 := Lib.hid n0
  have N1 := Lib.hid n1
  have N2 := Lib.hid n2
  clear n0 n1 n2
  have CNT : Hid ((cntPayS (prL (prR L wd xs d)) : Int) ≤ 1000000000) := Lib.hid (prL_cnt L wd xs d)
  by_cases c0 : szWorkerS L ≤ 1048576
  case neg =>
    have C0 := Lib.hid c0
    clear c0
    go_enter Tryz.func5, Tryz.ntmps5
    go_wp2_with fail
    rw [← HW.out]
    with_reducible refine (szWorkerS_no  a0 ⟨by have := N0.out; have := N1.out; have := N2.out; have := C0.out; omega, by have := N0.out; have := N1.out; have := N2.out; have := C0.out; omega⟩ (by have := N0.out; have := N1.out; have := N2.out; have := C0.out; omega)).mono ?_
    rintro e w1 ⟨rfl, hb1⟩
    have hs1 : W.heap.size ≤ w1.heap.size := hb1.size
    have hB1 : Below w.heap.size w w1 := hB0.trans (hb1.mono hB0.size)
    replace BA := Box.below BA hb1 (by omega)
    replace a0 := a0.below hb1 (by omega)
    replace a1 := a1.below hb1 (by omega)
    replace a2 := a2.below hb1 (by omega)
    go_wp2
    go_ret
    exact ⟨rfl, hB1⟩
  have C0 := Lib.hid c0
  clear c0
  by_cases c1 : szItemS xs ≤ 1048576 - szWorkerS L
  case neg =>
    have C1 := Lib.hid c1
    clear c1
    go_enter Tryz.func5, Tryz.ntmps5
    go_wp2_with fail
    rw [← HW.out]
    with_reducible refine (szWorkerS_c  a0 (by have := N0.out; have := N1.out; have := N2.out; have := C0.out; have := C1.out; omega) C0.out).mono ?_
    rintro e w1 ⟨rfl, hb1⟩
    have hs1 : W.heap.size ≤ w1.heap.size := hb1.size
    have hB1 : Below w.heap.size w w1 := hB0.trans (hb1.mono hB0.size)
    replace BA := Box.below BA hb1 (by omega)
    replace a0 := a0.below hb1 (by omega)
    replace a1 := a1.below hb1 (by omega)
    replace a2 := a2.below hb1 (by omega)
    have L0 : ¬ 1048576 - szWorkerS L < 0 := by have := N0.out; have := N1.out; have := N2.out; have := C0.out; have := C1.out; omega
    have BA_0 := BA.cell 0 _ rfl
    have BA_1 := BA.cell 1 _ rfl
    go_wp2_with fail
    with_reducible refine (szLayout_no (wd := wd) a1 ⟨by have := N0.out; have := N1.out; have := N2.out; have := C0.out; have := C1.out; omega, by have := N0.out; have := N1.out; have := N2.out; have := C0.out; have := C1.out; omega⟩ (by have := N0.out; have := N1.out; have := N2.out; have := C0.out; have := C1.out; omega)).mono ?_
    rintro e w2 ⟨rfl, hb2⟩
    clear BA_0 BA_1
    have hs2 : w1.heap.size ≤ w2.heap.size := hb2.size
    have hB2 : Below w.heap.size w w2 := hB1.trans (hb2.mono hB1.size)
    replace BA := Box.below BA hb2 (by omega)
    replace a0 := a0.below hb2 (by omega)
    replace a1 := a1.below hb2 (by omega)
    replace a2 := a2.below hb2 (by omega)
    go_wp2
    go_ret
    exact ⟨rfl, hB2⟩
  have C1 := Lib.hid c1
  clear c1
  by_cases c2 : szCardS d ≤ 1048576 - szWorkerS L - szItemS xs
  case neg =>
    have C2 := Lib.hid c2
    clear c2
    go_enter Tryz.func5, Tryz.ntmps5
    go_wp2_with fail
    rw [← HW.out]
    with_reducible refine (szWorkerS_c  a0 (by have := N0.out; have := N1.out; have := N2.out; have := C0.out; have := C1.out; have := C2.out; omega) C0.out).mono ?_
    rintro e w1 ⟨rfl, hb1⟩
    have hs1 : W.heap.size ≤ w1.heap.size := hb1.size
    have hB1 : Below w.heap.size w w1 := hB0.trans (hb1.mono hB0.size)
    replace BA := Box.below BA hb1 (by omega)
    replace a0 := a0.below hb1 (by omega)
    replace a1 := a1.below hb1 (by omega)
    replace a2 := a2.below hb1 (by omega)
    have L0 : ¬ 1048576 - szWorkerS L < 0 := by have := N0.out; have := N1.out; have := N2.out; have := C0.out; have := C1.out; have := C2.out; omega
    have BA_0 := BA.cell 0 _ rfl
    have BA_1 := BA.cell 1 _ rfl
    go_wp2_with fail
    with_reducible refine (szLayout_c (wd := wd) a1 (by have := N0.out; have := N1.out; have := N2.out; have := C0.out; have := C1.out; have := C2.out; omega) C1.out).mono ?_
    rintro e w2 ⟨rfl, hb2⟩
    clear BA_0 BA_1
    have hs2 : w1.heap.size ≤ w2.heap.size := hb2.size
    have hB2 : Below w.heap.size w w2 := hB1.trans (hb2.mono hB1.size)
    replace BA := Box.below BA hb2 (by omega)
    replace a0 := a0.below hb2 (by omega)
    replace a1 := a1.below hb2 (by omega)
    replace a2 := a2.below hb2 (by omega)
    have L1 : ¬ 1048576 - szWorkerS L - szItemS xs < 0 := by have := N0.out; have := N1.out; have := N2.out; have := C0.out; have := C1.out; have := C2.out; omega
    go_wp2_with fail
    with_reducible refine (szCardS_no  a2 ⟨by have := N0.out; have := N1.out; have := N2.out; have := C0.out; have := C1.out; have := C2.out; omega, by have := N0.out; have := N1.out; have := N2.out; have := C0.out; have := C1.out; have := C2.out; omega⟩ (by have := N0.out; have := N1.out; have := N2.out; have := C0.out; have := C1.out; have := C2.out; omega)).mono ?_
    rintro e w3 ⟨rfl, hb3⟩
    have hs3 : w2.heap.size ≤ w3.heap.size := hb3.size
    have hB3 : Below w.heap.size w w3 := hB2.trans (hb3.mono hB2.size)
    replace BA := Box.below BA hb3 (by omega)
    replace a0 := a0.below hb3 (by omega)
    replace a1 := a1.below hb3 (by omega)
    replace a2 := a2.below hb3 (by omega)
    go_wp2
    go_ret
    exact ⟨rfl, hB3⟩
  have C2 := Lib.hid c2
  clear c2
  have L0 : ¬ 1048576 - szWorkerS L < 0 := by have := N0.out; have := N1.out; have := N2.out; have := C0.out; have := C1.out; have := C2.out; omega
  have L1 : ¬ 1048576 - szWorkerS L - szItemS xs < 0 := by have := N0.out; have := N1.out; have := N2.out; have := C0.out; have := C1.out; have := C2.out; omega
  have L2 : ¬ 1048576 - szWorkerS L - szItemS xs - szCardS d < 0 := by have := N0.out; have := N1.out; have := N2.out; have := C0.out; have := C1.out; have := C2.out; omega
  go_enter Tryz.func5, Tryz.ntmps5
  go_wp2_with fail
  rw [← HW.out]
  with_reducible refine (szWorkerS_c a0 (by have := N0.out; have := N1.out; have := N2.out; have := C0.out; have := C1.out; have := C2.out; omega) C0.out).mono ?_
  rintro e w1 ⟨rfl, hb1⟩
  have hs1 : W.heap.size ≤ w1.heap.size := hb1.size
  have hB1 : Below w.heap.size w w1 := hB0.trans (hb1.mono hB0.size)
  replace BA := Box.below BA hb1 (by omega)
  replace a0 := a0.below hb1 (by omega)
  replace a1 := a1.below hb1 (by omega)
  replace a2 := a2.below hb1 (by omega)
  have BA_0 := BA.cell 0 _ rfl
  have BA_1 := BA.cell 1 _ rfl
  go_wp2_with fail
  with_reducible refine (szLayout_c (wd := wd) a1 (by have := N0.out; have := N1.out; have := N2.out; have := C0.out; have := C1.out; have := C2.out; omega) C1.out).mono ?_
  rintro e w2 ⟨rfl, hb2⟩
  clear BA_0 BA_1
  have hs2 : w1.heap.size ≤ w2.heap.size := hb2.size
  have hB2 : Below w.heap.size w w2 := hB1.trans (hb2.mono hB1.size)
  replace BA := Box.below BA hb2 (by omega)
  replace a0 := a0.below hb2 (by omega)
  replace a1 := a1.below hb2 (by omega)
  replace a2 := a2.below hb2 (by omega)
  go_wp2_with fail
  with_reducible refine (szCardS_c a2 (by have := N0.out; have := N1.out; have := N2.out; have := C0.out; have := C1.out; have := C2.out; omega) C2.out).mono ?_
  rintro e w3 ⟨rfl, hb3⟩
  have hs3 : w2.heap.size ≤ w3.heap.size := hb3.size
  have hB3 : Below w.heap.size w w3 := hB2.trans (hb3.mono hB2.size)
  replace BA := Box.below BA hb3 (by omega)
  replace a0 := a0.below hb3 (by omega)
  replace a1 := a1.below hb3 (by omega)
  replace a2 := a2.below hb3 (by omega)
  have y0 := BA.cell 0 _ rfl
  have y1 := BA.cell 1 _ rfl
  have yl := BA.lt
  go_upto_region 11 with fail
  refine wp_region_below (fun i v w => match i with | 0 => v = .slice tao n8 tcap | 1 => RdWorkerS w.heap.size w v L | 2 => v = .agg #[.int .i64 wd, .slice lo n9 lcap] | 3 => ∃ u, v = .agg #[.int .i64 wd, u] ∧ RdItemS w.heap.size w u xs | 4 => v = .slice dao n7 dcap | 5 => RdCardS w.heap.size w v d | 6 => ∃ r, v = .tuple #[r, .int .i64 (prE (prR L wd xs d))] ∧ RdPayS w.heap.size w r (prL (prR L wd xs d)) | 7 => ∃ r, v = .tuple #[r, .int .i64 (prE (prR L wd xs d))] ∧ RdPayS w.heap.size w r (prL (prR L wd xs d)) | 8 => RdPayS w.heap.size w v (prL (prR L wd xs d)) | 9 => v = .int .i64 (prE (prR L wd xs d)) | 10 => RdPayS w.heap.size w v (prL (prR L wd xs d)) | 11 => v = .int .i64 (prE (prR L wd xs d)) | _ => True) (by kernel_rfl) (by kernel_rfl) (by kernel_rfl) ?_ ?_ ?_
  · intro i v w w' h hb
    match i, h with
    | 0, h => exact h
    | 1, h => exact Rds.onn h hb
    | 2, h => exact h
    | 3, h => obtain ⟨u, h1, h2⟩ := h; exact ⟨u, h1, Rds.onn h2 hb⟩
    | 4, h => exact h
    | 5, h => exact RdInt64SS.onn h hb
    | 6, h => obtain ⟨u, h1, h2⟩ := h; exact ⟨u, h1, Rds.onn h2 hb⟩
    | 7, h => obtain ⟨u, h1, h2⟩ := h; exact ⟨u, h1, Rds.onn h2 hb⟩
    | 8, h => exact Rds.onn h hb
    | 9, h => exact h
    | 10, h => exact Rds.onn h hb
    | 11, h => exact h
    | (_ + 12), h => exact h
  · intro vs hvs
    match vs, hvs with
    | [v0, v1, v2, v3, v4, v5, v6, v7, v8, v9, v10, v11], _ =>
      refine ⟨?_, ?_, ?_, ?_, ?_, ?_, ?_, ?_, ?_, ?_, ?_, ?_, trivial⟩
      · intro wr hC hd
        clear hd
        unfold relAt
        simp only [putAll]
        go_simp
        simp only [relUpon]
        exact ⟨Below.refl _ _, by first | rfl | trivial⟩
      · intro wr hC hd
        have d0 : v0 = .slice tao n8 tcap := dep_at 0 (by kernel_rfl) hd
        subst d0
        clear hd
        unfold relAt
        simp only [putAll]
        go_simp
        simp only [relUpon]
        with_reducible refine (toWorkerS_c (Rds.onn a0 hC) (by have := N0.out; have := N1.out; have := N2.out; have := C0.out; have := C1.out; have := C2.out; omega)).mono ?_
        rintro e w99 ⟨u9, rfl, o9, hb9⟩
        exact ⟨_, rfl, hb9, Own.rds o9⟩
      · intro wr hC hd
        clear hd
        have e0 := (hC.cell (p := ⟨w.heap.size, 0, none⟩) yl).trans y0
        have e1 := (hC.cell (p := ⟨w.heap.size, 1, none⟩) yl).trans y1
        unfold relAt
        simp only [putAll]
        go_simp
        simp only [relUpon]
        exact ⟨Below.refl _ _, by first | rfl | trivial⟩
      · intro wr hC hd
        have d2 : v2 = .agg #[.int .i64 wd, .slice lo n9 lcap] := dep_at 2 (by kernel_rfl) hd
        subst d2
        clear hd
        unfold relAt
        simp only [putAll]
        go_simp
        simp only [relUpon]
        with_reducible refine (toLayout_c (wd := wd) (Rds.onn a1 hC) (by have := N0.out; have := N1.out; have := N2.out; have := C0.out; have := C1.out; have := C2.out; omega)).mono ?_
        rintro e w99 ⟨u9, rfl, o9, hb9⟩
        exact ⟨_, rfl, hb9, u9, rfl, Own.rds o9⟩
      · intro wr hC hd
        clear hd
        unfold relAt
        simp only [putAll]
        go_simp
        simp only [relUpon]
        exact ⟨Below.refl _ _, by first | rfl | trivial⟩
      · intro wr hC hd
        have d4 : v4 = .slice dao n7 dcap := dep_at 4 (by kernel_rfl) hd
        subst d4
        clear hd
        unfold relAt
        simp only [putAll]
        go_simp
        simp only [relUpon]
        with_reducible refine (toCardS_c (RdInt64SS.onn a2 hC) (by have := N0.out; have := N1.out; have := N2.out; have := C0.out; have := C1.out; have := C2.out; omega)).mono ?_
        rintro e w99 ⟨u9, rfl, o9, hb9⟩
        exact ⟨_, rfl, hb9, OwnCardS.rds o9⟩
      · intro wr hC hd
        have d1 : RdWorkerS wr.heap.size wr v1 L := dep_at 1 (by kernel_rfl) hd
        have d3 : ∃ u, v3 = .agg #[.int .i64 wd, u] ∧ RdItemS wr.heap.size wr u xs := dep_at 3 (by kernel_rfl) hd
        have d5 : RdCardS wr.heap.size wr v5 d := dep_at 5 (by kernel_rfl) hd
        clear hd
        have h8 := d3.choose_spec.1
        have h9 := d3.choose_spec.2
        generalize d3.choose = u9 at h8 h9
        clear d3
        subst h8
        unfold relAt
        simp only [putAll]
        go_simp
        simp only [relUpon]
        with_reducible refine (sPayrollOf_c wd d1 h9 d5).mono ?_
        rintro e w99 ⟨r9, rfl, o9, hb9⟩
        exact ⟨_, rfl, hb9, r9, rfl, Own.rds o9⟩
      · intro wr hC hd
        have d6 : ∃ r, v6 = .tuple #[r, .int .i64 (prE (prR L wd xs d))] ∧ RdPayS wr.heap.size wr r (prL (prR L wd xs d)) := dep_at 6 (by kernel_rfl) hd
        clear hd
        have h8 := d6.choose_spec.1
        have h9 := d6.choose_spec.2
        generalize d6.choose = r9 at h8 h9
        clear d6
        subst h8
        unfold relAt
        simp only [putAll]
        go_simp
        simp only [relUpon]
        exact ⟨Below.refl _ _, r9, rfl, h9⟩
      · intro wr hC hd
        have d7 : ∃ r, v7 = .tuple #[r, .int .i64 (prE (prR L wd xs d))] ∧ RdPayS wr.heap.size wr r (prL (prR L wd xs d)) := dep_at 7 (by kernel_rfl) hd
        clear hd
        have h8 := d7.choose_spec.1
        have h9 := d7.choose_spec.2
        generalize d7.choose = r9 at h8 h9
        clear d7
        subst h8
        unfold relAt
        simp only [putAll]
        go_simp
        simp only [relUpon]
        exact ⟨Below.refl _ _, h9⟩
      · intro wr hC hd
        have d7 : ∃ r, v7 = .tuple #[r, .int .i64 (prE (prR L wd xs d))] ∧ RdPayS wr.heap.size wr r (prL (prR L wd xs d)) := dep_at 7 (by kernel_rfl) hd
        clear hd
        have h8 := d7.choose_spec.1
        have h9 := d7.choose_spec.2
        generalize d7.choose = r9 at h8 h9
        clear d7
        subst h8
        unfold relAt
        simp only [putAll]
        go_simp
        simp only [relUpon]
        exact ⟨Below.refl _ _, by first | rfl | trivial⟩
      · intro wr hC hd
        have d8 : RdPayS wr.heap.size wr v8 (prL (prR L wd xs d)) := dep_at 8 (by kernel_rfl) hd
        clear hd
        unfold relAt
        simp only [putAll]
        go_simp
        simp only [relUpon]
        exact ⟨Below.refl _ _, d8⟩
      · intro wr hC hd
        have d9 : v9 = .int .i64 (prE (prR L wd xs d)) := dep_at 9 (by kernel_rfl) hd
        subst d9
        clear hd
        unfold relAt
        simp only [putAll]
        go_simp
        simp only [relUpon]
        exact ⟨Below.refl _ _, by first | rfl | trivial⟩
  · intro vs w4 hvs hC hI
    match vs, hvs, hI with
    | [v0, v1, v2, v3, v4, v5, v6, v7, v8, v9, v10, v11], _, hI =>
      have d0 : v0 = .slice tao n8 tcap := hI 0 (by decide)
      subst d0
      have d1 : RdWorkerS w4.heap.size w4 v1 L := hI 1 (by decide)
      have d2 : v2 = .agg #[.int .i64 wd, .slice lo n9 lcap] := hI 2 (by decide)
      subst d2
      have d3 : ∃ u, v3 = .agg #[.int .i64 wd, u] ∧ RdItemS w4.heap.size w4 u xs := hI 3 (by decide)
      have d4 : v4 = .slice dao n7 dcap := hI 4 (by decide)
      subst d4
      have d5 : RdCardS w4.heap.size w4 v5 d := hI 5 (by decide)
      have d6 : ∃ r, v6 = .tuple #[r, .int .i64 (prE (prR L wd xs d))] ∧ RdPayS w4.heap.size w4 r (prL (prR L wd xs d)) := hI 6 (by decide)
      have d7 : ∃ r, v7 = .tuple #[r, .int .i64 (prE (prR L wd xs d))] ∧ RdPayS w4.heap.size w4 r (prL (prR L wd xs d)) := hI 7 (by decide)
      have d8 : RdPayS w4.heap.size w4 v8 (prL (prR L wd xs d)) := hI 8 (by decide)
      have d9 : v9 = .int .i64 (prE (prR L wd xs d)) := hI 9 (by decide)
      subst d9
      have d10 : RdPayS w4.heap.size w4 v10 (prL (prR L wd xs d)) := hI 10 (by decide)
      have d11 : v11 = .int .i64 (prE (prR L wd xs d)) := hI 11 (by decide)
      subst d11
      clear hI
      simp only [putAll]
      go_simp
      have hs4 : w3.heap.size ≤ w4.heap.size := hC.size
      have hB4 : Below w.heap.size w w4 := hB3.trans (hC.mono hB3.size)
      replace BA := Box.below BA hC (by omega)
      replace a0 := a0.below hC (by omega)
      replace a1 := a1.below hC (by omega)
      replace a2 := a2.below hC (by omega)
      clear hC
      obtain ⟨u7, rfl, _⟩ := d3
      obtain ⟨r6, rfl, _⟩ := d6
      obtain ⟨r7, rfl, _⟩ := d7
      have rw0 := d10
      clear y0 y1 yl d1 d5 d8 d10
      clear L0 L1 L2
      go_wp2_with fail
      with_reducible refine (toWorkerS_c a0 (by have := N0.out; have := N1.out; have := N2.out; have := C0.out; have := C1.out; have := C2.out; omega)).mono ?_
      rintro e w5 ⟨x0, rfl, ox0, hb5⟩
      have hs5 : w4.heap.size ≤ w5.heap.size := hb5.size
      have hB5 : Below w.heap.size w w5 := hB4.trans (hb5.mono hB4.size)
      replace BA := Box.below BA hb5 (by omega)
      replace a0 := a0.below hb5 (by omega)
      replace a1 := a1.below hb5 (by omega)
      replace a2 := a2.below hb5 (by omega)
      replace rw0 := rw0.below hb5 (by omega)
      have tx0 := Own.top ox0
      have rx0 := tx0.rds
      clear ox0
      have BA_0 := BA.cell 0 _ rfl
      have BA_1 := BA.cell 1 _ rfl
      go_wp2_with fail
      with_reducible refine (toLayout_c (wd := wd) a1 (by have := N0.out; have := N1.out; have := N2.out; have := C0.out; have := C1.out; have := C2.out; omega)).mono ?_
      rintro e w6 ⟨x1, rfl, ox1, hb6⟩
      clear BA_0 BA_1
      have hs6 : w5.heap.size ≤ w6.heap.size := hb6.size
      have hB6 : Below w.heap.size w w6 := hB5.trans (hb6.mono hB5.size)
      replace BA := Box.below BA hb6 (by omega)
      replace a0 := a0.below hb6 (by omega)
      replace a1 := a1.below hb6 (by omega)
      replace a2 := a2.below hb6 (by omega)
      replace rw0 := rw0.below hb6 (by omega)
      replace rx0 := rx0.below hb6 (by omega)
      replace tx0 := tx0.below hb6 (by omega)
      have tx1 := Own.top ox1
      have rx1 := tx1.rds
      obtain ⟨uo1, uc1, rfl⟩ := ox1.shape
      clear ox1
      obtain ⟨w7, hW6⟩ : ∃ wy : World, wy = w6.alloc (.cells #[.int .i64 wd, .slice uo1 xs.length uc1] 32) := ⟨_, rfl⟩
      have hb7 : Below w6.heap.size w6 w7 := by rw [hW6]; exact (Below.refl _ _).alloc (Nat.le_refl _) _
      have BX : Box w7 w6.heap.size [.int .i64 wd, .slice uo1 xs.length uc1] := by rw [hW6]; exact Box.new w6 [.int .i64 wd, .slice uo1 xs.length uc1] 32
      have hlx : w6.heap.size < w7.heap.size := BX.lt
      have hs7 : w6.heap.size ≤ w7.heap.size := hb7.size
      have hB7 : Below w.heap.size w w7 := hB6.trans (hb7.mono hB6.size)
      replace BA := Box.below BA hb7 (by omega)
      replace a0 := a0.below hb7 (by omega)
      replace a1 := a1.below hb7 (by omega)
      replace a2 := a2.below hb7 (by omega)
      replace rw0 := rw0.below hb7 (by omega)
      replace rx0 := rx0.below hb7 (by omega)
      replace tx0 := tx0.below hb7 (by omega)
      replace rx1 := rx1.below hb7 (by omega)
      replace tx1 := tx1.below hb7 (by omega)
      have HW6 := Lib.hid hW6
      clear hW6
      go_wp2_with fail
      rw [← HW6.out]
      with_reducible refine (toCardS_c a2 (by have := N0.out; have := N1.out; have := N2.out; have := C0.out; have := C1.out; have := C2.out; omega)).mono ?_
      rintro e w8 ⟨x2, rfl, ox2, hb8⟩
      have hs8 : w7.heap.size ≤ w8.heap.size := hb8.size
      have hB8 : Below w.heap.size w w8 := hB7.trans (hb8.mono hB7.size)
      replace BA := Box.below BA hb8 (by omega)
      replace a0 := a0.below hb8 (by omega)
      replace a1 := a1.below hb8 (by omega)
      replace a2 := a2.below hb8 (by omega)
      replace rw0 := rw0.below hb8 (by omega)
      replace rx0 := rx0.below hb8 (by omega)
      replace tx0 := tx0.below hb8 (by omega)
      replace rx1 := rx1.below hb8 (by omega)
      replace tx1 := tx1.below hb8 (by omega)
      replace BX := Box.below BX hb8 (by omega)
      have tx2 := OwnCardS.top ox2
      have rx2 := OwnCardS.rds ox2
      clear ox2
      have BX_0 := BX.cell 0 _ rfl
      have BX_1 := BX.cell 1 _ rfl
      go_wp2_with fail
      with_reducible refine (PayrollOf_c wd rx0 rx1 rx2).mono ?_
      rintro e w9 ⟨g0, rfl, og0, hb9⟩
      clear BX_0 BX_1
      have hs9 : w8.heap.size ≤ w9.heap.size := hb9.size
      have hB9 : Below w.heap.size w w9 := hB8.trans (hb9.mono hB8.size)
      replace BA := Box.below BA hb9 (by omega)
      replace a0 := a0.below hb9 (by omega)
      replace a1 := a1.below hb9 (by omega)
      replace a2 := a2.below hb9 (by omega)
      replace rw0 := rw0.below hb9 (by omega)
      replace rx0 := rx0.below hb9 (by omega)
      replace tx0 := tx0.below hb9 (by omega)
      replace rx1 := rx1.below hb9 (by omega)
      replace tx1 := tx1.below hb9 (by omega)
      replace BX := Box.below BX hb9 (by omega)
      replace rx2 := rx2.below hb9 (by omega)
      replace tx2 := tx2.below hb9 (by omega)
      have tg0 := Own.top og0
      have rg0 := tg0.rds
      clear og0
      go_wp2_with fail
      with_reducible refine (eqPayS_c rg0 rw0).mono ?_
      rintro e w10 ⟨rfl, hb10⟩
      have hs10 : w9.heap.size ≤ w10.heap.size := hb10.size
      have hB10 : Below w.heap.size w w10 := hB9.trans (hb10.mono hB9.size)
      replace BA := Box.below BA hb10 (by omega)
      replace a0 := a0.below hb10 (by omega)
      replace a1 := a1.below hb10 (by omega)
      replace a2 := a2.below hb10 (by omega)
      replace rw0 := rw0.below hb10 (by omega)
      replace rx0 := rx0.below hb10 (by omega)
      replace tx0 := tx0.below hb10 (by omega)
      replace rx1 := rx1.below hb10 (by omega)
      replace tx1 := tx1.below hb10 (by omega)
      replace BX := Box.below BX hb10 (by omega)
      replace rx2 := rx2.below hb10 (by omega)
      replace tx2 := tx2.below hb10 (by omega)
      replace rg0 := rg0.below hb10 (by omega)
      replace tg0 := tg0.below hb10 (by omega)
      go_wp2_with fail
      with_reducible refine (toWorkerS_c a0 (by have := N0.out; have := N1.out; have := N2.out; have := C0.out; have := C1.out; have := C2.out; omega)).mono ?_
      rintro e w11 ⟨u8, rfl, o8, hb11⟩
      have hs11 : w10.heap.size ≤ w11.heap.size := hb11.size
      have hB11 : Below w.heap.size w w11 := hB10.trans (hb11.mono hB10.size)
      replace BA := Box.below BA hb11 (by omega)
      replace a0 := a0.below hb11 (by omega)
      replace a1 := a1.below hb11 (by omega)
      replace a2 := a2.below hb11 (by omega)
      replace rw0 := rw0.below hb11 (by omega)
      replace rx0 := rx0.below hb11 (by omega)
      replace tx0 := tx0.below hb11 (by omega)
      replace rx1 := rx1.below hb11 (by omega)
      replace tx1 := tx1.below hb11 (by omega)
      replace BX := Box.below BX hb11 (by omega)
      replace rx2 := rx2.below hb11 (by omega)
      replace tx2 := tx2.below hb11 (by omega)
      replace rg0 := rg0.below hb11 (by omega)
      replace tg0 := tg0.below hb11 (by omega)
      have r8 := Own.rds o8
      clear o8
      go_wp2_with fail
      with_reducible refine (eqWorkerS_c rx0 r8).mono ?_
      rintro e w12 ⟨rfl, hb12⟩
      have hs12 : w11.heap.size ≤ w12.heap.size := hb12.size
      have hB12 : Below w.heap.size w w12 := hB11.trans (hb12.mono hB11.size)
      replace BA := Box.below BA hb12 (by omega)
      replace a0 := a0.below hb12 (by omega)
      replace a1 := a1.below hb12 (by omega)
      replace a2 := a2.below hb12 (by omega)
      replace rw0 := rw0.below hb12 (by omega)
      replace rx0 := rx0.below hb12 (by omega)
      replace tx0 := tx0.below hb12 (by omega)
      replace rx1 := rx1.below hb12 (by omega)
      replace tx1 := tx1.below hb12 (by omega)
      replace BX := Box.below BX hb12 (by omega)
      replace rx2 := rx2.below hb12 (by omega)
      replace tx2 := tx2.below hb12 (by omega)
      replace rg0 := rg0.below hb12 (by omega)
      replace tg0 := tg0.below hb12 (by omega)
      replace r8 := r8.below hb12 (by omega)
      clear r8
      have x0_ := BX.cell 0 _ rfl
      have x1_ := BX.cell 1 _ rfl
      have y0 := BA.cell 0 _ rfl
      have y1 := BA.cell 1 _ rfl
      have xl := BX.lt
      have yl := BA.lt
      go_upto_region 20 with fail
      refine wp_region_below (fun i v w => match i with | 0 => v = .agg #[.int .i64 wd, .slice uo1 xs.length uc1] | 1 => v = .agg #[.int .i64 wd, .slice lo n9 lcap] | 2 => ∃ u, v = .agg #[.int .i64 wd, u] ∧ RdItemS w.heap.size w u xs | 3 => v = .bool true | 4 => v = .bool false | _ => True) (by kernel_rfl) (by kernel_rfl) (by kernel_rfl) ?_ ?_ ?_
      · intro i v w w' h hb
        match i, h with
        | 0, h => exact h
        | 1, h => exact h
        | 2, h => obtain ⟨u, h1, h2⟩ := h; exact ⟨u, h1, Rds.onn h2 hb⟩
        | 3, h => exact h
        | 4, h => exact h
        | (_ + 5), h => exact h
      · intro vs hvs
        match vs, hvs with
        | [v0, v1, v2, v3, v4], _ =>
          refine ⟨?_, ?_, ?_, ?_, ?_, trivial⟩
          · intro wr hC hd
            clear hd
            have e0 := (hC.cell (p := ⟨w6.heap.size, 0, none⟩) xl).trans x0_
            have e1 := (hC.cell (p := ⟨w6.heap.size, 1, none⟩) xl).trans x1_
            unfold relAt
            simp only [putAll]
            go_simp
            simp only [relUpon]
            exact ⟨Below.refl _ _, by first | rfl | trivial⟩
          · intro wr hC hd
            clear hd
            have e0 := (hC.cell (p := ⟨w.heap.size, 0, none⟩) yl).trans y0
            have e1 := (hC.cell (p := ⟨w.heap.size, 1, none⟩) yl).trans y1
            unfold relAt
            simp only [putAll]
            go_simp
            simp only [relUpon]
            exact ⟨Below.refl _ _, by first | rfl | trivial⟩
          · intro wr hC hd
            have d1 : v1 = .agg #[.int .i64 wd, .slice lo n9 lcap] := dep_at 1 (by kernel_rfl) hd
            subst d1
            clear hd
            unfold relAt
            simp only [putAll]
            go_simp
            simp only [relUpon]
            with_reducible refine (toLayout_c (wd := wd) (Rds.onn a1 hC) (by have := N0.out; have := N1.out; have := N2.out; have := C0.out; have := C1.out; have := C2.out; omega)).mono ?_
            rintro e w99 ⟨u9, rfl, o9, hb9⟩
            exact ⟨_, rfl, hb9, u9, rfl, Own.rds o9⟩
          · intro wr hC hd
            have d0 : v0 = .agg #[.int .i64 wd, .slice uo1 xs.length uc1] := dep_at 0 (by kernel_rfl) hd
            subst d0
            have d2 : ∃ u, v2 = .agg #[.int .i64 wd, u] ∧ RdItemS wr.heap.size wr u xs := dep_at 2 (by kernel_rfl) hd
            clear hd
            have h8 := d2.choose_spec.1
            have h9 := d2.choose_spec.2
            generalize d2.choose = u9 at h8 h9
            clear d2
            subst h8
            unfold relAt
            simp only [putAll]
            go_simp
            simp only [relUpon]
            with_reducible refine (eqLayout_c (wd := wd) (Rds.onn rx1 hC) h9).mono ?_
            rintro e w99 ⟨rfl, hb9⟩
            exact ⟨_, rfl, hb9, rfl⟩
          · intro wr hC hd
            have d3 : v3 = .bool true := dep_at 3 (by kernel_rfl) hd
            subst d3
            clear hd
            unfold relAt
            simp only [putAll]
            go_simp
            simp only [relUpon]
            exact ⟨Below.refl _ _, by first | rfl | trivial⟩
      · intro vs w13 hvs hC hI
        match vs, hvs, hI with
        | [v0, v1, v2, v3, v4], _, hI =>
          have d0 : v0 = .agg #[.int .i64 wd, .slice uo1 xs.length uc1] := hI 0 (by decide)
          subst d0
          have d1 : v1 = .agg #[.int .i64 wd, .slice lo n9 lcap] := hI 1 (by decide)
          subst d1
          have d2 : ∃ u, v2 = .agg #[.int .i64 wd, u] ∧ RdItemS w13.heap.size w13 u xs := hI 2 (by decide)
          have d3 : v3 = .bool true := hI 3 (by decide)
          subst d3
          have d4 : v4 = .bool false := hI 4 (by decide)
          subst d4
          clear hI
          simp only [putAll]
          go_simp
          have hs13 : w12.heap.size ≤ w13.heap.size := hC.size
          have hB13 : Below w.heap.size w w13 := hB12.trans (hC.mono hB12.size)
          replace BA := Box.below BA hC (by omega)
          replace a0 := a0.below hC (by omega)
          replace a1 := a1.below hC (by omega)
          replace a2 := a2.below hC (by omega)
          replace rw0 := rw0.below hC (by omega)
          replace rx0 := rx0.below hC (by omega)
          replace tx0 := tx0.below hC (by omega)
          replace rx1 := rx1.below hC (by omega)
          replace tx1 := tx1.below hC (by omega)
          replace BX := Box.below BX hC (by omega)
          replace rx2 := rx2.below hC (by omega)
          replace tx2 := tx2.below hC (by omega)
          replace rg0 := rg0.below hC (by omega)
          replace tg0 := tg0.below hC (by omega)
          clear hC
          obtain ⟨u5, rfl, _⟩ := d2
          clear x0_ x1_ y0 y1 xl yl
          go_wp2_with fail
          with_reducible refine (toCardS_c a2 (by have := N0.out; have := N1.out; have := N2.out; have := C0.out; have := C1.out; have := C2.out; omega)).mono ?_
          rintro e w14 ⟨u8, rfl, o8, hb14⟩
          have hs14 : w13.heap.size ≤ w14.heap.size := hb14.size
          have hB14 : Below w.heap.size w w14 := hB13.trans (hb14.mono hB13.size)
          replace BA := Box.below BA hb14 (by omega)
          replace a0 := a0.below hb14 (by omega)
          replace a1 := a1.below hb14 (by omega)
          replace a2 := a2.below hb14 (by omega)
          replace rw0 := rw0.below hb14 (by omega)
          replace rx0 := rx0.below hb14 (by omega)
          replace tx0 := tx0.below hb14 (by omega)
          replace rx1 := rx1.below hb14 (by omega)
          replace tx1 := tx1.below hb14 (by omega)
          replace BX := Box.below BX hb14 (by omega)
          replace rx2 := rx2.below hb14 (by omega)
          replace tx2 := tx2.below hb14 (by omega)
          replace rg0 := rg0.below hb14 (by omega)
          replace tg0 := tg0.below hb14 (by omega)
          have r8 := OwnCardS.rds o8
          clear o8
          go_wp2_with fail
          with_reducible refine (eqCardS_c rx2 r8).mono ?_
          rintro e w15 ⟨rfl, hb15⟩
          have hs15 : w14.heap.size ≤ w15.heap.size := hb15.size
          have hB15 : Below w.heap.size w w15 := hB14.trans (hb15.mono hB14.size)
          replace BA := Box.below BA hb15 (by omega)
          replace a0 := a0.below hb15 (by omega)
          replace a1 := a1.below hb15 (by omega)
          replace a2 := a2.below hb15 (by omega)
          replace rw0 := rw0.below hb15 (by omega)
          replace rx0 := rx0.below hb15 (by omega)
          replace tx0 := tx0.below hb15 (by omega)
          replace rx1 := rx1.below hb15 (by omega)
          replace tx1 := tx1.below hb15 (by omega)
          replace BX := Box.below BX hb15 (by omega)
          replace rx2 := rx2.below hb15 (by omega)
          replace tx2 := tx2.below hb15 (by omega)
          replace rg0 := rg0.below hb15 (by omega)
          replace tg0 := tg0.below hb15 (by omega)
          replace r8 := r8.below hb15 (by omega)
          clear r8
          clear rx0
          clear rx1
          clear rx2
          clear rg0
          go_wp2_with fail
          with_reducible refine (markWorkerS_c 1 tx0 (by omega) (by have := cntWorkerS_le L; have := cntItemS_le xs; have := cntCardS_le d; have := N0.out; have := N1.out; have := N2.out; have := C0.out; have := C1.out; have := C2.out; omega)).mono ?_
          rintro e w16 ⟨rfl, tx0, hw16, _⟩
          have hb16 := hw16.below (by omega)
          have hs16 : w15.heap.size ≤ w16.heap.size := hb16.size
          have hB16 : Below w.heap.size w w16 := hB15.trans (hb16.mono (by omega))
          replace BA := Box.below BA hb16 (by omega)
          replace a0 := a0.below hb16 (by omega)
          replace a1 := a1.below hb16 (by omega)
          replace a2 := a2.below hb16 (by omega)
          replace rw0 := rw0.below hb16 (by omega)
          replace tx1 := tx1.within hw16 (by omega)
          replace BX := Box.wthI BX hw16 (.inr (by omega))
          replace tx2 := tx2.within hw16 (by omega)
          replace tg0 := tg0.within hw16 (by omega)
          have BX_0 := BX.cell 0 _ rfl
          have BX_1 := BX.cell 1 _ rfl
          go_wp2_with fail
          with_reducible refine (markLayout_c wd _ tx1 (by omega) (by omega) (by have := cntWorkerS_le L; have := cntItemS_le xs; have := cntCardS_le d; have := N0.out; have := N1.out; have := N2.out; have := C0.out; have := C1.out; have := C2.out; omega)).mono ?_
          rintro e w17 ⟨rfl, tx1, hw17⟩
          clear BX_0 BX_1
          have hb17 := hw17.below (by omega)
          have hs17 : w16.heap.size ≤ w17.heap.size := hb17.size
          have hB17 : Below w.heap.size w w17 := hB16.trans (hb17.mono (by omega))
          replace BA := Box.below BA hb17 (by omega)
          replace a0 := a0.below hb17 (by omega)
          replace a1 := a1.below hb17 (by omega)
          replace a2 := a2.below hb17 (by omega)
          replace rw0 := rw0.below hb17 (by omega)
          replace tx0 := tx0.below hb17 (by omega)
          replace BX := Box.wthI BX hw17 (.inr (by omega))
          replace tx2 := tx2.within hw17 (by omega)
          replace tg0 := tg0.within hw17 (by omega)
          clear tx0
          go_wp2_with fail
          with_reducible refine (markCardS_c _ tx2 (by omega) (by have := cntWorkerS_le L; have := cntItemS_le xs; have := cntCardS_le d; have := N0.out; have := N1.out; have := N2.out; have := C0.out; have := C1.out; have := C2.out; omega)).mono ?_
          rintro e w18 ⟨rfl, tx2, hw18⟩
          have hb18 := hw18.below (by omega)
          have hs18 : w17.heap.size ≤ w18.heap.size := hb18.size
          have hB18 : Below w.heap.size w w18 := hB17.trans (hb18.mono (by omega))
          replace BA := Box.below BA hb18 (by omega)
          replace a0 := a0.below hb18 (by omega)
          replace a1 := a1.below hb18 (by omega)
          replace a2 := a2.below hb18 (by omega)
          replace rw0 := rw0.below hb18 (by omega)
          replace tx1 := tx1.below hb18 (by omega)
          replace BX := Box.below BX hb18 (by omega)
          replace tg0 := tg0.within hw18 (by omega)
          clear tx1 BX
          clear tx2
          have rg0 := tg0.rds
          have LK : ¬ (1 + (cntWorkerS L : Int) + (cntItemS xs : Int) + (cntCardS d : Int)) < 0 := by omega
          go_wp2_with fail
          with_reducible refine (eqPayS_c rg0 rw0).mono ?_
          rintro e w19 ⟨rfl, hb19⟩
          have hs19 : w18.heap.size ≤ w19.heap.size := hb19.size
          have hB19 : Below w.heap.size w w19 := hB18.trans (hb19.mono hB18.size)
          replace BA := Box.below BA hb19 (by omega)
          replace a0 := a0.below hb19 (by omega)
          replace a1 := a1.below hb19 (by omega)
          replace a2 := a2.below hb19 (by omega)
          replace rw0 := rw0.below hb19 (by omega)
          replace tg0 := tg0.below hb19 (by omega)
          replace rg0 := rg0.below hb19 (by omega)
          clear LK
          clear rg0
          go_wp2_with fail
          with_reducible refine (markPayS_c 1 tg0 (by omega) (by have := CNT.out; omega)).mono ?_
          rintro e w20 ⟨rfl, tg0, hw20, _⟩
          have hb20 := hw20.below (by omega)
          have hs20 : w19.heap.size ≤ w20.heap.size := hb20.size
          have hB20 : Below w.heap.size w w20 := hB19.trans (hb20.mono (by omega))
          replace BA := Box.below BA hb20 (by omega)
          replace a0 := a0.below hb20 (by omega)
          replace a1 := a1.below hb20 (by omega)
          replace a2 := a2.below hb20 (by omega)
          replace rw0 := rw0.below hb20 (by omega)
          have rg0 := tg0.rds
          clear tg0
          have LM : ¬ (1 + (cntPayS (prL (prR L wd xs d)) : Int)) < 0 := by omega
          go_wp2_with fail
          with_reducible refine (heldPayS_c 1 rg0 (by omega) (by have := CNT.out; omega)).mono ?_
          rintro e w21 ⟨rfl, hb21⟩
          have hs21 : w20.heap.size ≤ w21.heap.size := hb21.size
          have hB21 : Below w.heap.size w w21 := hB20.trans (hb21.mono hB20.size)
          replace BA := Box.below BA hb21 (by omega)
          replace a0 := a0.below hb21 (by omega)
          replace a1 := a1.below hb21 (by omega)
          replace a2 := a2.below hb21 (by omega)
          replace rw0 := rw0.below hb21 (by omega)
          replace rg0 := rg0.below hb21 (by omega)
          have y0 := BA.cell 0 _ rfl
          have y1 := BA.cell 1 _ rfl
          have yl := BA.lt
          go_upto_region 38 with fail
          refine wp_region_below (fun i v w => match i with | 0 => v = .slice tao n8 tcap | 1 => RdWorkerS w.heap.size w v L | 2 => v = .agg #[.int .i64 wd, .slice lo n9 lcap] | 3 => ∃ u, v = .agg #[.int .i64 wd, u] ∧ RdItemS w.heap.size w u xs | 4 => v = .slice dao n7 dcap | 5 => RdCardS w.heap.size w v d | 6 => ∃ r, v = .tuple #[r, .int .i64 (prE (prR L wd xs d))] ∧ RdPayS w.heap.size w r (prL (prR L wd xs d)) | 7 => ∃ r, v = .tuple #[r, .int .i64 (prE (prR L wd xs d))] ∧ RdPayS w.heap.size w r (prL (prR L wd xs d)) | 8 => RdPayS w.heap.size w v (prL (prR L wd xs d)) | 9 => v = .int .i64 (prE (prR L wd xs d)) | 10 => RdPayS w.heap.size w v (prL (prR L wd xs d)) | 11 => v = .int .i64 (prE (prR L wd xs d)) | _ => True) (by kernel_rfl) (by kernel_rfl) (by kernel_rfl) ?_ ?_ ?_
          · intro i v w w' h hb
            match i, h with
            | 0, h => exact h
            | 1, h => exact Rds.onn h hb
            | 2, h => exact h
            | 3, h => obtain ⟨u, h1, h2⟩ := h; exact ⟨u, h1, Rds.onn h2 hb⟩
            | 4, h => exact h
            | 5, h => exact RdInt64SS.onn h hb
            | 6, h => obtain ⟨u, h1, h2⟩ := h; exact ⟨u, h1, Rds.onn h2 hb⟩
            | 7, h => obtain ⟨u, h1, h2⟩ := h; exact ⟨u, h1, Rds.onn h2 hb⟩
            | 8, h => exact Rds.onn h hb
            | 9, h => exact h
            | 10, h => exact Rds.onn h hb
            | 11, h => exact h
            | (_ + 12), h => exact h
          · intro vs hvs
            match vs, hvs with
            | [v0, v1, v2, v3, v4, v5, v6, v7, v8, v9, v10, v11], _ =>
              refine ⟨?_, ?_, ?_, ?_, ?_, ?_, ?_, ?_, ?_, ?_, ?_, ?_, trivial⟩
              · intro wr hC hd
                clear hd
                unfold relAt
                simp only [putAll]
                go_simp
                simp only [relUpon]
                exact ⟨Below.refl _ _, by first | rfl | trivial⟩
              · intro wr hC hd
                have d0 : v0 = .slice tao n8 tcap := dep_at 0 (by kernel_rfl) hd
                subst d0
                clear hd
                unfold relAt
                simp only [putAll]
                go_simp
                simp only [relUpon]
                with_reducible refine (toWorkerS_c (Rds.onn a0 hC) (by have := N0.out; have := N1.out; have := N2.out; have := C0.out; have := C1.out; have := C2.out; omega)).mono ?_
                rintro e w99 ⟨u9, rfl, o9, hb9⟩
                exact ⟨_, rfl, hb9, Own.rds o9⟩
              · intro wr hC hd
                clear hd
                have e0 := (hC.cell (p := ⟨w.heap.size, 0, none⟩) yl).trans y0
                have e1 := (hC.cell (p := ⟨w.heap.size, 1, none⟩) yl).trans y1
                unfold relAt
                simp only [putAll]
                go_simp
                simp only [relUpon]
                exact ⟨Below.refl _ _, by first | rfl | trivial⟩
              · intro wr hC hd
                have d2 : v2 = .agg #[.int .i64 wd, .slice lo n9 lcap] := dep_at 2 (by kernel_rfl) hd
                subst d2
                clear hd
                unfold relAt
                simp only [putAll]
                go_simp
                simp only [relUpon]
                with_reducible refine (toLayout_c (wd := wd) (Rds.onn a1 hC) (by have := N0.out; have := N1.out; have := N2.out; have := C0.out; have := C1.out; have := C2.out; omega)).mono ?_
                rintro e w99 ⟨u9, rfl, o9, hb9⟩
                exact ⟨_, rfl, hb9, u9, rfl, Own.rds o9⟩
              · intro wr hC hd
                clear hd
                unfold relAt
                simp only [putAll]
                go_simp
                simp only [relUpon]
                exact ⟨Below.refl _ _, by first | rfl | trivial⟩
              · intro wr hC hd
                have d4 : v4 = .slice dao n7 dcap := dep_at 4 (by kernel_rfl) hd
                subst d4
                clear hd
                unfold relAt
                simp only [putAll]
                go_simp
                simp only [relUpon]
                with_reducible refine (toCardS_c (RdInt64SS.onn a2 hC) (by have := N0.out; have := N1.out; have := N2.out; have := C0.out; have := C1.out; have := C2.out; omega)).mono ?_
                rintro e w99 ⟨u9, rfl, o9, hb9⟩
                exact ⟨_, rfl, hb9, OwnCardS.rds o9⟩
              · intro wr hC hd
                have d1 : RdWorkerS wr.heap.size wr v1 L := dep_at 1 (by kernel_rfl) hd
                have d3 : ∃ u, v3 = .agg #[.int .i64 wd, u] ∧ RdItemS wr.heap.size wr u xs := dep_at 3 (by kernel_rfl) hd
                have d5 : RdCardS wr.heap.size wr v5 d := dep_at 5 (by kernel_rfl) hd
                clear hd
                have h8 := d3.choose_spec.1
                have h9 := d3.choose_spec.2
                generalize d3.choose = u9 at h8 h9
                clear d3
                subst h8
                unfold relAt
                simp only [putAll]
                go_simp
                simp only [relUpon]
                with_reducible refine (PayrollOf_c wd d1 h9 d5).mono ?_
                rintro e w99 ⟨r9, rfl, o9, hb9⟩
                exact ⟨_, rfl, hb9, r9, rfl, Own.rds o9⟩
              · intro wr hC hd
                have d6 : ∃ r, v6 = .tuple #[r, .int .i64 (prE (prR L wd xs d))] ∧ RdPayS wr.heap.size wr r (prL (prR L wd xs d)) := dep_at 6 (by kernel_rfl) hd
                clear hd
                have h8 := d6.choose_spec.1
                have h9 := d6.choose_spec.2
                generalize d6.choose = r9 at h8 h9
                clear d6
                subst h8
                unfold relAt
                simp only [putAll]
                go_simp
                simp only [relUpon]
                exact ⟨Below.refl _ _, r9, rfl, h9⟩
              · intro wr hC hd
                have d7 : ∃ r, v7 = .tuple #[r, .int .i64 (prE (prR L wd xs d))] ∧ RdPayS wr.heap.size wr r (prL (prR L wd xs d)) := dep_at 7 (by kernel_rfl) hd
                clear hd
                have h8 := d7.choose_spec.1
                have h9 := d7.choose_spec.2
                generalize d7.choose = r9 at h8 h9
                clear d7
                subst h8
                unfold relAt
                simp only [putAll]
                go_simp
                simp only [relUpon]
                exact ⟨Below.refl _ _, h9⟩
              · intro wr hC hd
                have d7 : ∃ r, v7 = .tuple #[r, .int .i64 (prE (prR L wd xs d))] ∧ RdPayS wr.heap.size wr r (prL (prR L wd xs d)) := dep_at 7 (by kernel_rfl) hd
                clear hd
                have h8 := d7.choose_spec.1
                have h9 := d7.choose_spec.2
                generalize d7.choose = r9 at h8 h9
                clear d7
                subst h8
                unfold relAt
                simp only [putAll]
                go_simp
                simp only [relUpon]
                exact ⟨Below.refl _ _, by first | rfl | trivial⟩
              · intro wr hC hd
                have d8 : RdPayS wr.heap.size wr v8 (prL (prR L wd xs d)) := dep_at 8 (by kernel_rfl) hd
                clear hd
                unfold relAt
                simp only [putAll]
                go_simp
                simp only [relUpon]
                exact ⟨Below.refl _ _, d8⟩
              · intro wr hC hd
                have d9 : v9 = .int .i64 (prE (prR L wd xs d)) := dep_at 9 (by kernel_rfl) hd
                subst d9
                clear hd
                unfold relAt
                simp only [putAll]
                go_simp
                simp only [relUpon]
                exact ⟨Below.refl _ _, by first | rfl | trivial⟩
          · intro vs w22 hvs hC hI
            match vs, hvs, hI with
            | [v0, v1, v2, v3, v4, v5, v6, v7, v8, v9, v10, v11], _, hI =>
              have d0 : v0 = .slice tao n8 tcap := hI 0 (by decide)
              subst d0
              have d1 : RdWorkerS w22.heap.size w22 v1 L := hI 1 (by decide)
              have d2 : v2 = .agg #[.int .i64 wd, .slice lo n9 lcap] := hI 2 (by decide)
              subst d2
              have d3 : ∃ u, v3 = .agg #[.int .i64 wd, u] ∧ RdItemS w22.heap.size w22 u xs := hI 3 (by decide)
              have d4 : v4 = .slice dao n7 dcap := hI 4 (by decide)
              subst d4
              have d5 : RdCardS w22.heap.size w22 v5 d := hI 5 (by decide)
              have d6 : ∃ r, v6 = .tuple #[r, .int .i64 (prE (prR L wd xs d))] ∧ RdPayS w22.heap.size w22 r (prL (prR L wd xs d)) := hI 6 (by decide)
              have d7 : ∃ r, v7 = .tuple #[r, .int .i64 (prE (prR L wd xs d))] ∧ RdPayS w22.heap.size w22 r (prL (prR L wd xs d)) := hI 7 (by decide)
              have d8 : RdPayS w22.heap.size w22 v8 (prL (prR L wd xs d)) := hI 8 (by decide)
              have d9 : v9 = .int .i64 (prE (prR L wd xs d)) := hI 9 (by decide)
              subst d9
              have d10 : RdPayS w22.heap.size w22 v10 (prL (prR L wd xs d)) := hI 10 (by decide)
              have d11 : v11 = .int .i64 (prE (prR L wd xs d)) := hI 11 (by decide)
              subst d11
              clear hI
              simp only [putAll]
              go_simp
              have hs22 : w21.heap.size ≤ w22.heap.size := hC.size
              have hB22 : Below w.heap.size w w22 := hB21.trans (hC.mono hB21.size)
              replace BA := Box.below BA hC (by omega)
              replace a0 := a0.below hC (by omega)
              replace a1 := a1.below hC (by omega)
              replace a2 := a2.below hC (by omega)
              replace rw0 := rw0.below hC (by omega)
              replace rg0 := rg0.below hC (by omega)
              clear hC
              obtain ⟨u7, rfl, _⟩ := d3
              obtain ⟨r6, rfl, _⟩ := d6
              obtain ⟨r7, rfl, _⟩ := d7
              have rh0 := d10
              clear y0 y1 yl d1 d5 d8 d10
              go_wp2_with fail
              with_reducible refine (eqPayS_c rh0 rw0).mono ?_
              rintro e w23 ⟨rfl, hb23⟩
              have hs23 : w22.heap.size ≤ w23.heap.size := hb23.size
              have hB23 : Below w.heap.size w w23 := hB22.trans (hb23.mono hB22.size)
              replace BA := Box.below BA hb23 (by omega)
              replace a0 := a0.below hb23 (by omega)
              replace a1 := a1.below hb23 (by omega)
              replace a2 := a2.below hb23 (by omega)
              replace rw0 := rw0.below hb23 (by omega)
              replace rg0 := rg0.below hb23 (by omega)
              replace rh0 := rh0.below hb23 (by omega)
              go_wp2_with fail
              with_reducible refine (heldPayS_c 1 rg0 (by omega) (by have := CNT.out; omega)).mono ?_
              rintro e w24 ⟨rfl, hb24⟩
              have hs24 : w23.heap.size ≤ w24.heap.size := hb24.size
              have hB24 : Below w.heap.size w w24 := hB23.trans (hb24.mono hB23.size)
              replace BA := Box.below BA hb24 (by omega)
              replace a0 := a0.below hb24 (by omega)
              replace a1 := a1.below hb24 (by omega)
              replace a2 := a2.below hb24 (by omega)
              replace rw0 := rw0.below hb24 (by omega)
              replace rg0 := rg0.below hb24 (by omega)
              replace rh0 := rh0.below hb24 (by omega)
              go_wp2
              go_ret
              exact ⟨rfl, hB24⟩
namespace fnExactPayrollOf
theorem own : ownKnob Tryz.prog.godebug = none := by kernel_rfl
set_option maxRecDepth 100000 in
theorem lifted (os : Os) (started : os.Started) (H : Type) (enc : TypeId × Value → H) :
    ReturnsInHanded {} Tryz.checked os 5 .any (fun w args => (Rows.fnExactPayrollOfSpec.pre enc Tryz.prog Tryz.f5 [] false w args ∧ laidMetH Tryz.prog Rows.fnExactPayrollOfRow.laid w) ∧ sizedMet enc Tryz.prog Tryz.f5 (OpenSpec.ofChange Rows.fnExactPayrollOfSpec) false w args) (Rows.fnExactPayrollOfSpec.post enc Tryz.prog Tryz.f5 false true false false) := by
  refine returnsInHanded_of_change_and (C := Tryz.checked) (X := fun w _ => laidMetH Tryz.prog Rows.fnExactPayrollOfRow.laid w) (fun _ _ _ hh h => h.of_heap hh) own started (by kernel_rfl) Tryz.func5
    (ChangeSpec.witness_shaped (enc := enc) (C := Tryz.checked) (os := os) (X := fun w _ => laidMetH Tryz.prog Rows.fnExactPayrollOfRow.laid w) false (World.laidAll Tryz.prog os Rows.fnExactPayrollOfRow.laid) #[.slice none 0 0, .agg #[.int .i64 0, .slice none 0 0], .slice none 0 0] 8 (World.laidAll_os _ _ _) (World.shaped_of_ZipB (by kernel_rfl) (by kernel_rfl)) (by kernel_rfl) (by kernel_rfl) (by kernel_rfl)
      (by rw [MakeChecks.laidMetH_plain _ _ _ (by kernel_rfl)]; exact laidMet_laidAll _ (by kernel_rfl) (by kernel_rfl))) ?_
  intro W base args ds gs before hval0 hW _ _ hL _
  have hval : ∀ (j : Nat) t v, Tryz.f5.params[j]? = some t → args[j]? = some v → Value.okWide Tryz.prog W .any base t v := hval0
  have hW' := hW
  obtain ⟨p, q, hA0, hV, rfl, hfz, hnd⟩ := hW
  have hA : DataW.TrodAll enc Tryz.prog W 0 (fun _ => true) true Tryz.f5.params.toList args.toList ds p := hA0
  rw [Tryz.params5] at hA hval
  obtain ⟨v0, vs0, d0, ds0, p0, s0, hargs, rfl, rfl, h0, q0⟩ := trodAll_cons hA
  obtain ⟨v1, vs1, d1, ds1, p1, s1, rfl, rfl, rfl, h1, q1⟩ := trodAll_cons q0
  obtain ⟨v2, vs2, d2, ds2, p2, s2, rfl, rfl, rfl, h2, q2⟩ := trodAll_cons q1
  obtain ⟨rfl, rfl, rfl⟩ := trodAll_nil q2
  obtain rfl : args = #[v0, v1, v2] := by cases args; simp_all
  obtain ⟨x0, r0⟩ := openWorkerS (hval 0 39 v0 rfl rfl) h0
  obtain ⟨wd1, lv1, x1, rfl, wb1, r1⟩ := openLayout (hval 1 24 v1 rfl rfl) h1
  obtain ⟨x2, r2⟩ := openCardS (hval 2 25 v2 rfl rfl) h2
  obtain ⟨rfl, rfl⟩ := trodVars_none hV
  exact (walk_FnExactPayrollOf W wd1 r0 r1 r2).mono fun e W' hh => ⟨_, hh.1, law_postV (f := Tryz.f5) (s := Rows.fnExactPayrollOfSpec) (T := 4) (by kernel_rfl) (of_decide_eq_true (by kernel_rfl)) (by kernel_rfl) rfl Tryz.underlying4 rfl hW' hh.2⟩
theorem row_holds : Rows.FnExactPayrollOfSaid :=
  OpenClaim.holds_of_wide 5 Tryz.f5 rfl rfl rfl rfl rfl rfl rfl ⟨rfl, rfl, rfl, rfl, rfl⟩ rfl rfl rfl rfl rfl (by kernel_rfl) Tryz.func5 (by kernel_rfl)
    (of_decide_eq_true (by kernel_rfl)) (by unfold Func.isWrapper; first | (rw [if_pos (by decide +kernel)]; kernel_rfl) | (rw [if_neg (by decide +kernel)]; exact ⟨rfl, rfl⟩))
    (fun os started H enc _ => lifted os started H enc)
theorem proved : Rows.FnExactPayrollOfCardSaid :=
  Claim7.holds_tied_plain_at .later [] [.data, .data, .data, .data, .pinned] true (true, "24b9c3873373c100848743ccb4d765bc196dfd092f57c8d14b03f88d262f083a") false
    row_holds (fun _ h => by cases h) (by kernel_rfl) (fun _ h => by cases h) fnExactPayrollOf_row_tie rfl ⟨rfl, rfl⟩ (by kernel_rfl) rfl
    (fun f fn hf hfn => by
      obtain rfl : f = 5 := Option.some.inj ((show Tryz.prog.funcNamed "loop.example/g01012/laws.FnExactPayrollOf" = some 5 by kernel_rfl).symm.trans hf) |>.symm
      obtain rfl : fn = Tryz.f5 := (Option.some.inj (Tryz.func5.symm.trans hfn)).symm
      exact ⟨by kernel_rfl, fun j t ht => by
        rw [Tryz.params5] at ht
        have hm : t ∈ [39, 24, 25] := by simpa using Array.mem_of_getElem? ht
        have hall : ([39, 24, 25].all fun u => !Tryz.prog.wantsStandIn u) = true := by kernel_rfl
        exact (show Tryz.prog.wantsStandIn t = false by simpa using List.all_eq_true.1 hall t hm)⟩)
    (by kernel_rfl)
end fnExactPayrollOf
#print axioms fnExactPayrollOf.proved
end Go.Proofs.YtfieilbcdhbigaaGreatDoor
