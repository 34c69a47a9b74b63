/- The items of cards of hours with their codes: the program's, each by its contract. No condition. -/
import Derived.Test.YtfieilbcdhbigaaGreatDoorPayIt
import Derived.BigRegion
namespace Go.Proofs.YtfieilbcdhbigaaGreatDoor
open Go.ChangeShapes Go.WideShapes Go.ChangeAt Go.RowKit Go.Sort
set_option linter.unusedVariables false
set_option maxRecDepth 100000
def twoC (xs : List ItemT) (n1 n2 : ByteArray) : Int := if ¬ idxI xs n1 < 0 ∧ ¬ idxI xs n2 < 0 then (if (itAt xs n1).kd = 1 ∧ (itAt xs n2).kd = 2 then 0 else 6) else 3
def twoX (xs : List ItemT) (n1 n2 nm : ByteArray) : ItemT := if twoC xs n1 n2 = 0 then itAt xs nm else zItem
theorem twoC_three {xs : List ItemT} {n1 n2 : ByteArray} (h : idxI xs n1 < 0 ∨ idxI xs n2 < 0) : twoC xs n1 n2 = 3 := by
  unfold twoC; rw [if_neg (fun e => h.elim e.1 e.2)]
theorem twoC_six {xs : List ItemT} {n1 n2 : ByteArray} (h1 : ¬ idxI xs n1 < 0) (h2 : ¬ idxI xs n2 < 0) (h : ¬ ((itAt xs n1).kd = 1 ∧ (itAt xs n2).kd = 2)) : twoC xs n1 n2 = 6 := by
  unfold twoC; rw [if_pos ⟨h1, h2⟩, if_neg h]
theorem twoC_zero {xs : List ItemT} {n1 n2 : ByteArray} (h1 : ¬ idxI xs n1 < 0) (h2 : ¬ idxI xs n2 < 0) (h : (itAt xs n1).kd = 1 ∧ (itAt xs n2).kd = 2) : twoC xs n1 n2 = 0 := by
  unfold twoC; rw [if_pos ⟨h1, h2⟩, if_pos h]
theorem twoX_no {xs : List ItemT} {n1 n2 nm : ByteArray} (h : twoC xs n1 n2 ≠ 0) : twoX xs n1 n2 nm = zItem := if_neg h
theorem twoX_yes {xs : List ItemT} {n1 n2 nm : ByteArray} (h : twoC xs n1 n2 = 0) : twoX xs n1 n2 nm = itAt xs nm := if_pos h
set_option maxHeartbeats 2000000 in
theorem twoItems_c {xs : List ItemT} {v : Value} {w : World} {A : Nat} (wd : Int) (n1 n2 : ByteArray) (ha : RdItemS A w v xs) :
    Calls Tryz.prog 71 #[.agg #[.int .i64 wd, v], .string n1, .string n2] w fun e w' => e = .returned (.tuple #[vItem (twoX xs n1 n2 n1), vItem (twoX xs n1 n2 n2), .int .i64 (twoC xs n1 n2)]) ∧ Below w.heap.size w w' := by
  have hle := ha.le
  obtain ⟨ao, cap, rfl, ho⟩ := eItem_open ha
  obtain ⟨n, hn⟩ : ∃ n, n = xs.length := ⟨_, rfl⟩
  rw [← hn] at ha ho hle ⊢
  have Hn := Lib.hid hn
  clear hn
  obtain ⟨W, hW⟩ : ∃ W, W = ((w.alloc (.cells #[.int .i64 wd, .slice ao n cap] 32)).alloc (.cells #[.string ⟨#[]⟩, .int .i64 0, .int .i64 0, .int .i64 0] 72)).alloc (.cells #[.string ⟨#[]⟩, .int .i64 0, .int .i64 0, .int .i64 0] 72) := ⟨_, rfl⟩
  have h3 : Box W w.heap.size [.int .i64 wd, .slice ao n cap] ∧ Box W (w.heap.size + 1) [.string ⟨#[]⟩, .int .i64 0, .int .i64 0, .int .i64 0] ∧ Box W (w.heap.size + 1 + 1) [.string ⟨#[]⟩, .int .i64 0, .int .i64 0, .int .i64 0] ∧ Below w.heap.size w W := by
    rw [hW]; exact box3 w [.int .i64 wd, .slice ao n cap] [.string ⟨#[]⟩, .int .i64 0, .int .i64 0, .int .i64 0] [.string ⟨#[]⟩, .int .i64 0, .int .i64 0, .int .i64 0] 32 72 72
  obtain ⟨hL, hX, hY, hb0⟩ := h3
  have Ha := Lib.hid (Rds.onn ha hb0)
  have Ho := Lib.hid ho
  have HW := Lib.hid hW
  have HL := Lib.hid hL
  have HX := Lib.hid hX
  have HY := Lib.hid hY
  have Hb0 := Lib.hid hb0
  have Hi1 := Lib.hid (fun q os => itemIndex_c wd n1 (Rds.regrown Ha.out (Nat.le_refl _) q os))
  have Hi2 := Lib.hid (fun q os => itemIndex_c wd n2 (Rds.regrown Ha.out (Nat.le_refl _) q os))
  have f0 := cell_regrown (HL.out.cell 0 _ rfl)
  have f1 := cell_regrown (HL.out.cell 1 _ rfl)
  clear hL hX hY hb0 hW ha ho
  by_cases h1 : idxI xs n1 < 0
  · have E3 := Lib.hid (twoC_three (n2 := n2) (.inl h1))
    go_enter Tryz.func71, Tryz.ntmps71
    go_upto_region 1 with fail
    rw [← HW.out]
    refine wp_region_quiet_below (by kernel_rfl) (by kernel_rfl) ?_
    repeat ((with_reducible refine wpQuiet_step (fun K hK => ?_)); go_simp; first | ((with_reducible refine hK _ ?_); clear hK K) | (apply Exists.intro; refine ⟨fun _ => ?_, hK _ ?_⟩; ((first | (go_at_call 97; first | with_reducible exact qb_below (Hi1.out _ _) | with_reducible exact qb_below (Hi2.out _ _)))); clear hK K))
    refine wpQuiet_nil ?_
    intro _ hw'
    obtain ⟨⟨dq, osq⟩, hw''⟩ := hw'
    subst hw''
    have hbq := below_regrown W dq osq
    generalize grow (redrawn W dq) osq = wq at hbq ⊢
    have hb := Hb0.out.trans (hbq.mono Hb0.out.size)
    have x0 := (HX.out.on hbq).cell 0 _ rfl
    have x1 := (HX.out.on hbq).cell 1 _ rfl
    have x2 := (HX.out.on hbq).cell 2 _ rfl
    have x3 := (HX.out.on hbq).cell 3 _ rfl
    have y0 := (HY.out.on hbq).cell 0 _ rfl
    have y1 := (HY.out.on hbq).cell 1 _ rfl
    have y2 := (HY.out.on hbq).cell 2 _ rfl
    have y3 := (HY.out.on hbq).cell 3 _ rfl
    have hlx := (HX.out.on hbq).lt
    have hly := (HY.out.on hbq).lt
    have fx := (HX.out.on hbq).free
    have fy := (HY.out.on hbq).free
    clear hbq f0 f1
    go_wp2
    refine bodyPost_ret (v := .tuple #[vItem zItem, vItem zItem, .int .i64 3]) (by simp [results, Tryz.results71, go_sem, x0, x1, x2, x3, y0, y1, y2, y3, hlx, hly, fx, fy, zItem]) rfl ⟨?_, (hb.run (g := w.heap.size + 1) (by omega) [_, _, _, _]).run (g := w.heap.size + 1 + 1) (by omega) [_, _, _, _]⟩
    rw [twoX_no (by rw [E3.out]; decide), twoX_no (by rw [E3.out]; decide), E3.out]
  · obtain ⟨k1, a, hk1, hka⟩ := idx_at h1
    have hia := itAt_of hk1 hka
    by_cases h2 : idxI xs n2 < 0
    · have E3 := Lib.hid (twoC_three (n1 := n1) (.inr h2))
      have q1 : ¬ idxI xs n1 < 0 := h1
      go_enter Tryz.func71, Tryz.ntmps71
      go_upto_region 1 with fail
      rw [← HW.out]
      refine wp_region_quiet_below (by kernel_rfl) (by kernel_rfl) ?_
      repeat ((with_reducible refine wpQuiet_step (fun K hK => ?_)); go_simp; first | ((with_reducible refine hK _ ?_); clear hK K) | (apply Exists.intro; refine ⟨fun _ => ?_, hK _ ?_⟩; ((first | (go_at_call 97; first | with_reducible exact qb_below (Hi1.out _ _) | with_reducible exact qb_below (Hi2.out _ _)))); clear hK K))
      refine wpQuiet_nil ?_
      intro _ hw'
      obtain ⟨⟨dq, osq⟩, hw''⟩ := hw'
      subst hw''
      have hbq := below_regrown W dq osq
      generalize grow (redrawn W dq) osq = wq at hbq ⊢
      have hb := Hb0.out.trans (hbq.mono Hb0.out.size)
      have x0 := (HX.out.on hbq).cell 0 _ rfl
      have x1 := (HX.out.on hbq).cell 1 _ rfl
      have x2 := (HX.out.on hbq).cell 2 _ rfl
      have x3 := (HX.out.on hbq).cell 3 _ rfl
      have y0 := (HY.out.on hbq).cell 0 _ rfl
      have y1 := (HY.out.on hbq).cell 1 _ rfl
      have y2 := (HY.out.on hbq).cell 2 _ rfl
      have y3 := (HY.out.on hbq).cell 3 _ rfl
      have hlx := (HX.out.on hbq).lt
      have hly := (HY.out.on hbq).lt
      have fx := (HX.out.on hbq).free
      have fy := (HY.out.on hbq).free
      clear hbq f0 f1
      go_wp2
      refine bodyPost_ret (v := .tuple #[vItem zItem, vItem zItem, .int .i64 3]) (by simp [results, Tryz.results71, go_sem, x0, x1, x2, x3, y0, y1, y2, y3, hlx, hly, fx, fy, zItem]) rfl ⟨?_, (hb.run (g := w.heap.size + 1) (by omega) [_, _, _, _]).run (g := w.heap.size + 1 + 1) (by omega) [_, _, _, _]⟩
      rw [twoX_no (by rw [E3.out]; decide), twoX_no (by rw [E3.out]; decide), E3.out]
    · obtain ⟨k2, c, hk2, hkc⟩ := idx_at h2
      have hic := itAt_of hk2 hkc
      obtain ⟨b, off, rfl, hlt, hc⟩ := Ho.out (by have := at_lt hka; have := Hn.out; omega)
      obtain ⟨a', ha', ⟨c0, c1, c2, c3⟩, ba⟩ := hc k1 (by have := at_lt hka; have := Hn.out; omega)
      obtain rfl : a' = a := by rw [hka] at ha'; exact (Option.some.inj ha').symm
      obtain ⟨c', hc', ⟨d0, d1, d2, d3⟩, bc⟩ := hc k2 (by have := at_lt hkc; have := Hn.out; omega)
      obtain rfl : c' = c := by rw [hkc] at hc'; exact (Option.some.inj hc').symm
      have hl1 : k1 < n := by have := at_lt hka; have := Hn.out; omega
      have hl2 : k2 < n := by have := at_lt hkc; have := Hn.out; omega
      have Hki := Lib.hid hia
      have Hkc := Lib.hid hic
      have Hq1 := Lib.hid h1
      have Hq2 := Lib.hid h2
      rw [hk1] at Hi1
      rw [hk2] at Hi2
      have hle1 : k1 < 9223372036854775807 := by omega
      have hle2 : k2 < 9223372036854775807 := by omega
      clear hc ha' hc' hka hkc hia hic h1 h2 hk1 hk2 ba bc Ho
      by_cases p1 : a'.kd = 1
      · by_cases p2 : c'.kd = 2
        · have E := Lib.hid (twoC_zero Hq1.out Hq2.out ⟨by rw [Hki.out]; exact p1, by rw [Hkc.out]; exact p2⟩)
          have q1 : (a'.kd != 1) = false := by simpa using p1
          have q2 : (c'.kd != 2) = false := by simpa using p2
          go_enter Tryz.func71, Tryz.ntmps71
          go_upto_region 1 with fail
          rw [← HW.out]
          refine wp_region_quiet_below (by kernel_rfl) (by kernel_rfl) ?_
          repeat ((with_reducible refine wpQuiet_step (fun K hK => ?_)); go_simp; first | ((with_reducible refine hK _ ?_); clear hK K) | (apply Exists.intro; refine ⟨fun _ => ?_, hK _ ?_⟩; ((first | (go_at_call 97; first | with_reducible exact qb_below (Hi1.out _ _) | with_reducible exact qb_below (Hi2.out _ _)))); clear hK K))
          refine wpQuiet_nil ?_
          intro _ hw'
          obtain ⟨⟨dq, osq⟩, hw''⟩ := hw'
          subst hw''
          have hbq := below_regrown W dq osq
          generalize grow (redrawn W dq) osq = wq at hbq ⊢
          have hb := Hb0.out.trans (hbq.mono Hb0.out.size)
          have x0 := (HX.out.on hbq).cell 0 _ rfl
          have x1 := (HX.out.on hbq).cell 1 _ rfl
          have x2 := (HX.out.on hbq).cell 2 _ rfl
          have x3 := (HX.out.on hbq).cell 3 _ rfl
          have y0 := (HY.out.on hbq).cell 0 _ rfl
          have y1 := (HY.out.on hbq).cell 1 _ rfl
          have y2 := (HY.out.on hbq).cell 2 _ rfl
          have y3 := (HY.out.on hbq).cell 3 _ rfl
          have hlx := (HX.out.on hbq).lt
          have hly := (HY.out.on hbq).lt
          have fx := (HX.out.on hbq).free
          have fy := (HY.out.on hbq).free
          have e0 := (hb.cell (p := ⟨b, off + k1 * 4, none⟩) hlt.2).trans c0
          have e1 := (hb.cell (p := ⟨b, off + k1 * 4 + 1, none⟩) hlt.2).trans c1
          have e2 := (hb.cell (p := ⟨b, off + k1 * 4 + 2, none⟩) hlt.2).trans c2
          have e3 := (hb.cell (p := ⟨b, off + k1 * 4 + 3, none⟩) hlt.2).trans c3
          have g0 := (hb.cell (p := ⟨b, off + k2 * 4, none⟩) hlt.2).trans d0
          have g1 := (hb.cell (p := ⟨b, off + k2 * 4 + 1, none⟩) hlt.2).trans d1
          have g2 := (hb.cell (p := ⟨b, off + k2 * 4 + 2, none⟩) hlt.2).trans d2
          have g3 := (hb.cell (p := ⟨b, off + k2 * 4 + 3, none⟩) hlt.2).trans d3
          have l0 := (HL.out.on hbq).cell 0 _ rfl
          have l1 := (HL.out.on hbq).cell 1 _ rfl
          have hlw : b < wq.heap.size := by have := hb.size; omega
          clear hbq f0 f1 c0 c1 c2 c3 d0 d1 d2 d3
          have hbx : b ≠ w.heap.size + 1 := by omega
          have hby : b ≠ w.heap.size + 1 + 1 := by omega
          go_wp2
          go_region
          go_wp2
          refine bodyPost_ret (v := .tuple #[vItem a', vItem c', .int .i64 0]) (by simp [results, Tryz.results71, go_sem, x0, x1, x2, x3, y0, y1, y2, y3, hlx, hly, fx, fy, p1, p2]) rfl ⟨?_, ((hb.run (g := w.heap.size + 1) (by omega) [_, _, _, _]).run (g := w.heap.size + 1 + 1) (by omega) [_, _, _, _]).drew1⟩
          rw [twoX_yes E.out, twoX_yes E.out, E.out, Hki.out, Hkc.out]
        · have E3 := Lib.hid (twoC_six Hq1.out Hq2.out (fun h => p2 (by have := h.2; rw [Hkc.out] at this; exact this)))
          have q1 : (a'.kd != 1) = false := by simpa using p1
          have q2 : (c'.kd != 2) = true := by simpa using p2
          go_enter Tryz.func71, Tryz.ntmps71
          go_upto_region 1 with fail
          rw [← HW.out]
          refine wp_region_quiet_below (by kernel_rfl) (by kernel_rfl) ?_
          repeat ((with_reducible refine wpQuiet_step (fun K hK => ?_)); go_simp; first | ((with_reducible refine hK _ ?_); clear hK K) | (apply Exists.intro; refine ⟨fun _ => ?_, hK _ ?_⟩; ((first | (go_at_call 97; first | with_reducible exact qb_below (Hi1.out _ _) | with_reducible exact qb_below (Hi2.out _ _)))); clear hK K))
          refine wpQuiet_nil ?_
          intro _ hw'
          obtain ⟨⟨dq, osq⟩, hw''⟩ := hw'
          subst hw''
          have hbq := below_regrown W dq osq
          generalize grow (redrawn W dq) osq = wq at hbq ⊢
          have hb := Hb0.out.trans (hbq.mono Hb0.out.size)
          have x0 := (HX.out.on hbq).cell 0 _ rfl
          have x1 := (HX.out.on hbq).cell 1 _ rfl
          have x2 := (HX.out.on hbq).cell 2 _ rfl
          have x3 := (HX.out.on hbq).cell 3 _ rfl
          have y0 := (HY.out.on hbq).cell 0 _ rfl
          have y1 := (HY.out.on hbq).cell 1 _ rfl
          have y2 := (HY.out.on hbq).cell 2 _ rfl
          have y3 := (HY.out.on hbq).cell 3 _ rfl
          have hlx := (HX.out.on hbq).lt
          have hly := (HY.out.on hbq).lt
          have fx := (HX.out.on hbq).free
          have fy := (HY.out.on hbq).free
          have e0 := (hb.cell (p := ⟨b, off + k1 * 4, none⟩) hlt.2).trans c0
          have e1 := (hb.cell (p := ⟨b, off + k1 * 4 + 1, none⟩) hlt.2).trans c1
          have e2 := (hb.cell (p := ⟨b, off + k1 * 4 + 2, none⟩) hlt.2).trans c2
          have e3 := (hb.cell (p := ⟨b, off + k1 * 4 + 3, none⟩) hlt.2).trans c3
          have g0 := (hb.cell (p := ⟨b, off + k2 * 4, none⟩) hlt.2).trans d0
          have g1 := (hb.cell (p := ⟨b, off + k2 * 4 + 1, none⟩) hlt.2).trans d1
          have g2 := (hb.cell (p := ⟨b, off + k2 * 4 + 2, none⟩) hlt.2).trans d2
          have g3 := (hb.cell (p := ⟨b, off + k2 * 4 + 3, none⟩) hlt.2).trans d3
          have l0 := (HL.out.on hbq).cell 0 _ rfl
          have l1 := (HL.out.on hbq).cell 1 _ rfl
          have hlw : b < wq.heap.size := by have := hb.size; omega
          clear hbq f0 f1 c0 c1 c2 c3 d0 d1 d2 d3
          go_wp2
          refine bodyPost_ret (v := .tuple #[vItem zItem, vItem zItem, .int .i64 6]) (by simp [results, Tryz.results71, go_sem, x0, x1, x2, x3, y0, y1, y2, y3, hlx, hly, fx, fy, zItem]) rfl ⟨?_, (hb.run (g := w.heap.size + 1) (by omega) [_, _, _, _]).run (g := w.heap.size + 1 + 1) (by omega) [_, _, _, _]⟩
          rw [twoX_no (by rw [E3.out]; decide), twoX_no (by rw [E3.out]; decide), E3.out]
      · have E3 := Lib.hid (twoC_six Hq1.out Hq2.out (fun h => p1 (by have := h.1; rw [Hki.out] at this; exact this)))
        have q1 : (a'.kd != 1) = true := by simpa using p1
        go_enter Tryz.func71, Tryz.ntmps71
        go_upto_region 1 with fail
        rw [← HW.out]
        refine wp_region_quiet_below (by kernel_rfl) (by kernel_rfl) ?_
        repeat ((with_reducible refine wpQuiet_step (fun K hK => ?_)); go_simp; first | ((with_reducible refine hK _ ?_); clear hK K) | (apply Exists.intro; refine ⟨fun _ => ?_, hK _ ?_⟩; ((first | (go_at_call 97; first | with_reducible exact qb_below (Hi1.out _ _) | with_reducible exact qb_below (Hi2.out _ _)))); clear hK K))
        refine wpQuiet_nil ?_
        intro _ hw'
        obtain ⟨⟨dq, osq⟩, hw''⟩ := hw'
        subst hw''
        have hbq := below_regrown W dq osq
        generalize grow (redrawn W dq) osq = wq at hbq ⊢
        have hb := Hb0.out.trans (hbq.mono Hb0.out.size)
        have x0 := (HX.out.on hbq).cell 0 _ rfl
        have x1 := (HX.out.on hbq).cell 1 _ rfl
        have x2 := (HX.out.on hbq).cell 2 _ rfl
        have x3 := (HX.out.on hbq).cell 3 _ rfl
        have y0 := (HY.out.on hbq).cell 0 _ rfl
        have y1 := (HY.out.on hbq).cell 1 _ rfl
        have y2 := (HY.out.on hbq).cell 2 _ rfl
        have y3 := (HY.out.on hbq).cell 3 _ rfl
        have hlx := (HX.out.on hbq).lt
        have hly := (HY.out.on hbq).lt
        have fx := (HX.out.on hbq).free
        have fy := (HY.out.on hbq).free
        have e0 := (hb.cell (p := ⟨b, off + k1 * 4, none⟩) hlt.2).trans c0
        have e1 := (hb.cell (p := ⟨b, off + k1 * 4 + 1, none⟩) hlt.2).trans c1
        have e2 := (hb.cell (p := ⟨b, off + k1 * 4 + 2, none⟩) hlt.2).trans c2
        have e3 := (hb.cell (p := ⟨b, off + k1 * 4 + 3, none⟩) hlt.2).trans c3
        have g0 := (hb.cell (p := ⟨b, off + k2 * 4, none⟩) hlt.2).trans d0
        have g1 := (hb.cell (p := ⟨b, off + k2 * 4 + 1, none⟩) hlt.2).trans d1
        have g2 := (hb.cell (p := ⟨b, off + k2 * 4 + 2, none⟩) hlt.2).trans d2
        have g3 := (hb.cell (p := ⟨b, off + k2 * 4 + 3, none⟩) hlt.2).trans d3
        have l0 := (HL.out.on hbq).cell 0 _ rfl
        have l1 := (HL.out.on hbq).cell 1 _ rfl
        have hlw : b < wq.heap.size := by have := hb.size; omega
        clear hbq f0 f1 c0 c1 c2 c3 d0 d1 d2 d3
        go_wp2
        refine bodyPost_ret (v := .tuple #[vItem zItem, vItem zItem, .int .i64 6]) (by simp [results, Tryz.results71, go_sem, x0, x1, x2, x3, y0, y1, y2, y3, hlx, hly, fx, fy, zItem]) rfl ⟨?_, (hb.run (g := w.heap.size + 1) (by omega) [_, _, _, _]).run (g := w.heap.size + 1 + 1) (by omega) [_, _, _, _]⟩
        rw [twoX_no (by rw [E3.out]; decide), twoX_no (by rw [E3.out]; decide), E3.out]
end Go.Proofs.YtfieilbcdhbigaaGreatDoor
