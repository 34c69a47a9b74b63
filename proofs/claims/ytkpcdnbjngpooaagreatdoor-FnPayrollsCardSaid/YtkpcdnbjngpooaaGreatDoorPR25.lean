/- The items of cards of hours with their codes: the program's, each by its contract. The items of cards of hours, with their code: the program's by its contract. No condition. -/
import Derived.Test.YtkpcdnbjngpooaaGreatDoorPR24
import Derived.BigRegion
namespace Go.Proofs.YtkpcdnbjngpooaaGreatDoor
open Go.ChangeShapes Go.WideShapes Go.ChangeAt Go.RowKit Go.Sort
set_option linter.unusedVariables false
set_option maxRecDepth 100000
def twoC (xs : List ItemT) (n1 n2 : ByteArray) : Int := if ¬ idxI xs n1 < 0 ∧ ¬ idxI xs n2 < 0 then (if (itAt xs n1).kd = 1 ∧ (itAt xs n2).kd = 2 then 0 else 6) else 3
def twoX (xs : List ItemT) (n1 n2 nm : ByteArray) : ItemT := if twoC xs n1 n2 = 0 then itAt xs nm else zItem
theorem twoC_three {xs : List ItemT} {n1 n2 : ByteArray} (h : idxI xs n1 < 0 ∨ idxI xs n2 < 0) : twoC xs n1 n2 = 3 := by
  unfold twoC; rw [if_neg (fun e => h.elim e.1 e.2)]
theorem twoC_six {xs : List ItemT} {n1 n2 : ByteArray} (h1 : ¬ idxI xs n1 < 0) (h2 : ¬ idxI xs n2 < 0) (h : ¬ ((itAt xs n1).kd = 1 ∧ (itAt xs n2).kd = 2)) : twoC xs n1 n2 = 6 := by
  unfold twoC; rw [if_pos ⟨h1, h2⟩, if_neg h]
theorem twoC_zero {xs : List ItemT} {n1 n2 : ByteArray} (h1 : ¬ idxI xs n1 < 0) (h2 : ¬ idxI xs n2 < 0) (h : (itAt xs n1).kd = 1 ∧ (itAt xs n2).kd = 2) : twoC xs n1 n2 = 0 := by
  unfold twoC; rw [if_pos ⟨h1, h2⟩, if_pos h]
theorem twoX_no {xs : List ItemT} {n1 n2 nm : ByteArray} (h : twoC xs n1 n2 ≠ 0) : twoX xs n1 n2 nm = zItem := if_neg h
theorem twoX_yes {xs : List ItemT} {n1 n2 nm : ByteArray} (h : twoC xs n1 n2 = 0) : twoX xs n1 n2 nm = itAt xs nm := if_pos h
set_option maxHeartbeats 2000000 in
theorem twoItems_c {xs : List ItemT} {v : Value} {w : World} {A : Nat} (wd : Int) (n1 n2 : ByteArray) (ha : RdItemS A w v xs) :
    Calls Tryz.prog 52 #[.agg #[.int .i64 wd, v], .string n1, .string n2] w fun e w' => e = .returned (.tuple #[vItem (twoX xs n1 n2 n1), vItem (twoX xs n1 n2 n2), .int .i64 (twoC xs n1 n2)]) ∧ Below w.heap.size w w' := by
  have hle := ha.le
  obtain ⟨ao, cap, rfl, ho⟩ := eItem_open ha
  obtain ⟨n, hn⟩ : ∃ n, n = xs.length := ⟨_, rfl⟩
  rw [← hn] at ha ho hle ⊢
  have Hn := Lib.hid hn
  clear hn
  obtain ⟨W, hW⟩ : ∃ W, W = ((w.alloc (.cells #[.int .i64 wd, .slice ao n cap] 27)).alloc (.cells #[.string ⟨#[]⟩, .int .i64 0, .int .i64 0, .int .i64 0] 55)).alloc (.cells #[.string ⟨#[]⟩, .int .i64 0, .int .i64 0, .int .i64 0] 55) := ⟨_, rfl⟩
  have h3 : Box W w.heap.size [.int .i64 wd, .slice ao n cap] ∧ Box W (w.heap.size + 1) [.string ⟨#[]⟩, .int .i64 0, .int .i64 0, .int .i64 0] ∧ Box W (w.heap.size + 1 + 1) [.string ⟨#[]⟩, .int .i64 0, .int .i64 0, .int .i64 0] ∧ Below w.heap.size w W := by
    rw [hW]; exact box3 w [.int .i64 wd, .slice ao n cap] [.string ⟨#[]⟩, .int .i64 0, .int .i64 0, .int .i64 0] [.string ⟨#[]⟩, .int .i64 0, .int .i64 0, .int .i64 0] 27 55 55
  obtain ⟨hL, hX, hY, hb0⟩ := h3
  have Ha := Lib.hid (Rds.onn ha hb0)
  have Ho := Lib.hid ho
  have HW := Lib.hid hW
  have HL := Lib.hid hL
  have HX := Lib.hid hX
  have HY := Lib.hid hY
  have Hb0 := Lib.hid hb0
  have Hi1 := Lib.hid (fun q os => itemIndex_c wd n1 (Rds.regrown Ha.out (Nat.le_refl _) q os))
  have Hi2 := Lib.hid (fun q os => itemIndex_c wd n2 (Rds.regrown Ha.out (Nat.le_refl _) q os))
  have f0 := cell_regrown (HL.out.cell 0 _ rfl)
  have f1 := cell_regrown (HL.out.cell 1 _ rfl)
  clear hL hX hY hb0 hW ha ho
  by_cases h1 : idxI xs n1 < 0
  · have E3 := Lib.hid (twoC_three (n2 := n2) (.inl h1))
    go_enter Tryz.func52, Tryz.ntmps52
    go_upto_region 1 with fail
    rw [← HW.out]
    refine wp_region_quiet_below (by kernel_rfl) (by kernel_rfl) ?_
    repeat ((with_reducible refine wpQuiet_step (fun K hK => ?_)); go_simp; first | ((with_reducible refine hK _ ?_); clear hK K) | (apply Exists.intro; refine ⟨fun _ => ?_, hK _ ?_⟩; ((first | (go_at_call 84; first | with_reducible exact qb_below (Hi1.out _ _) | with_reducible exact qb_below (Hi2.out _ _)))); clear hK K))
    refine wpQuiet_nil ?_
    intro _ hw'
    obtain ⟨⟨dq, osq⟩, hw''⟩ := hw'
    subst hw''
    have hbq := below_regrown W dq osq
    generalize grow (redrawn W dq) osq = wq at hbq ⊢
    have hb := Hb0.out.trans (hbq.mono Hb0.out.size)
    have x0 := (HX.out.on hbq).cell 0 _ rfl
    have x1 := (HX.out.on hbq).cell 1 _ rfl
    have x2 := (HX.out.on hbq).cell 2 _ rfl
    have x3 := (HX.out.on hbq).cell 3 _ rfl
    have y0 := (HY.out.on hbq).cell 0 _ rfl
    have y1 := (HY.out.on hbq).cell 1 _ rfl
    have y2 := (HY.out.on hbq).cell 2 _ rfl
    have y3 := (HY.out.on hbq).cell 3 _ rfl
    have hlx := (HX.out.on hbq).lt
    have hly := (HY.out.on hbq).lt
    have fx := (HX.out.on hbq).free
    have fy := (HY.out.on hbq).free
    clear hbq f0 f1
    go_wp2
    refine bodyPost_ret (v := .tuple #[vItem zItem, vItem zItem, .int .i64 3]) (by simp [results, Tryz.results52, go_sem, x0, x1, x2, x3, y0, y1, y2, y3, zItem]) rfl ⟨?_, (hb.run (g := w.heap.size + 1) (by omega) [_, _, _, _]).run (g := w.heap.size + 1 + 1) (by omega) [_, _, _, _]⟩
    rw [twoX_no (by rw [E3.out]; decide), twoX_no (by rw [E3.out]; decide), E3.out]
  · obtain ⟨k1, a, hk1, hka⟩ := idx_at h1
    have hia := itAt_of hk1 hka
    by_cases h2 : idxI xs n2 < 0
    · have E3 := Lib.hid (twoC_three (n1 := n1) (.inr h2))
      have q1 : ¬ idxI xs n1 < 0 := h1
      go_enter Tryz.func52, Tryz.ntmps52
      go_upto_region 1 with fail
      rw [← HW.out]
      refine wp_region_quiet_below (by kernel_rfl) (by kernel_rfl) ?_
      repeat ((with_reducible refine wpQuiet_step (fun K hK => ?_)); go_simp; first | ((with_reducible refine hK _ ?_); clear hK K) | (apply Exists.intro; refine ⟨fun _ => ?_, hK _ ?_⟩; ((first | (go_at_call 84; first | with_reducible exact qb_below (Hi1.out _ _) | with_reducible exact qb_below (Hi2.out _ _)))); clear hK K))
      refine wpQuiet_nil ?_
      intro _ hw'
      obtain ⟨⟨dq, osq⟩, hw''⟩ := hw'
      subst hw''
      have hbq := below_regrown W dq osq
      generalize grow (redrawn W dq) osq = wq at hbq ⊢
      have hb := Hb0.out.trans (hbq.mono Hb0.out.size)
      have x0 := (HX.out.on hbq).cell 0 _ rfl
      have x1 := (HX.out.on hbq).cell 1 _ rfl
      have x2 := (HX.out.on hbq).cell 2 _ rfl
      have x3 := (HX.out.on hbq).cell 3 _ rfl
      have y0 := (HY.out.on hbq).cell 0 _ rfl
      have y1 := (HY.out.on hbq).cell 1 _ rfl
      have y2 := (HY.out.on hbq).cell 2 _ rfl
      have y3 := (HY.out.on hbq).cell 3 _ rfl
      have hlx := (HX.out.on hbq).lt
      have hly := (HY.out.on hbq).lt
      have fx := (HX.out.on hbq).free
      have fy := (HY.out.on hbq).free
      clear hbq f0 f1
      go_wp2
      refine bodyPost_ret (v := .tuple #[vItem zItem, vItem zItem, .int .i64 3]) (by simp [results, Tryz.results52, go_sem, x0, x1, x2, x3, y0, y1, y2, y3, zItem]) rfl ⟨?_, (hb.run (g := w.heap.size + 1) (by omega) [_, _, _, _]).run (g := w.heap.size + 1 + 1) (by omega) [_, _, _, _]⟩
      rw [twoX_no (by rw [E3.out]; decide), twoX_no (by rw [E3.out]; decide), E3.out]
    · obtain ⟨k2, c, hk2, hkc⟩ := idx_at h2
      have hic := itAt_of hk2 hkc
      obtain ⟨b, off, rfl, hlt, hc⟩ := Ho.out (by have := at_lt hka; have := Hn.out; omega)
      obtain ⟨a', ha', ⟨c0, c1, c2, c3⟩, ba⟩ := hc k1 (by have := at_lt hka; have := Hn.out; omega)
      obtain rfl : a' = a := by rw [hka] at ha'; exact (Option.some.inj ha').symm
      obtain ⟨c', hc', ⟨d0, d1, d2, d3⟩, bc⟩ := hc k2 (by have := at_lt hkc; have := Hn.out; omega)
      obtain rfl : c' = c := by rw [hkc] at hc'; exact (Option.some.inj hc').symm
      have hl1 : k1 < n := by have := at_lt hka; have := Hn.out; omega
      have hl2 : k2 < n := by have := at_lt hkc; have := Hn.out; omega
      have Hki := Lib.hid hia
      have Hkc := Lib.hid hic
      have Hq1 := Lib.hid h1
      have Hq2 := Lib.hid h2
      rw [hk1] at Hi1
      rw [hk2] at Hi2
      have hle1 : k1 < 9223372036854775807 := by omega
      have hle2 : k2 < 9223372036854775807 := by omega
      clear hc ha' hc' hka hkc hia hic h1 h2 hk1 hk2 ba bc Ho
      by_cases p1 : a'.kd = 1
      · by_cases p2 : c'.kd = 2
        · have E := Lib.hid (twoC_zero Hq1.out Hq2.out ⟨by rw [Hki.out]; exact p1, by rw [Hkc.out]; exact p2⟩)
          have q1 : (a'.kd != 1) = false := by simpa using p1
          have q2 : (c'.kd != 2) = false := by simpa using p2
          go_enter Tryz.func52, Tryz.ntmps52
          go_upto_region 1 with fail
          rw [← HW.out]
          refine wp_region_quiet_below (by kernel_rfl) (by kernel_rfl) ?_
          repeat ((with_reducible refine wpQuiet_step (fun K hK => ?_)); go_simp; first | ((with_reducible refine hK _ ?_); clear hK K) | (apply Exists.intro; refine ⟨fun _ => ?_, hK _ ?_⟩; ((first | (go_at_call 84; first | with_reducible exact qb_below (Hi1.out _ _) | with_reducible exact qb_below (Hi2.out _ _)))); clear hK K))
          refine wpQuiet_nil ?_
          intro _ hw'
          obtain ⟨⟨dq, osq⟩, hw''⟩ := hw'
          subst hw''
          have hbq := below_regrown W dq osq
          generalize grow (redrawn W dq) osq = wq at hbq ⊢
          have hb := Hb0.out.trans (hbq.mono Hb0.out.size)
          have x0 := (HX.out.on hbq).cell 0 _ rfl
          have x1 := (HX.out.on hbq).cell 1 _ rfl
          have x2 := (HX.out.on hbq).cell 2 _ rfl
          have x3 := (HX.out.on hbq).cell 3 _ rfl
          have y0 := (HY.out.on hbq).cell 0 _ rfl
          have y1 := (HY.out.on hbq).cell 1 _ rfl
          have y2 := (HY.out.on hbq).cell 2 _ rfl
          have y3 := (HY.out.on hbq).cell 3 _ rfl
          have hlx := (HX.out.on hbq).lt
          have hly := (HY.out.on hbq).lt
          have fx := (HX.out.on hbq).free
          have fy := (HY.out.on hbq).free
          have e0 := (hb.cell (p := ⟨b, off + k1 * 4, none⟩) hlt.2).trans c0
          have e1 := (hb.cell (p := ⟨b, off + k1 * 4 + 1, none⟩) hlt.2).trans c1
          have e2 := (hb.cell (p := ⟨b, off + k1 * 4 + 2, none⟩) hlt.2).trans c2
          have e3 := (hb.cell (p := ⟨b, off + k1 * 4 + 3, none⟩) hlt.2).trans c3
          have g0 := (hb.cell (p := ⟨b, off + k2 * 4, none⟩) hlt.2).trans d0
          have g1 := (hb.cell (p := ⟨b, off + k2 * 4 + 1, none⟩) hlt.2).trans d1
          have g2 := (hb.cell (p := ⟨b, off + k2 * 4 + 2, none⟩) hlt.2).trans d2
          have g3 := (hb.cell (p := ⟨b, off + k2 * 4 + 3, none⟩) hlt.2).trans d3
          have l0 := (HL.out.on hbq).cell 0 _ rfl
          have l1 := (HL.out.on hbq).cell 1 _ rfl
          have hlw : b < wq.heap.size := by have := hb.size; omega
          clear hbq f0 f1 c0 c1 c2 c3 d0 d1 d2 d3
          have hbx : b ≠ w.heap.size + 1 := by omega
          have hby : b ≠ w.heap.size + 1 + 1 := by omega
          go_wp2
          go_region
          go_wp2
          refine bodyPost_ret (v := .tuple #[vItem a', vItem c', .int .i64 0]) (by simp [results, Tryz.results52, go_sem, x0, x1, x2, x3, y0, y1, y2, y3, p1, p2]) rfl ⟨?_, ((hb.run (g := w.heap.size + 1) (by omega) [_, _, _, _]).run (g := w.heap.size + 1 + 1) (by omega) [_, _, _, _]).drew1⟩
          rw [twoX_yes E.out, twoX_yes E.out, E.out, Hki.out, Hkc.out]
        · have E3 := Lib.hid (twoC_six Hq1.out Hq2.out (fun h => p2 (by have := h.2; rw [Hkc.out] at this; exact this)))
          have q1 : (a'.kd != 1) = false := by simpa using p1
          have q2 : (c'.kd != 2) = true := by simpa using p2
          go_enter Tryz.func52, Tryz.ntmps52
          go_upto_region 1 with fail
          rw [← HW.out]
          refine wp_region_quiet_below (by kernel_rfl) (by kernel_rfl) ?_
          repeat ((with_reducible refine wpQuiet_step (fun K hK => ?_)); go_simp; first | ((with_reducible refine hK _ ?_); clear hK K) | (apply Exists.intro; refine ⟨fun _ => ?_, hK _ ?_⟩; ((first | (go_at_call 84; first | with_reducible exact qb_below (Hi1.out _ _) | with_reducible exact qb_below (Hi2.out _ _)))); clear hK K))
          refine wpQuiet_nil ?_
          intro _ hw'
          obtain ⟨⟨dq, osq⟩, hw''⟩ := hw'
          subst hw''
          have hbq := below_regrown W dq osq
          generalize grow (redrawn W dq) osq = wq at hbq ⊢
          have hb := Hb0.out.trans (hbq.mono Hb0.out.size)
          have x0 := (HX.out.on hbq).cell 0 _ rfl
          have x1 := (HX.out.on hbq).cell 1 _ rfl
          have x2 := (HX.out.on hbq).cell 2 _ rfl
          have x3 := (HX.out.on hbq).cell 3 _ rfl
          have y0 := (HY.out.on hbq).cell 0 _ rfl
          have y1 := (HY.out.on hbq).cell 1 _ rfl
          have y2 := (HY.out.on hbq).cell 2 _ rfl
          have y3 := (HY.out.on hbq).cell 3 _ rfl
          have hlx := (HX.out.on hbq).lt
          have hly := (HY.out.on hbq).lt
          have fx := (HX.out.on hbq).free
          have fy := (HY.out.on hbq).free
          have e0 := (hb.cell (p := ⟨b, off + k1 * 4, none⟩) hlt.2).trans c0
          have e1 := (hb.cell (p := ⟨b, off + k1 * 4 + 1, none⟩) hlt.2).trans c1
          have e2 := (hb.cell (p := ⟨b, off + k1 * 4 + 2, none⟩) hlt.2).trans c2
          have e3 := (hb.cell (p := ⟨b, off + k1 * 4 + 3, none⟩) hlt.2).trans c3
          have g0 := (hb.cell (p := ⟨b, off + k2 * 4, none⟩) hlt.2).trans d0
          have g1 := (hb.cell (p := ⟨b, off + k2 * 4 + 1, none⟩) hlt.2).trans d1
          have g2 := (hb.cell (p := ⟨b, off + k2 * 4 + 2, none⟩) hlt.2).trans d2
          have g3 := (hb.cell (p := ⟨b, off + k2 * 4 + 3, none⟩) hlt.2).trans d3
          have l0 := (HL.out.on hbq).cell 0 _ rfl
          have l1 := (HL.out.on hbq).cell 1 _ rfl
          have hlw : b < wq.heap.size := by have := hb.size; omega
          clear hbq f0 f1 c0 c1 c2 c3 d0 d1 d2 d3
          go_wp2
          refine bodyPost_ret (v := .tuple #[vItem zItem, vItem zItem, .int .i64 6]) (by simp [results, Tryz.results52, go_sem, x0, x1, x2, x3, y0, y1, y2, y3, zItem]) rfl ⟨?_, (hb.run (g := w.heap.size + 1) (by omega) [_, _, _, _]).run (g := w.heap.size + 1 + 1) (by omega) [_, _, _, _]⟩
          rw [twoX_no (by rw [E3.out]; decide), twoX_no (by rw [E3.out]; decide), E3.out]
      · have E3 := Lib.hid (twoC_six Hq1.out Hq2.out (fun h => p1 (by have := h.1; rw [Hki.out] at this; exact this)))
        have q1 : (a'.kd != 1) = true := by simpa using p1
        go_enter Tryz.func52, Tryz.ntmps52
        go_upto_region 1 with fail
        rw [← HW.out]
        refine wp_region_quiet_below (by kernel_rfl) (by kernel_rfl) ?_
        repeat ((with_reducible refine wpQuiet_step (fun K hK => ?_)); go_simp; first | ((with_reducible refine hK _ ?_); clear hK K) | (apply Exists.intro; refine ⟨fun _ => ?_, hK _ ?_⟩; ((first | (go_at_call 84; first | with_reducible exact qb_below (Hi1.out _ _) | with_reducible exact qb_below (Hi2.out _ _)))); clear hK K))
        refine wpQuiet_nil ?_
        intro _ hw'
        obtain ⟨⟨dq, osq⟩, hw''⟩ := hw'
        subst hw''
        have hbq := below_regrown W dq osq
        generalize grow (redrawn W dq) osq = wq at hbq ⊢
        have hb := Hb0.out.trans (hbq.mono Hb0.out.size)
        have x0 := (HX.out.on hbq).cell 0 _ rfl
        have x1 := (HX.out.on hbq).cell 1 _ rfl
        have x2 := (HX.out.on hbq).cell 2 _ rfl
        have x3 := (HX.out.on hbq).cell 3 _ rfl
        have y0 := (HY.out.on hbq).cell 0 _ rfl
        have y1 := (HY.out.on hbq).cell 1 _ rfl
        have y2 := (HY.out.on hbq).cell 2 _ rfl
        have y3 := (HY.out.on hbq).cell 3 _ rfl
        have hlx := (HX.out.on hbq).lt
        have hly := (HY.out.on hbq).lt
        have fx := (HX.out.on hbq).free
        have fy := (HY.out.on hbq).free
        have e0 := (hb.cell (p := ⟨b, off + k1 * 4, none⟩) hlt.2).trans c0
        have e1 := (hb.cell (p := ⟨b, off + k1 * 4 + 1, none⟩) hlt.2).trans c1
        have e2 := (hb.cell (p := ⟨b, off + k1 * 4 + 2, none⟩) hlt.2).trans c2
        have e3 := (hb.cell (p := ⟨b, off + k1 * 4 + 3, none⟩) hlt.2).trans c3
        have g0 := (hb.cell (p := ⟨b, off + k2 * 4, none⟩) hlt.2).trans d0
        have g1 := (hb.cell (p := ⟨b, off + k2 * 4 + 1, none⟩) hlt.2).trans d1
        have g2 := (hb.cell (p := ⟨b, off + k2 * 4 + 2, none⟩) hlt.2).trans d2
        have g3 := (hb.cell (p := ⟨b, off + k2 * 4 + 3, none⟩) hlt.2).trans d3
        have l0 := (HL.out.on hbq).cell 0 _ rfl
        have l1 := (HL.out.on hbq).cell 1 _ rfl
        have hlw : b < wq.heap.size := by have := hb.size; omega
        clear hbq f0 f1 c0 c1 c2 c3 d0 d1 d2 d3
        go_wp2
        refine bodyPost_ret (v := .tuple #[vItem zItem, vItem zItem, .int .i64 6]) (by simp [results, Tryz.results52, go_sem, x0, x1, x2, x3, y0, y1, y2, y3, zItem]) rfl ⟨?_, (hb.run (g := w.heap.size + 1) (by omega) [_, _, _, _]).run (g := w.heap.size + 1 + 1) (by omega) [_, _, _, _]⟩
        rw [twoX_no (by rw [E3.out]; decide), twoX_no (by rw [E3.out]; decide), E3.out]
end Go.Proofs.YtkpcdnbjngpooaaGreatDoor
namespace Go.Proofs.YtkpcdnbjngpooaaGreatDoor
open Go.ChangeShapes Go.WideShapes Go.ChangeAt Go.RowKit Go.Sort
set_option linter.unusedVariables false
set_option maxRecDepth 100000
def payX (ok : Bool) (w : Int) (xs : List ItemT) (d : List (List Int)) (nm : ByteArray) : ItemT := if payC ok w xs d = 0 then itAt xs nm else zItem
theorem pay_bad {ok : Bool} {w : Int} {xs : List ItemT} {d : List (List Int)} {c : Int} (h : layC (ok && deckB d) w xs d = c) (hc : c ≠ 0) : payC ok w xs d = c ∧ ∀ nm, payX ok w xs d nm = zItem := by
  have e : payC ok w xs d = c := by
    unfold layC at h
    unfold payC
    by_cases h1 : layB w xs = true ∧ (ok && deckB d) = true
    · rw [if_pos h1] at h
      have h2 := h1.2
      rw [Bool.and_eq_true] at h2
      rw [if_pos ⟨h1.1, h2.1, h2.2⟩]
      by_cases h3 : d.length = 0 ∨ ((d.headD []).length : Int) = w
      · rw [if_pos h3] at h; exact absurd h.symm hc
      · rw [if_neg h3] at h ⊢; exact h
    · rw [if_neg h1] at h
      rw [if_neg (fun h2 => h1 ⟨h2.1, by rw [h2.2.1, h2.2.2]; rfl⟩)]
      exact h
  exact ⟨e, fun nm => by unfold payX; rw [e, if_neg hc]⟩
theorem pay_good {ok : Bool} {w : Int} {xs : List ItemT} {d : List (List Int)} (h : layC (ok && deckB d) w xs d = 0) : payC ok w xs d = twoC xs whoT hrsT ∧ ∀ nm, payX ok w xs d nm = twoX xs whoT hrsT nm := by
  have e : payC ok w xs d = twoC xs whoT hrsT := by
    unfold layC at h
    unfold payC
    by_cases h1 : layB w xs = true ∧ (ok && deckB d) = true
    · rw [if_pos h1] at h
      have h2 := h1.2
      rw [Bool.and_eq_true] at h2
      rw [if_pos ⟨h1.1, h2.1, h2.2⟩]
      by_cases h3 : d.length = 0 ∨ ((d.headD []).length : Int) = w
      · rw [if_pos h3]; rfl
      · rw [if_neg h3] at h; cases h
    · rw [if_neg h1] at h; cases h
  exact ⟨e, fun nm => by unfold payX twoX; rw [e]⟩
set_option maxHeartbeats 2000000 in
theorem payItems_c {xs : List ItemT} {v u : Value} {w : World} {A B : Nat} {d : List (List Int)} (wd : Int) (ok : Bool) (ha : RdItemS A w v xs) (hd : RdInt64SS B w u d) :
    Calls Tryz.prog 21 #[.agg #[.int .i64 wd, v], u, .bool ok] w fun e w' => e = .returned (.tuple #[vItem (payX ok wd xs d whoT), vItem (payX ok wd xs d hrsT), .int .i64 (payC ok wd xs d)]) ∧ Below w.heap.size w w' := by
  obtain ⟨ao, cap, rfl⟩ := ha.shape
  obtain ⟨dao, dcap, rfl⟩ := hd.shape
  obtain ⟨n, hn⟩ : ∃ n, n = xs.length := ⟨_, rfl⟩
  obtain ⟨m, hm⟩ : ∃ m, m = d.length := ⟨_, rfl⟩
  rw [← hn] at ha ⊢
  rw [← hm] at hd ⊢
  clear hn hm
  obtain ⟨W, hW⟩ : ∃ W, W = ((w.alloc (.cells #[.int .i64 wd, .slice ao n cap] 27)).alloc (.cells #[.string ⟨#[]⟩, .int .i64 0, .int .i64 0, .int .i64 0] 55)).alloc (.cells #[.string ⟨#[]⟩, .int .i64 0, .int .i64 0, .int .i64 0] 55) := ⟨_, rfl⟩
  have h3 : Box W w.heap.size [.int .i64 wd, .slice ao n cap] ∧ Box W (w.heap.size + 1) [.string ⟨#[]⟩, .int .i64 0, .int .i64 0, .int .i64 0] ∧ Box W (w.heap.size + 1 + 1) [.string ⟨#[]⟩, .int .i64 0, .int .i64 0, .int .i64 0] ∧ Below w.heap.size w W := by
    rw [hW]; exact box3 w [.int .i64 wd, .slice ao n cap] [.string ⟨#[]⟩, .int .i64 0, .int .i64 0, .int .i64 0] [.string ⟨#[]⟩, .int .i64 0, .int .i64 0, .int .i64 0] 27 55 55
  obtain ⟨hL, hX, hY, hb0⟩ := h3
  have Ha := Lib.hid (Rds.onn ha hb0)
  have Hd := Lib.hid (RdInt64SS.onn hd hb0)
  have HW := Lib.hid hW
  have HL := Lib.hid hL
  have HX := Lib.hid hX
  have HY := Lib.hid hY
  have Hb0 := Lib.hid hb0
  have Hi1 := Lib.hid (fun q os => layoutCode_c wd (ok && deckB d) (Rds.regrown Ha.out (Nat.le_refl _) q os) (Hd.out.below (below_regrown W q os) (Nat.le_refl _)))
  have Hi2 := Lib.hid (fun q os => ValidDeck_c (Hd.out.below (below_regrown W q os) (Nat.le_refl _)))
  have f0 := cell_regrown (HL.out.cell 0 _ rfl)
  have f1 := cell_regrown (HL.out.cell 1 _ rfl)
  clear hL hX hY hb0 hW ha hd
  obtain ⟨c, hc⟩ : ∃ c, layC (ok && deckB d) wd xs d = c := ⟨_, rfl⟩
  rw [hc] at Hi1
  have Hc := Lib.hid hc
  clear hc
  cases hok : ok with
  | false =>
    subst hok
    simp only [Bool.false_and] at Hi1
    go_enter Tryz.func21, Tryz.ntmps21
    go_upto_region 1 with fail
    rw [← HW.out]
    refine wp_region_quiet_below (by kernel_rfl) (by kernel_rfl) ?_
    repeat ((with_reducible refine wpQuiet_step (fun K hK => ?_)); go_simp; first | ((with_reducible refine hK _ ?_); clear hK K) | (apply Exists.intro; refine ⟨fun _ => ?_, hK _ ?_⟩; ((first | (go_at_call 50; with_reducible exact qb_below (Hi1.out _ _)) | (go_at_call 51; with_reducible exact qb_below (Hi2.out _ _)))); clear hK K))
    refine wpQuiet_nil ?_
    intro _ hw'
    obtain ⟨⟨dq, osq⟩, hw''⟩ := hw'
    subst hw''
    have hbq := below_regrown W dq osq
    generalize grow (redrawn W dq) osq = wq at hbq ⊢
    by_cases hc0 : c = 0
    · subst hc0
      have e := pay_good Hc.out
      have E := Lib.hid e
      have Haq := Lib.hid (Rds.onn Ha.out hbq)
      have l0 := (HL.out.on hbq).cell 0 _ rfl
      have l1 := (HL.out.on hbq).cell 1 _ rfl
      have HXq := Lib.hid (HX.out.on hbq)
      have HYq := Lib.hid (HY.out.on hbq)
      have Hb := Lib.hid (Hb0.out.trans (hbq.mono Hb0.out.size))
      clear hbq f0 f1 e
      go_wp2_with fail
      with_reducible refine (twoItems_c wd whoT hrsT Haq.out).mono ?_
      obtain ⟨a, Hia⟩ : ∃ a, Hid (twoX xs whoT hrsT whoT = a) := ⟨_, Lib.hid rfl⟩
      obtain ⟨b, Hib⟩ : ∃ b, Hid (twoX xs whoT hrsT hrsT = b) := ⟨_, Lib.hid rfl⟩
      rw [Hia.out, Hib.out]
      rintro e w2 ⟨rfl, hbq⟩
      have hb := Hb.out.trans (hbq.mono Hb.out.size)
      have x0 := (HXq.out.on hbq).cell 0 _ rfl
      have x1 := (HXq.out.on hbq).cell 1 _ rfl
      have x2 := (HXq.out.on hbq).cell 2 _ rfl
      have x3 := (HXq.out.on hbq).cell 3 _ rfl
      have y0 := (HYq.out.on hbq).cell 0 _ rfl
      have y1 := (HYq.out.on hbq).cell 1 _ rfl
      have y2 := (HYq.out.on hbq).cell 2 _ rfl
      have y3 := (HYq.out.on hbq).cell 3 _ rfl
      have hlx := (HXq.out.on hbq).lt
      have hly := (HYq.out.on hbq).lt
      have fx := (HXq.out.on hbq).free
      have fy := (HYq.out.on hbq).free
      clear hbq l0 l1
      go_wp2
      refine bodyPost_ret (v := .tuple #[vItem a, vItem b, .int .i64 (twoC xs whoT hrsT)]) (by simp [results, Tryz.results21, go_sem, x0, x1, x2, x3, y0, y1, y2, y3]) rfl ⟨?_, (hb.run (g := w.heap.size + 1) (by omega) [_, _, _, _]).run (g := w.heap.size + 1 + 1) (by omega) [_, _, _, _]⟩
      rw [E.out.1, E.out.2, E.out.2, Hia.out, Hib.out]
    · have e := pay_bad Hc.out hc0
      have E := Lib.hid e
      have q1 : (c != 0) = true := by simpa using hc0
      have hb := Hb0.out.trans (hbq.mono Hb0.out.size)
      have x0 := (HX.out.on hbq).cell 0 _ rfl
      have x1 := (HX.out.on hbq).cell 1 _ rfl
      have x2 := (HX.out.on hbq).cell 2 _ rfl
      have x3 := (HX.out.on hbq).cell 3 _ rfl
      have y0 := (HY.out.on hbq).cell 0 _ rfl
      have y1 := (HY.out.on hbq).cell 1 _ rfl
      have y2 := (HY.out.on hbq).cell 2 _ rfl
      have y3 := (HY.out.on hbq).cell 3 _ rfl
      have hlx := (HX.out.on hbq).lt
      have hly := (HY.out.on hbq).lt
      have fx := (HX.out.on hbq).free
      have fy := (HY.out.on hbq).free
      clear hbq f0 f1 e
      go_wp2
      refine bodyPost_ret (v := .tuple #[vItem zItem, vItem zItem, .int .i64 c]) (by simp [results, Tryz.results21, go_sem, x0, x1, x2, x3, y0, y1, y2, y3, zItem]) rfl ⟨?_, (hb.run (g := w.heap.size + 1) (by omega) [_, _, _, _]).run (g := w.heap.size + 1 + 1) (by omega) [_, _, _, _]⟩
      rw [E.out.1, E.out.2, E.out.2]
  | true =>
    subst hok
    simp only [Bool.true_and] at Hi1
    go_enter Tryz.func21, Tryz.ntmps21
    go_upto_region 1 with fail
    rw [← HW.out]
    refine wp_region_quiet_below (by kernel_rfl) (by kernel_rfl) ?_
    repeat ((with_reducible refine wpQuiet_step (fun K hK => ?_)); go_simp; first | ((with_reducible refine hK _ ?_); clear hK K) | (apply Exists.intro; refine ⟨fun _ => ?_, hK _ ?_⟩; ((first | (go_at_call 50; with_reducible exact qb_below (Hi1.out _ _)) | (go_at_call 51; with_reducible exact qb_below (Hi2.out _ _)))); clear hK K))
    refine wpQuiet_nil ?_
    intro _ hw'
    obtain ⟨⟨dq, osq⟩, hw''⟩ := hw'
    subst hw''
    have hbq := below_regrown W dq osq
    generalize grow (redrawn W dq) osq = wq at hbq ⊢
    by_cases hc0 : c = 0
    · subst hc0
      have e := pay_good Hc.out
      have E := Lib.hid e
      have Haq := Lib.hid (Rds.onn Ha.out hbq)
      have l0 := (HL.out.on hbq).cell 0 _ rfl
      have l1 := (HL.out.on hbq).cell 1 _ rfl
      have HXq := Lib.hid (HX.out.on hbq)
      have HYq := Lib.hid (HY.out.on hbq)
      have Hb := Lib.hid (Hb0.out.trans (hbq.mono Hb0.out.size))
      clear hbq f0 f1 e
      go_wp2_with fail
      with_reducible refine (twoItems_c wd whoT hrsT Haq.out).mono ?_
      obtain ⟨a, Hia⟩ : ∃ a, Hid (twoX xs whoT hrsT whoT = a) := ⟨_, Lib.hid rfl⟩
      obtain ⟨b, Hib⟩ : ∃ b, Hid (twoX xs whoT hrsT hrsT = b) := ⟨_, Lib.hid rfl⟩
      rw [Hia.out, Hib.out]
      rintro e w2 ⟨rfl, hbq⟩
      have hb := Hb.out.trans (hbq.mono Hb.out.size)
      have x0 := (HXq.out.on hbq).cell 0 _ rfl
      have x1 := (HXq.out.on hbq).cell 1 _ rfl
      have x2 := (HXq.out.on hbq).cell 2 _ rfl
      have x3 := (HXq.out.on hbq).cell 3 _ rfl
      have y0 := (HYq.out.on hbq).cell 0 _ rfl
      have y1 := (HYq.out.on hbq).cell 1 _ rfl
      have y2 := (HYq.out.on hbq).cell 2 _ rfl
      have y3 := (HYq.out.on hbq).cell 3 _ rfl
      have hlx := (HXq.out.on hbq).lt
      have hly := (HYq.out.on hbq).lt
      have fx := (HXq.out.on hbq).free
      have fy := (HYq.out.on hbq).free
      clear hbq l0 l1
      go_wp2
      refine bodyPost_ret (v := .tuple #[vItem a, vItem b, .int .i64 (twoC xs whoT hrsT)]) (by simp [results, Tryz.results21, go_sem, x0, x1, x2, x3, y0, y1, y2, y3]) rfl ⟨?_, (hb.run (g := w.heap.size + 1) (by omega) [_, _, _, _]).run (g := w.heap.size + 1 + 1) (by omega) [_, _, _, _]⟩
      rw [E.out.1, E.out.2, E.out.2, Hia.out, Hib.out]
    · have e := pay_bad Hc.out hc0
      have E := Lib.hid e
      have q1 : (c != 0) = true := by simpa using hc0
      have hb := Hb0.out.trans (hbq.mono Hb0.out.size)
      have x0 := (HX.out.on hbq).cell 0 _ rfl
      have x1 := (HX.out.on hbq).cell 1 _ rfl
      have x2 := (HX.out.on hbq).cell 2 _ rfl
      have x3 := (HX.out.on hbq).cell 3 _ rfl
      have y0 := (HY.out.on hbq).cell 0 _ rfl
      have y1 := (HY.out.on hbq).cell 1 _ rfl
      have y2 := (HY.out.on hbq).cell 2 _ rfl
      have y3 := (HY.out.on hbq).cell 3 _ rfl
      have hlx := (HX.out.on hbq).lt
      have hly := (HY.out.on hbq).lt
      have fx := (HX.out.on hbq).free
      have fy := (HY.out.on hbq).free
      clear hbq f0 f1 e
      go_wp2
      refine bodyPost_ret (v := .tuple #[vItem zItem, vItem zItem, .int .i64 c]) (by simp [results, Tryz.results21, go_sem, x0, x1, x2, x3, y0, y1, y2, y3, zItem]) rfl ⟨?_, (hb.run (g := w.heap.size + 1) (by omega) [_, _, _, _]).run (g := w.heap.size + 1 + 1) (by omega) [_, _, _, _]⟩
      rw [E.out.1, E.out.2, E.out.2]
end Go.Proofs.YtkpcdnbjngpooaaGreatDoor
