/- Pays: the drawing of one pay. Printed by gpayd4.py. No condition. -/
import Derived.Test.YtfhlmkeklmaedaaDoorPayD2
import Derived.Test.YtfhlmkeklmaedaaDoorSum
import Derived.Test.YtfhlmkeklmaedaaDoorGross
namespace Go.Proofs.YtfhlmkeklmaedaaDoor
open Go.ChangeShapes Go.WideShapes Go.ChangeAt Go.RowKit
set_option linter.unusedVariables false
set_option maxRecDepth 100000
theorem wrap64I (n : Int) : I64 (wrap64 n) := by unfold I64 wrap64; omega
def FinP (w W : World) (b N : Nat) : Prop := Src W b N ∧ w.grownBy W (some b)
theorem FinP.set {w W : World} {b N R j : Nat} {v : Value} (h : FinP w W b N) (hb : b < w.heap.size) (hR : w.heap.size ≤ R) : FinP w (W.setCell ⟨R, j, none⟩ v) b N := by
  have hg := grown_setP W ⟨R, j, none⟩ v
  exact ⟨h.1.kept hg (fun k hk => by have := Option.some.inj hk; simp at this; omega), grown_own h.2 hg (fun k hk => by have := Option.some.inj hk; simp at this; omega)⟩
theorem FinP.more {w W : World} {b N M : Nat} (h : FinP w W b N) (hm : N ≤ M) : Src W b M ∧ w.grownBy W (some b) := ⟨h.1.mono hm, h.2⟩
structure PInv (w W : World) (b N R D : Nat) (p : PayT) : Prop where
  src : Src W b N
  gr : w.grownBy W (some b)
  hR : Box W R [.int .i64 0, .int .i64 0, .int .i64 0, .int .i64 0]
  hD : Box W D [.int .i64 p.hours, .int .i64 p.gross, .int .i64 p.tax, .int .i64 p.net]
  bR : w.heap.size ≤ R
  bD : w.heap.size ≤ D
  bb : b < w.heap.size
  ne : R ≠ D
  ok : I64 p.hours ∧ I64 p.gross ∧ I64 p.tax ∧ I64 p.net
theorem PInv.fin {w W : World} {b N R D : Nat} {p : PayT} (h : PInv w W b N R D p) : FinP w W b N := ⟨h.src, h.gr⟩
theorem PInv.kept {w W W' : World} {b N M R D : Nat} {p : PayT} (h : PInv w W b N R D p) (hs : Src W' b M) (hg : W.grownBy W' (some b)) : PInv w W' b M R D p := by
  have h1 := h.bR
  have h2 := h.bD
  have h3 := h.bb
  exact ⟨hs, grownBy_trans h.gr hg, h.hR.keptB hg (fun e => by have := Option.some.inj e; omega), h.hD.keptB hg (fun e => by have := Option.some.inj e; omega), h.bR, h.bD, h.bb, h.ne, h.ok⟩
theorem PInv.put {w W : World} {b N R D j : Nat} {p p' : PayT} {v : Value} (h : PInv w W b N R D p) (hj : j < 4) (hc : [Value.int .i64 p.hours, .int .i64 p.gross, .int .i64 p.tax, .int .i64 p.net].set j v = [.int .i64 p'.hours, .int .i64 p'.gross, .int .i64 p'.tax, .int .i64 p'.net])
    (ok : I64 p'.hours ∧ I64 p'.gross ∧ I64 p'.tax ∧ I64 p'.net) : PInv w (W.setCell ⟨D, j, none⟩ v) b N R D p' := by
  have hf := h.fin.set (j := j) (v := v) h.bb h.bD
  have hb := h.hD.set1 (j := j) hj v
  rw [hc] at hb
  exact ⟨hf.1, hf.2, h.hR.keptB (grown_setP W ⟨D, j, none⟩ v) (fun e => h.ne (Option.some.inj e).symm), hb, h.bR, h.bD, h.bb, h.ne, ok⟩
set_option maxHeartbeats 2000000 in
theorem l23DrawPay_any {w : World} {b N : Nat} (hs : Src w b N) (hN : N ≤ 100000) :
    Calls Tryd.prog 48 #[.pointer (some ⟨b, 0, none⟩)] w fun e w' => (∃ p : PayT, e = .returned (vPay p) ∧ okPay p) ∧ Src w' b (N + 20) ∧ w.grownBy w' (some b) := by
  have hbl := hs.lt
  go_enter Tryd.func48, Tryd.ntmps48
  go_wp2_with fail
  refine (pick_any 60 (hs.alloc _) (by omega) (by omega)).mono ?_
  rintro e w1 ⟨⟨h, rfl, hh0, hh1, _⟩, hs1, hg1, -⟩
  have hh2 := hh1 (by omega)
  have hR1 := (Box.new w [.int .i64 0, .int .i64 0, .int .i64 0, .int .i64 0] 31).keptB hg1 (fun e => by have := Option.some.inj e; omega)
  have hga := grownBy_trans (World.grownBy_alloc w _ (some b)) hg1
  clear hh1 hg1 hs
  go_wp2_with fail
  refine (pick_any 60000 hs1 (by omega) (by omega)).mono ?_
  rintro e w2 ⟨⟨g, rfl, hg0, hg1, _⟩, hs2, hg2, -⟩
  have hgb := hg1 (by omega)
  have hR2 := hR1.keptB hg2 (fun e => by have := Option.some.inj e; omega)
  have hgc := grownBy_trans hga hg2
  have hsz2 : w.heap.size < w2.heap.size := hR2.lt
  obtain ⟨W, hW⟩ : ∃ W, W = w2.alloc (.cells #[.int .i64 h, .int .i64 g, .int .i64 0, .int .i64 0] 31) := ⟨_, rfl⟩
  have P0 : PInv w W b (N + 4) w.heap.size w2.heap.size ⟨h, g, 0, 0⟩ := by
    rw [hW]
    exact ⟨hs2.alloc _, grownBy_trans hgc (World.grownBy_alloc _ _ _), hR2.alloc _, Box.new w2 [.int .i64 h, .int .i64 g, .int .i64 0, .int .i64 0] _, Nat.le_refl _, by omega, hbl, by omega, by unfold I64; simp only; omega⟩
  clear hs1 hs2 hg1 hg2 hR1 hR2 hga hgc
  have HW := Lib.hid hW
  clear hW
  go_upto_region 2 with fail
  rw [← HW.out]
  clear HW
  generalize w2.heap.size = D at P0 ⊢
  generalize hRR : w.heap.size = R at P0 ⊢
  go_cut [] (fun wx => ∃ t, I64 t ∧ PInv w wx b (N + 6) R D ⟨h, g, t, 0⟩)
  case first =>
    have d1 := P0.hD.cell 1 _ rfl
    have d2 := P0.hD.cell 2 _ rfl
    have f2 := P0.hD.free 2
    go_region_law (go_simp; go_at_call 36; with_reducible refine (pick_any 40 P0.src.drew (by omega) (by omega)).mono ?_; rintro e w4 ⟨⟨r, rfl, hr0, hr1, _⟩, hs4, hg4, -⟩; have P4 := P0.kept hs4 (grownBy_trans (grownBy_drew _ _) hg4); have hr2 := hr1 (by omega); have hm := mul_bd g r 60000 40 hg0 (by omega) hr0 (by omega); have d1' := P4.hD.cell 1 _ rfl; have d2' := P4.hD.cell 2 _ rfl; have f2' := P4.hD.free 2; clear hr1 hs4 hg4)
    all_goals
      go_wp2_with fail
      go_meet
      exact ⟨IntKind.i64.wrap ((IntKind.i64.wrap (g * r)).tdiv 100), wrapI _, PInv.put (p' := ⟨h, g, IntKind.i64.wrap ((IntKind.i64.wrap (g * r)).tdiv 100), 0⟩) P4 (by decide) rfl ⟨P4.ok.1, P4.ok.2.1, wrapI _, P4.ok.2.2.2⟩⟩
  case rest =>
    obtain ⟨t, ht, P⟩ := hcut
    clear P0
    have d1 := P.hD.cell 1 _ rfl
    have d2 := P.hD.cell 2 _ rfl
    have d3 := P.hD.cell 3 _ rfl
    have f3 := P.hD.free 3
    have hR0 := P.bR
    have hD0 := P.bD
    have hne := P.ne
    have hne' := P.ne.symm
    go_wp2_with fail
    with_reducible refine (pick_any 16 (PInv.put P (j := 3) (p' := ⟨h, g, t, wrap64 (g - t)⟩) (by decide) ?hc ?hok).src (by omega) (by omega)).mono ?_
    case hc => rfl
    case hok => exact ⟨P.ok.1, P.ok.2.1, P.ok.2.2.1, wrap64I _⟩
    rintro e w5 ⟨⟨q, rfl, hq0, hq1, _⟩, hs5, hg5, -⟩
    have P5 := (PInv.put P (j := 3) (p' := ⟨h, g, t, wrap64 (g - t)⟩) (by decide) rfl ⟨P.ok.1, P.ok.2.1, P.ok.2.2.1, wrap64I _⟩).kept hs5 hg5
    clear d1 d2 d3 f3 P hs5 hg5 hq1
    generalize wrap64 (g - t) = n at P5 ⊢
    have ok5 := P5.ok
    simp only at ok5
    by_cases q0 : q = 0
    · subst q0
      go_wp2_with fail
      with_reducible refine Calls.mono (amongL [-1, 100000000, 100000001] P5.src (by omega) ?hcs ?hn (by decide) (by decide)) ?_
      case hcs => rfl
      case hn => rfl
      rintro e w7 ⟨⟨s7, rfl, hss7⟩, hs7, hg7⟩
      have P7 := P5.kept hs7 hg7
      have Ok7 : Hid (I64 s7) := Lib.hid (by unfold I64; simp at hss7; omega)
      have Hfin := Lib.hid P7.fin
      have d0 := P7.hD.cell 0 _ rfl
      have d1 := P7.hD.cell 1 _ rfl
      have d2 := P7.hD.cell 2 _ rfl
      have d3 := P7.hD.cell 3 _ rfl
      have f0 := P7.hD.free 0
      have f1 := P7.hD.free 1
      have f2 := P7.hD.free 2
      have f3 := P7.hD.free 3
      have r0 := P7.hR.cell 0 _ rfl
      have r1 := P7.hR.cell 1 _ rfl
      have r2 := P7.hR.cell 2 _ rfl
      have r3 := P7.hR.cell 3 _ rfl
      have e0 := P7.hR.free 0
      have e1 := P7.hR.free 1
      have e2 := P7.hR.free 2
      have e3 := P7.hR.free 3
      clear P7 P5 hs7 hg7 hss7
      have Okh : Hid (I64 s7) := Lib.hid (Ok7.out)
      have Okg : Hid (I64 g) := Lib.hid (ok5.2.1)
      have Okt : Hid (I64 t) := Lib.hid (ok5.2.2.1)
      have Okn : Hid (I64 n) := Lib.hid (ok5.2.2.2)
      clear ok5
      go_wp2
      refine bodyPost_ret (v := vPay ⟨s7, g, t, n⟩) (by simp [results, Tryd.results48, go_sem, hne, hne', d0, d1, d2, d3, r0, r1, r2, r3]) rfl ⟨⟨⟨s7, g, t, n⟩, rfl, ⟨Okh.out, Okg.out, Okt.out, Okn.out⟩⟩, ?_⟩
      have h := (show FinP w _ b (N + 20) from ⟨Hfin.out.1.mono (by omega), Hfin.out.2⟩)
      refine FinP.more (N := N + 20) ?_ (Nat.le_refl _)
      repeat (refine FinP.set ?_ hbl (by omega))
      exact h
    by_cases q1 : q = 1
    · subst q1
      clear q0
      go_wp2_with fail
      with_reducible refine Calls.mono (amongL [-1, 100000000, 100000001, -9223372036854775808] P5.src (by omega) ?hcs ?hn (by decide) (by decide)) ?_
      case hcs => rfl
      case hn => rfl
      rintro e w7 ⟨⟨s7, rfl, hss7⟩, hs7, hg7⟩
      have P7 := P5.kept hs7 hg7
      have Ok7 : Hid (I64 s7) := Lib.hid (by unfold I64; simp at hss7; omega)
      have Hfin := Lib.hid P7.fin
      have d0 := P7.hD.cell 0 _ rfl
      have d1 := P7.hD.cell 1 _ rfl
      have d2 := P7.hD.cell 2 _ rfl
      have d3 := P7.hD.cell 3 _ rfl
      have f0 := P7.hD.free 0
      have f1 := P7.hD.free 1
      have f2 := P7.hD.free 2
      have f3 := P7.hD.free 3
      have r0 := P7.hR.cell 0 _ rfl
      have r1 := P7.hR.cell 1 _ rfl
      have r2 := P7.hR.cell 2 _ rfl
      have r3 := P7.hR.cell 3 _ rfl
      have e0 := P7.hR.free 0
      have e1 := P7.hR.free 1
      have e2 := P7.hR.free 2
      have e3 := P7.hR.free 3
      clear P7 P5 hs7 hg7 hss7
      have Okh : Hid (I64 h) := Lib.hid (ok5.1)
      have Okg : Hid (I64 s7) := Lib.hid (Ok7.out)
      have Okt : Hid (I64 0) := Lib.hid (by unfold I64; omega)
      have Okn : Hid (I64 s7) := Lib.hid (Ok7.out)
      clear ok5
      go_wp2
      refine bodyPost_ret (v := vPay ⟨h, s7, 0, s7⟩) (by simp [results, Tryd.results48, go_sem, hne, hne', d0, d1, d2, d3, r0, r1, r2, r3]) rfl ⟨⟨⟨h, s7, 0, s7⟩, rfl, ⟨Okh.out, Okg.out, Okt.out, Okn.out⟩⟩, ?_⟩
      have h := (show FinP w _ b (N + 20) from ⟨Hfin.out.1.mono (by omega), Hfin.out.2⟩)
      refine FinP.more (N := N + 20) ?_ (Nat.le_refl _)
      repeat (refine FinP.set ?_ hbl (by omega))
      exact h
    by_cases q2 : q = 2
    · subst q2
      clear q0 q1
      have Hfin := Lib.hid P5.fin
      have d0 := P5.hD.cell 0 _ rfl
      have d1 := P5.hD.cell 1 _ rfl
      have d2 := P5.hD.cell 2 _ rfl
      have d3 := P5.hD.cell 3 _ rfl
      have f0 := P5.hD.free 0
      have f1 := P5.hD.free 1
      have f2 := P5.hD.free 2
      have f3 := P5.hD.free 3
      have r0 := P5.hR.cell 0 _ rfl
      have r1 := P5.hR.cell 1 _ rfl
      have r2 := P5.hR.cell 2 _ rfl
      have r3 := P5.hR.cell 3 _ rfl
      have e0 := P5.hR.free 0
      have e1 := P5.hR.free 1
      have e2 := P5.hR.free 2
      have e3 := P5.hR.free 3
      clear P5
      have Okh : Hid (I64 h) := Lib.hid (ok5.1)
      have Okg : Hid (I64 g) := Lib.hid (ok5.2.1)
      have Okt : Hid (I64 (wrap64 (t + 1))) := Lib.hid (wrap64I _)
      have Okn : Hid (I64 n) := Lib.hid (ok5.2.2.2)
      clear ok5
      go_wp2
      refine bodyPost_ret (v := vPay ⟨h, g, wrap64 (t + 1), n⟩) (by simp [results, Tryd.results48, go_sem, hne, hne', d0, d1, d2, d3, r0, r1, r2, r3]) rfl ⟨⟨⟨h, g, wrap64 (t + 1), n⟩, rfl, ⟨Okh.out, Okg.out, Okt.out, Okn.out⟩⟩, ?_⟩
      have h := (show FinP w _ b (N + 20) from ⟨Hfin.out.1.mono (by omega), Hfin.out.2⟩)
      refine FinP.more (N := N + 20) ?_ (Nat.le_refl _)
      repeat (refine FinP.set ?_ hbl (by omega))
      exact h
    by_cases q3 : q = 3
    · subst q3
      clear q0 q1 q2
      have Hfin := Lib.hid P5.fin
      have d0 := P5.hD.cell 0 _ rfl
      have d1 := P5.hD.cell 1 _ rfl
      have d2 := P5.hD.cell 2 _ rfl
      have d3 := P5.hD.cell 3 _ rfl
      have f0 := P5.hD.free 0
      have f1 := P5.hD.free 1
      have f2 := P5.hD.free 2
      have f3 := P5.hD.free 3
      have r0 := P5.hR.cell 0 _ rfl
      have r1 := P5.hR.cell 1 _ rfl
      have r2 := P5.hR.cell 2 _ rfl
      have r3 := P5.hR.cell 3 _ rfl
      have e0 := P5.hR.free 0
      have e1 := P5.hR.free 1
      have e2 := P5.hR.free 2
      have e3 := P5.hR.free 3
      clear P5
      have Okh : Hid (I64 h) := Lib.hid (ok5.1)
      have Okg : Hid (I64 g) := Lib.hid (ok5.2.1)
      have Okt : Hid (I64 t) := Lib.hid (ok5.2.2.1)
      have Okn : Hid (I64 (wrap64 (n - 1))) := Lib.hid (wrap64I _)
      clear ok5
      go_wp2
      refine bodyPost_ret (v := vPay ⟨h, g, t, wrap64 (n - 1)⟩) (by simp [results, Tryd.results48, go_sem, hne, hne', d0, d1, d2, d3, r0, r1, r2, r3]) rfl ⟨⟨⟨h, g, t, wrap64 (n - 1)⟩, rfl, ⟨Okh.out, Okg.out, Okt.out, Okn.out⟩⟩, ?_⟩
      have h := (show FinP w _ b (N + 20) from ⟨Hfin.out.1.mono (by omega), Hfin.out.2⟩)
      refine FinP.more (N := N + 20) ?_ (Nat.le_refl _)
      repeat (refine FinP.set ?_ hbl (by omega))
      exact h
    have e0' : (q == 0) = false := by simpa using q0
    have e1' : (q == 1) = false := by simpa using q1
    have e2' : (q == 2) = false := by simpa using q2
    have e3' : (q == 3) = false := by simpa using q3
    clear q0 q1 q2 q3
    have Hfin := Lib.hid P5.fin
    have d0 := P5.hD.cell 0 _ rfl
    have d1 := P5.hD.cell 1 _ rfl
    have d2 := P5.hD.cell 2 _ rfl
    have d3 := P5.hD.cell 3 _ rfl
    have f0 := P5.hD.free 0
    have f1 := P5.hD.free 1
    have f2 := P5.hD.free 2
    have f3 := P5.hD.free 3
    have r0 := P5.hR.cell 0 _ rfl
    have r1 := P5.hR.cell 1 _ rfl
    have r2 := P5.hR.cell 2 _ rfl
    have r3 := P5.hR.cell 3 _ rfl
    have e0 := P5.hR.free 0
    have e1 := P5.hR.free 1
    have e2 := P5.hR.free 2
    have e3 := P5.hR.free 3
    clear P5
    have Okh : Hid (I64 h) := Lib.hid (ok5.1)
    have Okg : Hid (I64 g) := Lib.hid (ok5.2.1)
    have Okt : Hid (I64 t) := Lib.hid (ok5.2.2.1)
    have Okn : Hid (I64 n) := Lib.hid (ok5.2.2.2)
    clear ok5
    go_wp2
    refine bodyPost_ret (v := vPay ⟨h, g, t, n⟩) (by simp [results, Tryd.results48, go_sem, hne, hne', d0, d1, d2, d3, r0, r1, r2, r3]) rfl ⟨⟨⟨h, g, t, n⟩, rfl, ⟨Okh.out, Okg.out, Okt.out, Okn.out⟩⟩, ?_⟩
    have h := (show FinP w _ b (N + 20) from ⟨Hfin.out.1.mono (by omega), Hfin.out.2⟩)
    refine FinP.more (N := N + 20) ?_ (Nat.le_refl _)
    repeat (refine FinP.set ?_ hbl (by omega))
    exact h
end Go.Proofs.YtfhlmkeklmaedaaDoor
