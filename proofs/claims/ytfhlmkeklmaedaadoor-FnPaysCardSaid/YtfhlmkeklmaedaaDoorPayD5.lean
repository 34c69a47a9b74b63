/- Pays: the drawing of a worker and hours. Printed by gpayd5.py. No condition. -/
import Derived.Test.YtfhlmkeklmaedaaDoorPayD3
namespace Go.Proofs.YtfhlmkeklmaedaaDoor
open Go.ChangeShapes Go.WideShapes Go.ChangeAt Go.RowKit
set_option linter.unusedVariables false
set_option maxRecDepth 100000
theorem belowSet {B : Nat} {w W : World} {R j : Nat} {v : Value} (h : Below B w W) (hR : B ≤ R) (hz : B ≤ w.heap.size := by exact Nat.le_refl _) : Below B w (W.setCell ⟨R, j, none⟩ v) :=
  grown_below h (grown_setP W ⟨R, j, none⟩ v) hR (Nat.le_trans hz h.size)
set_option maxHeartbeats 600000 in
theorem DrawPayFor_any {w : World} {A : Nat} {v : Value} {cs : List Int} (ha : Rds eB A w v cs) (hA : A ≤ w.heap.size) :
    Calls Tryd.prog 11 #[v] w fun e w' => (∃ (x : WorkerT) (h : Int), e = .returned (.tuple #[vWorker x, .int .i64 h]) ∧ okWorker x ∧ I64 h) ∧ Below w.heap.size w w' := by
  obtain ⟨ao, cap, hsh⟩ := ha.shape
  subst hsh
  obtain ⟨W0, hW0⟩ : ∃ W0, W0 = w.alloc (.cells #[.string ⟨#[]⟩, .int .i64 0, .int .i64 0] 29) := ⟨_, rfl⟩
  have haA := ha.below ((Below.refl w.heap.size w).alloc (Nat.le_refl _) (.cells #[.string ⟨#[]⟩, .int .i64 0, .int .i64 0] 29)) hA
  have hb00 := (Below.refl w.heap.size w).alloc (Nat.le_refl _) (.cells #[.string ⟨#[]⟩, .int .i64 0, .int .i64 0] 29)
  have hR0 := Box.new w [.string ⟨#[]⟩, .int .i64 0, .int .i64 0] 29
  have hz0 : W0.heap.size = w.heap.size + 1 := by rw [hW0]; simp
  rw [show (w.alloc (.cells ([.string ⟨#[]⟩, .int .i64 0, .int .i64 0] : List Value).toArray 29)) = W0 from hW0.symm] at hR0
  rw [← hW0] at haA hb00
  have HW0 := Lib.hid hW0
  clear hW0
  go_enter Tryd.func11, Tryd.ntmps11
  go_wp2_with fail
  rw [← HW0.out]
  refine (l00From_any haA (by omega)).mono ?_
  rintro e w1 ⟨rfl, hs1, hb1⟩
  have hbA := hb00.trans (hb1.mono (by omega))
  have hR1 := hR0.on hb1
  have hbl := hs1.lt
  obtain ⟨b, hb⟩ : ∃ b, b = W0.heap.size := ⟨_, rfl⟩
  rw [← hb] at hs1 hbl ⊢
  have hbw : w.heap.size < b := by omega
  clear HW0 haA hb00 hR0 hb1 hz0 hb ha
  go_wp2_with fail
  refine (l23Bent_any hs1 (by omega)).mono ?_
  rintro e w2 ⟨⟨u, xs, rfl, ho, hl⟩, hs2, hg2⟩
  have hz12 : w.heap.size ≤ w1.heap.size := by omega
  have hbB := grown_below hbA hg2 (by omega) hz12
  have hR2 := hR1.keptB hg2 (fun e => by have := Option.some.inj e; omega)
  obtain ⟨ao2, cap2, rfl⟩ := ho.shape
  clear hbA hR1 hs1 hg2
  go_wp2_with fail
  refine (pick_any 900 hs2 (by omega) (by omega)).mono ?_
  rintro e w3 ⟨⟨r, rfl, hr0, hr1, _⟩, hs3, hg3, -⟩
  have hr2 := hr1 (by omega)
  have ho3 := ho.keptS hg3 hbl
  have hbC := grown_below hbB hg3 (by omega) hbB.size
  have hR3 := hR2.keptB hg3 (fun e => by have := Option.some.inj e; omega)
  clear hbB hR2 hs2 hg3 hr1 ho
  go_wp2_with fail
  refine (pick_any 61 hs3 (by omega) (by omega)).mono ?_
  rintro e w4 ⟨⟨q, rfl, hq0, hq1, _⟩, hs4, hg4, -⟩
  have hq2 := hq1 (by omega)
  have ho4 := ho3.keptS hg4 hbl
  have hbD := grown_below hbC hg4 (by omega) hbC.size
  have hR4 := hR3.keptB hg4 (fun e => by have := Option.some.inj e; omega)
  have hs4z := hs4.lt
  clear hbC hR3 hs3 hg4 hq1 ho3
  obtain ⟨W, hW⟩ : ∃ W, W = w4.alloc (.cells #[.string ⟨#[120]⟩, .int .i64 (1 + r), .int .i64 q] 29) := ⟨_, rfl⟩
  have hT := Box.new w4 [.string ⟨#[120]⟩, .int .i64 (1 + r), .int .i64 q] 29
  have hT : Box W w4.heap.size [.string ⟨#[120]⟩, .int .i64 (1 + r), .int .i64 q] := by rw [hW]; exact hT
  have hR : Box W w.heap.size [.string ⟨#[]⟩, .int .i64 0, .int .i64 0] := by rw [hW]; exact hR4.alloc _
  have hS : Src W b (0 + 600 + 2 + 2) := by rw [hW]; exact (hs4.mono (by omega)).alloc _
  have hB : Below w.heap.size w W := by rw [hW]; exact hbD.alloc hbD.size _
  have hO := ho4.alloc (.cells #[.string ⟨#[120]⟩, .int .i64 (1 + r), .int .i64 q] 29)
  rw [← hW] at hO
  have hx0 : okWorker ⟨⟨#[120]⟩, 1 + r, q⟩ := okW_of (by decide) (by omega) (by omega)
  have hlt4 : ∀ k, (Value.slice ao2 xs.length cap2).ownBlock = some k → k < w4.heap.size := fun k hk => (ho4.lt k hk).2
  have HW := Lib.hid hW
  have hTz := hbD.size
  clear hW hR4 hs4 hbD ho4
  go_upto_region 4 with fail
  rw [← HW.out]
  clear HW
  have hTn : w4.heap.size ≠ b := by omega
  have hTl : w4.heap.size < W.heap.size := hT.lt
  generalize w4.heap.size = T at hT hTz hTn hs4z hTl hlt4 ⊢
  by_cases h0 : 0 < xs.length
  · obtain ⟨ao3, cap3, hv, hopen⟩ := eWorker_open hO.rds
    obtain ⟨rfl, rfl⟩ : ao2 = ao3 ∧ cap2 = cap3 := by cases hv; exact ⟨rfl, rfl⟩
    obtain ⟨g, off, rfl, hlt, hc⟩ := hopen h0
    obtain ⟨x, hx, ⟨c0, c1, c2⟩, okx⟩ := hc 0 h0
    simp only [Nat.zero_mul, Nat.add_zero] at c0 c1 c2
    have hgT : g < T := hlt4 g rfl
    have hgT' : g ≠ T := by omega
    obtain ⟨n, hn⟩ : ∃ n, n = xs.length := ⟨_, rfl⟩
    rw [← hn] at h0 ⊢
    have q0 := hT.cell 0 _ rfl
    have q1 := hT.cell 1 _ rfl
    have q2 := hT.cell 2 _ rfl
    have p0 := hT.free 0
    have p1 := hT.free 1
    have p2 := hT.free 2
    obtain ⟨W2, hW2⟩ : ∃ W2, W2 = ((W.setCell ⟨T, 0, none⟩ (.string x.nm)).setCell ⟨T, 1, none⟩ (.int .i64 x.rate)).setCell ⟨T, 2, none⟩ (.int .i64 x.tax) := ⟨_, rfl⟩
    have hT2 := ((hT.set1 (j := 0) (by simp) (.string x.nm)).set1 (j := 1) (by simp) (.int .i64 x.rate)).set1 (j := 2) (by simp) (.int .i64 x.tax)
    have hgs : W.grownBy W2 (some T) := by rw [hW2]; exact grownBy_trans (grown_setP _ ⟨T, 0, none⟩ _) (grownBy_trans (grown_setP _ ⟨T, 1, none⟩ _) (grown_setP _ ⟨T, 2, none⟩ _))
    have hT2 : Box W2 T [.string x.nm, .int .i64 x.rate, .int .i64 x.tax] := by rw [hW2]; exact hT2
    have hR2 := hR.keptB hgs (fun e => by have := Option.some.inj e; omega)
    have hS2 := hS.kept hgs (fun k hk => by have := Option.some.inj hk; omega)
    have hB2 := grown_below hB hgs hTz hB.size
    have hTl2 := hT2.lt
    have HW2 := Lib.hid hW2
    clear hW2 hgs hT hR hS hB hO hx0 hl hopen hc hx hn hlt
    have hT := hT2
    have hR := hR2
    have hS := hS2
    have hB := hB2
    clear hT2 hR2 hS2 hB2
    go_upto_region 6 with fail
    rw [← HW2.out]
    clear HW2 q0 q1 q2 p0 p1 p2 c0 c1 c2
    have t0 := hT.cell 0 _ rfl
    have t1 := hT.cell 1 _ rfl
    have t2 := hT.cell 2 _ rfl
    have HS := Lib.hid hS
    have HT := Lib.hid hT
    have HR := Lib.hid hR
    have HB := Lib.hid hB
    have HX := Lib.hid okx
    clear hS hT hR hB okx
    go_region_law (go_simp; go_at_call 37; with_reducible refine (l23DrawHours_any HS.out.drew (by omega)).mono ?_; rintro e w8 ⟨⟨h, rfl, hh⟩, hs8, hg8⟩; have hg9 := grownBy_trans (grownBy_drew _ (some b)) hg8; have T8 := HT.out.keptB hg9 (fun e => by have := Option.some.inj e; omega); have R8 := HR.out.keptB hg9 (fun e => by have := Option.some.inj e; omega); have HB8 := Lib.hid (grown_below HB.out hg9 (by omega) HB.out.size); have HH := Lib.hid hh; have t0' := T8.cell 0 _ rfl; have t1' := T8.cell 1 _ rfl; have t2' := T8.cell 2 _ rfl; have r0 := R8.cell 0 _ rfl; have r1 := R8.cell 1 _ rfl; have r2 := R8.cell 2 _ rfl; have e0 := R8.free 0; have e1 := R8.free 1; have e2 := R8.free 2; clear hs8 hg8 hg9 hh T8 R8)
    all_goals
      go_wp2
      refine bodyPost_ret (v := .tuple #[vWorker x, .int .i64 h]) (by simp [results, Tryd.results11, go_sem, r0, r1, r2]) rfl ⟨⟨x, h, rfl, HX.out, HH.out⟩, ?_⟩
      repeat (refine belowSet ?_ (by omega))
      exact HB8.out
  · have hn0 : xs.length = 0 := by omega
    have okx := hx0
    obtain ⟨x, hx⟩ : ∃ x : WorkerT, x = ⟨⟨#[120]⟩, 1 + r, q⟩ := ⟨_, rfl⟩
    rw [← hx] at okx
    have hT : Box W T [.string x.nm, .int .i64 x.rate, .int .i64 x.tax] := by rw [hx]; exact hT
    clear hx hx0 hO hl hlt4
    generalize xs.length = n at hn0 ⊢
    subst hn0
    have t0 := hT.cell 0 _ rfl
    have t1 := hT.cell 1 _ rfl
    have t2 := hT.cell 2 _ rfl
    have HS := Lib.hid hS
    have HT := Lib.hid hT
    have HR := Lib.hid hR
    have HB := Lib.hid hB
    have HX := Lib.hid okx
    clear hS hT hR hB okx
    go_upto_region 6 with fail
    go_region_law (go_simp; go_at_call 37; with_reducible refine (l23DrawHours_any HS.out.drew (by omega)).mono ?_; rintro e w8 ⟨⟨h, rfl, hh⟩, hs8, hg8⟩; have hg9 := grownBy_trans (grownBy_drew _ (some b)) hg8; have T8 := HT.out.keptB hg9 (fun e => by have := Option.some.inj e; omega); have R8 := HR.out.keptB hg9 (fun e => by have := Option.some.inj e; omega); have HB8 := Lib.hid (grown_below HB.out hg9 (by omega) HB.out.size); have HH := Lib.hid hh; have t0' := T8.cell 0 _ rfl; have t1' := T8.cell 1 _ rfl; have t2' := T8.cell 2 _ rfl; have r0 := R8.cell 0 _ rfl; have r1 := R8.cell 1 _ rfl; have r2 := R8.cell 2 _ rfl; have e0 := R8.free 0; have e1 := R8.free 1; have e2 := R8.free 2; clear hs8 hg8 hg9 hh T8 R8)
    all_goals
      go_wp2
      refine bodyPost_ret (v := .tuple #[vWorker x, .int .i64 h]) (by simp [results, Tryd.results11, go_sem, r0, r1, r2]) rfl ⟨⟨x, h, rfl, HX.out, HH.out⟩, ?_⟩
      repeat (refine belowSet ?_ (by omega))
      exact HB8.out
end Go.Proofs.YtfhlmkeklmaedaaDoor
