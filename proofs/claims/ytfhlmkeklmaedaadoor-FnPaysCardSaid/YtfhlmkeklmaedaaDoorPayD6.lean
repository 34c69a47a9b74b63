/- Pays: the drawing of a worker and a pay. Printed by gpayd6.py. No condition. -/
import Derived.Test.YtfhlmkeklmaedaaDoorPayD4
import Derived.Test.YtfhlmkeklmaedaaDoorPayD5
namespace Go.Proofs.YtfhlmkeklmaedaaDoor
open Go.ChangeShapes Go.WideShapes Go.ChangeAt Go.RowKit
set_option linter.unusedVariables false
set_option maxRecDepth 100000
theorem okPay_I {p : PayT} (h : okPay p) : okPay p := h
set_option maxHeartbeats 1000000 in
theorem DrawPayLine_any {w : World} {A : Nat} {v : Value} {cs : List Int} (ha : Rds eB A w v cs) (hA : A ≤ w.heap.size) :
    Calls Tryd.prog 23 #[v] w fun e w' => (∃ (x : WorkerT) (p : PayT), e = .returned (.tuple #[vWorker x, vPay p]) ∧ okWorker x ∧ okPay p) ∧ Below w.heap.size w w' := by
  obtain ⟨ao, cap, hsh⟩ := ha.shape
  subst hsh
  obtain ⟨W0, hW0⟩ : ∃ W0, W0 = (w.alloc (.cells #[.string ⟨#[]⟩, .int .i64 0, .int .i64 0] 29)).alloc (.cells #[.int .i64 0, .int .i64 0, .int .i64 0, .int .i64 0] 31) := ⟨_, rfl⟩
  have hb00 : Below w.heap.size w W0 := by rw [hW0]; exact ((Below.refl _ _).alloc (Nat.le_refl _) _).alloc (by simp) _
  have hR : Box W0 w.heap.size [.string ⟨#[]⟩, .int .i64 0, .int .i64 0] := by rw [hW0]; exact (Box.new w [.string ⟨#[]⟩, .int .i64 0, .int .i64 0] 29).alloc _
  have hP : Box W0 (w.heap.size + 1) [.int .i64 0, .int .i64 0, .int .i64 0, .int .i64 0] := by
    rw [hW0]
    have h := Box.new (w.alloc (.cells #[.string ⟨#[]⟩, .int .i64 0, .int .i64 0] 29)) [.int .i64 0, .int .i64 0, .int .i64 0, .int .i64 0] 31
    rw [show (w.alloc (.cells #[.string ⟨#[]⟩, .int .i64 0, .int .i64 0] 29)).heap.size = w.heap.size + 1 from by simp] at h
    exact h
  have haA := ha.below hb00 hA
  have hz0 : w.heap.size ≤ W0.heap.size := hb00.size
  have HW0 := Lib.hid hW0
  clear hW0
  go_enter Tryd.func23, Tryd.ntmps23
  go_wp2_with fail
  rw [← HW0.out]
  refine (DrawPayFor_any haA (by omega)).mono ?_
  rintro e w1 ⟨⟨x, h, rfl, okx, hh⟩, hb1⟩
  have hR1 := hR.on hb1
  have hP1 := hP.on hb1
  have hbA := hb00.trans (hb1.mono hz0)
  obtain ⟨W, hW⟩ : ∃ W, W = w1.alloc (.cells #[.string x.nm, .int .i64 x.rate, .int .i64 x.tax] 29) := ⟨_, rfl⟩
  have hT : Box W w1.heap.size [.string x.nm, .int .i64 x.rate, .int .i64 x.tax] := by rw [hW]; exact Box.new w1 [.string x.nm, .int .i64 x.rate, .int .i64 x.tax] _
  have hR2 : Box W w.heap.size [.string ⟨#[]⟩, .int .i64 0, .int .i64 0] := by rw [hW]; exact hR1.alloc _
  have hP2 : Box W (w.heap.size + 1) [.int .i64 0, .int .i64 0, .int .i64 0, .int .i64 0] := by rw [hW]; exact hP1.alloc _
  have hbB : Below w.heap.size w W := by rw [hW]; exact hbA.alloc hbA.size _
  have haB := ha.below hbB hA
  have hPl := hP1.lt
  have HW := Lib.hid hW
  clear hW hR hP hR1 hP1 hbA hb00 hb1 haA HW0 ha
  go_wp2_with fail
  rw [← HW.out]
  refine (l00From_any haB (by have := hbB.size; omega)).mono ?_
  rintro e w2 ⟨rfl, hs2, hb2⟩
  have hTl := hT.lt
  have hT2 := hT.on hb2
  have hR3 := hR2.on hb2
  have hP3 := hP2.on hb2
  have hbC := hbB.trans (hb2.mono hbB.size)
  clear hT hR2 hP2 hbB haB hb2 HW
  generalize W.heap.size = b at hs2 hTl ⊢
  generalize w1.heap.size = T at hT2 hTl hPl ⊢
  have t0 := hT2.cell 0 _ rfl
  have t1 := hT2.cell 1 _ rfl
  have t2 := hT2.cell 2 _ rfl
  have HS := Lib.hid hs2
  have HT := Lib.hid hT2
  have HR := Lib.hid hR3
  have HP := Lib.hid hP3
  have HB := Lib.hid hbC
  have HX := Lib.hid okx
  clear hs2 hT2 hR3 hP3 hbC okx hh
  go_upto_region 3 with fail
  go_region_law (go_simp; go_at_call 48; with_reducible refine (l23DrawPay_any HS.out.drew (by omega)).mono ?_; rintro e w8 ⟨⟨p, rfl, hp⟩, hs8, hg8⟩; have hg9 := grownBy_trans (grownBy_drew _ (some b)) hg8; have T8 := HT.out.keptB hg9 (fun e => by have := Option.some.inj e; omega); have R8 := HR.out.keptB hg9 (fun e => by have := Option.some.inj e; omega); have P8 := HP.out.keptB hg9 (fun e => by have := Option.some.inj e; omega); have HB8 := Lib.hid (grown_below HB.out hg9 (by omega) HB.out.size); have HH := Lib.hid hp; have t0' := T8.cell 0 _ rfl; have t1' := T8.cell 1 _ rfl; have t2' := T8.cell 2 _ rfl; have r0 := R8.cell 0 _ rfl; have r1 := R8.cell 1 _ rfl; have r2 := R8.cell 2 _ rfl; have e0 := R8.free 0; have e1 := R8.free 1; have e2 := R8.free 2; have p0 := P8.cell 0 _ rfl; have p1 := P8.cell 1 _ rfl; have p2 := P8.cell 2 _ rfl; have p3 := P8.cell 3 _ rfl; have f0 := P8.free 0; have f1 := P8.free 1; have f2 := P8.free 2; have f3 := P8.free 3; clear hs8 hg8 hg9 hp T8 R8 P8)
  all_goals
    go_wp2
    refine bodyPost_ret (v := .tuple #[vWorker x, vPay p]) (by simp [results, Tryd.results23, go_sem, r0, r1, r2, p0, p1, p2, p3]) rfl ⟨⟨x, p, rfl, HX.out, HH.out⟩, ?_⟩
    repeat (refine belowSet ?_ (by omega))
    exact HB8.out
end Go.Proofs.YtfhlmkeklmaedaaDoor
