/- Pays: the drawing of inputs. No condition. -/
import Derived.Test.YtfhlmkeklmaedaaDoorPayD
namespace Go.Proofs.YtfhlmkeklmaedaaDoor
open Go.ChangeShapes Go.WideShapes Go.ChangeAt Go.RowKit
set_option linter.unusedVariables false
set_option maxRecDepth 100000
theorem Box.keptB {w w' : World} {b : Nat} {cs : List Value} {row : Option Nat} (h : Box w b cs) (hg : w.grownBy w' row) (hne : row ≠ some b) : Box w' b cs := by
  have hb := hg.block b h.lt (fun e => hne e.symm)
  exact ⟨Nat.lt_of_lt_of_le h.lt hg.size, fun j v hj => (World.cell?_of_block (w := w) (a := ⟨b, j, none⟩) hb).trans (h.cell j v hj), fun j => (World.frozen?_of_block (w := w) (a := ⟨b, j, none⟩) hb).trans (h.free j)⟩
theorem grown_setP (w : World) (a : Addr) (u : Value) : w.grownBy (w.setCell a u) (some a.block) :=
  ⟨rfl, rfl, rfl, by simp [World.setCell], fun k hk hne => Below.heap_setCell _ _ _ _ (fun e => hne (by rw [e]))⟩
theorem grown_runP {g : Nat} : ∀ (cs : List Value) (w : World) (i : Nat), w.grownBy (setRunW w g i cs) (some g)
  | [], w, i => World.grownBy.refl _ _
  | c :: cs, w, i => grownBy_trans (grown_setP w ⟨g, i, none⟩ c) (grown_runP cs _ _)
def I64 (n : Int) : Prop := -9223372036854775808 ≤ n ∧ n ≤ 9223372036854775807
theorem wrapI (n : Int) : I64 (IntKind.i64.wrap n) := by unfold I64; rw [IntKind.wrap_i64]; omega
theorem amongL (xs : List Int) {w : World} {b N n : Nat} {cs : Array Value} (hs : Src w b N) (hN : N ≤ 1000000000) (hcs : cs = (eI.all xs).toArray) (hn : n = xs.length) (h0 : 0 < xs.length ∧ xs.length ≤ 1000) (hx : ∀ x ∈ xs, -9223372036854775808 ≤ x ∧ x ≤ 9223372036854775807) :
    Calls Tryd.prog 43 #[.pointer (some ⟨b, 0, none⟩), .slice (some ⟨w.heap.size, 0, none⟩) n n] (w.alloc (.cells cs 2)) fun e w' => (∃ r : Int, e = .returned (.int .i64 r) ∧ r ∈ xs) ∧ Src w' b (N + 2) ∧ w.grownBy w' (some b) := by
  have hb := hs.lt
  refine (among_any (xs := xs) (hs.alloc _) hN (Own.lit (E := eI) (base := 0) (Nat.zero_le _) hcs hn (by have := h0.2; unfold maxLen; omega) hx).rds (Nat.le_refl _) h0 ?_).mono ?_
  · intro k hk
    simp [Value.ownBlock] at hk
    omega
  · rintro e w2 ⟨hr, h2, hg, _⟩
    exact ⟨hr, h2, grownBy_trans (World.grownBy_alloc _ _ (some b)) hg⟩
set_option maxHeartbeats 400000 in
theorem l23DrawHours_any {w : World} {b N : Nat} (hs : Src w b N) (hN : N ≤ 1000000) :
    Calls Tryd.prog 37 #[.pointer (some ⟨b, 0, none⟩)] w fun e w' => (∃ r : Int, e = .returned (.int .i64 r) ∧ I64 r) ∧ Src w' b (N + 10) ∧ w.grownBy w' (some b) := by
  have hbl := hs.lt
  go_enter Tryd.func37, Tryd.ntmps37
  go_wp2_with fail
  refine (one_any 8 hs (by omega) (by omega)).mono ?_
  rintro e w1 ⟨⟨q, rfl⟩, hs1, hg1, -⟩
  have hbl1 := hs1.lt
  cases q with
  | true =>
    go_wp2_with fail
    with_reducible refine Calls.mono (amongL [-1, 0, 40, 41, 120, 121, 9223372036854775807] hs1 (by omega) ?hcs ?hn (by decide) (by decide)) ?_
    case hcs => rfl
    case hn => rfl
    rintro e w2 ⟨⟨r, rfl, hr⟩, hs2, hg2⟩
    have hg2' := grownBy_trans hg1 hg2
    have Hr : Hid (I64 r) := Lib.hid (by unfold I64; simp at hr; omega)
    have Hs2 := Lib.hid hs2
    have Hg2 := Lib.hid hg2'
    clear hs2 hg2' hg2 hr hs1 hg1
    go_wp2
    go_ret
    exact ⟨⟨r, rfl, Hr.out⟩, Hs2.out.mono (by omega), Hg2.out⟩
  | false =>
    go_wp2_with fail
    refine (pick_any 70 hs1 (by omega) (by omega)).mono ?_
    rintro e w2 ⟨⟨r, rfl, hr0, hr1, _⟩, hs2, hg2, -⟩
    have hr2 := hr1 (by omega)
    have Hr : Hid (I64 r) := Lib.hid (by unfold I64; omega)
    have Hs2 := Lib.hid hs2
    have Hg2 := Lib.hid (grownBy_trans hg1 hg2)
    clear hs2 hg2 hs1 hg1 hr1
    go_wp2
    go_ret
    exact ⟨⟨r, rfl, Hr.out⟩, Hs2.out.mono (by omega), Hg2.out⟩
set_option maxHeartbeats 400000 in
theorem DrawGrossFor_any {w : World} {A : Nat} {v : Value} {cs : List Int} (ha : Rds eB A w v cs) (hA : A ≤ w.heap.size) :
    Calls Tryd.prog 14 #[v] w fun e w' => (∃ r h : Int, e = .returned (.tuple #[.int .i64 r, .int .i64 h]) ∧ I64 r ∧ I64 h) ∧ Below w.heap.size w w' := by
  obtain ⟨ao, cap, hsh⟩ := ha.shape
  subst hsh
  go_enter Tryd.func14, Tryd.ntmps14
  go_wp2_with fail
  refine (l00From_any ha hA).mono ?_
  rintro e w0 ⟨rfl, hs0, hb0⟩
  have hbw : w.heap.size < w0.heap.size := hs0.lt
  go_wp2_with fail
  refine (pick_any 2000 hs0 (by omega) (by omega)).mono ?_
  rintro e w1 ⟨⟨r, rfl, hr0, hr1, _⟩, hs1, hg1, -⟩
  have hr2 := hr1 (by omega)
  have hb1 := grown_below hb0 hg1 (Nat.le_refl _) (by omega)
  go_wp2_with fail
  refine (one_any 10 hs1 (by omega) (by omega)).mono ?_
  rintro e w2 ⟨⟨q, rfl⟩, hs2, hg2, -⟩
  have hs1z := hs1.lt
  have hb2 := grown_below hb1 hg2 (Nat.le_refl _) (by omega)
  have hs2z := hs2.lt
  clear hr1
  cases q with
  | true =>
    go_wp2_with fail
    with_reducible refine Calls.mono (amongL [0, 1, 10000, 10001] hs2 (by omega) ?hcs ?hn (by decide) (by decide)) ?_
    case hcs => rfl
    case hn => rfl
    rintro e w3 ⟨⟨r3, rfl, hr3⟩, hs3, hg3⟩
    have hg3' := hg3
    have hb3 := grown_below hb2 hg3' (Nat.le_refl _) (by omega)
    have hs3z := hs3.lt
    have Hr : Hid (I64 r3) := Lib.hid (by unfold I64; simp at hr3; omega)
    go_wp2_with fail
    refine (l23DrawHours_any hs3 (by omega)).mono ?_
    rintro e w4 ⟨⟨h, rfl, hh⟩, hs4, hg4⟩
    have hb4 := grown_below hb3 hg4 (Nat.le_refl _) (by omega)
    have Hh := Lib.hid hh
    have Hb4 := Lib.hid hb4
    clear hb4 hb3 hb2 hb1 hb0 hg4 hg3 hg3' hs4 hs3 hs2 hs1 hs0 hh hr3 hg1 hg2
    go_wp2
    go_ret2
    exact ⟨⟨_, _, rfl, Hr.out, Hh.out⟩, Hb4.out⟩
  | false =>
    have Hr : Hid (I64 (1 + r)) := Lib.hid (by unfold I64; omega)
    go_wp2_with fail
    refine (l23DrawHours_any hs2 (by omega)).mono ?_
    rintro e w4 ⟨⟨h, rfl, hh⟩, hs4, hg4⟩
    have hb4 := grown_below hb2 hg4 (Nat.le_refl _) (by omega)
    have Hh := Lib.hid hh
    have Hb4 := Lib.hid hb4
    clear hb4 hb2 hb1 hb0 hg4 hs4 hs2 hs1 hs0 hh hg1 hg2
    go_wp2
    go_ret2
    exact ⟨⟨_, _, rfl, Hr.out, Hh.out⟩, Hb4.out⟩
set_option maxHeartbeats 400000 in
theorem DrawCoinsFor_any {w : World} {A : Nat} {v : Value} {cs : List Int} (ha : Rds eB A w v cs) (hA : A ≤ w.heap.size) :
    Calls Tryd.prog 20 #[v] w fun e w' => (∃ r : Int, e = .returned (.int .i64 r) ∧ I64 r) ∧ Below w.heap.size w w' := by
  obtain ⟨ao, cap, hsh⟩ := ha.shape
  subst hsh
  go_enter Tryd.func20, Tryd.ntmps20
  go_wp2_with fail
  refine (l00From_any ha hA).mono ?_
  rintro e w0 ⟨rfl, hs0, hb0⟩
  have hbw : w.heap.size < w0.heap.size := hs0.lt
  go_wp2_with fail
  refine (one_any 10 hs0 (by omega) (by omega)).mono ?_
  rintro e w2 ⟨⟨q, rfl⟩, hs2, hg2, -⟩
  have hb2 := grown_below hb0 hg2 (Nat.le_refl _) (by omega)
  have hs2z := hs2.lt
  cases q with
  | true =>
    go_wp2_with fail
    with_reducible refine Calls.mono (amongL [-1, 0, 100000000, 100000001] hs2 (by omega) ?hcs ?hn (by decide) (by decide)) ?_
    case hcs => rfl
    case hn => rfl
    rintro e w3 ⟨⟨r3, rfl, hr3⟩, hs3, hg3⟩
    have hg3' := hg3
    have hb3 := grown_below hb2 hg3' (Nat.le_refl _) (by omega)
    have Hr : Hid (I64 r3) := Lib.hid (by unfold I64; simp at hr3; omega)
    have Hb3 := Lib.hid hb3
    clear hb3 hb2 hb0 hg3 hg3' hs3 hs2 hs0 hr3 hg2
    go_wp2
    go_ret
    exact ⟨⟨_, rfl, Hr.out⟩, Hb3.out⟩
  | false =>
    go_wp2_with fail
    refine (pick_any 10000 hs2 (by omega) (by omega)).mono ?_
    rintro e w3 ⟨⟨r, rfl, hr0, hr1, _⟩, hs3, hg3, -⟩
    have hr2 := hr1 (by omega)
    have hb3 := grown_below hb2 hg3 (Nat.le_refl _) (by omega)
    have hs3z := hs3.lt
    go_wp2_with fail
    refine (pick_any 20 hs3 (by omega) (by omega)).mono ?_
    rintro e w4 ⟨⟨q, rfl, hq0, hq1, _⟩, hs4, hg4, -⟩
    have hq2 := hq1 (by omega)
    have hb4 := grown_below hb3 hg4 (Nat.le_refl _) (by omega)
    have Hb4 := Lib.hid hb4
    have hmul : 0 ≤ r * (1 + q) ∧ r * (1 + q) ≤ 200000 := by
      refine ⟨Int.mul_nonneg hr0 (by omega), ?_⟩
      have h1 : r * (1 + q) ≤ 10000 * (1 + q) := Int.mul_le_mul_of_nonneg_right (by omega) (by omega)
      omega
    have Hm : Hid (I64 (r * (1 + q))) := Lib.hid (by unfold I64; omega)
    obtain ⟨m0, m1⟩ := hmul
    clear hb4 hb3 hb2 hb0 hg3 hg4 hs4 hs3 hs2 hs0 hg2 hr1 hq1
    go_wp2
    go_ret
    exact ⟨⟨_, rfl, by first | exact Hm.out | exact wrapI _⟩, Hb4.out⟩
end Go.Proofs.YtfhlmkeklmaedaaDoor
