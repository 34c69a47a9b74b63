/- A slice of slices that the call builds row by row. No condition. -/
import Derived.Test.YtahkkdkdaedioaaDoorMatO
namespace Go.Proofs.YtahkkdkdaedioaaDoor
open Go.ChangeShapes Go.WideShapes Go.ChangeAt Go.RowKit
set_option linter.unusedVariables false
set_option maxRecDepth 100000
section
variable {α : Type} {E : Elt α} {er e : TypeId} {base rb tp tp' B : Nat} {w w' : World} {v u : Value} {xss : List (List α)} {xs : List α}
/-- being built: its headers' block lies from base to tp, its rows' blocks from rb to tp -/
def BldG (E : Elt α) (er e : TypeId) (base rb tp : Nat) (w : World) (v : Value) (xss : List (List α)) : Prop :=
  ∃ hs : List SlV, OwnT eS e base tp w v hs ∧ hs.length = xss.length ∧ (∀ (i : Nat) (h : SlV) (xs : List α), hs[i]? = some h → xss[i]? = some xs → OwnT E er rb tp w h.val xs) ∧
    (∀ (i : Nat) (h : SlV), hs[i]? = some h → Apart v h.val) ∧ ∀ (i j : Nat) (h h' : SlV), i ≠ j → hs[i]? = some h → hs[j]? = some h' → Apart h.val h'.val
theorem BldG.mono (h : BldG E er e base rb tp w v xss) (ht : tp ≤ tp') : BldG E er e base rb tp' w v xss := by
  obtain ⟨hs, h1, h2, h3, h4⟩ := h
  exact ⟨hs, h1.mono ht, h2, fun i x xs e1 e2 => (h3 i x xs e1 e2).mono ht, h4⟩
theorem BldG.below (h : BldG E er e base rb tp w v xss) (hb : Below B w w') (hB : tp ≤ B) : BldG E er e base rb tp w' v xss := by
  obtain ⟨hs, h1, h2, h3, h4⟩ := h
  exact ⟨hs, h1.below hb hB, h2, fun i x xs e1 e2 => (h3 i x xs e1 e2).below hb hB, h4⟩
theorem BldG.keep {row : Option Nat} (h : BldG E er e base rb tp w v xss) (hg : w.grownBy w' row) (hv : v.ownBlock = none ∨ v.ownBlock ≠ row) (hr : ∀ k, row = some k → k < rb ∨ tp ≤ k) : BldG E er e base rb tp w' v xss := by
  obtain ⟨hs, h1, h2, h3, h4⟩ := h
  refine ⟨hs, h1.keep hg hv, h2, fun i x xs e1 e2 => ?_, h4⟩
  have h5 := h3 i x xs e1 e2
  refine h5.keep hg ?_
  cases hb : x.val.ownBlock with
  | none => exact .inl rfl
  | some k =>
    right
    intro hh
    have h6 := hr k hh.symm
    have h7 := (h5.1.lt k hb).1
    have h8 := h5.2 k hb
    omega
theorem BldG.empty (hv : v = .slice (some ⟨B, 0, none⟩) 0 0) (ho : Own eS e base w v []) (ht : B < tp) : BldG E er e base rb tp w v ([] : List (List α)) := by
  subst hv
  exact ⟨[], ⟨ho, fun k hk => by cases hk; exact ht⟩, rfl, fun i h xs e1 => by simp at e1, fun i h e1 => by simp at e1, fun i j h h' _ e1 => by simp at e1⟩
theorem BldG.size (h : BldG E er e base rb tp w v xss) (ht : w.heap.size ≤ tp) : BldG E er e base rb w.heap.size w v xss := by
  obtain ⟨hs, h1, h2, h3, h4⟩ := h
  exact ⟨hs, h1.1.top, h2, fun i x xs e1 e2 => (h3 i x xs e1 e2).1.top, h4⟩
theorem BldG.sep {r : Option Nat} (h : BldG E er e base rb tp w v xss) (hr : ∀ k, r = some k → tp ≤ k) : v.ownBlock = none ∨ v.ownBlock ≠ r := by
  obtain ⟨hs, h1, _⟩ := h
  cases hb : v.ownBlock with
  | none => exact .inl rfl
  | some k =>
    right
    intro hh
    have := hr k hh.symm
    have := h1.2 k hb
    omega
theorem BldG.drewN (h : BldG E er e base rb tp w v xss) (m : Nat) : BldG E er e base rb tp (w.drewN m) v xss := h
theorem BldG.shape (h : BldG E er e base rb tp w v xss) : ∃ ao cap, v = .slice ao xss.length cap := by
  obtain ⟨hs, h1, h2, _⟩ := h
  rw [← h2]
  exact h1.1.shape
/-- one row more -/
theorem BldG.app (h : BldG E er e base rb tp w v xss) (hu : Own E er tp w u xs) (hrb : rb ≤ tp) (htp : tp ≤ w.heap.size) :
    ∃ (hs : List SlV) (x : SlV), x.val = u ∧ eS.ok x ∧ hs.length = xss.length ∧ Own eS e base w v hs ∧
      ∀ w' v', Own eS e base w' v' (hs ++ [x]) → Grew w w' v v' → BldG E er e base rb w'.heap.size w' v' (xss ++ [xs]) := by
  obtain ⟨hs, h1, h2, h3, h4, h5⟩ := h
  obtain ⟨ao, c, hu2⟩ := hu.shape
  refine ⟨hs, ⟨ao, xs.length, c⟩, hu2.symm, trivial, h2, h1.1, fun w' v' ho hg => ?_⟩
  have hval : SlV.val ⟨ao, xs.length, c⟩ = u := hu2.symm
  have hul := hu.lt
  have hvu : Apart v u := fun g h6 h7 => by have := hul g h7; have := h1.2 g h6; omega
  have hrl : ∀ (i : Nat) (x : SlV), hs[i]? = some x → ∀ k, x.val.ownBlock = some k → k < tp := by
    intro i x e1 k hk
    have hi : i < xss.length := by rw [← h2]; exact at_lt e1
    exact (h3 i x (xss[i]'hi) e1 (List.getElem?_eq_getElem hi)).2 k hk
  have hnew : ∀ (y : Value), (∀ k, y.ownBlock = some k → k < w.heap.size) → Apart v y → Apart v' y := by
    intro y hy ha g h6 h7
    rcases hg.2 with h8 | ⟨k, h8, h9⟩
    · exact ha g (by rw [← h8]; exact h6) h7
    · have := hy g h7
      rw [h6] at h8
      cases h8
      omega
  have hrow : ∀ (i : Nat) (x : SlV), hs[i]? = some x → Apart x.val u := fun i x e1 g h6 h7 => by
    have := hul g h7
    have := hrl i x e1 g h6
    omega
  have hsz := hg.1.size
  refine ⟨hs ++ [⟨ao, xs.length, c⟩], ho.top, by simp [h2], ?_, ?_, ?_⟩
  · intro i x ys e1 e2
    rcases Nat.lt_or_ge i hs.length with hi | hi
    · rw [List.getElem?_append_left hi] at e1
      rw [List.getElem?_append_left (by omega)] at e2
      exact ((h3 i x ys e1 e2).keep hg.1 (h4 i x e1).kept).mono (by omega)
    · rw [List.getElem?_append_right hi] at e1
      rw [List.getElem?_append_right (by omega)] at e2
      have h0 : i - hs.length = 0 := by have := at_lt e1; simp at this; omega
      rw [h0] at e1
      rw [show i - xss.length = 0 by omega] at e2
      cases e1; cases e2
      rw [hval]
      exact (((hu.mono hrb).kept hg.1 hvu.kept).top)
  · intro i x e1
    rcases Nat.lt_or_ge i hs.length with hi | hi
    · rw [List.getElem?_append_left hi] at e1
      exact hnew _ (fun k hk => by have := hrl i x e1 k hk; omega) (h4 i x e1)
    · rw [List.getElem?_append_right hi] at e1
      have h0 : i - hs.length = 0 := by have := at_lt e1; simp at this; omega
      rw [h0] at e1
      cases e1
      rw [hval]
      exact hnew _ (fun k hk => (hul k hk).2) hvu
  · intro i j x y hij e1 e2
    rcases Nat.lt_or_ge i hs.length with hi | hi
    · rw [List.getElem?_append_left hi] at e1
      rcases Nat.lt_or_ge j hs.length with hj | hj
      · rw [List.getElem?_append_left hj] at e2
        exact h5 i j x y hij e1 e2
      · rw [List.getElem?_append_right hj] at e2
        have h0 : j - hs.length = 0 := by have := at_lt e2; simp at this; omega
        rw [h0] at e2
        cases e2
        rw [hval]
        exact hrow i x e1
    · rw [List.getElem?_append_right hi] at e1
      have h0 : i - hs.length = 0 := by have := at_lt e1; simp at this; omega
      rw [h0] at e1
      cases e1
      rcases Nat.lt_or_ge j hs.length with hj | hj
      · rw [List.getElem?_append_left hj] at e2
        rw [hval]
        intro g h6 h7
        exact hrow j y e2 g h7 h6
      · have := at_lt e2
        simp at this
        omega
end
theorem BldG.toM {e : TypeId} {base rb tp : Nat} {w : World} {v : Value} {xss : List (List Int)} (h : BldG eI 2 e base rb tp w v xss) (hr : base ≤ rb) : OwnTM e base tp w v xss := by
  obtain ⟨hs, h1, h2, h3, h4⟩ := h
  exact ⟨hs, h1, h2, fun i x xs e1 e2 => ⟨(h3 i x xs e1 e2).1.mono hr, (h3 i x xs e1 e2).2⟩, h4⟩
end Go.Proofs.YtahkkdkdaedioaaDoor
