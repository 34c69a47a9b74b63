/- Slices of structs that hold structs, as they come in. No condition. -/
import Derived.Test.YtfieilbcdhbigaaGreatDoorStr
namespace Go.Proofs.YtfieilbcdhbigaaGreatDoor
open Go.ChangeShapes Go.WideShapes Go.ChangeAt Go.RowKit Go.Deep
set_option linter.unusedVariables false
set_option maxRecDepth 100000
section
variable {H : Type} {enc : TypeId × Value → H} {P : Program} {w : World}
/-- a struct's fields, each read at its place -/
theorem trod_fields {base : Nat} {spare : Nat → Bool} {held : Bool} {n : Nat} {t : TypeId} {fs : Array Field} {cs : List Value} {y : DataW H × List MemPlace} (ht : P.underlying t = some (.struct fs))
    (L : List (TypeId × Nat × Nat)) (hL : fs.toList.map (fun f => (f.type, f.offset, P.cellsOf f.type)) = L) (h : DataW.trod enc P w base spare held n t cs = some y) :
    ∃ m, ∀ (i : Nat) (a : TypeId) (o c : Nat), L[i]? = some (a, o, c) → ∃ z, DataW.trod enc P w base spare held m a ((cs.drop o).take c) = some z := by
  obtain ⟨ys, m, _, _, _, hl, hq⟩ := DataW.trod_struct ht h
  refine ⟨m, fun i a o c hi => ?_⟩
  rw [← hL, List.getElem?_map] at hi
  cases hf : fs.toList[i]? with
  | none => rw [hf] at hi; cases hi
  | some f =>
    rw [hf] at hi
    cases hi
    have hf' : fs[i]? = some f := by rw [← Array.getElem?_toList]; exact hf
    have hlt : i < fs.size := (Array.getElem?_eq_some_iff.1 hf').1
    have h1 := hq i f hf'
    rw [List.getElem?_eq_getElem (by omega)] at h1
    exact ⟨_, h1⟩
/-- a slice of elements of any cells that came in -/
theorem open_rdF {α : Type} {E : Elt α} {t e : TypeId} {v : Value} {fuel : Nat} {y : DataW H × List MemPlace} (ht : P.underlying t = some (.slice e)) (hC : P.cellsOf e = E.sz)
    (hin : ∀ (n : Nat) (vs : List Value) (y : DataW H × List MemPlace), vs.length = E.sz → DataW.trod enc P w 0 (fun _ => true) true n e vs = some y → ∃ x, E.cells x = vs ∧ E.ok x)
    (hz : 0 < E.sz) (hf : DataW.trod enc P w 0 (fun _ => true) true fuel t [v] = some y) :
    ∃ xs, Rds E w.heap.size w v xs := by
  rcases open_slice ht hf with ⟨hcs, hx⟩ | ⟨a', len, cap, m, n, D, Pl, hcs, _, hl, hm, hmm, hx, hi⟩
  · injection hcs with h1 _
    subst h1
    exact ⟨[], Rds.nil _ _ _⟩
  · injection hcs with h1 _
    subst h1
    simp only [if_true] at hmm
    subst hmm
    have key : ∀ i, i < len → ∃ x, E.ok x ∧ ∀ j, j < E.sz → w.cell? (a'.add (i * E.sz + j)) = (E.cells x)[j]? := by
      intro i hi'
      obtain ⟨vs, hc, htr⟩ := hi i (by omega)
      rw [hC] at hc
      obtain ⟨_, hvl, hvs⟩ := World.cells?_some hc
      obtain ⟨x, hx1, hx2⟩ := hin n vs _ hvl htr
      refine ⟨x, hx2, fun j hj' => ?_⟩
      rw [hx1, ← hvs j hj', Go.Deep.add_add]
    obtain ⟨xs, hxl, hxs⟩ := list_of len key
    have hmx : len ≤ 9223372036854775807 := by unfold maxLen at hm; omega
    refine ⟨xs, ⟨⟨E.all_length _, by rw [hxl]; exact hmx, ?_⟩, fun x hx' => ?_⟩⟩
    · rw [hxl]
      cases len with
      | zero => exact .inl ⟨rfl, _, _, rfl, fun h => by cases h⟩
      | succ n =>
        obtain ⟨b, off, spot⟩ := a'
        have hx0 : xs[0]? = some (xs[0]'(by omega)) := by simp [hxl]
        have h0 := (hxs 0 _ hx0).2 0 hz
        have hc0 : (E.cells (xs[0]'(by omega)))[0]? = some ((E.cells (xs[0]'(by omega)))[0]'(by rw [E.len]; exact hz)) := by simp [E.len, hz]
        rw [hc0] at h0
        have hspot : spot = none := by
          cases spot with
          | none => rfl
          | some s =>
            simp only [Addr.add, if_true, World.cell?] at h0
            split at h0 <;> simp at h0
        subst hspot
        have hb0 : b < w.heap.size := by rw [Addr.add_lit] at h0; exact World.block_lt_of_cell? w _ h0
        refine .inr ⟨b, off, _, rfl, ⟨hl, by unfold maxLen at hm; omega⟩, hb0, hb0, fun i hi' => ?_⟩
        have hq : i / E.sz < xs.length := by rw [hxl]; exact Nat.div_lt_of_lt_mul (by rw [Nat.mul_comm]; exact hi')
        have hi2 : i = (i / E.sz) * E.sz + i % E.sz := by have := Nat.div_add_mod i E.sz; rw [Nat.mul_comm] at this; omega
        have hxq : xs[i / E.sz]? = some (xs[i / E.sz]) := by simp [hq]
        have h3 := (hxs _ _ hxq).2 (i % E.sz) (Nat.mod_lt _ hz)
        rw [Addr.add_lit, ← hi2] at h3
        rw [h3]
        conv => rhs; rw [hi2, E.all_get hxq (Nat.mod_lt _ hz)]
    · obtain ⟨j, hj, rfl⟩ := List.mem_iff_getElem.1 hx'
      exact (hxs j _ (by simp [hj])).1
theorem open_rdG {α : Type} {E : Elt α} {r : Reach} {b0 : Nat} {t e : TypeId} {v : Value} {d : DataW H} {ps : List MemPlace} (ht : P.underlying t = some (.slice e)) (hC : P.cellsOf e = E.sz)
    (hin : ∀ (n : Nat) (vs : List Value) (y : DataW H × List MemPlace), vs.length = E.sz → DataW.trod enc P w 0 (fun _ => true) true n e vs = some y → ∃ x, E.cells x = vs ∧ E.ok x)
    (hz : 0 < E.sz) (hok : Value.okWide P w r b0 t v) (h : DataW.Trod enc P w 0 (fun _ => true) true t v d ps) :
    ∃ xs, Rds E w.heap.size w v xs := by
  obtain ⟨a, len, cap, rfl⟩ := okWide_slice ht hok
  obtain ⟨fuel, hf⟩ := h
  exact open_rdF ht hC hin hz hf
end
end Go.Proofs.YtfieilbcdhbigaaGreatDoor
