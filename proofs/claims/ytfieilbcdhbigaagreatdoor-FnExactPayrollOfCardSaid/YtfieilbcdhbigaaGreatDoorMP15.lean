/- A [][]int64 that came in. No condition. -/
import Derived.Test.YtfieilbcdhbigaaGreatDoorMP10
import Derived.Test.YtfieilbcdhbigaaGreatDoorMP6
namespace Go.Proofs.YtfieilbcdhbigaaGreatDoor
open Go.ChangeShapes Go.WideShapes Go.ChangeAt Go.RowKit Go.Deep
set_option linter.unusedVariables false
set_option maxRecDepth 100000
section
variable {H : Type} {enc : TypeId × Value → H} {P : Program}
theorem rdI_of {w : World} {A : Option Addr} {L C : Nat} {Z : List Int} (h1 : L ≤ C) (h2 : C ≤ maxLen) (h3 : Z.length = C) (h4 : ∀ n ∈ Z, (Lit.int .i64 n).wf = true) (h5 : A = none → C = 0)
    (h6 : ∀ a', A = some a' → ∀ c, c < C → w.cell? (a'.add c) = some (.int .i64 (Z.getD c 0))) : RdI w.heap.size w (.slice A L C) (Z.take L) := by
  have hlen : (Z.take L).length = L := by rw [List.length_take]; omega
  have hmx : L ≤ 9223372036854775807 := by unfold maxLen at h2; omega
  refine ⟨⟨eI.all_length _, by rw [hlen]; exact hmx, ?_⟩, fun x hx => i64_bd (h4 x (List.mem_of_mem_take hx))⟩
  rw [hlen, eI_all]
  cases L with
  | zero => exact .inl ⟨rfl, _, _, rfl, h5⟩
  | succ n =>
    cases A with
    | none => have := h5 rfl; omega
    | some a' =>
      obtain ⟨b, off, spot⟩ := a'
      have hcell := h6 _ rfl
      have h0 := hcell 0 (by omega)
      have hspot : spot = none := by
        cases spot with
        | none => rfl
        | some s =>
          simp only [Addr.add, if_true, World.cell?] at h0
          split at h0 <;> simp at h0
      subst hspot
      refine .inr ⟨b, off, C, rfl, ⟨h1, by unfold maxLen at h2; omega⟩, World.block_lt_of_cell? w _ h0, World.block_lt_of_cell? w _ h0, fun i hi => ?_⟩
      have hi' : i < n + 1 := by simpa [eI] using hi
      have hi2 : i < Z.length := by omega
      have := hcell i (by omega)
      rw [Addr.add_lit] at this
      rw [this]
      simp [hi', hi2]
/-- a [][]int64 that came in -/
theorem open_rdM {w : World} {r : Reach} {b0 : Nat} {t e q : TypeId} {v : Value} {d : DataW H} {ps : List MemPlace}
    (ht : P.underlying t = some (.slice e)) (he : P.underlying e = some (.slice q)) (hq : P.underlying q = some (.int .i64)) (ce : P.cellsOf e = 1) (cq : P.cellsOf q = 1)
    (hok : Value.okWide P w r b0 t v) (h : DataW.Trod enc P w 0 (fun _ => true) true t v d ps) :
    ∃ xss, RdInt64SS w.heap.size w v xss ∧ True := by
  obtain ⟨a, len, cap, rfl⟩ := okWide_slice ht hok
  obtain ⟨fuel, hf⟩ := h
  rcases open_int_rows ht he hq ce cq hf with ⟨hcs, hx⟩ | ⟨a', len', cap', A, L, C, Z, hcs, _, hl, hm, hx, hrow⟩
  · have hcs' : Value.slice a len cap = .slice none 0 0 := by simpa [Value.cells] using hcs
    injection hcs' with h1 h2 h3
    subst h1; subst h2; subst h3
    exact ⟨[], ⟨[], Rds.nil _ _ _, rfl, fun i h xs e1 => by simp at e1⟩, trivial⟩
  · have hcs' : Value.slice a len cap = .slice (some a') len' cap' := by simpa [Value.cells] using hcs
    injection hcs' with h1 h2 h3
    subst h1; subst h2; subst h3
    have hmx : len ≤ 9223372036854775807 := by unfold maxLen at hm; omega
    refine ⟨(List.range len).map fun r => (Z r).take (L r), ⟨(List.range len).map fun r => ⟨A r, L r, C r⟩, ⟨⟨eS.all_length _, by simpa using hmx, ?_⟩, fun x hx => trivial⟩, by simp, ?_⟩, trivial⟩
    · rw [List.length_map, List.length_range]
      cases len with
      | zero => exact .inl ⟨rfl, _, _, rfl, fun h => by cases h⟩
      | succ n =>
        obtain ⟨b, off, spot⟩ := a'
        have h0 := (hrow 0 (by omega)).1
        have hspot : spot = none := by
          cases spot with
          | none => rfl
          | some s =>
            simp only [Addr.add, if_true, World.cell?] at h0
            split at h0 <;> simp at h0
        subst hspot
        refine .inr ⟨b, off, cap, rfl, ⟨hl, by unfold maxLen at hm; omega⟩, World.block_lt_of_cell? w _ h0, World.block_lt_of_cell? w _ h0, fun i hi => ?_⟩
        have hi' : i < n + 1 := by simpa [eS] using hi
        have := (hrow i (by omega)).1
        rw [Addr.add_lit] at this
        rw [this]
        have h7 := Elt.all_get eS (xs := (List.range (n + 1)).map fun r => (⟨A r, L r, C r⟩ : SlV)) (k := i) (j := 0) (x := ⟨A i, L i, C i⟩) (by simp [hi']) (by decide)
        rw [show i * eS.sz + 0 = i from by rw [show eS.sz = 1 from rfl]; omega] at h7
        rw [h7]
        rfl
    · intro i h xs e1 e2
      rw [List.getElem?_map] at e1 e2
      by_cases hi : i < len
      · rw [List.getElem?_range hi] at e1 e2
        cases e1; cases e2
        obtain ⟨_, h2, h3, h4, h5, h6, h7⟩ := hrow i (by omega)
        exact rdI_of h2 h3 h4 h5 h6 (fun a' ha c hc => (h7 a' ha).2 c hc)
      · rw [List.getElem?_eq_none (by simp; omega)] at e1; cases e1
end
end Go.Proofs.YtfieilbcdhbigaaGreatDoor
