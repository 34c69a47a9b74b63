/- slices.Insert of one number into a slice of numbers of the call's own. No condition. -/
import Derived.Test.YtpnmcgjfemaleaaInts
import Derived.Test.YtpnmcgjfemaleaaRegL
import Derived.Laws.CopyRow
import Derived.Laws.IdiomCopy
import Derived.Lib.Overlaps
import Derived.Lib.AppendZerosOnto
import Derived.Laws.Externs
import Derived.Deep.AppendSrc
import Derived.Shelf.RegionOpenPlain
namespace Go.Proofs.Ytpnmcgjfemaleaa
open Go.ChangeShapes Go.WideShapes Go.ChangeAt Go.RowKit
set_option linter.unusedVariables false
set_option maxRecDepth 100000
theorem eI_allM (xs : List Int) : eI.all xs = xs.map (Value.int .i64) := by
  show xs.flatMap (fun x => [Value.int .i64 x]) = _
  induction xs with
  | nil => rfl
  | cons x xs ih => simp [List.flatMap_cons, ih]
theorem one_ints (ys : List Int) : ∀ v ∈ ys.map (Value.int .i64), v.oneCell' = true := by
  intro v hv
  obtain ⟨y, _, rfl⟩ := List.mem_map.1 hv
  rfl
/-- a row of the call's own, written over from a place on up to (or past) its end -/
theorem own_over {base g n cap o : Nat} {w : World} {xs ys : List Int} (h : OwnInt64S base w (.slice (some ⟨g, 0, none⟩) n cap) xs) (ho : o ≤ n) (hc : o + ys.length ≤ cap) (hge : n ≤ o + ys.length) (hok : ∀ y ∈ ys, eI.ok y) :
    OwnInt64S base (w.setCells g o (ys.map (Value.int .i64))) (.slice (some ⟨g, 0, none⟩) (o + ys.length) cap) (xs.take o ++ ys) ∧ w.grownBy (w.setCells g o (ys.map (Value.int .i64))) (some g) ∧
      (∀ j, j < ys.length → (w.cell? ⟨g, o + j, none⟩).isSome = true) ∧ (∀ j, w.frozen? ⟨g, j, none⟩ = false) := by
  rcases h.1.2 with ⟨hv, _⟩ | ⟨g', cap', cur, hv, hbg, hg, hnc, hcm, hcs, htake⟩
  · cases hv
  · injection hv with e1 e2 e3
    injection e1 with e1
    injection e1 with e1
    subst e1; subst e2; subst e3
    have hcs' : cur.size = cap := by rw [hcs]; exact Nat.mul_one _
    have htake' : List.take xs.length cur.toList = xs.map (Value.int .i64) := by rw [← eI_allM, ← htake]; congr 1; exact (Nat.mul_one _).symm
    have hs1 : ∀ j, j < ys.length → (w.cell? ⟨g, o + j, none⟩).isSome = true := by
      intro j hj
      rw [cell_of_row w g _ _ _ _ hg, Array.getElem?_eq_getElem (by omega)]
      rfl
    have hf1 : ∀ j, w.frozen? ⟨g, j, none⟩ = false := fun j => frozen_of_row w g _ _ _ hg
    have h1 := run_storeCells_cells (P := Try.prog) g 0 (ys.map (Value.int .i64)) o w (by simpa using hs1) (by simpa using fun j _ => hf1 (o + j)) (one_ints ys)
    have h2 := run_storeCells_at (P := Try.prog) g 0 2 (ys.map (Value.int .i64)) o cur w hg (by simp; omega) (one_ints ys)
    rw [h1] at h2
    injection h2 with _ h3
    rw [Nat.zero_add] at h3
    refine ⟨?_, ?_, hs1, hf1⟩
    · rw [h3]
      refine ⟨?_, ?_⟩
      · refine ⟨by rw [eI.all_length], .inr ⟨g, cap, _, ?_, hbg, setRow_heap w g cur _ 2 _ hg, ?_, hcm, ?_, ?_⟩⟩
        · rw [List.length_append, List.length_take, Nat.min_eq_left ho]
        · rw [List.length_append, List.length_take]; omega
        · simp only [List.size_toArray, List.length_append, List.length_take, List.length_drop, Array.length_toList, List.length_map]
          show _ = cap * 1
          omega
        · rw [eI_allM]
          show List.take ((xs.take o ++ ys).length * 1) _ = _
          rw [Nat.mul_one, List.map_append, List.map_take, ← htake', List.take_take, Nat.min_eq_left ho]
          have hct : cur.toList.length = cap := by rw [Array.length_toList]; exact hcs'
          refine List.take_left' ?_
          rw [List.length_append, List.length_append, List.length_take, List.length_take, List.length_map, Nat.min_eq_left (by omega), Nat.min_eq_left ho]
      · intro y hy
        rcases List.mem_append.1 hy with hy | hy
        · exact h.2 y (List.mem_of_mem_take hy)
        · exact hok y hy
    · rw [h3]
      exact ⟨rfl, rfl, rfl, by simp, fun k _ hk => setRow_other w g k _ (fun e => hk (by simp [e]))⟩
end Go.Proofs.Ytpnmcgjfemaleaa
