/- The fewest faults: plain laws. No condition. -/
import Derived.Test.YtahkkdkdaedioaaDoorDiaQ
namespace Go.Proofs.YtahkkdkdaedioaaDoor
open Go.ChangeShapes Go.WideShapes Go.ChangeAt Go.RowKit
set_option linter.unusedVariables false
set_option maxRecDepth 100000
theorem expl0 (xs : List Int) (r : ReportT) : explF xs r 0 = if repOf xs = r then [[]] else [] := by unfold explF; rw [if_pos rfl]
theorem expl1 (xs : List Int) (r : ReportT) : explF xs r 1 = (sglF xs r).map fun f => [f] := by unfold explF; rw [if_neg (by decide), if_pos rfl]
theorem expl2 (xs : List Int) (r : ReportT) : explF xs r 2 = pairsF xs r := by unfold explF; rw [if_neg (by decide), if_neg (by decide)]
theorem few_same {xs : List Int} {r : ReportT} (h : amtOk xs = true) (e : repOf xs = r) : fewF xs r = ([[]], 0) := by
  have hr : ¬ (isRep r = false) := by rw [← e, repOf_isRep h]; simp
  unfold fewF
  rw [if_neg hr, expl0, if_pos e]
  simp
theorem few_big {xs : List Int} {r : ReportT} (h : isRep r = false) : fewF xs r = ([], 0) := by
  unfold fewF
  rw [if_pos h]
theorem few_sgl {xs : List Int} {r : ReportT} (h : isRep r = true) (e : ¬ repOf xs = r) (hs : sglF xs r ≠ []) : fewF xs r = ((sglF xs r).map (fun f => [f]), 1) := by
  unfold fewF
  rw [if_neg (by rw [h]; simp), expl0, if_neg e, expl1]
  rw [if_neg (by simp), if_pos (by simpa using hs)]
theorem few_pair {xs : List Int} {r : ReportT} (h : isRep r = true) (e : ¬ repOf xs = r) (hs : sglF xs r = []) : fewF xs r = (pairsF xs r, if pairsF xs r = [] then 0 else 2) := by
  unfold fewF
  rw [if_neg (by rw [h]; simp), expl0, if_neg e, expl1, hs, expl2]
  rw [if_neg (by simp), if_neg (by simp)]
  by_cases hp : pairsF xs r = []
  · rw [hp]; simp
  · rw [if_pos hp, if_neg hp]
theorem pairs_two {xs : List Int} {r : ReportT} {k : Nat} : ∀ p ∈ pairsK xs r k, p.length = 2 := by
  intro p hp
  unfold pairsK pairK at hp
  simp only [List.mem_flatMap, List.mem_map] at hp
  obtain ⟨i, _, j, _, rfl⟩ := hp
  rfl
/-- each explanation with the fewest faults has as many -/
theorem few_len (xs : List Int) (r : ReportT) : ∀ p ∈ (fewF xs r).1, (p.length : Int) = (fewF xs r).2 := by
  unfold fewF
  split
  · intro p hp; cases hp
  · split
    · rw [expl0]
      split
      · intro p hp; simp at hp; rw [hp]; rfl
      · intro p hp; cases hp
    · split
      · rw [expl1]
        intro p hp
        simp only [List.mem_map] at hp
        obtain ⟨f, _, rfl⟩ := hp
        rfl
      · split
        · rw [expl2]
          intro p hp
          rw [pairs_two p hp]; rfl
        · intro p hp; cases hp
/-- the first explanation, how many there are, whether there is one -/
def fewA (xs : List Int) (r : ReportT) : List FaultT := (fewF xs r).1.headD []
def fewN (xs : List Int) (r : ReportT) : Int := (fewF xs r).1.length
def fewB (xs : List Int) (r : ReportT) : Bool := !(fewF xs r).1.isEmpty
theorem few_count {xs : List Int} {r : ReportT} (h : fewB xs r = true) : ((fewA xs r).length : Int) = (fewF xs r).2 := by
  have hl := few_len xs r
  unfold fewB at h
  unfold fewA
  cases hf : (fewF xs r).1 with
  | nil => rw [hf] at h; cases h
  | cons p ps => rw [hf] at hl; exact hl p (by simp)
/-- the singles among the first k, as the reference asks -/
def wantK (xs : List Int) (r : ReportT) (k : Nat) : List FaultT := ((allF xs).take k).filter fun f => chgF xs f == lessW r (repOf xs)
theorem wantK_zero (xs : List Int) (r : ReportT) : wantK xs r 0 = [] := rfl
theorem wantK_succ {xs : List Int} {r : ReportT} {k : Nat} {f : FaultT} (h : (allF xs)[k]? = some f) : wantK xs r (k + 1) = wantK xs r k ++ (if (chgF xs f == lessW r (repOf xs)) = true then [f] else []) := by
  unfold wantK
  rw [take_snoc h, List.filter_append]
  cases hz : (chgF xs f == lessW r (repOf xs)) <;> simp [hz]
theorem wantK_full {xs : List Int} {r : ReportT} {k : Nat} (h : amtOk xs = true) (hr : okReport r) (hk : k = (allF xs).length) : wantK xs r k = sglF xs r := by
  rw [sgl_want h hr, hk]
  unfold wantK
  rw [List.take_length]
theorem wantK_len (xs : List Int) (r : ReportT) (k : Nat) : (wantK xs r k).length ≤ k := by
  unfold wantK
  exact Nat.le_trans (List.length_filter_le _ _) (by rw [List.length_take]; omega)
theorem headD_app {α : Type} (a b : List α) (d : α) (h : a ≠ []) : (a ++ b).headD d = a.headD d := by
  cases a with
  | nil => exact absurd rfl h
  | cons x xs => rfl
theorem pairs_before {xs : List Int} {i k : Nat} {f g : FaultT} (hi : (allF xs)[i]? = some f) (hk : (allF xs)[k]? = some g) (h : i < k) : f.card ≤ g.card := by
  have hp := allK_cards xs xs.length
  rw [List.pairwise_iff_getElem] at hp
  have h1 := at_lt hi
  have h2 := at_lt hk
  have h3 := hp i k h1 h2 h
  have e1 : (allK xs xs.length)[i] = f := by have := List.getElem?_eq_getElem h1; exact Option.some.inj (this.symm.trans hi)
  have e2 : (allK xs xs.length)[k] = g := by have := List.getElem?_eq_getElem h2; exact Option.some.inj (this.symm.trans hk)
  rw [e1, e2] at h3
  exact h3
/-- what FewestFaults and Diagnose return -/
def ffA (xs : List Int) (r : ReportT) : Int := if amtOk xs = true then (if fewB xs r = true then (fewF xs r).2 else 0) else 0
def ffC (xs : List Int) (r : ReportT) : Int := if amtOk xs = true then (if fewB xs r = true then 0 else 3) else 1
def dgA (xs : List Int) (r : ReportT) : List FaultT := if amtOk xs = true then (if fewB xs r = true then fewA xs r else []) else []
def dgN (xs : List Int) (r : ReportT) : Int := if amtOk xs = true then (if fewB xs r = true then fewN xs r else 0) else 0
theorem fewA_len (xs : List Int) (r : ReportT) : (fewA xs r).length ≤ 2 := by
  unfold fewA
  cases hf : (fewF xs r).1 with
  | nil => simp
  | cons p ps =>
    have h := few_len xs r p (by rw [hf]; simp)
    have h2 : (fewF xs r).2 ≤ 2 := by
      unfold fewF
      split
      · show (0 : Int) ≤ 2; omega
      · split
        · show (0 : Int) ≤ 2; omega
        · split
          · show (1 : Int) ≤ 2; omega
          · split
            · show (2 : Int) ≤ 2; omega
            · show (0 : Int) ≤ 2; omega
    simp only [List.headD_cons]
    omega
theorem dgA_len (xs : List Int) (r : ReportT) : (dgA xs r).length ≤ 2 := by
  unfold dgA
  split
  · split
    · exact fewA_len xs r
    · simp
  · simp
end Go.Proofs.YtahkkdkdaedioaaDoor
