/- Valid layouts: in plain words, and the program's test by its contract. No condition. -/
import Derived.Test.YtfieilbcdhbigaaGreatDoorItmL
import Derived.Test.YtfieilbcdhbigaaGreatDoorFld
namespace Go.Proofs.YtfieilbcdhbigaaGreatDoor
open Go.ChangeShapes Go.WideShapes Go.ChangeAt Go.RowKit
set_option linter.unusedVariables false
set_option maxRecDepth 100000
structure ItOk (x : ItemT) (w : Int) : Prop where
  nm : nameB x.nm = true
  ff : fieldP x.ff x.ft w
  kd : x.kd = 1 ∨ x.kd = 2 ∧ x.ft - x.ff ≤ 12
instance (x : ItemT) (w : Int) : Decidable (ItOk x w) :=
  decidable_of_iff (nameB x.nm = true ∧ fieldP x.ff x.ft w ∧ (x.kd = 1 ∨ x.kd = 2 ∧ x.ft - x.ff ≤ 12)) ⟨fun ⟨a, b, c⟩ => ⟨a, b, c⟩, fun ⟨a, b, c⟩ => ⟨a, b, c⟩⟩
def itB (x : ItemT) (w : Int) : Bool := decide (ItOk x w)
theorem itB_no {x : ItemT} {w : Int} (h : ItOk x w → False) : itB x w = false := decide_eq_false h
theorem itB_yes {x : ItemT} {w : Int} (h : ItOk x w) : itB x w = true := decide_eq_true h
def meetP (x y : ItemT) : Prop := (if x.ff < y.ff then y.ff else x.ff) < (if x.ft < y.ft then x.ft else y.ft)
instance (x y : ItemT) : Decidable (meetP x y) := inferInstanceAs (Decidable ((_ : Int) < _))
/-- two items have a name or a column in common -/
def clI (x y : ItemT) : Bool := (x.nm.toList == y.nm.toList) || decide (meetP x y)
theorem meet_iff {x y : ItemT} {w : Int} (hx : fieldP x.ff x.ft w) (hy : fieldP y.ff y.ft w) : meetP x y ↔ y.ff < x.ft ∧ x.ff < y.ft := by
  obtain ⟨_, a, _⟩ := hx
  obtain ⟨_, b, _⟩ := hy
  unfold meetP
  split <;> split <;> omega
def layG (xs : List ItemT) (w : Int) (j : Nat) : Bool := match xs[j]? with
  | some x => itB x w && !((xs.take j).any (clI x))
  | none => true
def layB (w : Int) (xs : List ItemT) : Bool := decide (1 ≤ w ∧ w ≤ 20) && ((List.range xs.length).all (layG xs w) && decide (xs.length ≤ 12))
theorem layG_of {xs : List ItemT} {w : Int} {j : Nat} {x : ItemT} (h : xs[j]? = some x) : layG xs w j = (itB x w && !((xs.take j).any (clI x))) := by unfold layG; rw [h]
theorem layB_width {xs : List ItemT} {w : Int} (h : ¬ (1 ≤ w ∧ w ≤ 20)) : layB w xs = false := by unfold layB; rw [decide_eq_false h]; rfl
theorem layB_long {xs : List ItemT} {w : Int} (h : ¬ xs.length ≤ 12) : layB w xs = false := by unfold layB; rw [decide_eq_false h, Bool.and_false, Bool.and_false]
theorem layB_no {xs : List ItemT} {w : Int} {j : Nat} (hj : j < xs.length) (h : layG xs w j = false) : layB w xs = false := by
  unfold layB
  have : (List.range xs.length).all (layG xs w) = false := by
    rw [List.all_eq_false]; exact ⟨j, List.mem_range.2 hj, by rw [h]; decide⟩
  rw [this, Bool.false_and, Bool.and_false]
theorem layB_end {xs : List ItemT} {w : Int} (hw : 1 ≤ w ∧ w ≤ 20) (h : ∀ j, j < xs.length → layG xs w j = true) : layB w xs = decide (xs.length ≤ 12) := by
  unfold layB
  have : (List.range xs.length).all (layG xs w) = true := by
    rw [List.all_eq_true]; exact fun j hj => h j (List.mem_range.1 hj)
  rw [this, decide_eq_true hw]; rfl
theorem layB_parts {xs : List ItemT} {w : Int} (h : layB w xs = true) : (1 ≤ w ∧ w ≤ 20) ∧ xs.length ≤ 12 ∧ ∀ x ∈ xs, ItOk x w := by
  unfold layB at h
  rw [Bool.and_eq_true, Bool.and_eq_true, decide_eq_true_eq, decide_eq_true_eq, List.all_eq_true] at h
  refine ⟨h.1, h.2.2, fun x hx => ?_⟩
  obtain ⟨j, hj, rfl⟩ := List.mem_iff_getElem.1 hx
  have h1 := h.2.1 j (List.mem_range.2 hj)
  rw [layG_of (x := xs[j]) (by simp [hj]), Bool.and_eq_true] at h1
  exact of_decide_eq_true h1.1
/-- the place of an item; -1 if there is none -/
def idxN (xs : List ItemT) (nm : ByteArray) : Option Nat := xs.findIdx? (fun x => x.nm.toList == nm.toList)
def idxI (xs : List ItemT) (nm : ByteArray) : Int := match idxN xs nm with
  | some k => k
  | none => -1
theorem idx_found {xs : List ItemT} {nm : ByteArray} {k : Nat} {x : ItemT} (hx : xs[k]? = some x) (h : (x.nm.toList == nm.toList) = true) (hno : (xs.take k).any (fun x => x.nm.toList == nm.toList) = false) : idxI xs nm = k := by
  have hk := at_lt hx
  have h1 : idxN xs nm = some k := by
    unfold idxN
    rw [List.findIdx?_eq_some_iff_getElem]
    rw [List.getElem?_eq_getElem hk] at hx
    refine ⟨hk, by rw [Option.some.inj hx]; exact h, fun j hj => ?_⟩
    have h2 := List.any_eq_false.1 hno xs[j] (by rw [List.mem_take_iff_getElem]; exact ⟨j, by omega, rfl⟩)
    exact h2
  unfold idxI; rw [h1]
theorem idx_none {xs : List ItemT} {nm : ByteArray} (hno : xs.any (fun x => x.nm.toList == nm.toList) = false) : idxI xs nm = -1 := by
  have h1 : idxN xs nm = none := by
    unfold idxN
    rw [List.findIdx?_eq_none_iff]
    intro x hx
    have := List.any_eq_false.1 hno x hx
    simpa using this
  unfold idxI; rw [h1]
theorem idx_at {xs : List ItemT} {nm : ByteArray} (h : ¬ idxI xs nm < 0) : ∃ (k : Nat) (x : ItemT), idxI xs nm = k ∧ xs[k]? = some x := by
  unfold idxI at h ⊢
  cases hq : idxN xs nm with
  | none => rw [hq] at h; exact absurd (by decide) h
  | some k =>
    have h1 := (List.findIdx?_eq_some_iff_getElem.1 hq).1
    exact ⟨k, xs[k], rfl, by simp [h1]⟩
theorem idx_ge (xs : List ItemT) (nm : ByteArray) : -1 ≤ idxI xs nm := by
  unfold idxI
  cases idxN xs nm with
  | none => exact Int.le_refl _
  | some k => simp only; omega
end Go.Proofs.YtfieilbcdhbigaaGreatDoor
