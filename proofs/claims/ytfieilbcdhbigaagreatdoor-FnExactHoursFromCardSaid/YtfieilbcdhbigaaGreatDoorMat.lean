/- Slices of slices of numbers in the laws' helpers. No condition. -/
import Derived.Test.YtfieilbcdhbigaaGreatDoorStr
import Derived.Test.YtfieilbcdhbigaaGreatDoorInts
import Derived.Deep.Matrix
namespace Go.Proofs.YtfieilbcdhbigaaGreatDoor
open Go.ChangeShapes Go.WideShapes Go.ChangeAt Go.RowKit
set_option linter.unusedVariables false
set_option maxRecDepth 100000
/-- a row's header -/
structure SlV where
  ao : Option Addr
  n : Nat
  cap : Nat
def SlV.val (h : SlV) : Value := .slice h.ao h.n h.cap
def eS : Elt SlV := { sz := 1, cells := fun h => [h.val], ok := fun _ => True, len := fun _ => rfl, one := fun x u hu => by simp at hu; subst hu; rfl }
/-- A [][]int64 that reads as xss. -/
def RdInt64SS (B : Nat) (w : World) (v : Value) (xss : List (List Int)) : Prop :=
  ∃ hs, Rds eS B w v hs ∧ hs.length = xss.length ∧ ∀ (i : Nat) (h : SlV) (xs : List Int), hs[i]? = some h → xss[i]? = some xs → RdI B w h.val xs
theorem RdInt64SS.below {B B' : Nat} {w w' : World} {v : Value} {xss : List (List Int)} (h : RdInt64SS B w v xss) (hb : Below B' w w') (hB : B ≤ B') : RdInt64SS B w' v xss := by
  obtain ⟨hs, h1, h2, h3⟩ := h
  exact ⟨hs, h1.below hb hB, h2, fun i h xs e1 e2 => (h3 i h xs e1 e2).below hb hB⟩
theorem RdInt64SS.mono {B B' : Nat} {w : World} {v : Value} {xss : List (List Int)} (h : RdInt64SS B w v xss) (hB : B ≤ B') : RdInt64SS B' w v xss := by
  obtain ⟨hs, h1, h2, h3⟩ := h
  exact ⟨hs, h1.mono hB, h2, fun i h xs e1 e2 => (h3 i h xs e1 e2).mono hB⟩
theorem RdInt64SS.tight {B : Nat} {w : World} {v : Value} {xss : List (List Int)} (h : RdInt64SS B w v xss) : RdInt64SS w.heap.size w v xss := by
  obtain ⟨hs, h1, h2, h3⟩ := h
  exact ⟨hs, h1.tight, h2, fun i h xs e1 e2 => (h3 i h xs e1 e2).tight⟩
theorem RdInt64SS.onn {B : Nat} {w w' : World} {v : Value} {xss : List (List Int)} (h : RdInt64SS B w v xss) (hb : Below w.heap.size w w') : RdInt64SS w'.heap.size w' v xss := (h.tight.below hb (Nat.le_refl _)).mono hb.size
theorem RdInt64SS.le {B : Nat} {w : World} {v : Value} {xss : List (List Int)} (h : RdInt64SS B w v xss) : xss.length ≤ 9223372036854775807 := by
  obtain ⟨hs, h1, h2, _⟩ := h
  rw [← h2]; exact h1.le
theorem RdInt64SS.shape {B : Nat} {w : World} {v : Value} {xss : List (List Int)} (h : RdInt64SS B w v xss) : ∃ ao cap, v = .slice ao xss.length cap := by
  obtain ⟨hs, h1, h2, _⟩ := h
  rw [← h2]; exact h1.shape
theorem RdInt64SS.open {B : Nat} {w : World} {v : Value} {xss : List (List Int)} (h : RdInt64SS B w v xss) : ∃ ao cap, v = .slice ao xss.length cap ∧
    (0 < xss.length → ∃ b off, ao = some ⟨b, off, none⟩ ∧ (b < B ∧ b < w.heap.size) ∧ ∀ k, k < xss.length → ∃ xs ro rc, xss[k]? = some xs ∧ w.cell? ⟨b, off + k, none⟩ = some (.slice ro xs.length rc) ∧ RdI B w (.slice ro xs.length rc) xs) := by
  obtain ⟨hs, h1, h2, h3⟩ := h
  rcases Rds.cases h1 with ⟨h0, ao, cap, rfl, _⟩ | ⟨b, off, cap, rfl, hlt, hc⟩
  · have : xss.length = 0 := by rw [← h2, h0]; rfl
    exact ⟨ao, cap, by rw [this], fun h => by omega⟩
  · refine ⟨_, cap, by rw [h2], fun _ => ⟨b, off, rfl, hlt, fun k hk => ?_⟩⟩
    have e1 : hs[k]? = some (hs[k]'(by omega)) := List.getElem?_eq_getElem (by omega)
    have e2 : xss[k]? = some xss[k] := List.getElem?_eq_getElem hk
    generalize hs[k]'(by omega) = h at e1
    generalize xss[k] = xs at e2
    have h4 := h3 k h xs e1 e2
    obtain ⟨ao, cp, hs4⟩ := h4.shape
    have h5 := (hc k h e1).2 0 (by decide)
    refine ⟨xs, ao, cp, e2, ?_, by rw [← hs4]; exact h4⟩
    have h6 : w.cell? ⟨b, off + (k * 1 + 0), none⟩ = some h.val := h5
    rw [Nat.mul_one, Nat.add_zero, hs4] at h6
    exact h6
def szInt64SS (x : List (List Int)) : Int := x.length + sumBy (fun r => (r.length : Int)) x
theorem szInt64SS_nonneg (x : List (List Int)) : 0 ≤ szInt64SS x := by unfold szInt64SS; have := sumBy_nonneg (f := fun r : List Int => (r.length : Int)) (fun r => by omega) x; omega
theorem szInt64SS_len (x : List (List Int)) : (x.length : Int) ≤ szInt64SS x := by unfold szInt64SS; have := sumBy_nonneg (f := fun r : List Int => (r.length : Int)) (fun r => by omega) x; omega
def cntInt64SS (x : List (List Int)) : Nat := (sumBy (fun r => (r.length : Int)) x).toNat
theorem cntInt64SS_le (x : List (List Int)) : (cntInt64SS x : Int) ≤ 16 * szInt64SS x := by unfold szInt64SS cntInt64SS; have := sumBy_nonneg (f := fun r : List Int => (r.length : Int)) (fun r => by omega) x; omega
end Go.Proofs.YtfieilbcdhbigaaGreatDoor
