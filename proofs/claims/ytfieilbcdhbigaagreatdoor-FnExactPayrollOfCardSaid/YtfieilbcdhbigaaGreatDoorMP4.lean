/- Bytes in memory. No condition. -/
import Derived.Test.YtfieilbcdhbigaaGreatDoorMP2
import Derived.Test.YtfieilbcdhbigaaGreatDoorMP1
import Derived.Laws.BitsAllLaws
namespace Go.Proofs.YtfieilbcdhbigaaGreatDoor
open Go.ChangeShapes Go.WideShapes Go.ChangeAt Go.RowKit
set_option linter.unusedVariables false
set_option maxRecDepth 100000
/-- bytes -/
def eB : Elt Int := { sz := 1, cells := fun x => [.int .u8 x], ok := fun x => 0 ≤ x ∧ x ≤ 255, len := fun _ => rfl, one := fun x u hu => by simp at hu; subst hu; rfl }
theorem RdB.open {w : World} {B : Nat} {v : Value} {xs : List Int} (h : Rds eB B w v xs) : ∃ ao cap, v = .slice ao xs.length cap ∧
    (0 < xs.length → ∃ b off, ao = some ⟨b, off, none⟩ ∧ (b < B ∧ b < w.heap.size) ∧ ∀ k, k < xs.length → ∃ x, xs[k]? = some x ∧ w.cell? ⟨b, off + k, none⟩ = some (.int .u8 x) ∧ 0 ≤ x ∧ x ≤ 255) := by
  rcases h.cases with ⟨rfl, ao, cap, rfl, _⟩ | ⟨b, off, cap, rfl, hlt, hc⟩
  · exact ⟨ao, cap, rfl, fun h => absurd h (by simp)⟩
  · refine ⟨_, cap, rfl, fun _ => ⟨b, off, rfl, hlt, fun k hk => ?_⟩⟩
    obtain ⟨h1, h2⟩ := hc k xs[k] (by simp [hk])
    refine ⟨xs[k], by simp [hk], ?_, h1⟩
    have := h2 0 (by decide)
    simpa [eB] using this

end Go.Proofs.YtfieilbcdhbigaaGreatDoor
