/- The law of the pays: its plain facts, and the gross pay's contracts in one. No condition. -/
import Derived.Test.YtfhlmkeklmaedaaDoorPay
import Derived.Test.YtfhlmkeklmaedaaDoorCoins
namespace Go.Proofs.YtfhlmkeklmaedaaDoor
open Go.ChangeShapes Go.WideShapes Go.ChangeAt Go.RowKit
set_option linter.unusedVariables false
set_option maxRecDepth 100000
theorem grossF_step {r t : Int} (hr : 1 ≤ r ∧ r ≤ 10000) (hh : 0 ≤ t ∧ t < 120) : grossF r t + r ≤ grossF r (t + 1) := by
  unfold grossF
  have e1 : r * (t + 1) = r * t + r := by rw [Int.mul_add, Int.mul_one]
  have e2 : r * (t + 1 - 40) = r * (t - 40) + r := by rw [show t + 1 - 40 = (t - 40) + 1 by omega, Int.mul_add, Int.mul_one]
  by_cases h1 : t + 1 ≤ 40
  · rw [if_pos (by omega), if_pos h1, e1]; omega
  · rw [if_neg h1, e2]
    by_cases h2 : t ≤ 40
    · have : t = 40 := by omega
      subst this
      rw [if_pos h2]
      simp only [Int.sub_self, Int.mul_zero]
      omega
    · rw [if_neg h2]; omega
def GrC (r t : Int) : Int := if (1 ≤ r ∧ r ≤ 10000) ∧ (0 ≤ t ∧ t ≤ 120) then 0 else 2
def GrR (r t : Int) : Int := if (1 ≤ r ∧ r ≤ 10000) ∧ (0 ≤ t ∧ t ≤ 120) then grossF r t else 0
theorem GrC_cases {r t : Int} (h : GrC r t = 0) : (1 ≤ r ∧ r ≤ 10000) ∧ (0 ≤ t ∧ t ≤ 120) := by
  unfold GrC at h
  split at h
  · assumption
  · omega
theorem GrR_bd (r t : Int) : 0 ≤ GrR r t ∧ GrR r t ≤ 1600001 := by
  unfold GrR
  split
  · rename_i h; exact grossF_bd h.1 h.2
  · omega
theorem Gr_next {r t : Int} (h : GrC r t = 0) (ht : t < 120) : GrC r (t + 1) = 0 ∧ GrR r t + r ≤ GrR r (t + 1) := by
  have h2 := GrC_cases h
  have h3 : (1 ≤ r ∧ r ≤ 10000) ∧ (0 ≤ t + 1 ∧ t + 1 ≤ 120) := ⟨h2.1, by omega⟩
  unfold GrC GrR
  rw [if_pos h3, if_pos h2, if_pos h3]
  exact ⟨rfl, grossF_step h2.1 ⟨h2.2.1, ht⟩⟩
theorem GrossFor_c (r t : Int) (w : World) : Calls Tryd.prog 15 #[.int .i64 r, .int .i64 t] w fun e w' => e = .returned (.tuple #[.int .i64 (GrR r t), .int .i64 (GrC r t)]) ∧ w = w' := by
  unfold GrR GrC
  by_cases h : (1 ≤ r ∧ r ≤ 10000) ∧ (0 ≤ t ∧ t ≤ 120)
  · rw [if_pos h, if_pos h]; exact GrossFor_ok r t h.1 h.2 w
  · rw [if_neg h, if_neg h]; exact GrossFor_no r t (by omega) w
theorem sGrossFor_c (r t : Int) (w : World) : Calls Tryd.prog 16 #[.int .i64 r, .int .i64 t] w fun e w' => e = .returned (.tuple #[.int .i64 (GrR r t), .int .i64 (GrC r t)]) ∧ w = w' := by
  unfold GrR GrC
  by_cases h : (1 ≤ r ∧ r ≤ 10000) ∧ (0 ≤ t ∧ t ≤ 120)
  · rw [if_pos h, if_pos h]; exact sGrossFor_ok r t h.1 h.2 w
  · rw [if_neg h, if_neg h]; exact sGrossFor_no r t (by omega) w
theorem left_step {a : Int} {k : Nat} {p : Int} (h : pieces[k]? = some p) : (a - leftF a k) + (leftF a k / p) * p = a - leftF a (k + 1) := by
  rw [leftF_succ a k p h]
  rw [Int.emod_def, Int.mul_comm p]
  omega
theorem left_end (a : Int) : leftF a 12 = 0 := by
  rw [leftF_succ a 11 1 rfl]
  exact Int.emod_one _
theorem coin_at {a : Int} {k : Nat} {p : Int} (h : pieces[k]? = some p) (hk : k < 12) : (coinsF a 12)[k]? = some (leftF a k / p) := by
  unfold coinsF
  rw [List.getElem?_map, List.getElem?_range hk]
  simp [h]
theorem PayFor_facts {x : WorkerT} {h : Int} (hc : PayForC x h = 0) : (PayForR x h).net + (PayForR x h).tax = (PayForR x h).gross ∧ 0 ≤ (PayForR x h).tax ∧ 0 ≤ (PayForR x h).net ∧ (PayForR x h).hours = h ∧ (PayForR x h).gross ≤ 1600001 := by
  unfold PayForR
  rw [if_pos hc]
  unfold PayForC at hc
  split at hc
  · rename_i hv
    obtain ⟨_, hr, ht⟩ := validW_parts hv
    split at hc
    · rename_i hh
      have hg := grossF_bd hr hh
      have hb := taxF_bd hg ht
      unfold payF
      simp only
      exact ⟨by omega, hb.1, by omega, trivial, hg.2⟩
    · omega
  · omega
end Go.Proofs.YtfhlmkeklmaedaaDoor
