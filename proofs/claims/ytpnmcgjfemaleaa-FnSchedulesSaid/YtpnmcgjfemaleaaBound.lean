/- The bound of a schedule: the program's. No condition. -/
import Derived.Test.YtpnmcgjfemaleaaJob
import Derived.Test.YtpnmcgjfemaleaaMinL
import Derived.Test.YtpnmcgjfemaleaaMatO
namespace Go.Proofs.Ytpnmcgjfemaleaa
open Go.ChangeShapes Go.WideShapes Go.ChangeAt Go.RowKit
set_option linter.unusedVariables false
set_option maxRecDepth 100000
theorem Apart.symm {v v' : Value} (h : Apart v v') : Apart v' v := fun g h1 h2 => h g h2 h1
theorem Apart.grew {w w' : World} {v v' u : Value} (h : Apart v u) (hg : Grew w w' v v') (hu : ∀ k, u.ownBlock = some k → k < w.heap.size) : Apart v' u := by
  intro g h1 h2
  rcases hg.2 with h3 | ⟨k, h3, h4⟩
  · exact h g (by rw [← h3]; exact h1) h2
  · have := hu g h2
    rw [h1] at h3
    injection h3 with h3
    omega
def rowI (xss : List (List Int)) (i : Nat) : List Int := xss.getD i []
theorem rowI_of {xss : List (List Int)} {i : Nat} {x : List Int} (h : xss[i]? = some x) : rowI xss i = x := by unfold rowI; rw [List.getD_eq_getElem?_getD, h]; rfl
def bef (xss : List (List Int)) (k i : Nat) : Int := sumI ((rowI xss i).take k)
def beh (xss : List (List Int)) (k i : Nat) : Int := sumI ((rowI xss i).drop (k + 1))
def colT (xss : List (List Int)) (k : Nat) : Nat → Int
  | 0 => 0
  | i + 1 => colT xss k i + atI (rowI xss i) k
def mx (g : Nat → Int) : Nat → Int
  | 0 => 0
  | k + 1 => max (mx g k) (g k)
def bnd (xss : List (List Int)) (k : Nat) : Int := mn (bef xss k) xss.length + colT xss k xss.length + mn (beh xss k) xss.length
def SBV (xss : List (List Int)) : Int := if validJ xss = true then mx (bnd xss) (colsJ xss) else 0
def SBC (xss : List (List Int)) : Int := if validJ xss = true then 0 else 1
def cf (f : Nat → Int) (m : Nat) : List Int := (List.range m).map f
theorem cf_length (f : Nat → Int) (m : Nat) : (cf f m).length = m := by simp [cf]
theorem cf_get {f : Nat → Int} {m j : Nat} (h : j < m) : (cf f m)[j]? = some (f j) := by simp [cf, h]
theorem cf_snoc (f : Nat → Int) (m : Nat) : cf f (m + 1) = cf f m ++ [f m] := by simp [cf, List.range_succ]
theorem atI_cf {f : Nat → Int} {m j : Nat} (h : j < m) : atI (cf f m) j = f j := atI_of (cf_get h)
theorem sum_range {xs : List Int} {M : Int} (hM : 0 ≤ M) (h : ∀ x ∈ xs, 0 ≤ x ∧ x ≤ M) (hl : xs.length ≤ 4) : 0 ≤ sumI xs ∧ sumI xs ≤ 4 * M := by
  have h1 := sumI_nonneg fun y hy => (h y hy).1
  have h2 := sumI_le hM fun y hy => (h y hy).2
  refine ⟨h1, Int.le_trans h2 ?_⟩
  exact Int.mul_le_mul_of_nonneg_right (by omega) hM
theorem colT_bound {xss : List (List Int)} {k : Nat} (h : ∀ r ∈ xss, ∀ x ∈ r, 0 ≤ x ∧ x ≤ 1000) : ∀ i, 0 ≤ colT xss k i ∧ colT xss k i ≤ i * 1000 := by
  intro i
  induction i with
  | zero => simp [colT]
  | succ i ih =>
    have : 0 ≤ atI (rowI xss i) k ∧ atI (rowI xss i) k ≤ 1000 := by
      unfold atI rowI
      rw [List.getD_eq_getElem?_getD, List.getD_eq_getElem?_getD]
      cases hr : xss[i]? with
      | none => simp
      | some r =>
        show 0 ≤ (r[k]?).getD 0 ∧ (r[k]?).getD 0 ≤ 1000
        cases hx : r[k]? with
        | none => simp
        | some x => exact h r (List.mem_of_getElem? hr) x (List.mem_of_getElem? hx)
    show 0 ≤ colT xss k i + _ ∧ colT xss k i + _ ≤ _
    omega
theorem bef_bound {xss : List (List Int)} (h : validJ xss = true) (k i : Nat) : 0 ≤ bef xss k i ∧ bef xss k i ≤ 4000 := by
  obtain ⟨_, h2, h3⟩ := validJ_parts h
  unfold bef rowI
  rw [List.getD_eq_getElem?_getD]
  cases hr : xss[i]? with
  | none => simp [sumI]
  | some r =>
    have h4 := h3 r (List.mem_of_getElem? hr)
    show 0 ≤ sumI (r.take k) ∧ sumI (r.take k) ≤ 4000
    have := sum_range (xs := r.take k) (M := 1000) (by omega) (fun x hx => h4.2 x (List.mem_of_mem_take hx)) (by rw [List.length_take]; omega)
    omega
theorem beh_bound {xss : List (List Int)} (h : validJ xss = true) (k i : Nat) : 0 ≤ beh xss k i ∧ beh xss k i ≤ 4000 := by
  obtain ⟨_, h2, h3⟩ := validJ_parts h
  unfold beh rowI
  rw [List.getD_eq_getElem?_getD]
  cases hr : xss[i]? with
  | none => simp [sumI]
  | some r =>
    have h4 := h3 r (List.mem_of_getElem? hr)
    show 0 ≤ sumI (r.drop (k + 1)) ∧ sumI (r.drop (k + 1)) ≤ 4000
    have := sum_range (xs := r.drop (k + 1)) (M := 1000) (by omega) (fun x hx => h4.2 x (List.mem_of_mem_drop hx)) (by rw [List.length_drop]; omega)
    omega
theorem bnd_bound {xss : List (List Int)} (h : validJ xss = true) (k : Nat) : 0 ≤ bnd xss k ∧ bnd xss k ≤ 16000 := by
  obtain ⟨h1, h2, h3⟩ := validJ_parts h
  have e1 := mn_bound (f := bef xss k) (lo := 0) (hi := 4000) (n := xss.length) (by omega) (fun i _ => bef_bound h k i)
  have e2 := mn_bound (f := beh xss k) (lo := 0) (hi := 4000) (n := xss.length) (by omega) (fun i _ => beh_bound h k i)
  have e3 := colT_bound (xss := xss) (k := k) (fun r hr => (h3 r hr).2) xss.length
  unfold bnd
  omega
theorem mx_bound {g : Nat → Int} {M : Int} (hM : 0 ≤ M) (h : ∀ k, 0 ≤ g k ∧ g k ≤ M) : ∀ k, 0 ≤ mx g k ∧ mx g k ≤ M := by
  intro k
  induction k with
  | zero => exact ⟨Int.le_refl _, hM⟩
  | succ k ih =>
    have := h k
    show 0 ≤ max _ _ ∧ max _ _ ≤ M
    omega
end Go.Proofs.Ytpnmcgjfemaleaa
