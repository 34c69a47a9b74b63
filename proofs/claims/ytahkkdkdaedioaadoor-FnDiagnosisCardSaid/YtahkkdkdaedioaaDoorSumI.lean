/- The sum of numbers. No condition. -/
import Derived.Test.YtahkkdkdaedioaaDoorSmall
import Derived.Test.YtahkkdkdaedioaaDoorBase
namespace Go.Proofs.YtahkkdkdaedioaaDoor
open Go.ChangeShapes Go.WideShapes Go.ChangeAt Go.RowKit
set_option linter.unusedVariables false
set_option maxRecDepth 100000
def sumI (xs : List Int) : Int := xs.foldr (fun x s => x + s) 0
theorem sumI_nil : sumI [] = 0 := rfl
theorem sumI_cons (x : Int) (xs : List Int) : sumI (x :: xs) = x + sumI xs := rfl
theorem sumI_append (xs ys : List Int) : sumI (xs ++ ys) = sumI xs + sumI ys := by
  induction xs with
  | nil => simp [sumI_nil]
  | cons x xs ih => rw [List.cons_append, sumI_cons, sumI_cons, ih]; omega
theorem sumI_snoc (xs : List Int) (x : Int) : sumI (xs ++ [x]) = sumI xs + x := by rw [sumI_append, sumI_cons, sumI_nil]; omega
theorem sumI_nonneg {xs : List Int} (h : ∀ x ∈ xs, 0 ≤ x) : 0 ≤ sumI xs := by
  induction xs with
  | nil => simp [sumI_nil]
  | cons x xs ih =>
    rw [sumI_cons]
    have := h x (List.mem_cons_self ..)
    have := ih fun y hy => h y (List.mem_cons_of_mem _ hy)
    omega
theorem sumI_le {xs : List Int} {M : Int} (hM : 0 ≤ M) (h : ∀ x ∈ xs, x ≤ M) : sumI xs ≤ xs.length * M := by
  induction xs with
  | nil => simp [sumI_nil]
  | cons x xs ih =>
    rw [sumI_cons, List.length_cons]
    have := h x (List.mem_cons_self ..)
    have := ih fun y hy => h y (List.mem_cons_of_mem _ hy)
    have e : ((xs.length + 1 : Nat) : Int) * M = xs.length * M + M := by rw [Int.natCast_add, Int.add_mul]; simp
    omega
end Go.Proofs.YtahkkdkdaedioaaDoor
