/- A slice of numbers of the call's own, sorted. No condition. -/
import Derived.Test.YtpnmcgjfemaleaaSortL
import Derived.Test.YtpnmcgjfemaleaaCopy
import Derived.Sort.OwnSortedInts
namespace Go.Proofs.Ytpnmcgjfemaleaa
open Go.ChangeShapes Go.WideShapes Go.ChangeAt Go.RowKit Go.Sort
set_option linter.unusedVariables false
set_option maxRecDepth 100000
def sortL (xs : List Int) : List Int := xs.mergeSort fun x y => decide (x ≤ y)
theorem sortL_len (xs : List Int) : (sortL xs).length = xs.length := (List.mergeSort_perm xs _).length_eq
theorem sortI_c {xs : List Int} {base : Nat} {v : Value} {w : World} (h : OwnInt64S base w v xs) (hl : xs.length ≤ 1000000000) :
    Calls Try.prog 82 #[v] w fun e w' => e = .returned (.tuple #[]) ∧ OwnInt64S base w' v (sortL xs) ∧ w.grownBy w' v.ownBlock := by
  have hok : ∀ x ∈ sortL xs, eI.ok x := fun x hx => h.2 x ((List.mergeSort_perm xs _).mem_iff.1 hx)
  rcases h.1.2 with ⟨rfl, hn⟩ | ⟨g, cap, cur, rfl, hb, hg, hn, hm, hcs, htake⟩
  · obtain rfl : xs = [] := List.eq_nil_of_length_eq_zero hn
    refine (Go.Proofs.AnyM.slices_Sort_int_none Go.Proofs.Try.mSort none 0 w).mono ?_
    rintro e w' ⟨rfl, rfl⟩
    exact ⟨rfl, by rw [show sortL [] = [] by simp [sortL]]; exact h, World.grownBy.refl _ _⟩
  · have hall : eI.all xs = xs.map (Value.int .i64) := eI_all xs
    rw [hall] at htake
    have ht : cur.toList.take xs.length = xs.map (Value.int .i64) := by
      rw [show xs.length * eI.sz = xs.length from Nat.mul_one _] at htake
      exact htake
    have hlt : g < w.heap.size := (Array.getElem?_eq_some_iff.1 hg).1
    refine (Go.Proofs.AnyM.slices_Sort_int (Ly := Go.Proofs.Try.mSort) g 0 cap xs w (holds_of_blockI hg ht) hlt (by omega)).mono ?_
    rintro e w' ⟨rfl, n, os, rfl⟩
    refine ⟨rfl, ⟨?_, hok⟩, grownBy_sortedI _⟩
    have := ownsRow_sortedI (base := base) (n := n) (os := os) (ts := sortL xs) (sortL_len xs) hb hg hn hm hcs
    rw [sortL_len, eI_all]
    exact this
end Go.Proofs.Ytpnmcgjfemaleaa
