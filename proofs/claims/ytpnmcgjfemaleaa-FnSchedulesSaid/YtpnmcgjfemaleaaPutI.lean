/- A number put to its place among rising ones. No condition. -/
import Derived.Test.YtpnmcgjfemaleaaSchP
import Derived.Test.YtpnmcgjfemaleaaSortI
namespace Go.Proofs.Ytpnmcgjfemaleaa
open Go.ChangeShapes Go.WideShapes Go.ChangeAt Go.RowKit
set_option linter.unusedVariables false
set_option maxRecDepth 100000
def putL : List Int → Int → List Int
  | [], n => [n]
  | y :: ys, n => if n ≤ y then (if n < y then n :: y :: ys else y :: ys) else y :: putL ys n
def anyGe (xs : List Int) (n : Int) : Bool := xs.any fun y => decide (n ≤ y)
theorem putL_snoc_done {n z : Int} : ∀ {a : List Int}, anyGe a n = true → putL (a ++ [z]) n = putL a n ++ [z] := by
  intro a
  induction a with
  | nil => intro h; cases h
  | cons y a ih =>
    intro h
    show (if n ≤ y then (if n < y then n :: y :: (a ++ [z]) else y :: (a ++ [z])) else y :: putL (a ++ [z]) n) = (if n ≤ y then (if n < y then n :: y :: a else y :: a) else y :: putL a n) ++ [z]
    by_cases h1 : n ≤ y
    · rw [if_pos h1, if_pos h1]; split <;> rfl
    · rw [if_neg h1, if_neg h1, ih (by unfold anyGe at h ⊢; rw [List.any_cons, decide_eq_false h1, Bool.false_or] at h; exact h)]
      rfl
theorem putL_snoc_new {n z : Int} : ∀ {a : List Int}, anyGe a n = false → putL (a ++ [z]) n = a ++ putL [z] n := by
  intro a
  induction a with
  | nil => intro _; rfl
  | cons y a ih =>
    intro h
    unfold anyGe at h
    rw [List.any_cons, Bool.or_eq_false_iff] at h
    have h1 : ¬ n ≤ y := of_decide_eq_false h.1
    show (if n ≤ y then _ else y :: putL (a ++ [z]) n) = _
    rw [if_neg h1, ih h.2]
    rfl
theorem putL_end {n : Int} : ∀ {a : List Int}, anyGe a n = false → putL a n = a ++ [n] := by
  intro a
  induction a with
  | nil => intro _; rfl
  | cons y a ih =>
    intro h
    unfold anyGe at h
    rw [List.any_cons, Bool.or_eq_false_iff] at h
    have h1 : ¬ n ≤ y := of_decide_eq_false h.1
    show (if n ≤ y then _ else y :: putL a n) = _
    rw [if_neg h1, ih h.2]
    rfl
theorem anyGe_snoc (a : List Int) (n z : Int) : anyGe (a ++ [z]) n = (anyGe a n || decide (n ≤ z)) := by unfold anyGe; rw [List.any_append]; simp
theorem putL_perm {n : Int} : ∀ {a : List Int}, n ∉ a → (putL a n).Perm (n :: a) := by
  intro a
  induction a with
  | nil => intro _; exact List.Perm.refl _
  | cons y a ih =>
    intro h
    have h1 : n ≠ y := fun e => h (by rw [e]; exact List.mem_cons_self ..)
    have h2 : n ∉ a := fun e => h (List.mem_cons_of_mem _ e)
    show (if n ≤ y then (if n < y then n :: y :: a else y :: a) else y :: putL a n).Perm _
    by_cases h3 : n ≤ y
    · rw [if_pos h3, if_pos (by omega)]
    · rw [if_neg h3]
      exact ((ih h2).cons y).trans (List.Perm.swap n y a)
theorem putL_sorted {n : Int} : ∀ {a : List Int}, a.Pairwise (· ≤ ·) → n ∉ a → (putL a n).Pairwise (· ≤ ·) := by
  intro a
  induction a with
  | nil => intro _ _; exact List.pairwise_singleton ..
  | cons y a ih =>
    intro hs h
    obtain ⟨h1, h2⟩ := List.pairwise_cons.1 hs
    have h3 : n ∉ a := fun e => h (List.mem_cons_of_mem _ e)
    show (if n ≤ y then (if n < y then n :: y :: a else y :: a) else y :: putL a n).Pairwise _
    by_cases h4 : n ≤ y
    · rw [if_pos h4]
      by_cases h5 : n < y
      · rw [if_pos h5]
        exact List.pairwise_cons.2 ⟨fun z hz => by rcases List.mem_cons.1 hz with rfl | hz; omega; have := h1 z hz; omega, hs⟩
      · rw [if_neg h5]; exact hs
    · rw [if_neg h4]
      refine List.pairwise_cons.2 ⟨fun z hz => ?_, ih h2 h3⟩
      rcases List.mem_cons.1 ((putL_perm h3).mem_iff.1 hz) with rfl | hz
      · omega
      · exact h1 z hz
/-- so put, one after the other, they are sorted -/
theorem putL_fold : ∀ (l a : List Int), (a ++ l).Nodup → a.Pairwise (· ≤ ·) → (l.foldl putL a).Pairwise (· ≤ ·) ∧ (l.foldl putL a).Perm (a ++ l) := by
  intro l
  induction l with
  | nil => intro a _ hs; exact ⟨hs, by rw [List.append_nil]; exact List.Perm.refl _⟩
  | cons x l ih =>
    intro a hn hs
    have hxa : x ∉ a := by
      intro h
      exact (List.nodup_append.1 hn).2.2 x h x (List.mem_cons_self ..) rfl
    have hp := putL_perm hxa
    obtain ⟨h1, h2⟩ := ih (putL a x) (((hp.append (List.Perm.refl l)).trans (by exact (List.perm_middle).symm)).nodup_iff.2 hn) (putL_sorted hs hxa)
    refine ⟨h1, h2.trans ?_⟩
    exact (hp.append (List.Perm.refl l)).trans List.perm_middle.symm
theorem putL_sortL {l : List Int} (h : l.Nodup) : l.foldl putL [] = sortL l := by
  obtain ⟨h1, h2⟩ := putL_fold l [] (by simpa using h) List.Pairwise.nil
  have hp := List.mergeSort_perm l (fun x y => decide (x ≤ y))
  have hs := List.pairwise_mergeSort (le := fun x y : Int => decide (x ≤ y)) (fun a b c h1 h2 => by simp at *; omega) (fun a b => by simp; omega) l
  exact sorted_eq h1 (hs.imp (by simp)) (h2.trans (by rw [List.nil_append]; exact hp.symm))
theorem putL_len (a : List Int) (n : Int) : (putL a n).length ≤ a.length + 1 := by
  induction a with
  | nil => exact Nat.le_refl _
  | cons y a ih =>
    show (if n ≤ y then (if n < y then n :: y :: a else y :: a) else y :: putL a n).length ≤ _
    split
    · split <;> simp
    · simp; exact ih
/-- the state in the middle -/
def PutSt (xs : List Int) (n : Int) (k : Nat) (done : Bool) (out : List Int) : Prop := done = anyGe (xs.take k) n ∧ out = if done = true then putL (xs.take k) n else xs.take k
theorem PutSt.len {xs : List Int} {n : Int} {k : Nat} {d : Bool} {out : List Int} (h : PutSt xs n k d out) : out.length ≤ k + 1 := by
  rw [h.2]
  have := putL_len (xs.take k) n
  have h2 : (xs.take k).length ≤ k := List.length_take_le _ _
  split <;> omega
end Go.Proofs.Ytpnmcgjfemaleaa
