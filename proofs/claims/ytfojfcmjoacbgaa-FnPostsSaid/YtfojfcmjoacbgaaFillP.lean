/- Fillings of posts, plain: all of them in their order. No condition. -/
import Derived.Test.YtfojfcmjoacbgaaPost2
namespace Go.Proofs.Ytfojfcmjoacbgaa
set_option linter.unusedVariables false
set_option maxRecDepth 100000
/-- whether an operator can take the next post -/
def fillOk (xs : List OperatorT) (ps who : List Int) (k : Nat) : Bool := canAt xs (atI ps who.length) (k : Int) && !hasI who (k : Int)
/-- all ways to go on -/
def leaves (xs : List OperatorT) (ps : List Int) : Nat → List Int → List (List Int)
  | 0, who => [who]
  | f + 1, who => (List.range xs.length).flatMap fun k => if fillOk xs ps who k = true then leaves xs ps f (who ++ [(k : Int)]) else []
def leavesK (xs : List OperatorT) (ps : List Int) (f : Nat) (who : List Int) (k : Nat) : List (List Int) := (List.range k).flatMap fun k => if fillOk xs ps who k = true then leaves xs ps f (who ++ [(k : Int)]) else []
theorem leaves_succ (xs : List OperatorT) (ps : List Int) (f : Nat) (who : List Int) : leaves xs ps (f + 1) who = leavesK xs ps f who xs.length := rfl
theorem leavesK_zero (xs : List OperatorT) (ps : List Int) (f : Nat) (who : List Int) : leavesK xs ps f who 0 = [] := rfl
theorem leavesK_succ (xs : List OperatorT) (ps : List Int) (f : Nat) (who : List Int) (k : Nat) : leavesK xs ps f who (k + 1) = leavesK xs ps f who k ++ (if fillOk xs ps who k = true then leaves xs ps f (who ++ [(k : Int)]) else []) := by
  unfold leavesK
  rw [List.range_succ, List.flatMap_append]
  simp
theorem leaves_le {xs : List OperatorT} (ps : List Int) (h8 : xs.length ≤ 8) : ∀ (f : Nat) (who : List Int), (leaves xs ps f who).length ≤ 8 ^ f := by
  intro f
  induction f with
  | zero => intro who; exact Nat.le_refl _
  | succ f ih =>
    intro who
    rw [leaves_succ]
    have key : ∀ k, (leavesK xs ps f who k).length ≤ k * 8 ^ f := by
      intro k
      induction k with
      | zero => simp [leavesK_zero]
      | succ k ihk =>
        rw [leavesK_succ, List.length_append, Nat.add_mul, Nat.one_mul]
        have h2 : (if fillOk xs ps who k = true then leaves xs ps f (who ++ [(k : Int)]) else []).length ≤ 8 ^ f := by
          split
          · exact ih _
          · exact Nat.zero_le _
        omega
    refine Nat.le_trans (key _) ?_
    rw [Nat.pow_succ, Nat.mul_comm]
    exact Nat.mul_le_mul_left _ h8
theorem leaves_small {xs : List OperatorT} {ps : List Int} (h8 : xs.length ≤ 8) {f : Nat} (hf : f ≤ 8) (who : List Int) : (leaves xs ps f who).length ≤ 16777216 :=
  Nat.le_trans (leaves_le ps h8 f who) (Nat.le_trans (Nat.pow_le_pow_right (by omega) hf) (by decide))
theorem leavesK_le {xs : List OperatorT} {ps : List Int} {f : Nat} {who : List Int} {k : Nat} (hk : k ≤ xs.length) : (leavesK xs ps f who k).length ≤ (leaves xs ps (f + 1) who).length := by
  rw [leaves_succ]
  generalize xs.length = N at hk ⊢
  induction hk with
  | refl => exact Nat.le_refl _
  | step h ih => exact Nat.le_trans ih (by rw [leavesK_succ, List.length_append]; omega)
/-- a visitor goes through them until it says no -/
def runL {σ : Type} (step : σ → List Int → σ × Bool) : σ → List (List Int) → σ × Bool
  | s, [] => (s, true)
  | s, l :: ls => if (step s l).2 = true then runL step (step s l).1 ls else step s l
theorem runL_append {σ : Type} (step : σ → List Int → σ × Bool) : ∀ (a b : List (List Int)) (s : σ), runL step s (a ++ b) = if (runL step s a).2 = true then runL step (runL step s a).1 b else runL step s a := by
  intro a
  induction a with
  | nil => intro b s; rfl
  | cons l a ih =>
    intro b s
    show (if (step s l).2 = true then runL step (step s l).1 (a ++ b) else step s l) = _
    by_cases h : (step s l).2 = true
    · rw [if_pos h, ih]
      have e : runL step s (l :: a) = runL step (step s l).1 a := by show (if _ then _ else _) = _; rw [if_pos h]
      rw [e]
    · rw [if_neg h]
      have e : runL step s (l :: a) = step s l := by show (if _ then _ else _) = _; rw [if_neg h]
      rw [e, if_neg h]
theorem runL_one {σ : Type} (step : σ → List Int → σ × Bool) (s : σ) (l : List Int) : runL step s [l] = step s l := by
  show (if (step s l).2 = true then ((step s l).1, true) else step s l) = _
  split
  · rename_i h; rw [← h]
  · rfl
def countS (c : Int) (_ : List Int) : Int × Bool := (c + 1, true)
theorem runL_count : ∀ (ls : List (List Int)) (c : Int), runL countS c ls = (c + ls.length, true) := by
  intro ls
  induction ls with
  | nil => intro c; simp [runL]
  | cons l ls ih =>
    intro c
    show (if (countS c l).2 = true then runL countS (countS c l).1 ls else countS c l) = _
    rw [if_pos (show (countS c l).2 = true from rfl), ih]
    simp [countS]
    omega
def firstS (_ : List Int × Bool) (l : List Int) : (List Int × Bool) × Bool := ((l, true), false)
theorem runL_first (s : List Int × Bool) (ls : List (List Int)) : runL firstS s ls = match ls with
  | [] => (s, true)
  | l :: _ => ((l, true), false) := by
  cases ls with
  | nil => rfl
  | cons l ls => rfl
theorem leaves_len (xs : List OperatorT) (ps : List Int) : ∀ (f : Nat) (who l : List Int), l ∈ leaves xs ps f who → l.length = who.length + f := by
  intro f
  induction f with
  | zero => intro who l h; rw [List.mem_singleton.1 h]; rfl
  | succ f ih =>
    intro who l h
    rw [leaves_succ] at h
    unfold leavesK at h
    obtain ⟨k, _, h2⟩ := List.mem_flatMap.1 h
    split at h2
    · have := ih _ _ h2; rw [this, List.length_append]; simp; omega
    · cases h2
end Go.Proofs.Ytfojfcmjoacbgaa
