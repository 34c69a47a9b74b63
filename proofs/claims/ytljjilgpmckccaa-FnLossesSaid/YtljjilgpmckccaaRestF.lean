/- Restarts, plain: how the losses and the fewest checkpoints hang together. No program in sight. No condition. -/
import Derived.Test.YtljjilgpmckccaaRestS
namespace Go.Proofs.Ytljjilgpmckccaa
open Go.ChangeShapes Go.WideShapes Go.ChangeAt Go.RowKit
set_option linter.unusedVariables false

theorem mem_le_sumI {xs : List Int} (h : ∀ x ∈ xs, 0 ≤ x) {y : Int} (hy : y ∈ xs) : y ≤ sumI xs := by
  induction xs with
  | nil => cases hy
  | cons x xs ih =>
    rw [sumI_cons]
    have h0 := h x (List.mem_cons_self ..)
    have hs := sumI_nonneg (fun z hz => h z (List.mem_cons_of_mem _ hz))
    rcases List.mem_cons.1 hy with rfl | hy
    · omega
    · have := ih (fun z hz => h z (List.mem_cons_of_mem _ hz)) hy
      omega
theorem lossesF_mem {ms cs : List Int} {n k : Nat} (h : k < n) : lossF ms cs k ∈ lossesF ms cs n := by
  unfold lossesF
  exact List.mem_map.2 ⟨k, List.mem_range.2 h, rfl⟩
theorem lossesF_max {ms cs : List Int} (ht : Times ms) : (∀ x ∈ lossesF ms cs ms.length, x ≤ maxL (lossesF ms cs ms.length)) ∧ maxL (lossesF ms cs ms.length) ∈ lossesF ms cs ms.length :=
  maxL_all (fun e => by have := lossesF_length ms cs ms.length; rw [e] at this; have := ht.1.1; simp at *; omega)
theorem worst_bd {ms cs : List Int} (ht : Times ms) : 0 ≤ maxL (lossesF ms cs ms.length) ∧ maxL (lossesF ms cs ms.length) ≤ 200000 := lossesF_bd ht (lossesF_max ht).2
theorem order_l {ms cs : List Int} {at_ : Int} (h : codeF ms cs (decide (0 ≤ at_ ∧ at_ ≤ (ms.length : Int) - 1)) = 0) : LostR ms cs at_ ≤ WorstR ms cs ∧ WorstR ms cs ≤ SumLR ms cs := by
  obtain ⟨ht, hc, hb⟩ := codeF_zero h
  have h1 := of_decide_eq_true hb
  have h2 := codeF_ok ht hc (rfl : true = true)
  unfold LostR WorstR SumLR
  rw [if_pos h, if_pos h2, if_pos h2]
  obtain ⟨k, rfl⟩ := Int.eq_ofNat_of_zero_le h1.1
  refine ⟨(lossesF_max ht).1 _ (lossesF_mem (by omega)), mem_le_sumI (fun x hx => (lossesF_bd ht hx).1) (lossesF_max ht).2⟩
theorem CFc_zero {ms : List Int} {L : Int} (h : CFc ms L = 0) : Times ms ∧ (0 ≤ L ∧ L ≤ 200000) ∧ ∀ x ∈ ms, x ≤ L := by
  unfold CFc at h
  split at h
  · rename_i hc
    obtain ⟨ht, _, hb⟩ := codeF_zero hc
    refine ⟨ht, of_decide_eq_true hb, ?_⟩
    split at h
    · assumption
    · cases h
  · exact absurd h (by assumption)
theorem CFc_ok {ms : List Int} {L : Int} (ht : Times ms) (h0 : 0 ≤ L ∧ L ≤ 200000) (h : ∀ x ∈ ms, x ≤ L) : CFc ms L = 0 := by
  unfold CFc
  rw [codeF_nil ht, if_pos (by simpa using h0), if_pos h]
theorem CFc_no {ms : List Int} {L : Int} (ht : Times ms) (h0 : 0 ≤ L ∧ L ≤ 200000) (h : ¬ ∀ x ∈ ms, x ≤ L) : CFc ms L = 3 := by
  unfold CFc
  rw [codeF_nil ht, if_pos (by simpa using h0), if_neg h]
theorem all_at {ms : List Int} {L : Int} (h : ∀ x ∈ ms, x ≤ L) : ∀ (k : Nat) (x : Int), ms[k]? = some x → x ≤ L := fun k x hx => h x (List.mem_of_getElem? hx)
theorem worst_le {ms cs : List Int} {L : Int} (ht : Times ms) (h : ∀ k, k < ms.length → lossF ms cs k ≤ L) : maxL (lossesF ms cs ms.length) ≤ L := by
  have := (lossesF_max (cs := cs) ht).2
  obtain ⟨k, hk, he⟩ := List.mem_map.1 (by unfold lossesF at this; exact this)
  have h2 := h k (List.mem_range.1 hk)
  rw [he] at h2
  exact h2
theorem kept0 {ms : List Int} {L : Int} (ht : Times ms) (h0 : 0 ≤ L) (h : ∀ x ∈ ms, x ≤ L) : codeF ms (checksF ms L) true = 0 ∧ WorstR ms (checksF ms L) ≤ L := by
  have hc := codeF_ok ht (greedy_checks (all_at h) h0) (rfl : true = true)
  refine ⟨hc, ?_⟩
  unfold WorstR
  rw [if_pos hc]
  refine worst_le ht fun k hk => ?_
  rw [lossF_greedy hk]
  exact grSum_le (all_at h) h0 _ (by omega)
theorem kept_l {ms : List Int} {L : Int} (h : CFc ms L = 0) : codeF ms (CFr ms L) true = 0 ∧ WorstR ms (CFr ms L) ≤ L := by
  obtain ⟨ht, h0, hx⟩ := CFc_zero h
  have : CFr ms L = checksF ms L := by unfold CFr; rw [if_pos h]
  rw [this]
  exact kept0 ht h0.1 hx
theorem tS_nonneg {ms cs : List Int} (ht : Times ms) : ∀ k, k ≤ ms.length → 0 ≤ tS ms cs k := by
  intro k
  induction k with
  | zero => intro _; exact Int.le_refl _
  | succ k ih =>
    intro hk
    have := ih (by omega)
    have hx := (ht.at (k := k) (x := ms[k]) (by simp)).1
    have hg : ms.getD k 0 = ms[k] := getD_of (by simp)
    rw [tS]
    split <;> omega
theorem loss_ge {ms cs : List Int} (ht : Times ms) (hc : Checks ms cs) {k : Nat} (hk : k < ms.length) : ms[k] ≤ lossF ms cs k := by
  rw [lossF_tS hc k hk, tS]
  have hg : ms.getD k 0 = ms[k] := getD_of (by simp)
  have := tS_nonneg (cs := cs) ht k (by omega)
  split <;> omega
theorem all_le_worst {ms cs : List Int} (ht : Times ms) (hc : Checks ms cs) : ∀ x ∈ ms, x ≤ maxL (lossesF ms cs ms.length) := by
  intro x hx
  obtain ⟨k, hk, rfl⟩ := List.mem_iff_getElem.1 hx
  exact Int.le_trans (loss_ge ht hc hk) ((lossesF_max ht).1 _ (lossesF_mem hk))
theorem maxL_le {ms : List Int} {L : Int} (ht : Times ms) : maxL ms ≤ L ↔ ∀ x ∈ ms, x ≤ L :=
  ⟨fun h x hx => Int.le_trans (ht.max.1 x hx) h, fun h => h _ ht.max.2⟩
theorem BCc_zero {ms : List Int} {count : Int} (h : BCc ms count = 0) : Times ms ∧ 0 ≤ count := by
  obtain ⟨ht, _, hb⟩ := codeF_zero h
  exact ⟨ht, (of_decide_eq_true hb).1⟩
theorem least_w {ms cs : List Int} {count : Int} (ht : Times ms) (h0 : 0 ≤ count) (hc : Checks ms cs) (hl : (cs.length : Int) ≤ count) : leastL ms count ≤ maxL (lossesF ms cs ms.length) := by
  refine (leastL_spec ht h0).2 _ ((maxL_le ht).2 (all_le_worst ht hc)) ?_
  have := greedy_fewest ht hc (L := maxL (lossesF ms cs ms.length)) (fun k hk => (lossesF_max ht).1 _ (lossesF_mem hk))
  omega
theorem least_l {ms cs : List Int} {count : Int} (h : BCc ms count = 0) (h2 : codeF ms cs true = 0) (h3 : (cs.length : Int) ≤ count) : leastL ms count ≤ WorstR ms cs := by
  obtain ⟨ht, h0⟩ := BCc_zero h
  obtain ⟨_, hc, _⟩ := codeF_zero h2
  unfold WorstR
  rw [if_pos h2]
  exact least_w ht h0 hc h3
theorem best_l {ms : List Int} {count : Int} (h : BCc ms count = 0) : codeF ms (BCr ms count) true = 0 ∧ ((BCr ms count).length : Int) ≤ count ∧ WorstR ms (BCr ms count) = leastL ms count ∧ CFc ms (leastL ms count) = 0 ∧ CFr ms (leastL ms count) = BCr ms count ∧ 0 ≤ leastL ms count ∧ leastL ms count ≤ 200000 := by
  obtain ⟨ht, h0⟩ := BCc_zero h
  obtain ⟨⟨s1, s2, s3⟩, s4⟩ := leastL_spec (ms := ms) (count := count) ht h0
  have hx := (maxL_le ht).1 s1
  have hn : 0 ≤ leastL ms count := Int.le_trans (ht.2 _ ht.max.2).1 s1
  have hr : BCr ms count = checksF ms (leastL ms count) := by unfold BCr; rw [if_pos h]
  have hk := kept0 ht hn hx
  have hcf := CFc_ok ht ⟨hn, s2⟩ hx
  rw [hr]
  refine ⟨hk.1, s3, Int.le_antisymm hk.2 ?_, hcf, by unfold CFr; rw [if_pos hcf], hn, s2⟩
  have := least_l h hk.1 s3
  exact this
theorem below_l {ms : List Int} {count : Int} (h : BCc ms count = 0) (hne : leastL ms count ≠ 0) : CFc ms (leastL ms count - 1) = 3 ∨ (CFc ms (leastL ms count - 1) = 0 ∧ count < (CFr ms (leastL ms count - 1)).length) := by
  obtain ⟨ht, h0⟩ := BCc_zero h
  obtain ⟨_, _, _, _, _, hn, hle⟩ := best_l h
  by_cases hx : ∀ x ∈ ms, x ≤ leastL ms count - 1
  · right
    have hcf := CFc_ok ht ⟨by omega, by omega⟩ hx
    refine ⟨hcf, ?_⟩
    have : CFr ms (leastL ms count - 1) = checksF ms (leastL ms count - 1) := by unfold CFr; rw [if_pos hcf]
    rw [this]
    by_cases hc : ((checksF ms (leastL ms count - 1)).length : Int) ≤ count
    · have := (leastL_spec ht h0).2 _ ((maxL_le ht).2 hx) hc
      omega
    · omega
  · left
    exact CFc_no ht ⟨by omega, by omega⟩ hx
end Go.Proofs.Ytljjilgpmckccaa
