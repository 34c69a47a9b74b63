/- Posts: the plain law of the chapter. No condition. -/
import Derived.Test.YtfojfcmjoacbgaaTrainI
namespace Go.Proofs.Ytfojfcmjoacbgaa
open Go.ChangeShapes Go.WideShapes Go.ChangeAt Go.RowKit
set_option linter.unusedVariables false
set_option maxRecDepth 100000
theorem MPV_leaves {xs : List OperatorT} {ps : List Int} (hc : PCode xs ps = 0) : MPV xs ps ≤ ps.length ∧ (MPV xs ps = ps.length ↔ leaves xs ps ps.length [] ≠ []) := by
  have h1 := leaves_most xs ps ps.length []
  have h2 := kuhn_eq (edgeO xs ps) xs.length ps.length (left := leftW []) (fun k _ => rfl)
  have h3 := mostF_bd (edgeO xs ps) xs.length ps.length 0 (leftW [])
  rw [show mostF (edgeO xs ps) xs.length ps.length ([] : List Int).length (leftW []) = mostF (edgeO xs ps) xs.length ps.length 0 (leftW []) from rfl] at h1
  unfold MPV
  rw [if_pos hc, h2, h1]
  omega
theorem posts_one {xs : List OperatorT} {ps : List Int} (hc : PCode xs ps = 0) : (CFV xs ps = 0 ↔ FPC xs ps = 3) ∧ (CFV xs ps = 0 ↔ MPV xs ps < ps.length) := by
  have h := MPV_leaves hc
  have h0 : CFV xs ps = 0 ↔ leaves xs ps ps.length [] = [] := by
    unfold CFV
    rw [if_pos hc]
    constructor
    · intro h; exact List.eq_nil_of_length_eq_zero (by omega)
    · intro h; rw [h]; rfl
  refine ⟨?_, ?_⟩
  · rw [h0]
    unfold FPC
    rw [if_pos hc]
    by_cases e : leaves xs ps ps.length [] = []
    · rw [if_pos e]; exact ⟨fun _ => rfl, fun _ => e⟩
    · rw [if_neg e]; exact ⟨fun h => absurd h e, fun h => by cases h⟩
  · rw [h0]
    by_cases e : leaves xs ps ps.length [] = []
    · refine ⟨fun _ => ?_, fun _ => e⟩
      have : ¬ MPV xs ps = ps.length := fun h2 => (h.2.1 h2) e
      omega
    · refine ⟨fun h2 => absurd h2 e, fun h2 => ?_⟩
      have := h.2.2 e
      omega
theorem findF_spec {p : Nat → Bool} {n : Nat} (h : ¬ findF p n < 0) : ∃ k, k < n ∧ findF p n = (k : Nat) ∧ p k = true := by
  unfold findF at h ⊢
  cases hf : (List.range n).find? p with
  | none => rw [hf] at h; exact absurd (by decide) h
  | some k =>
    have h1 := List.mem_of_find?_eq_some hf
    have h2 := List.find?_some hf
    exact ⟨k, List.mem_range.1 h1, rfl, h2⟩
theorem posts_two {xs : List OperatorT} {ps : List Int} (h : TRC xs ps = 0) : TOC xs (TRK xs ps) (TRM xs ps) = 0 ∧ PCode (TOR xs (TRK xs ps) (TRM xs ps)) ps = 0 ∧ MPV (TOR xs (TRK xs ps) (TRM xs ps)) ps = ps.length := by
  have hc : PCode xs ps = 0 := by
    by_cases hc : PCode xs ps = 0
    · exact hc
    · have := (train_code hc).2.2; rw [h] at this; exact this.symm
  have h0 := h
  unfold TRC at h0
  rw [if_pos hc] at h0
  split at h0
  · cases h0
  split at h0
  · cases h0
  rename_i hn
  obtain ⟨t, ht, e, hp⟩ := findF_spec (p := trainT xs ps) (n := 6 * xs.length) hn
  have eK : TRK xs ps = ((t / 6 : Nat) : Int) := by unfold TRK; rw [if_pos h]; unfold TRT; rw [e]; omega
  have eM : TRM xs ps = ((t % 6 : Nat) : Int) := by unfold TRM; rw [if_pos h]; unfold TRT; rw [e]; omega
  rw [eK, eM]
  unfold trainT at hp
  rw [Bool.and_eq_true, Bool.not_eq_true'] at hp
  obtain ⟨hv, hps⟩ := PCode_ok hc
  have hT : TOC xs ((t / 6 : Nat) : Int) ((t % 6 : Nat) : Int) = 0 := by
    unfold TOC
    rw [if_pos hv, if_pos (by omega), hp.1]
    rfl
  have hR : TOR xs ((t / 6 : Nat) : Int) ((t % 6 : Nat) : Int) = taughtF xs ((t / 6 : Nat) : Int) ((t % 6 : Nat) : Int) := if_pos hT
  have hV := validOs_taught (m := ((t % 6 : Nat) : Int)) hv (by omega) (show t / 6 < xs.length by omega)
  have hP : PCode (taughtF xs ((t / 6 : Nat) : Int) ((t % 6 : Nat) : Int)) ps = 0 := by unfold PCode; rw [if_pos hV, if_pos hps]
  rw [hR]
  refine ⟨hT, hP, (MPV_leaves hP).2.2 ?_⟩
  have h5 := hp.2
  unfold firstB at h5
  intro e5
  rw [e5] at h5
  cases h5
theorem leaf_ok (xs : List OperatorT) (ps : List Int) : ∀ (f : Nat) (who l : List Int), l ∈ leaves xs ps f who → (∃ t, l = who ++ t) ∧ ∀ i, who.length ≤ i → i < l.length → faultAt xs ps l i = false := by
  intro f
  induction f with
  | zero => intro who l h; rw [List.mem_singleton.1 h]; exact ⟨⟨[], by simp⟩, fun i h1 h2 => by omega⟩
  | succ f ih =>
    intro who l h
    rw [leaves_succ] at h
    unfold leavesK at h
    obtain ⟨k, hk, h2⟩ := List.mem_flatMap.1 h
    split at h2
    · rename_i hok
      obtain ⟨⟨t, ht⟩, hall⟩ := ih _ _ h2
      refine ⟨⟨(k : Int) :: t, by rw [ht]; simp⟩, fun i h3 h4 => ?_⟩
      by_cases h5 : i = who.length
      · subst h5
        have ha : atI l who.length = (k : Int) := by rw [ht]; simp [atI]
        have htk : l.take who.length = who := by rw [ht]; simp
        unfold fillOk at hok
        rw [Bool.and_eq_true, Bool.not_eq_true'] at hok
        have hk' := List.mem_range.1 hk
        unfold faultAt inB
        rw [ha, htk, hok.1, hok.2, decide_eq_true (by omega)]
        rfl
      · exact hall i (by rw [List.length_append]; simp; omega) h4
    · cases h2
theorem posts_three {xs : List OperatorT} {ps : List Int} (h : FPC xs ps = 0) : PFC xs ps (FPR xs ps) = 0 ∧ PFV xs ps (FPR xs ps) = -1 := by
  have hc : PCode xs ps = 0 := by
    by_cases hc : PCode xs ps = 0
    · exact hc
    · unfold FPC at h; rw [if_neg hc] at h; exact h
  unfold FPC at h
  rw [if_pos hc] at h
  split at h
  · cases h
  rename_i hne
  obtain ⟨l, hl⟩ : ∃ l, l = FPR xs ps := ⟨_, rfl⟩
  have hmem : l ∈ leaves xs ps ps.length [] := by
    rw [hl]
    unfold FPR
    rw [if_pos hc]
    cases hq : leaves xs ps ps.length [] with
    | nil => exact absurd hq hne
    | cons a b => exact List.mem_cons_self ..
  have hlen := leaves_len xs ps ps.length [] l hmem
  rw [← hl]
  have hP : PFC xs ps l = 0 := by unfold PFC; rw [if_pos hc, if_pos (by rw [hlen]; simp)]
  refine ⟨hP, ?_⟩
  unfold PFV
  rw [if_pos hP]
  exact findF_none fun j hj => (leaf_ok xs ps ps.length [] l hmem).2 j (Nat.zero_le _) hj
end Go.Proofs.Ytfojfcmjoacbgaa
