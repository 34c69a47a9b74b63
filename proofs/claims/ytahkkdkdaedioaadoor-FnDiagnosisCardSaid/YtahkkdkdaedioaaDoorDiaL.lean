/- The law of the diagnosis: its plain part. No condition. -/
import Derived.Test.YtahkkdkdaedioaaDoorFewP
namespace Go.Proofs.YtahkkdkdaedioaaDoor
open Go.ChangeShapes Go.WideShapes Go.ChangeAt Go.RowKit
set_option linter.unusedVariables false
set_option maxRecDepth 100000
/-- faults that are valid for numbers -/
def fsOk (xs : List Int) (fs : List FaultT) : Prop := (∀ f ∈ fs, fOk xs f) ∧ fs.Pairwise (fun f g => f.card < g.card) ∧ fs.length ≤ 2
theorem fsOk_nil (xs : List Int) : fsOk xs [] := ⟨(fun f h => by cases h), List.Pairwise.nil, by simp⟩
theorem fsOk_cases {xs : List Int} {fs : List FaultT} (h : fsOk xs fs) : fs = [] ∨ (∃ f, fs = [f] ∧ fOk xs f) ∨ ∃ f g, fs = [f, g] ∧ fOk xs f ∧ fOk xs g ∧ f.card < g.card := by
  obtain ⟨h1, h2, h3⟩ := h
  match fs, h1, h2, h3 with
  | [], _, _, _ => exact .inl rfl
  | [f], h1, _, _ => exact .inr (.inl ⟨f, rfl, h1 f (by simp)⟩)
  | [f, g], h1, h2, _ => exact .inr (.inr ⟨f, g, rfl, h1 f (by simp), h1 g (by simp), by simpa using h2⟩)
  | _ :: _ :: _ :: _, _, _, h3 => simp at h3
theorem fsOk_one {xs : List Int} {f : FaultT} (h : fOk xs f) : fsOk xs [f] := ⟨(fun g hg => by rw [List.mem_singleton] at hg; rw [hg]; exact h), by simp, by simp⟩
theorem fsOk_two {xs : List Int} {f g : FaultT} (h : fOk xs f) (k : fOk xs g) (c : f.card < g.card) : fsOk xs [f, g] := ⟨(fun z hz => by simp at hz; rcases hz with rfl | rfl; exact h; exact k), by simpa using c, by simp⟩
theorem allF_at {xs : List Int} {f : FaultT} (h : fOk xs f) : ∃ i : Nat, i < (allF xs).length ∧ (allF xs)[i]? = some f ∧ fGo (allF xs) i = f := by
  obtain ⟨i, hi, he⟩ := List.getElem_of_mem (mem_allF.2 h)
  have h2 : (allF xs)[i]? = some f := by rw [List.getElem?_eq_getElem hi, he]
  exact ⟨i, hi, h2, by unfold fGo; rw [List.getD_eq_getElem?_getD, h2]; rfl⟩
theorem mem_pairs {xs : List Int} {r : ReportT} {p : List FaultT} : p ∈ pairsF xs r ↔ ∃ f g, p = [f, g] ∧ fOk xs f ∧ fOk xs g ∧ f.card < g.card ∧ chgF xs g = missF xs r f := by
  unfold pairsF pairsK pairK pairT
  simp only [List.mem_flatMap, List.mem_range, List.mem_map, List.mem_filter, Bool.and_eq_true, decide_eq_true_eq, beq_iff_eq]
  constructor
  · rintro ⟨i, hi, j, ⟨hj, hij, hc, he⟩, rfl⟩
    have hm : ∀ k, k < (allF xs).length → fOk xs (fGo (allF xs) k) := by
      intro k hk
      refine mem_allF.1 ?_
      unfold fGo
      rw [List.getD_eq_getElem?_getD, List.getElem?_eq_getElem hk]
      exact List.getElem_mem hk
    exact ⟨_, _, rfl, hm i hi, hm j hj, hc, he⟩
  · rintro ⟨f, g, rfl, hf, hg, hc, he⟩
    obtain ⟨i, hi, hfi, hfe⟩ := allF_at hf
    obtain ⟨j, hj, hgj, hge⟩ := allF_at hg
    have hij : i < j := by
      rcases Nat.lt_trichotomy i j with h | h | h
      · exact h
      · subst h; rw [hfi] at hgj; have := Option.some.inj hgj; subst this; omega
      · have := pairs_before hgj hfi h; omega
    exact ⟨i, hi, j, ⟨hj, hij, by rw [hfe, hge]; exact hc, by rw [hfe, hge]; exact he⟩, by rw [hfe, hge]⟩
theorem rep_isRep {xs : List Int} {fs : List FaultT} (h : amtOk xs = true) (hf : fsOk xs fs) : isRep (repOf (afterL xs fs)) = true := by
  have b0 := repOf_bound h
  rcases fsOk_cases hf with rfl | ⟨f, rfl, h1⟩ | ⟨f, g, rfl, h1, h2, hc⟩
  · rw [rep_none]; exact repOf_isRep h
  · rw [rep_one h1]
    have b1 := chgF_bound h h1
    unfold isRep addR
    simp only [Bool.and_eq_true, decide_eq_true_eq]
    omega
  · rw [rep_two h1 h2 hc]
    have b1 := chgF_bound h h1
    have b2 := chgF_bound h h2
    unfold isRep addR
    simp only [Bool.and_eq_true, decide_eq_true_eq]
    omega
theorem isRep_ok {r : ReportT} (h : isRep r = true) : okReport r := by
  unfold isRep at h
  simp only [Bool.and_eq_true, decide_eq_true_eq] at h
  unfold okReport
  omega
theorem fewB_of {xs : List Int} {r : ReportT} (h : (fewF xs r).1 ≠ []) : fewB xs r = true := by
  unfold fewB
  cases hf : (fewF xs r).1 with
  | nil => exact absurd hf h
  | cons p ps => rfl
/-- a report behind valid faults is explained -/
theorem few_found {xs : List Int} {fs : List FaultT} (h : amtOk xs = true) (hf : fsOk xs fs) : fewB xs (repOf (afterL xs fs)) = true := by
  have hr := rep_isRep h hf
  have ho := isRep_ok hr
  generalize hR : repOf (afterL xs fs) = r at hr ho ⊢
  by_cases e : repOf xs = r
  · exact fewB_of (by rw [few_same h e]; simp)
  · by_cases hs : sglF xs r = []
    · refine fewB_of ?_
      rw [few_pair hr e hs]
      rcases fsOk_cases hf with rfl | ⟨f, rfl, h1⟩ | ⟨f, g, rfl, h1, h2, hc⟩
      · rw [rep_none] at hR; exact absurd hR e
      · rw [rep_one h1] at hR
        have hz := (miss_zero h ho h1).2 hR.symm
        have : f ∈ sglF xs r := List.mem_filter.2 ⟨mem_allF.2 h1, by rw [hz]; exact beq_self_eq_true _⟩
        rw [hs] at this
        cases this
      · rw [rep_two h1 h2 hc] at hR
        have hz := (miss_two h hr h1 h2).2 hR.symm
        have : [f, g] ∈ pairsF xs r := mem_pairs.2 ⟨f, g, rfl, h1, h2, hc, hz⟩
        intro e2
        simp only at e2
        rw [e2] at this
        cases this
    · exact fewB_of (by rw [few_sgl hr e hs]; simpa using hs)
/-- each explanation is valid and explains -/
theorem few_valid {xs : List Int} {r : ReportT} (h : amtOk xs = true) (ho : okReport r) : ∀ p ∈ (fewF xs r).1, fsOk xs p ∧ repOf (afterL xs p) = r := by
  by_cases hr : isRep r = false
  · rw [few_big hr]; intro p hp; cases hp
  · have hr : isRep r = true := by simpa using hr
    by_cases e : repOf xs = r
    · rw [few_same h e]
      intro p hp
      simp only [List.mem_singleton] at hp
      subst hp
      exact ⟨fsOk_nil xs, by rw [rep_none]; exact e⟩
    · by_cases hs : sglF xs r = []
      · rw [few_pair hr e hs]
        intro p hp
        obtain ⟨f, g, rfl, h1, h2, hc, hm⟩ := mem_pairs.1 hp
        exact ⟨fsOk_two h1 h2 hc, by rw [rep_two h1 h2 hc]; exact ((miss_two h hr h1 h2).1 hm).symm⟩
      · rw [few_sgl hr e hs]
        intro p hp
        obtain ⟨f, hf, rfl⟩ := List.mem_map.1 hp
        obtain ⟨hm, hz⟩ := List.mem_filter.1 hf
        have h1 := mem_allF.1 hm
        exact ⟨fsOk_one h1, by rw [rep_one h1]; exact ((miss_zero h ho h1).1 (by simpa using hz)).symm⟩
theorem sgl_valid {xs : List Int} {r : ReportT} (h : amtOk xs = true) (ho : okReport r) : ∀ f ∈ sglF xs r, fOk xs f ∧ repOf (afterL xs [f]) = r := by
  intro f hf
  obtain ⟨hm, hz⟩ := List.mem_filter.1 hf
  have h1 := mem_allF.1 hm
  exact ⟨h1, by rw [rep_one h1]; exact ((miss_zero h ho h1).1 (by simpa using hz)).symm⟩
/-- what the law asks of the answers -/
theorem few_facts {xs : List Int} {fs : List FaultT} {r : ReportT} (h : amtOk xs = true) (hf : fsOk xs fs) (hr : r = repOf (afterL xs fs)) :
    ffC xs r = 0 ∧ dgA xs r = fewA xs r ∧ dgN xs r = fewN xs r ∧ 1 ≤ fewN xs r ∧ ffA xs r = ((fewA xs r).length : Int) ∧ fsOk xs (fewA xs r) ∧ repOf (afterL xs (fewA xs r)) = r ∧
    ((fewA xs r).length = 2 → sglF xs r = []) ∧ ((fewA xs r).length = 1 → ((sglF xs r).length : Int) = fewN xs r) := by
  have hB : fewB xs r = true := by rw [hr]; exact few_found h hf
  have hR : isRep r = true := by rw [hr]; exact rep_isRep h hf
  have ho := isRep_ok hR
  have hc := few_count hB
  have hne : (fewF xs r).1 ≠ [] := by intro e; unfold fewB at hB; rw [e] at hB; cases hB
  have hmem : fewA xs r ∈ (fewF xs r).1 := by
    unfold fewA
    cases hq : (fewF xs r).1 with
    | nil => exact absurd hq hne
    | cons p ps => simp
  have hv := few_valid h ho _ hmem
  refine ⟨?_, ?_, ?_, ?_, ?_, hv.1, hv.2, ?_, ?_⟩
  · unfold ffC; rw [if_pos h, if_pos hB]
  · unfold dgA; rw [if_pos h, if_pos hB]
  · unfold dgN; rw [if_pos h, if_pos hB]
  · unfold fewN
    cases hq : (fewF xs r).1 with
    | nil => exact absurd hq hne
    | cons p ps => simp; omega
  · unfold ffA; rw [if_pos h, if_pos hB]; exact hc.symm
  · intro h2
    by_cases e : repOf xs = r
    · have : fewA xs r = [] := by unfold fewA; rw [few_same h e]; rfl
      rw [this] at h2; cases h2
    · by_cases hs : sglF xs r = []
      · exact hs
      · have : (fewF xs r).2 = 1 := by rw [few_sgl hR e hs]
        omega
  · intro h1
    by_cases e : repOf xs = r
    · have : fewA xs r = [] := by unfold fewA; rw [few_same h e]; rfl
      rw [this] at h1; cases h1
    · by_cases hs : sglF xs r = []
      · have h3 : (fewF xs r).2 = 0 ∨ (fewF xs r).2 = 2 := by
          rw [few_pair hR e hs]
          by_cases hp : pairsF xs r = []
          · left; simp [hp]
          · right; simp [hp]
        omega
      · unfold fewN
        rw [few_sgl hR e hs]
        simp
end Go.Proofs.YtahkkdkdaedioaaDoor
