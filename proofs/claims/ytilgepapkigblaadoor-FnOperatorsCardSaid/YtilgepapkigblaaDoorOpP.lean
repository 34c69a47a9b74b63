/- Operators: plain facts of the law. No condition. -/
import Derived.Test.YtilgepapkigblaaDoorRdR
import Derived.Test.YtilgepapkigblaaDoorTeach
import Derived.Test.YtilgepapkigblaaDoorOpT
namespace Go.Proofs.YtilgepapkigblaaDoor
open Go.ChangeShapes Go.WideShapes Go.ChangeAt Go.RowKit
set_option linter.unusedVariables false
set_option maxRecDepth 100000
theorem refO_text {xs : List OperatorT} (h : validOs xs = true) : refO (textQ xs) = some xs := by
  obtain ⟨h8, hp⟩ := validOs_parts h
  have e := parts_text (xs := xs) fun x hx => (hp x hx).1
  unfold refO
  rw [e]
  have h1 : (xs.map lineQ ++ [[]]).getLast? = some [] := by simp
  have h2 : ¬ 9 < (xs.map lineQ ++ [[]]).length := by simp; omega
  rw [if_neg (by rw [h1]; simp only [ne_eq, not_true, false_or]; exact h2), List.dropLast_concat, allM_map (fun x hx => refL_line (hp x hx).1 (hp x hx).2)]
  exact if_pos h
theorem read_text {xs : List OperatorT} (h : validOs xs = true) : readB (OTV xs) = true ∧ readL (OTV xs) = xs := by
  have e : OTV xs = textO xs := if_pos h
  have e2 := refO_text h
  unfold readB readL
  rw [e, textO_data, e2]
  exact ⟨rfl, rfl⟩
theorem read_any (xs : List OperatorT) : ((OTV xs).toList == (⟨#[]⟩ : ByteArray).toList) = true ∨ (readB (OTV xs) = true ∧ readL (OTV xs) = xs) := by
  cases hv : validOs xs with
  | true => exact .inr (read_text hv)
  | false =>
    left
    have e : OTV xs = ⟨#[]⟩ := by unfold OTV; rw [hv]; rfl
    rw [e]
    exact beq_self_eq_true _
theorem selI_eq {p g : Int → Bool} : ∀ {k : Nat}, (∀ j : Nat, j < k → g (j : Int) = p (j : Int)) → selI g k = selI p k
  | 0, _ => rfl
  | k + 1, h => by
    rw [selI_succ, selI_succ, selI_eq (fun j hj => h j (by omega)), h k (by omega)]
theorem selI_one {p g : Int → Bool} {k : Nat} (hp : p (k : Int) = false) (hg : g (k : Int) = true) (h : ∀ j : Nat, j ≠ k → g (j : Int) = p (j : Int)) : ∀ {n : Nat}, k < n → (selI g n).length = (selI p n).length + 1
  | 0, hk => by omega
  | n + 1, hk => by
    rw [selI_succ, selI_succ, List.length_append, List.length_append]
    by_cases e : k = n
    · subst e
      rw [selI_eq (fun j hj => h j (by omega)), hp, hg]
      rfl
    · rw [selI_one hp hg h (n := n) (by omega), h n (fun e2 => e e2.symm)]
      omega
theorem any_names (x : OperatorT) (l : List OperatorT) : l.any (eqNm x) = (l.map (·.nm)).any (fun s => s.toList == x.nm.toList) := by
  rw [List.any_map]; rfl
theorem taught_names {xs : List OperatorT} {k : Nat} {m : Int} {x : OperatorT} (hx : xs[k]? = some x) : (xs.set k (learn x m)).map (·.nm) = xs.map (·.nm) := by
  rw [List.map_set]
  obtain ⟨hk, he⟩ := List.getElem?_eq_some_iff.1 hx
  apply List.ext_getElem?
  intro i
  by_cases h : k = i
  · subst h
    rw [List.getElem?_set_self (by simpa using hk), List.getElem?_map, hx]
    rfl
  · rw [List.getElem?_set_ne h]
theorem taught_valid {xs : List OperatorT} {k : Nat} {m : Int} {x : OperatorT} (hv : validOs xs = true) (hx : xs[k]? = some x) (hm : 0 ≤ m ∧ m ≤ 5) : validOs (xs.set k (learn x m)) = true := by
  obtain ⟨h8, hp⟩ := validOs_parts hv
  have hg : ∀ j, j < xs.length → goodAt xs j = true := by
    intro j hj
    cases hq : goodAt xs j with
    | true => rfl
    | false => rw [validOs_no hj hq] at hv; cases hv
  rw [validOs_end]
  · rw [List.length_set]; exact decide_eq_true h8
  · intro j hj
    rw [List.length_set] at hj
    have hgj := hg j hj
    have hxj : xs[j]? = some xs[j] := List.getElem?_eq_getElem hj
    rw [goodAt_of hxj, Bool.and_eq_true] at hgj
    have htk : ((xs.set k (learn x m)).take j).map (·.nm) = (xs.take j).map (·.nm) := by
      rw [List.map_take, List.map_take, taught_names hx]
    by_cases e : k = j
    · subst e
      have hxe : xs[k] = x := Option.some.inj (hxj.symm.trans hx)
      rw [hxe] at hgj
      rw [goodAt_of (x := learn x m) (List.getElem?_set_self hj), any_names, htk, Bool.and_eq_true]
      rw [any_names] at hgj
      refine ⟨?_, hgj.2⟩
      have hs := (hp x (List.mem_of_getElem? hx))
      have h2 := (skill_any hs.2 hm).1
      unfold validO
      rw [Bool.and_eq_true, decide_eq_true_eq]
      exact ⟨hs.1, h2⟩
    · rw [goodAt_of (x := xs[j]) (by rw [List.getElem?_set_ne e]; exact hxj), any_names, htk, Bool.and_eq_true]
      rw [any_names] at hgj
      exact hgj
theorem teach_law {xs : List OperatorT} {k m : Int} (h : TOC xs k m = 0) : OFC xs m = 0 ∧ OFC (TOR xs k m) m = 0 ∧ (OFR (TOR xs k m) m).length = (OFR xs m).length + 1 ∧ (OFR xs m).length ≤ 8 := by
  have hT : TOR xs k m = taughtF xs k m := if_pos h
  unfold TOC at h
  by_cases hv : validOs xs = true
  · rw [if_pos hv] at h
    by_cases hc : (0 ≤ m ∧ m ≤ 5) ∧ 0 ≤ k ∧ k ≤ (xs.length : Int) - 1
    · rw [if_pos hc] at h
      by_cases ha : canAt xs m k = true
      · rw [if_pos ha] at h; cases h
      · obtain ⟨hm, hk0, hk1⟩ := hc
        obtain ⟨j, rfl⟩ := Int.eq_ofNat_of_zero_le hk0
        have hj : j < xs.length := by omega
        have hx : xs[j]? = some xs[j] := List.getElem?_eq_getElem hj
        have hs := ((validOs_parts hv).2 xs[j] (List.mem_of_getElem? hx)).2
        have h1 : OFC xs m = 0 := by unfold OFC; rw [if_pos hv, if_pos hm]
        have e : taughtF xs (j : Int) m = xs.set j (learn xs[j] m) := taughtF_of hx
        have h2 : OFC (TOR xs (j : Int) m) m = 0 := by
          rw [hT, e]; unfold OFC; rw [if_pos (taught_valid hv hx hm), if_pos hm]
        have h3 : (OFR xs m).length ≤ 8 := by
          rw [OFR_ok h1]
          have := selI_len (canAt xs m) xs.length
          have := (validOs_parts hv).1
          omega
        refine ⟨h1, h2, ?_, h3⟩
        rw [OFR_ok h1, OFR_ok h2, hT, e, List.length_set]
        refine selI_one (k := j) (by simpa using ha) ?_ ?_ hj
        · rw [canAt_of (List.getElem?_set_self hj)]
          have := (skill_any hs hm).2 m hm.1 hm.2
          show canB (orB xs[j].skills m) m = true
          rw [this]; simp
        · intro i hi
          unfold canAt
          rw [Int.toNat_natCast, List.getElem?_set_ne (fun e => hi e.symm)]
    · rw [if_neg hc] at h; cases h
  · rw [if_neg hv] at h; cases h
end Go.Proofs.YtilgepapkigblaaDoor
