/- Training one: the plain law. No condition. -/
import Derived.Test.YtfojfcmjoacbgaaFillI2
import Derived.Test.YtfojfcmjoacbgaaMostI2
import Derived.Test.YtfojfcmjoacbgaaTeach
namespace Go.Proofs.Ytfojfcmjoacbgaa
open Go.ChangeShapes Go.WideShapes Go.ChangeAt Go.RowKit
set_option linter.unusedVariables false
set_option maxRecDepth 100000
def leftW (who : List Int) (k : Nat) : Bool := !hasI who (k : Int)
theorem leftW_snoc (who : List Int) (k j : Nat) : leftW (who ++ [(k : Int)]) j = upd (leftW who) k false j := by
  unfold leftW upd hasI
  by_cases h : j = k
  · subst h; simp
  · rw [if_neg h]
    have h2 : ¬ (j : Int) = (k : Int) := by omega
    simp [h2]
theorem leaves_most (xs : List OperatorT) (ps : List Int) : ∀ (r : Nat) (who : List Int), leaves xs ps r who ≠ [] ↔ mostF (edgeO xs ps) xs.length r who.length (leftW who) = r := by
  intro r
  induction r with
  | zero => intro who; exact ⟨fun _ => rfl, fun _ h => by cases h⟩
  | succ r ih =>
    intro who
    rw [leaves_succ]
    show _ ↔ mostK (edgeO xs ps) xs.length r who.length (leftW who) xs.length = r + 1
    have key : ∀ k, leavesK xs ps r who k ≠ [] ↔ mostK (edgeO xs ps) xs.length r who.length (leftW who) k = r + 1 := by
      intro k
      induction k with
      | zero =>
        refine ⟨fun h => absurd rfl h, fun h => ?_⟩
        have := mostF_bd (edgeO xs ps) xs.length r (who.length + 1) (leftW who)
        rw [mostK_zero] at h
        omega
      | succ k ihk =>
        rw [leavesK_succ, mostK_succ]
        have hsame : (leftW who k && edgeO xs ps k who.length) = fillOk xs ps who k := by unfold leftW edgeO fillOk; rw [Bool.and_comm]
        rw [hsame]
        cases hf : fillOk xs ps who k with
        | false => rw [if_neg (by decide), if_neg (by decide), List.append_nil]; exact ihk
        | true =>
          rw [if_pos rfl, if_pos rfl]
          have h1 := ih (who ++ [(k : Int)])
          have h2 : mostF (edgeO xs ps) xs.length r (who ++ [(k : Int)]).length (leftW (who ++ [(k : Int)])) = mostF (edgeO xs ps) xs.length r (who.length + 1) (upd (leftW who) k false) := by
            rw [List.length_append]
            exact mostF_congr (edgeO xs ps) r (who.length + 1) _ _ fun j _ => leftW_snoc who k j
          rw [h2] at h1
          have b1 := mostK_bd (edgeO xs ps) xs.length r who.length (leftW who) k
          have b2 := mostF_bd (edgeO xs ps) xs.length r (who.length + 1) (upd (leftW who) k false)
          generalize mostK (edgeO xs ps) xs.length r who.length (leftW who) k = a at *
          generalize mostF (edgeO xs ps) xs.length r (who.length + 1) (upd (leftW who) k false) = b at *
          have h3 : (leavesK xs ps r who k ++ leaves xs ps r (who ++ [(k : Int)]) ≠ []) ↔ (leavesK xs ps r who k ≠ [] ∨ leaves xs ps r (who ++ [(k : Int)]) ≠ []) := by
            constructor
            · intro h
              by_cases h4 : leavesK xs ps r who k = []
              · right; intro h5; exact h (by rw [h4, h5]; rfl)
              · exact .inl h4
            · intro h h4
              obtain ⟨h5, h6⟩ := List.append_eq_nil_iff.1 h4
              rcases h with h | h
              · exact h h5
              · exact h h6
          rw [h3, ihk, h1]
          omega
    exact key xs.length
theorem firstB_kuhn (xs : List OperatorT) (ps : List Int) : firstB xs ps = decide (kuhnN (edgeO xs ps) xs.length ps.length = ps.length) := by
  have h1 := leaves_most xs ps ps.length []
  have h2 := kuhn_eq (edgeO xs ps) xs.length ps.length (left := leftW []) (fun k _ => rfl)
  rw [h2]
  unfold firstB
  rw [Bool.eq_iff_iff, decide_eq_true_iff]
  rw [show mostF (edgeO xs ps) xs.length ps.length 0 (leftW []) = mostF (edgeO xs ps) xs.length ps.length ([] : List Int).length (leftW []) from rfl, ← h1]
  simp
theorem taughtF_length (xs : List OperatorT) (k m : Int) : (taughtF xs k m).length = xs.length := by
  unfold taughtF
  split
  · rw [List.length_set]
  · rfl
theorem any_nm (z : OperatorT) (l : List OperatorT) : l.any (eqNm z) = (l.map (fun x => x.nm)).any (fun s => s.toList == z.nm.toList) := by rw [List.any_map]; rfl
theorem nm_set {xs : List OperatorT} {k : Nat} {x : OperatorT} (m : Int) (hx : xs[k]? = some x) : (xs.set k (learn x m)).map (fun x => x.nm) = xs.map (fun x => x.nm) := by
  apply List.ext_getElem?
  intro j
  rw [List.getElem?_map, List.getElem?_map, List.getElem?_set]
  by_cases h : k = j
  · subst h
    have hk := (List.getElem?_eq_some_iff.1 hx).1
    rw [if_pos rfl, if_pos hk, hx]
    rfl
  · rw [if_neg h]
theorem validOs_taught {xs : List OperatorT} {k : Nat} {m : Int} (hv : validOs xs = true) (hm : 0 ≤ m ∧ m ≤ 5) (hk : k < xs.length) : validOs (taughtF xs (k : Int) m) = true := by
  obtain ⟨x, hx⟩ : ∃ x, xs[k]? = some x := ⟨_, List.getElem?_eq_getElem hk⟩
  rw [taughtF_of hx]
  have hp := validOs_parts hv
  have hxv := hp.2 x (List.mem_of_getElem? hx)
  have hs := (skill_any hxv.2 hm).1
  rw [validOs_end]
  · rw [List.length_set]; exact decide_eq_true hp.1
  · intro j hj
    rw [List.length_set] at hj
    obtain ⟨y, hy⟩ : ∃ y, xs[j]? = some y := ⟨_, List.getElem?_eq_getElem hj⟩
    have hg : goodAt xs j = true := by
      unfold validOs at hv
      rw [Bool.and_eq_true, List.all_eq_true] at hv
      exact hv.1 j (List.mem_range.2 hj)
    rw [goodAt_of hy, Bool.and_eq_true] at hg
    have htake : ∀ z : OperatorT, ((xs.set k (learn x m)).take j).any (eqNm z) = (xs.take j).any (eqNm z) := by
      intro z
      rw [any_nm, any_nm, List.map_take, List.map_take, nm_set m hx]
    by_cases h : k = j
    · subst h
      obtain rfl : y = x := by rw [hx] at hy; exact (Option.some.inj hy).symm
      rw [goodAt_of (x := learn y m) (by rw [List.getElem?_set, if_pos rfl, if_pos hk]), htake]
      have h1 : validO (learn y m) = true := by
        unfold validO
        rw [Bool.and_eq_true, decide_eq_true_iff]
        exact ⟨hxv.1, hs⟩
      rw [h1]
      exact hg.2
    · rw [goodAt_of (x := y) (by rw [List.getElem?_set, if_neg h, hy]), htake, hg.1]
      exact hg.2
/-- whether teaching operator t / 6 the machine t % 6 fills all posts -/
def trainT (xs : List OperatorT) (ps : List Int) (t : Nat) : Bool := !canAt xs ((t % 6 : Nat) : Int) ((t / 6 : Nat) : Int) && firstB (taughtF xs ((t / 6 : Nat) : Int) ((t % 6 : Nat) : Int)) ps
theorem trainT_at (xs : List OperatorT) (ps : List Int) {k m : Nat} (hm : m < 6) : trainT xs ps (6 * k + m) = (!canAt xs (m : Int) (k : Int) && firstB (taughtF xs (k : Int) (m : Int)) ps) := by
  unfold trainT
  rw [show (6 * k + m) / 6 = k by omega, show (6 * k + m) % 6 = m by omega]
def TRT (xs : List OperatorT) (ps : List Int) : Int := findF (trainT xs ps) (6 * xs.length)
def TRC (xs : List OperatorT) (ps : List Int) : Int := if PCode xs ps = 0 then (if firstB xs ps = true then 6 else if TRT xs ps < 0 then 3 else 0) else PCode xs ps
def TRK (xs : List OperatorT) (ps : List Int) : Int := if TRC xs ps = 0 then TRT xs ps / 6 else 0
def TRM (xs : List OperatorT) (ps : List Int) : Int := if TRC xs ps = 0 then TRT xs ps % 6 else 0
theorem train_found {xs : List OperatorT} {ps : List Int} {k m : Nat} (hc : PCode xs ps = 0) (hf : firstB xs ps = false) (hk : k < xs.length) (hm : m < 6) (h0 : ∀ j, j < 6 * k + m → trainT xs ps j = false) (h : trainT xs ps (6 * k + m) = true) :
    TRK xs ps = k ∧ TRM xs ps = m ∧ TRC xs ps = 0 := by
  have h1 : TRT xs ps = ((6 * k + m : Nat) : Int) := findF_some (by omega) h0 h
  have h2 : TRC xs ps = 0 := by unfold TRC; rw [if_pos hc, hf, if_neg (by decide), h1, if_neg (by omega)]
  refine ⟨?_, ?_, h2⟩
  · unfold TRK; rw [if_pos h2, h1]; omega
  · unfold TRM; rw [if_pos h2, h1]; omega
theorem train_none {xs : List OperatorT} {ps : List Int} (hc : PCode xs ps = 0) (hf : firstB xs ps = false) (h0 : ∀ j, j < 6 * xs.length → trainT xs ps j = false) :
    TRK xs ps = 0 ∧ TRM xs ps = 0 ∧ TRC xs ps = 3 := by
  have h1 : TRT xs ps = -1 := findF_none h0
  have h2 : TRC xs ps = 3 := by unfold TRC; rw [if_pos hc, hf, if_neg (by decide), h1, if_pos (by decide)]
  refine ⟨?_, ?_, h2⟩
  · unfold TRK; rw [h2]; rfl
  · unfold TRM; rw [h2]; rfl
theorem train_state {xs : List OperatorT} {ps : List Int} (hc : PCode xs ps = 0) (hf : firstB xs ps = true) : TRK xs ps = 0 ∧ TRM xs ps = 0 ∧ TRC xs ps = 6 := by
  have h2 : TRC xs ps = 6 := by unfold TRC; rw [if_pos hc, if_pos hf]
  refine ⟨?_, ?_, h2⟩
  · unfold TRK; rw [h2]; rfl
  · unfold TRM; rw [h2]; rfl
theorem train_code {xs : List OperatorT} {ps : List Int} (hc : PCode xs ps ≠ 0) : TRK xs ps = 0 ∧ TRM xs ps = 0 ∧ TRC xs ps = PCode xs ps := by
  have h2 : TRC xs ps = PCode xs ps := by unfold TRC; rw [if_neg hc]
  refine ⟨?_, ?_, h2⟩
  · unfold TRK; rw [h2, if_neg hc]
  · unfold TRM; rw [h2, if_neg hc]
theorem train_step {xs : List OperatorT} {ps : List Int} {t : Nat} (h0 : ∀ j, j < t → trainT xs ps j = false) (h : trainT xs ps t = false) : ∀ j, j < t + 1 → trainT xs ps j = false := by
  intro j hj
  by_cases e : j < t
  · exact h0 j e
  · obtain rfl : j = t := by omega
    exact h
end Go.Proofs.Ytfojfcmjoacbgaa
