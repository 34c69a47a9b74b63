/- Diagnosis with the fewest faults: reports behind faults. No condition. -/
import Derived.Test.YtahkkdkdaedioaaDoorDiaP
namespace Go.Proofs.YtahkkdkdaedioaaDoor
open Go.ChangeShapes Go.WideShapes Go.ChangeAt Go.RowKit
set_option linter.unusedVariables false
set_option maxRecDepth 100000
theorem ReportT.ext' {a b : ReportT} (h1 : a.count = b.count) (h2 : a.sum = b.sum) (h3 : a.digits = b.digits) : a = b := by cases a; cases b; simp_all
theorem repOf_append (xs ys : List Int) : repOf (xs ++ ys) = addR (repOf xs) (repOf ys) := by
  unfold repOf addR
  simp [sumI_append]
theorem repOf_nil : repOf [] = zReport := rfl
theorem amtOk_parts {xs : List Int} (h : amtOk xs = true) : xs.length ≤ 12 ∧ ∀ n ∈ xs, 0 ≤ n ∧ n ≤ 9999 := by
  unfold amtOk at h
  simpa only [Bool.and_eq_true, decide_eq_true_eq, List.all_eq_true] using h
theorem amt_at {xs : List Int} (h : amtOk xs = true) (i : Int) : 0 ≤ atN xs i ∧ atN xs i ≤ 9999 := by
  unfold atN
  rw [List.getD_eq_getElem?_getD]
  cases hg : xs[i.toNat]? with
  | none => simp
  | some n => exact (amtOk_parts h).2 n (List.mem_of_getElem? hg)
theorem p10_cases {p : Int} (h : 0 ≤ p ∧ p ≤ 3) : (p = 0 ∧ p10 p = 1) ∨ (p = 1 ∧ p10 p = 10) ∨ (p = 2 ∧ p10 p = 100) ∨ (p = 3 ∧ p10 p = 1000) := by
  have : p = 0 ∨ p = 1 ∨ p = 2 ∨ p = 3 := by omega
  rcases this with rfl | rfl | rfl | rfl <;> decide
theorem digA_bound (n p : Int) : 0 ≤ digA n p ∧ digA n p ≤ 9 := by unfold digA; omega
theorem dsum_bound (n : Int) : 0 ≤ dsum n ∧ dsum n ≤ 36 := by
  unfold dsum
  have := digA_bound n 0; have := digA_bound n 1; have := digA_bound n 2; have := digA_bound n 3
  omega
theorem readF_bound {n : Int} {f : FaultT} (hn : 0 ≤ n ∧ n ≤ 9999) (hp : 0 ≤ f.place ∧ f.place ≤ 3) (hd : 0 ≤ f.digit ∧ f.digit ≤ 9) : 0 ≤ readF n f ∧ readF n f ≤ 9999 := by
  unfold readF digA
  rcases p10_cases hp with ⟨_, e⟩ | ⟨_, e⟩ | ⟨_, e⟩ | ⟨_, e⟩ <;> rw [e] <;> omega
theorem repOf_bound {xs : List Int} (h : amtOk xs = true) : (0 ≤ (repOf xs).count ∧ (repOf xs).count ≤ 12) ∧ (0 ≤ (repOf xs).sum ∧ (repOf xs).sum ≤ 119988) ∧ (0 ≤ (repOf xs).digits ∧ (repOf xs).digits ≤ 432) := by
  obtain ⟨h1, h2⟩ := amtOk_parts h
  unfold repOf
  refine ⟨⟨by simp, by simp; omega⟩, ⟨sumI_nonneg fun x hx => (h2 x hx).1, ?_⟩, ⟨sumI_nonneg fun x hx => ?_, ?_⟩⟩
  · have := sumI_le (xs := xs) (M := 9999) (by omega) fun x hx => (h2 x hx).2
    simp only; omega
  · obtain ⟨n, _, rfl⟩ := List.mem_map.1 hx
    exact (dsum_bound n).1
  · have := sumI_le (xs := xs.map dsum) (M := 36) (by omega) fun x hx => by obtain ⟨n, _, rfl⟩ := List.mem_map.1 hx; exact (dsum_bound n).2
    rw [List.length_map] at this
    simp only; omega
theorem repOf_isRep {xs : List Int} (h : amtOk xs = true) : isRep (repOf xs) = true := by
  obtain ⟨h1, h2, h3⟩ := repOf_bound h
  unfold isRep
  simp only [Bool.and_eq_true, decide_eq_true_eq]
  omega
theorem after_ok {xs : List Int} {f : FaultT} (h : amtOk xs = true) (hf : fOk xs f) : (afterF (atN xs f.card) f).length ≤ 2 ∧ ∀ n ∈ afterF (atN xs f.card) f, 0 ≤ n ∧ n ≤ 9999 := by
  have hn := amt_at h f.card
  unfold afterF
  split
  · exact ⟨by simp, fun n hn' => by simp at hn'; omega⟩
  · split
    · rename_i h3
      rcases hf.2 with ⟨h4 | h4, _⟩ | ⟨_, h4, h5, _⟩
      · omega
      · omega
      · exact ⟨by simp, fun n hn' => by have := readF_bound hn h4 h5; simp at hn'; omega⟩
    · exact ⟨by simp, fun n hn' => by cases hn'⟩
theorem chgF_bound {xs : List Int} {f : FaultT} (h : amtOk xs = true) (hf : fOk xs f) : (-12 ≤ (chgF xs f).count ∧ (chgF xs f).count ≤ 12) ∧ (-119988 ≤ (chgF xs f).sum ∧ (chgF xs f).sum ≤ 119988) ∧ (-432 ≤ (chgF xs f).digits ∧ (chgF xs f).digits ≤ 432) := by
  obtain ⟨h1, h2⟩ := after_ok h hf
  have a1 : amtOk (afterF (atN xs f.card) f) = true := by
    unfold amtOk
    simp only [Bool.and_eq_true, decide_eq_true_eq, List.all_eq_true]
    exact ⟨by omega, h2⟩
  have a2 : amtOk [atN xs f.card] = true := by
    unfold amtOk
    have := amt_at h f.card
    simpa using this
  have b1 := repOf_bound a1
  have b2 := repOf_bound a2
  unfold chgF subR
  simp only
  omega
def i64R (r : ReportT) : Prop := okReport r
theorem wrap_zero {r b c : Int} (hr : -9223372036854775808 ≤ r ∧ r ≤ 9223372036854775807) (hb : -1000000000 ≤ b ∧ b ≤ 1000000000) (hc : -1000000000 ≤ c ∧ c ≤ 1000000000) : IntKind.i64.wrap (IntKind.i64.wrap (r - b) - c) = 0 ↔ r = b + c := by
  rw [IntWalk.i64_left, IntWalk.i64_left]
  unfold wrap64
  omega
/-- a single fault explains just if the report is the numbers' and its change -/
theorem miss_zero {xs : List Int} {r : ReportT} {f : FaultT} (h : amtOk xs = true) (hr : okReport r) (hf : fOk xs f) : missF xs r f = zReport ↔ r = addR (repOf xs) (chgF xs f) := by
  have b1 := repOf_bound h
  have b2 := chgF_bound h hf
  have w1 := wrap_zero (r := r.count) (b := (repOf xs).count) (c := (chgF xs f).count) hr.1 (by omega) (by omega)
  have w2 := wrap_zero (r := r.sum) (b := (repOf xs).sum) (c := (chgF xs f).sum) hr.2.1 (by omega) (by omega)
  have w3 := wrap_zero (r := r.digits) (b := (repOf xs).digits) (c := (chgF xs f).digits) hr.2.2 (by omega) (by omega)
  unfold missF lessW
  constructor
  · intro e
    injection e with e1 e2 e3
    exact ReportT.ext' (w1.1 e1) (w2.1 e2) (w3.1 e3)
  · intro e
    have e1 := congrArg ReportT.count e
    have e2 := congrArg ReportT.sum e
    have e3 := congrArg ReportT.digits e
    exact ReportT.ext' (w1.2 e1) (w2.2 e2) (w3.2 e3)
theorem wrap_small {x : Int} (h : -9223372036854775808 ≤ x ∧ x ≤ 9223372036854775807) : IntKind.i64.wrap x = x := IntWalk.i64_in _ (by omega)
/-- two faults explain just if the report is the numbers' and their changes -/
theorem miss_two {xs : List Int} {r : ReportT} {f g : FaultT} (h : amtOk xs = true) (hr : isRep r = true) (hf : fOk xs f) (hg : fOk xs g) : chgF xs g = missF xs r f ↔ r = addR (addR (repOf xs) (chgF xs f)) (chgF xs g) := by
  have b1 := repOf_bound h
  have b2 := chgF_bound h hf
  have b3 := chgF_bound h hg
  unfold isRep at hr
  simp only [Bool.and_eq_true, decide_eq_true_eq] at hr
  have e0 : missF xs r f = subR (subR r (repOf xs)) (chgF xs f) := by
    unfold missF lessW subR
    simp only
    rw [wrap_small (x := r.count - (repOf xs).count) (by omega), wrap_small (x := r.sum - (repOf xs).sum) (by omega), wrap_small (x := r.digits - (repOf xs).digits) (by omega)]
    rw [wrap_small (by omega), wrap_small (by omega), wrap_small (by omega)]
  rw [e0]
  unfold subR addR
  constructor
  · intro e
    have e1 := congrArg ReportT.count e
    have e2 := congrArg ReportT.sum e
    have e3 := congrArg ReportT.digits e
    simp only at e1 e2 e3
    exact ReportT.ext' (by simp only; omega) (by simp only; omega) (by simp only; omega)
  · intro e
    have e1 := congrArg ReportT.count e
    have e2 := congrArg ReportT.sum e
    have e3 := congrArg ReportT.digits e
    simp only at e1 e2 e3
    exact ReportT.ext' (by simp only; omega) (by simp only; omega) (by simp only; omega)
/-- the numbers that are read with faults -/
def findF (fs : List FaultT) (i : Int) : Option FaultT := fs.find? fun f => f.card == i
def readAt (n : Int) : Option FaultT → List Int
  | none => [n]
  | some f => afterF n f
def afterK (xs : List Int) (fs : List FaultT) (k : Nat) : List Int := (List.range k).flatMap fun i : Nat => readAt (xs.getD i 0) (findF fs (i : Int))
def afterL (xs : List Int) (fs : List FaultT) : List Int := afterK xs fs xs.length
theorem afterK_succ (xs : List Int) (fs : List FaultT) (k : Nat) : afterK xs fs (k + 1) = afterK xs fs k ++ readAt (xs.getD k 0) (findF fs (k : Int)) := by
  unfold afterK; rw [List.range_succ, List.flatMap_append]; simp
def chgS (xs : List Int) (fs : List FaultT) (k : Int) : ReportT := fs.foldr (fun f a => if f.card < k then addR (chgF xs f) a else a) zReport
theorem chgS_succ (xs : List Int) (k : Nat) : ∀ (fs : List FaultT), fs.Pairwise (fun f g => f.card < g.card) →
    chgS xs fs ((k : Int) + 1) = match findF fs (k : Int) with | none => chgS xs fs k | some f => addR (chgF xs f) (chgS xs fs k)
  | [], _ => rfl
  | f :: fs, h => by
    have hp := List.pairwise_cons.1 h
    have ih := chgS_succ xs k fs hp.2
    have e1 : chgS xs (f :: fs) ((k : Int) + 1) = if f.card < (k : Int) + 1 then addR (chgF xs f) (chgS xs fs ((k : Int) + 1)) else chgS xs fs ((k : Int) + 1) := rfl
    have e2 : chgS xs (f :: fs) (k : Int) = if f.card < (k : Int) then addR (chgF xs f) (chgS xs fs k) else chgS xs fs k := rfl
    have e3 : findF (f :: fs) (k : Int) = if f.card == (k : Int) then some f else findF fs k := by unfold findF; rw [List.find?_cons]; split <;> simp_all
    by_cases hc : f.card = (k : Int)
    · have hnone : findF fs (k : Int) = none := by
        unfold findF
        rw [List.find?_eq_none]
        intro g hg
        have := hp.1 g hg
        simp; omega
      have e4 : findF (f :: fs) (k : Int) = some f := by rw [e3, if_pos (by simpa using hc)]
      rw [e1, e2, e4, ih, hnone, if_pos (by omega), if_neg (by omega)]
    · have e4 : findF (f :: fs) (k : Int) = findF fs (k : Int) := by rw [e3, if_neg (by simpa using hc)]
      rw [e4]
      by_cases hl : f.card < (k : Int)
      · rw [e1, if_pos (by omega), ih]
        cases findF fs (k : Int) with
        | none => simp only; rw [e2, if_pos hl]
        | some g =>
          simp only
          rw [e2, if_pos hl]
          unfold addR
          exact ReportT.ext' (by simp only; omega) (by simp only; omega) (by simp only; omega)
      · rw [e1, if_neg (by omega), ih]
        cases findF fs (k : Int) with
        | none => simp only; rw [e2, if_neg hl]
        | some g => simp only; rw [e2, if_neg hl]
theorem chgS_zero (xs : List Int) : ∀ (fs : List FaultT), (∀ f ∈ fs, 0 ≤ f.card) → chgS xs fs 0 = zReport
  | [], _ => rfl
  | f :: fs, h => by
    have e2 : chgS xs (f :: fs) 0 = if f.card < 0 then addR (chgF xs f) (chgS xs fs 0) else chgS xs fs 0 := rfl
    rw [e2, if_neg (by have := h f (by simp); omega)]
    exact chgS_zero xs fs fun g hg => h g (by simp [hg])
theorem rep_after {xs : List Int} {fs : List FaultT} (hp : fs.Pairwise (fun f g => f.card < g.card)) (h0 : ∀ f ∈ fs, 0 ≤ f.card) : ∀ k, k ≤ xs.length → repOf (afterK xs fs k) = addR (repOf (xs.take k)) (chgS xs fs k)
  | 0, _ => by
    have e1 : chgS xs fs ((0 : Nat) : Int) = zReport := chgS_zero xs fs h0
    rw [e1]
    rfl
  | k + 1, hk => by
    have ih := rep_after (xs := xs) hp h0 k (by omega)
    have hx : xs[k]? = some (xs.getD k 0) := by have h2 := List.getElem?_eq_getElem (l := xs) (i := k) (by omega); rw [List.getD_eq_getElem?_getD, h2]; rfl
    have e1 : chgS xs fs ((k + 1 : Nat) : Int) = chgS xs fs ((k : Int) + 1) := rfl
    rw [afterK_succ, repOf_append, ih, take_snoc hx, repOf_append, e1, chgS_succ xs k fs hp]
    cases hf : findF fs (k : Int) with
    | none => unfold addR readAt; exact ReportT.ext' (by simp only; omega) (by simp only; omega) (by simp only; omega)
    | some f =>
      have hc : f.card = (k : Int) := by have := List.find?_some hf; simpa using this
      have ha : atN xs f.card = xs.getD k 0 := by unfold atN; rw [hc, Int.toNat_natCast]
      have hcg : chgF xs f = subR (repOf (afterF (xs.getD k 0) f)) (repOf [xs.getD k 0]) := by unfold chgF; rw [ha]
      simp only
      rw [hcg]
      unfold addR subR readAt
      exact ReportT.ext' (by simp only; omega) (by simp only; omega) (by simp only; omega)
theorem rep_afterL {xs : List Int} {fs : List FaultT} (hp : fs.Pairwise (fun f g => f.card < g.card)) (h0 : ∀ f ∈ fs, 0 ≤ f.card) : repOf (afterL xs fs) = addR (repOf xs) (chgS xs fs xs.length) := by
  have := rep_after (xs := xs) hp h0 xs.length (Nat.le_refl _)
  rwa [List.take_length] at this
theorem rep_one {xs : List Int} {f : FaultT} (hf : fOk xs f) : repOf (afterL xs [f]) = addR (repOf xs) (chgF xs f) := by
  rw [rep_afterL (by simp) (fun g hg => by rw [List.mem_singleton] at hg; rw [hg]; exact hf.1.1)]
  have : chgS xs [f] xs.length = addR (chgF xs f) zReport := by show (if f.card < (xs.length : Int) then addR (chgF xs f) zReport else zReport) = _; rw [if_pos hf.1.2]
  rw [this]
  unfold addR zReport
  exact ReportT.ext' (by simp only; omega) (by simp only; omega) (by simp only; omega)
theorem rep_two {xs : List Int} {f g : FaultT} (hf : fOk xs f) (hg : fOk xs g) (hc : f.card < g.card) : repOf (afterL xs [f, g]) = addR (addR (repOf xs) (chgF xs f)) (chgF xs g) := by
  rw [rep_afterL (by simp [hc]) (fun h hh => by simp at hh; rcases hh with rfl | rfl; exact hf.1.1; exact hg.1.1)]
  have : chgS xs [f, g] xs.length = addR (chgF xs f) (addR (chgF xs g) zReport) := by
    show (if f.card < (xs.length : Int) then addR (chgF xs f) (if g.card < (xs.length : Int) then addR (chgF xs g) zReport else zReport) else _) = _
    rw [if_pos hf.1.2, if_pos hg.1.2]
  rw [this]
  unfold addR zReport
  exact ReportT.ext' (by simp only; omega) (by simp only; omega) (by simp only; omega)
theorem rep_none (xs : List Int) : repOf (afterL xs []) = repOf xs := by
  rw [rep_afterL List.Pairwise.nil (fun g hg => by cases hg)]
  show addR (repOf xs) zReport = _
  unfold addR zReport
  exact ReportT.ext' (by simp only; omega) (by simp only; omega) (by simp only; omega)
/-- the single faults: both readings -/
theorem sgl_iff {xs : List Int} {r : ReportT} (h : amtOk xs = true) (hr : okReport r) : sglF xs r = (allF xs).filter fun f => repOf (afterL xs [f]) == r := by
  unfold sglF
  apply List.filter_congr
  intro f hf
  have hok := mem_allF.1 hf
  rw [rep_one hok, Bool.eq_iff_iff, beq_iff_eq, beq_iff_eq, miss_zero h hr hok]
  exact ⟨Eq.symm, Eq.symm⟩
theorem sgl_want {xs : List Int} {r : ReportT} (h : amtOk xs = true) (hr : okReport r) : sglF xs r = (allF xs).filter fun f => chgF xs f == lessW r (repOf xs) := by
  unfold sglF
  apply List.filter_congr
  intro f hf
  have hok := mem_allF.1 hf
  have b1 := repOf_bound h
  have b2 := chgF_bound h hok
  rw [Bool.eq_iff_iff, beq_iff_eq, beq_iff_eq, miss_zero h hr hok]
  unfold lessW
  obtain ⟨r1, r2, r3⟩ := hr
  constructor
  · intro e
    have e1 := congrArg ReportT.count e
    have e2 := congrArg ReportT.sum e
    have e3 := congrArg ReportT.digits e
    unfold addR at e1 e2 e3
    simp only at e1 e2 e3
    exact ReportT.ext' (by simp only; rw [wrap_small (by omega)]; omega) (by simp only; rw [wrap_small (by omega)]; omega) (by simp only; rw [wrap_small (by omega)]; omega)
  · intro e
    have e1 := congrArg ReportT.count e
    have e2 := congrArg ReportT.sum e
    have e3 := congrArg ReportT.digits e
    simp only at e1 e2 e3
    have g1 : IntKind.i64.wrap (r.count - (repOf xs).count) = wrap64 (r.count - (repOf xs).count) := IntWalk.i64_left _
    have g2 : IntKind.i64.wrap (r.sum - (repOf xs).sum) = wrap64 (r.sum - (repOf xs).sum) := IntWalk.i64_left _
    have g3 : IntKind.i64.wrap (r.digits - (repOf xs).digits) = wrap64 (r.digits - (repOf xs).digits) := IntWalk.i64_left _
    rw [g1] at e1
    rw [g2] at e2
    rw [g3] at e3
    unfold wrap64 at e1 e2 e3
    unfold addR
    exact ReportT.ext' (by simp only; omega) (by simp only; omega) (by simp only; omega)
end Go.Proofs.YtahkkdkdaedioaaDoor
