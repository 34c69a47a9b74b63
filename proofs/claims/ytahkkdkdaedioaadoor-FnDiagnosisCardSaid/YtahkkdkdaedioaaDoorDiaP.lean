/- Diagnosis with the fewest faults: the plain law. No condition. -/
import Derived.Test.YtahkkdkdaedioaaDoorStrF
import Derived.Test.YtahkkdkdaedioaaDoorSumI
namespace Go.Proofs.YtahkkdkdaedioaaDoor
open Go.ChangeShapes Go.WideShapes Go.ChangeAt Go.RowKit
set_option linter.unusedVariables false
set_option maxRecDepth 100000
instance : DecidableEq FaultT := fun x y => decidable_of_iff (x.kind = y.kind ∧ x.card = y.card ∧ x.place = y.place ∧ x.digit = y.digit) (by cases x; cases y; simp)
instance : DecidableEq ReportT := fun x y => decidable_of_iff (x.count = y.count ∧ x.sum = y.sum ∧ x.digits = y.digits) (by cases x; cases y; simp)
def p10 (p : Int) : Int := if p = 0 then 1 else if p = 1 then 10 else if p = 2 then 100 else 1000
def digA (n p : Int) : Int := n / p10 p % 10
def dsum (n : Int) : Int := digA n 0 + digA n 1 + digA n 2 + digA n 3
def readF (n : Int) (f : FaultT) : Int := n + (f.digit - digA n f.place) * p10 f.place
def amtOk (xs : List Int) : Bool := decide (xs.length ≤ 12) && xs.all fun n => decide (0 ≤ n ∧ n ≤ 9999)
def repOf (xs : List Int) : ReportT := ⟨xs.length, sumI xs, sumI (xs.map dsum)⟩
def addR (a b : ReportT) : ReportT := ⟨a.count + b.count, a.sum + b.sum, a.digits + b.digits⟩
def subR (a b : ReportT) : ReportT := ⟨a.count - b.count, a.sum - b.sum, a.digits - b.digits⟩
def lessW (a b : ReportT) : ReportT := ⟨IntKind.i64.wrap (a.count - b.count), IntKind.i64.wrap (a.sum - b.sum), IntKind.i64.wrap (a.digits - b.digits)⟩
def fGo (fs : List FaultT) (i : Nat) : FaultT := fs.getD i zFault
def digD (i n p : Int) (k : Nat) : List FaultT := ((List.range k).filter fun d : Nat => !(digA n p == (d : Int))).map fun d : Nat => ⟨3, i, p, (d : Int)⟩
def digP (i n : Int) (k : Nat) : List FaultT := (List.range k).flatMap fun p : Nat => digD i n (p : Int) 10
def cardF (i n : Int) : List FaultT := [⟨1, i, 0, 0⟩, ⟨2, i, 0, 0⟩] ++ digP i n 4
def allK (xs : List Int) (k : Nat) : List FaultT := (List.range k).flatMap fun i : Nat => cardF (i : Int) (xs.getD i 0)
def allF (xs : List Int) : List FaultT := allK xs xs.length
def afterF (n : Int) (f : FaultT) : List Int := if f.kind = 2 then [n, n] else if f.kind = 3 then [readF n f] else []
def atN (xs : List Int) (i : Int) : Int := xs.getD i.toNat 0
def chgF (xs : List Int) (f : FaultT) : ReportT := subR (repOf (afterF (atN xs f.card) f)) (repOf [atN xs f.card])
def missF (xs : List Int) (r : ReportT) (f : FaultT) : ReportT := lessW (lessW r (repOf xs)) (chgF xs f)
def isRep (r : ReportT) : Bool := decide (-1000000000 ≤ r.count ∧ r.count ≤ 1000000000) && decide (-1000000000 ≤ r.sum ∧ r.sum ≤ 1000000000) && decide (-1000000000 ≤ r.digits ∧ r.digits ≤ 1000000000)
theorem digD_succ (i n p : Int) (k : Nat) : digD i n p (k + 1) = digD i n p k ++ (if digA n p = (k : Int) then [] else [⟨3, i, p, (k : Int)⟩]) := by
  unfold digD
  rw [List.range_succ, List.filter_append, List.map_append]
  by_cases h : digA n p = (k : Int) <;> simp [h]
theorem digP_succ (i n : Int) (k : Nat) : digP i n (k + 1) = digP i n k ++ digD i n (k : Int) 10 := by
  unfold digP; rw [List.range_succ, List.flatMap_append]; simp
theorem allK_succ (xs : List Int) (k : Nat) : allK xs (k + 1) = allK xs k ++ cardF (k : Int) (xs.getD k 0) := by
  unfold allK; rw [List.range_succ, List.flatMap_append]; simp
theorem digD_len (i n p : Int) (k : Nat) : (digD i n p k).length ≤ k := by
  unfold digD; rw [List.length_map]; exact Nat.le_trans (List.length_filter_le _ _) (by simp)
theorem digP_len (i n : Int) (k : Nat) : (digP i n k).length ≤ 10 * k := by
  induction k with
  | zero => simp [digP]
  | succ k ih => rw [digP_succ, List.length_append]; have := digD_len i n k 10; omega
theorem cardF_len (i n : Int) : (cardF i n).length ≤ 42 := by
  unfold cardF; rw [List.length_append]; have := digP_len i n 4; simp; omega
theorem allK_len (xs : List Int) (k : Nat) : (allK xs k).length ≤ 42 * k := by
  induction k with
  | zero => simp [allK]
  | succ k ih => rw [allK_succ, List.length_append]; have := cardF_len k (xs.getD k 0); omega
/-- what a fault of all looks like -/
def fOk (xs : List Int) (f : FaultT) : Prop :=
  (0 ≤ f.card ∧ f.card < (xs.length : Int)) ∧ ((f.kind = 1 ∨ f.kind = 2) ∧ f.place = 0 ∧ f.digit = 0 ∨ f.kind = 3 ∧ (0 ≤ f.place ∧ f.place ≤ 3) ∧ (0 ≤ f.digit ∧ f.digit ≤ 9) ∧ digA (atN xs f.card) f.place ≠ f.digit)
theorem mem_digP {i n : Int} {f : FaultT} {k : Nat} : f ∈ digP i n k ↔ f.kind = 3 ∧ f.card = i ∧ (0 ≤ f.place ∧ f.place < (k : Int)) ∧ (0 ≤ f.digit ∧ f.digit ≤ 9) ∧ digA n f.place ≠ f.digit := by
  unfold digP digD
  simp only [List.mem_flatMap, List.mem_range, List.mem_map, List.mem_filter]
  constructor
  · rintro ⟨p, hp, d, ⟨hd, hne⟩, rfl⟩
    simp at hne
    exact ⟨rfl, rfl, ⟨by simp, by simpa using hp⟩, ⟨by simp, by simp; omega⟩, hne⟩
  · rintro ⟨h1, h2, h3, h4, h5⟩
    obtain ⟨kd, c, p, d⟩ := f
    simp only at h1 h2 h3 h4 h5
    obtain ⟨p', rfl⟩ := Int.eq_ofNat_of_zero_le h3.1
    obtain ⟨d', rfl⟩ := Int.eq_ofNat_of_zero_le h4.1
    refine ⟨p', by omega, d', ⟨by omega, ?_⟩, by rw [h1, h2]⟩
    simp; exact h5
theorem mem_allK {xs : List Int} {f : FaultT} {k : Nat} : f ∈ allK xs k ↔ ∃ i : Nat, i < k ∧ f ∈ cardF (i : Int) (xs.getD i 0) := by
  unfold allK; simp only [List.mem_flatMap, List.mem_range]
theorem mem_cardF {i n : Int} {f : FaultT} : f ∈ cardF i n ↔ f = ⟨1, i, 0, 0⟩ ∨ f = ⟨2, i, 0, 0⟩ ∨ f ∈ digP i n 4 := by
  unfold cardF; simp
theorem mem_allF {xs : List Int} {f : FaultT} : f ∈ allF xs ↔ fOk xs f := by
  unfold allF
  rw [mem_allK]
  constructor
  · rintro ⟨i, hi, hf⟩
    rcases mem_cardF.1 hf with rfl | rfl | h
    · exact ⟨⟨by simp, by simpa using hi⟩, .inl ⟨.inl rfl, rfl, rfl⟩⟩
    · exact ⟨⟨by simp, by simpa using hi⟩, .inl ⟨.inr rfl, rfl, rfl⟩⟩
    · obtain ⟨h1, h2, h3, h4, h5⟩ := mem_digP.1 h
      refine ⟨⟨by omega, by omega⟩, .inr ⟨h1, ⟨h3.1, by omega⟩, h4, ?_⟩⟩
      unfold atN
      rw [h2]
      exact h5
  · rintro ⟨⟨h1, h2⟩, h3⟩
    obtain ⟨kd, c, p, d⟩ := f
    simp only at h1 h2 h3
    obtain ⟨i, rfl⟩ := Int.eq_ofNat_of_zero_le h1
    refine ⟨i, by omega, mem_cardF.2 ?_⟩
    rcases h3 with ⟨h3 | h3, h4, h5⟩ | ⟨h3, h4, h5, h6⟩
    · left; rw [h3, h4, h5]
    · right; left; rw [h3, h4, h5]
    · right; right
      exact mem_digP.2 ⟨h3, rfl, ⟨h4.1, by simp; omega⟩, h5, h6⟩
/-- the cards never fall -/
theorem allK_cards (xs : List Int) (k : Nat) : (allK xs k).Pairwise (fun f g => f.card ≤ g.card) := by
  induction k with
  | zero => exact List.Pairwise.nil
  | succ k ih =>
    have hc : ∀ f ∈ cardF (k : Int) (xs.getD k 0), f.card = (k : Int) := by
      intro f hf
      rcases mem_cardF.1 hf with rfl | rfl | h
      · rfl
      · rfl
      · exact (mem_digP.1 h).2.1
    rw [allK_succ, List.pairwise_append]
    refine ⟨ih, ?_, ?_⟩
    · rw [List.pairwise_iff_getElem]
      intro i j hi hj _
      rw [hc _ (List.getElem_mem hi), hc _ (List.getElem_mem hj)]
      exact Int.le_refl _
    · intro f hf g hg
      obtain ⟨i, hi, h⟩ := mem_allK.1 hf
      have : f.card = (i : Int) := by
        rcases mem_cardF.1 h with rfl | rfl | h
        · rfl
        · rfl
        · exact (mem_digP.1 h).2.1
      rw [this, hc g hg]
      omega
/-- the singles; the pairs of one fault with those behind it; all pairs -/
def sglF (xs : List Int) (r : ReportT) : List FaultT := (allF xs).filter fun f => missF xs r f == zReport
def sglK (xs : List Int) (r : ReportT) (k : Nat) : List FaultT := ((allF xs).take k).filter fun f => missF xs r f == zReport
def pairT (xs : List Int) (r : ReportT) (f g : FaultT) : Bool := decide (f.card < g.card) && chgF xs g == missF xs r f
def pairK (xs : List Int) (r : ReportT) (i k : Nat) : List (List FaultT) := ((List.range k).filter fun j => decide (i < j) && pairT xs r (fGo (allF xs) i) (fGo (allF xs) j)).map fun j => [fGo (allF xs) i, fGo (allF xs) j]
def pairsK (xs : List Int) (r : ReportT) (k : Nat) : List (List FaultT) := (List.range k).flatMap fun i => pairK xs r i (allF xs).length
def pairsF (xs : List Int) (r : ReportT) : List (List FaultT) := pairsK xs r (allF xs).length
theorem pairK_start (xs : List Int) (r : ReportT) (i : Nat) : pairK xs r i (i + 1) = [] := by
  unfold pairK
  rw [List.filter_eq_nil_iff.2, List.map_nil]
  intro j hj
  have := List.mem_range.1 hj
  simp; omega
theorem pairK_succ (xs : List Int) (r : ReportT) (i k : Nat) (h : i < k) : pairK xs r i (k + 1) = pairK xs r i k ++ (if pairT xs r (fGo (allF xs) i) (fGo (allF xs) k) = true then [[fGo (allF xs) i, fGo (allF xs) k]] else []) := by
  unfold pairK
  rw [List.range_succ, List.filter_append, List.map_append]
  cases hp : pairT xs r (fGo (allF xs) i) (fGo (allF xs) k) <;> simp [hp, h]
theorem pairsK_succ (xs : List Int) (r : ReportT) (k : Nat) : pairsK xs r (k + 1) = pairsK xs r k ++ pairK xs r k (allF xs).length := by
  unfold pairsK; rw [List.range_succ, List.flatMap_append]; simp
theorem pairK_len (xs : List Int) (r : ReportT) (i k : Nat) : (pairK xs r i k).length ≤ k := by
  unfold pairK; rw [List.length_map]; exact Nat.le_trans (List.length_filter_le _ _) (by simp)
theorem pairsK_len (xs : List Int) (r : ReportT) (k : Nat) : (pairsK xs r k).length ≤ (allF xs).length * k := by
  induction k with
  | zero => simp [pairsK]
  | succ k ih => rw [pairsK_succ, List.length_append, Nat.mul_succ]; have := pairK_len xs r k (allF xs).length; omega
def explF (xs : List Int) (r : ReportT) (c : Int) : List (List FaultT) := if c = 0 then (if repOf xs = r then [[]] else []) else if c = 1 then (sglF xs r).map fun f => [f] else pairsF xs r
/-- the answer: all explanations with the fewest faults, and their number of faults -/
def fewF (xs : List Int) (r : ReportT) : List (List FaultT) × Int :=
  if isRep r = false then ([], 0) else if explF xs r 0 ≠ [] then (explF xs r 0, 0) else if explF xs r 1 ≠ [] then (explF xs r 1, 1) else if explF xs r 2 ≠ [] then (explF xs r 2, 2) else ([], 0)
end Go.Proofs.YtahkkdkdaedioaaDoor
