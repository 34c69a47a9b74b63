/- Operators read back from their text: the plain law, the program's and the reference's reading are one. No condition. -/
import Derived.Test.YtilgepapkigblaaDoorOpT
import Derived.Test.YtilgepapkigblaaDoorTeach
import Derived.Lib.SplitLaws
import Derived.Lib.CutLaws
namespace Go.Proofs.YtilgepapkigblaaDoor
open Go.ChangeShapes Go.WideShapes Go.ChangeAt Go.RowKit
set_option linter.unusedVariables false
set_option maxRecDepth 100000
/-- the parts of a text between bytes -/
def parts (c : UInt8) : List UInt8 → List (List UInt8)
  | [] => [[]]
  | b :: l => if b = c then [] :: parts c l else (b :: (parts c l).headD []) :: (parts c l).tail
theorem parts_cons (c : UInt8) (l : List UInt8) : parts c l = (parts c l).headD [] :: (parts c l).tail := by
  cases l with
  | nil => rfl
  | cons b l =>
    unfold parts
    split <;> rfl
theorem parts_split (c : UInt8) : ∀ l : List UInt8, Lib.splitK [c] 0 (Lib.count l [c]) l = parts c l
  | [] => by rw [Lib.count_miss (by simp [Lib.index])]; rfl
  | b :: l => by
    have ih := parts_split c l
    by_cases h : b = c
    · subst h
      have hix : Lib.index (b :: l) [b] = ((0 : Nat) : Int) := by rw [Lib.index]; simp [List.isPrefixOf]
      rw [Lib.count_cons_eq, show 1 + Lib.count l [b] = Lib.count l [b] + 1 by omega, Lib.splitK, hix, if_neg (by decide)]
      unfold parts
      rw [if_pos rfl, ← ih]
      simp
    · have hp : ([c] : List UInt8).isPrefixOf (b :: l) = false := by simp [List.isPrefixOf, Ne.symm h]
      have hix : Lib.index (b :: l) [c] = if Lib.index l [c] == -1 then -1 else Lib.index l [c] + 1 := by rw [Lib.index, hp]; simp
      rw [Lib.count_cons_ne b c l h]
      unfold parts
      rw [if_neg h, ← ih]
      by_cases hm : Lib.index l [c] = -1
      · rw [Lib.count_miss hm]; rfl
      · have hge := Lib.index_ge l [c]
        obtain ⟨j, hj⟩ : ∃ j : Nat, Lib.index l [c] = j := ⟨(Lib.index l [c]).toNat, by omega⟩
        have hix' : Lib.index (b :: l) [c] = ((j + 1 : Nat) : Int) := by rw [hix, if_neg (fun e => hm (beq_iff_eq.1 e)), hj]; omega
        have hc := Lib.count_hit (s := l) (sub := [c]) (by simp) hj
        obtain ⟨q, hq⟩ : ∃ q, Lib.count l [c] = q + 1 := ⟨_, by rw [hc, Nat.add_comm]⟩
        rw [hq, Lib.splitK, hix', if_neg (by rw [beq_iff_eq]; omega), Lib.splitK, hj, if_neg (by rw [beq_iff_eq]; omega)]
        simp
theorem parts_hit (c : UInt8) (l : List UInt8) : parts c (c :: l) = [] :: parts c l := by rw [parts, if_pos rfl]
theorem parts_miss {c b : UInt8} (l : List UInt8) (h : b ≠ c) : parts c (b :: l) = (b :: (parts c l).headD []) :: (parts c l).tail := by rw [parts, if_neg h]
theorem parts_app {c : UInt8} : ∀ {p l : List UInt8}, (∀ b ∈ p, b ≠ c) → parts c (p ++ c :: l) = p :: parts c l
  | [], l, _ => parts_hit c l
  | b :: p, l, h => by
    have ih := parts_app (p := p) (l := l) fun x hx => h x (by simp [hx])
    show parts c (b :: (p ++ c :: l)) = _
    rw [parts_miss _ (h b (by simp)), ih]
    rfl
theorem parts_end {c : UInt8} : ∀ {p : List UInt8}, (∀ b ∈ p, b ≠ c) → parts c p = [p]
  | [], _ => rfl
  | b :: p, h => by
    have ih := parts_end (p := p) fun x hx => h x (by simp [hx])
    rw [parts_miss _ (h b (by simp)), ih]
    rfl
/-- put together again: the first part, the others with the byte before each -/
theorem parts_join (c : UInt8) : ∀ l : List UInt8, (parts c l).headD [] ++ (parts c l).tail.flatMap (fun p => c :: p) = l
  | [] => rfl
  | b :: l => by
    have ih := parts_join c l
    by_cases h : b = c
    · subst h
      have e : parts b (b :: l) = [] :: parts b l := by rw [parts, if_pos rfl]
      rw [e]
      show (parts b l).flatMap (fun p => b :: p) = b :: l
      rw [parts_cons b l, List.flatMap_cons, List.cons_append, ih]
    · have e : parts c (b :: l) = (b :: (parts c l).headD []) :: (parts c l).tail := by rw [parts, if_neg h]
      rw [e]
      show b :: (parts c l).headD [] ++ (parts c l).tail.flatMap (fun p => c :: p) = b :: l
      rw [List.cons_append, ih]
/-- the machines' names, their words -/
def nmQ (k : Nat) : List UInt8 := (nmB k).data.toList
def ksO (s : Int) : List Nat := (List.range 6).filter fun j : Nat => canB s (j : Int)
def wordsL (ks : List Nat) : List UInt8 := ks.flatMap fun j => 32 :: nmQ j
def lineQ (x : OperatorT) : List UInt8 := x.nm.data.toList ++ 58 :: wordsL (ksO x.skills)
def textQ (xs : List OperatorT) : List UInt8 := xs.flatMap fun x => lineQ x ++ [10]
theorem data_app (a b : ByteArray) : (a ++ b).data.toList = a.data.toList ++ b.data.toList := by simp
theorem mT_data (x : OperatorT) (T : ByteArray) : ∀ k, (mT x T k).data.toList = T.data.toList ++ wordsL ((List.range k).filter fun j : Nat => canB x.skills (j : Int)) := by
  intro k
  induction k with
  | zero => simp [mT, wordsL]
  | succ k ih =>
    unfold mT
    rw [List.range_succ, List.filter_append]
    unfold wordsL at ih ⊢
    rw [List.flatMap_append]
    cases hc : canB x.skills (k : Int) with
    | true =>
      rw [if_pos rfl, data_app, data_app, ih]
      simp [hc, nmQ]
    | false =>
      rw [if_neg (by decide), ih]
      simp [hc]
theorem rowT_data (x : OperatorT) (T : ByteArray) : (rowT T x).data.toList = T.data.toList ++ (lineQ x ++ [10]) := by
  unfold rowT lineQ ksO
  rw [data_app, mT_data, data_app, data_app]
  simp
theorem textO_data (xs : List OperatorT) : (textO xs).data.toList = textQ xs := by
  have h : ∀ (ys : List OperatorT) (T : ByteArray), (ys.foldl rowT T).data.toList = T.data.toList ++ textQ ys := by
    intro ys
    induction ys with
    | nil => intro T; simp [textQ]
    | cons y ys ih =>
      intro T
      rw [List.foldl_cons, ih, rowT_data]
      unfold textQ
      rw [List.flatMap_cons]
      simp
  unfold textO
  rw [h]
  simp
theorem charB_not {c : Int} (h : charB c = true) : c ≠ 10 ∧ c ≠ 32 ∧ c ≠ 58 := by
  unfold charB smallB digitB at h
  simp only [Bool.or_eq_true, decide_eq_true_eq, beq_iff_eq] at h
  omega
theorem name_bytes {s : ByteArray} (h : nameB s = true) : ∀ b ∈ s.data.toList, b ≠ 10 ∧ b ≠ 32 ∧ b ≠ 58 := by
  intro b hb
  unfold nameB at h
  simp only [Bool.and_eq_true, List.all_eq_true] at h
  have hm : ((b.toNat : Nat) : Int) ∈ bytesI s := by
    unfold bytesI
    exact List.mem_map.2 ⟨b, hb, rfl⟩
  have hc := charB_not (h.2.2.2 _ hm)
  refine ⟨?_, ?_, ?_⟩ <;> (intro e; subst e; revert hc; decide)
theorem nmQ_bytes : ∀ k, k < 6 → (∀ b ∈ nmQ k, b ≠ 10 ∧ b ≠ 32 ∧ b ≠ 58) ∧ nmQ k ≠ [] := by decide
theorem ksO_lt {s : Int} : ∀ k ∈ ksO s, k < 6 := fun k hk => List.mem_range.1 (List.mem_filter.1 hk).1
theorem words_no10 {ks : List Nat} (h : ∀ k ∈ ks, k < 6) : ∀ b ∈ wordsL ks, b ≠ 10 := by
  intro b hb
  unfold wordsL at hb
  obtain ⟨k, hk, hb⟩ := List.mem_flatMap.1 hb
  rcases List.mem_cons.1 hb with rfl | hb
  · decide
  · exact ((nmQ_bytes k (h k hk)).1 b hb).1
theorem line_no10 {x : OperatorT} (h : nameB x.nm = true) : ∀ b ∈ lineQ x, b ≠ 10 := by
  intro b hb
  unfold lineQ at hb
  rcases List.mem_append.1 hb with hb | hb
  · exact (name_bytes h b hb).1
  · rcases List.mem_cons.1 hb with rfl | hb
    · decide
    · exact words_no10 ksO_lt b hb
theorem parts_text : ∀ {xs : List OperatorT}, (∀ x ∈ xs, nameB x.nm = true) → parts 10 (textQ xs) = xs.map lineQ ++ [[]]
  | [], _ => rfl
  | x :: xs, h => by
    have ih := parts_text (xs := xs) fun y hy => h y (by simp [hy])
    have e : textQ (x :: xs) = lineQ x ++ 10 :: textQ xs := by unfold textQ; rw [List.flatMap_cons]; simp
    rw [e, parts_app (line_no10 (h x (by simp))), ih]
    rfl
theorem parts_words : ∀ {ks : List Nat} {p : List UInt8}, (∀ k ∈ ks, k < 6) → (∀ b ∈ p, b ≠ 32) → parts 32 (p ++ wordsL ks) = p :: ks.map nmQ
  | [], p, _, hp => by show parts 32 (p ++ []) = _; rw [List.append_nil, parts_end hp]; rfl
  | k :: ks, p, h, hp => by
    have e : wordsL (k :: ks) = 32 :: (nmQ k ++ wordsL ks) := by unfold wordsL; rw [List.flatMap_cons]; rfl
    rw [e, parts_app hp, parts_words (fun j hj => h j (by simp [hj])) fun b hb => ((nmQ_bytes k (h k (by simp))).1 b hb).2.1]
    rfl
/-- the next machine, from one on, that has a name; 6 if there is none -/
def nextW (w : List UInt8) (n : Nat) : Nat := if n < 6 then (if nmQ n = w then n else nextW w (n + 1)) else 6
termination_by 6 - n
theorem nextW_hit {w : List UInt8} {n : Nat} (h : n < 6) (e : nmQ n = w) : nextW w n = n := by rw [nextW, if_pos h, if_pos e]
theorem nextW_miss {w : List UInt8} {n : Nat} (h : n < 6) (e : nmQ n ≠ w) : nextW w n = nextW w (n + 1) := by rw [nextW, if_pos h, if_neg e]
theorem nextW_end {w : List UInt8} {n : Nat} (h : ¬ n < 6) : nextW w n = 6 := by rw [nextW, if_neg h]
theorem nextW_spec (w : List UInt8) : ∀ d n, 6 - n = d → nextW w n ≤ 6 ∧ (nextW w n < 6 → n ≤ nextW w n ∧ nmQ (nextW w n) = w)
  | 0, n, h => by rw [nextW_end (by omega)]; exact ⟨Nat.le_refl _, fun h => by omega⟩
  | d + 1, n, h => by
    by_cases e : nmQ n = w
    · rw [nextW_hit (by omega) e]; exact ⟨by omega, fun _ => ⟨Nat.le_refl _, e⟩⟩
    · rw [nextW_miss (by omega) e]
      have := nextW_spec w d (n + 1) (by omega)
      exact ⟨this.1, fun h => ⟨by have := (this.2 h).1; omega, (this.2 h).2⟩⟩
theorem nmQ_inj : ∀ i, i < 6 → ∀ j, j < 6 → nmQ i = nmQ j → i = j := by decide
theorem nextW_of (k : Nat) (hk : k < 6) : ∀ d n, 6 - n = d → n ≤ k → nextW (nmQ k) n = k
  | 0, n, h, hn => by omega
  | d + 1, n, h, hn => by
    by_cases e : nmQ n = nmQ k
    · rw [nextW_hit (by omega) e]; exact nmQ_inj n (by omega) k hk e
    · rw [nextW_miss (by omega) e]
      have : n ≠ k := fun h => e (by rw [h])
      exact nextW_of k hk d (n + 1) (by omega) (by omega)
/-- the skills of words: in the order of the machines (the reference's), in any order (the program's) -/
def refW : Nat → List (List UInt8) → Int → Option Int
  | _, [], a => some a
  | n, w :: ws, a => if nextW w n < 6 then refW (nextW w n + 1) ws (orB a (nextW w n : Nat)) else none
def progW : List (List UInt8) → Int → Option Int
  | [], a => some a
  | w :: ws, a => if nextW w 0 < 6 then progW ws (orB a (nextW w 0 : Nat)) else none
def foldO (ks : List Nat) (a : Int) : Int := ks.foldl (fun (a : Int) (k : Nat) => orB a (k : Int)) a
theorem refW_of : ∀ (ks : List Nat) (n : Nat) (a : Int), (∀ k ∈ ks, n ≤ k ∧ k < 6) → ks.Pairwise (· < ·) → refW n (ks.map nmQ) a = some (foldO ks a)
  | [], _, _, _, _ => rfl
  | k :: ks, n, a, h, hp => by
    have h1 := h k (by simp)
    have hp' := List.pairwise_cons.1 hp
    have e := nextW_of k h1.2 (6 - n) n rfl h1.1
    show (if nextW (nmQ k) n < 6 then refW (nextW (nmQ k) n + 1) (ks.map nmQ) (orB a (nextW (nmQ k) n : Nat)) else none) = _
    rw [e, if_pos h1.2]
    exact refW_of ks (k + 1) (orB a (k : Int)) (fun j hj => ⟨hp'.1 j hj, (h j (by simp [hj])).2⟩) hp'.2
theorem progW_of : ∀ (ks : List Nat) (a : Int), (∀ k ∈ ks, k < 6) → progW (ks.map nmQ) a = some (foldO ks a)
  | [], _, _ => rfl
  | k :: ks, a, h => by
    have h1 := h k (by simp)
    have e := nextW_of k h1 6 0 rfl (Nat.zero_le _)
    show (if nextW (nmQ k) 0 < 6 then progW (ks.map nmQ) (orB a (nextW (nmQ k) 0 : Nat)) else none) = _
    rw [e, if_pos h1]
    exact progW_of ks (orB a (k : Int)) fun j hj => h j (by simp [hj])
theorem refW_some : ∀ (ws : List (List UInt8)) (n : Nat) (a r : Int), refW n ws a = some r → ∃ ks : List Nat, ws = ks.map nmQ ∧ (∀ k ∈ ks, n ≤ k ∧ k < 6) ∧ ks.Pairwise (· < ·) ∧ r = foldO ks a
  | [], _, a, r, h => ⟨[], rfl, (fun k hk => by cases hk), List.Pairwise.nil, (Option.some.inj h).symm⟩
  | w :: ws, n, a, r, h => by
    have h' : (if nextW w n < 6 then refW (nextW w n + 1) ws (orB a (nextW w n : Nat)) else none) = some r := h
    by_cases hn : nextW w n < 6
    · rw [if_pos hn] at h'
      obtain ⟨ks, e1, e2, e3, e4⟩ := refW_some ws _ _ r h'
      have hs := (nextW_spec w (6 - n) n rfl).2 hn
      refine ⟨nextW w n :: ks, by rw [List.map_cons, hs.2, e1], ?_, ?_, e4⟩
      · intro k hk
        rcases List.mem_cons.1 hk with rfl | hk
        · exact ⟨hs.1, hn⟩
        · have := e2 k hk; exact ⟨by omega, this.2⟩
      · exact List.pairwise_cons.2 ⟨fun k hk => by have := e2 k hk; omega, e3⟩
    · rw [if_neg hn] at h'; cases h'
theorem foldO_any : ∀ (ks : List Nat) (a : Int), (0 ≤ a ∧ a ≤ 63) → (∀ k ∈ ks, k < 6) → (0 ≤ foldO ks a ∧ foldO ks a ≤ 63) ∧ ∀ q : Nat, q < 6 → canB (foldO ks a) (q : Int) = (canB a (q : Int) || decide (q ∈ ks))
  | [], a, ha, _ => ⟨ha, fun q _ => by simp [foldO]⟩
  | k :: ks, a, ha, h => by
    have h1 := skill_any (m := (k : Int)) ha ⟨by omega, by have := h k (by simp); omega⟩
    have ih := foldO_any ks (orB a (k : Int)) h1.1 fun j hj => h j (by simp [hj])
    refine ⟨ih.1, fun q hq => ?_⟩
    show canB (foldO ks (orB a (k : Int))) (q : Int) = _
    rw [ih.2 q hq, h1.2 (q : Int) (by omega) (by omega), Bool.or_assoc]
    congr 1
    rw [Bool.eq_iff_iff]
    simp
    by_cases e : q = k
    · subst e; simp
    · simp [e]; omega
theorem filter_range : ∀ (m n : Nat) (ks : List Nat), ks.Pairwise (· < ·) → (∀ k ∈ ks, n ≤ k ∧ k < n + m) → (List.range' n m).filter (fun j => decide (j ∈ ks)) = ks
  | 0, n, ks, _, h => by
    cases ks with
    | nil => rfl
    | cons k ks => have := h k (by simp); omega
  | m + 1, n, ks, hp, h => by
    rw [List.range'_succ]
    cases ks with
    | nil => simp
    | cons k ks =>
      have hp' := List.pairwise_cons.1 hp
      have hk := h k (by simp)
      by_cases e : n = k
      · subst e
        rw [List.filter_cons_of_pos (by simp)]
        congr 1
        have ih := filter_range m (n + 1) ks hp'.2 fun j hj => ⟨hp'.1 j hj, by have := h j (by simp [hj]); omega⟩
        rw [← ih]
        apply List.filter_congr
        intro j hj
        have hj' := (List.mem_range'_1.1 hj).1
        have : j ≠ n := by omega
        rw [ih]
        simp [this]
      · rw [List.filter_cons_of_neg (by
          simp
          refine ⟨e, fun hm => ?_⟩
          have := hp'.1 n hm
          omega)]
        exact filter_range m (n + 1) (k :: ks) hp fun j hj => ⟨by
          rcases List.mem_cons.1 hj with rfl | hj
          · omega
          · have := hp'.1 j hj; omega, by have := h j hj; omega⟩
theorem can_zero : ∀ q : Nat, q < 6 → canB 0 (q : Int) = false := by decide +kernel
theorem ksO_fold {ks : List Nat} (hp : ks.Pairwise (· < ·)) (h : ∀ k ∈ ks, k < 6) : ksO (foldO ks 0) = ks := by
  have h1 := (foldO_any ks 0 (by omega) h).2
  have h2 := filter_range 6 0 ks hp fun k hk => ⟨Nat.zero_le _, by have := h k hk; omega⟩
  unfold ksO
  rw [List.range_eq_range']
  refine Eq.trans (List.filter_congr fun j hj => ?_) h2
  have hj' : j < 6 := by have := (List.mem_range'_1.1 hj).2; omega
  rw [h1 j hj', can_zero j hj', Bool.false_or]
theorem ksO_sorted (s : Int) : (ksO s).Pairwise (· < ·) := List.Pairwise.filter _ (List.pairwise_lt_range)
theorem foldO_ks : ∀ s : Fin 64, foldO (ksO (s.val : Int)) 0 = (s.val : Int) := by decide +kernel
theorem foldO_skills {s : Int} (h : 0 ≤ s ∧ s ≤ 63) : foldO (ksO s) 0 = s := by
  have := foldO_ks ⟨s.toNat, by omega⟩
  simp only at this
  rwa [show ((s.toNat : Nat) : Int) = s by omega] at this
/-- one line: the reference's reading -/
def refL (l : List UInt8) : Option OperatorT :=
  if (parts 32 l).headD [] = [] ∨ ((parts 32 l).headD []).getLast? ≠ some 58 then none
  else (refW 0 (parts 32 l).tail 0).map fun r => ⟨⟨((parts 32 l).headD []).dropLast.toArray⟩, r⟩
/-- .. and the program's -/
def wordsF (l : List UInt8) : List (List UInt8) := (parts 32 l).filter fun p => !p.isEmpty
def progL (l : List UInt8) : Option OperatorT := (progW (wordsF (Lib.cut l [58]).2.1) 0).map fun r => ⟨⟨(Lib.cut l [58]).1.toArray⟩, r⟩
theorem mk_list (s : ByteArray) : (⟨s.data.toList.toArray⟩ : ByteArray) = s := by simp
theorem refL_line {x : OperatorT} (hn : nameB x.nm = true) (hs : 0 ≤ x.skills ∧ x.skills ≤ 63) : refL (lineQ x) = some x := by
  have e : parts 32 (lineQ x) = (x.nm.data.toList ++ [58]) :: (ksO x.skills).map nmQ := by
    have h := parts_words (ks := ksO x.skills) (p := x.nm.data.toList ++ [58]) ksO_lt (fun b hb => by
      rcases List.mem_append.1 hb with hb | hb
      · exact (name_bytes hn b hb).2.1
      · rw [List.mem_singleton] at hb; rw [hb]; decide)
    unfold lineQ
    rw [show x.nm.data.toList ++ 58 :: wordsL (ksO x.skills) = x.nm.data.toList ++ [58] ++ wordsL (ksO x.skills) by simp]
    exact h
  unfold refL
  rw [e]
  refine (if_neg (by simp)).trans ?_
  show (refW 0 ((ksO x.skills).map nmQ) 0).map (fun r => (⟨⟨(x.nm.data.toList ++ [58]).dropLast.toArray⟩, r⟩ : OperatorT)) = some x
  rw [refW_of (ksO x.skills) 0 0 (fun k hk => ⟨Nat.zero_le _, ksO_lt k hk⟩) (ksO_sorted _), foldO_skills hs]
  simp
theorem refL_some {l : List UInt8} {x : OperatorT} (h : refL l = some x) : l = lineQ x ∧ 0 ≤ x.skills ∧ x.skills ≤ 63 := by
  unfold refL at h
  split at h
  · cases h
  · rename_i hc
    have hj := parts_join 32 l
    obtain ⟨w0, hw0⟩ : ∃ w0, (parts 32 l).headD [] = w0 := ⟨_, rfl⟩
    obtain ⟨ws, hws⟩ : ∃ ws, (parts 32 l).tail = ws := ⟨_, rfl⟩
    rw [hw0, hws] at h hj
    rw [hw0] at hc
    cases hr : refW 0 ws 0 with
    | none => rw [hr] at h; cases h
    | some r =>
      rw [hr] at h
      obtain rfl := Option.some.inj h
      obtain ⟨ks, e1, e2, e3, e4⟩ := refW_some ws 0 0 r hr
      have hlt : ∀ k ∈ ks, k < 6 := fun k hk => (e2 k hk).2
      have hf := foldO_any ks 0 (by omega) hlt
      rw [← e4] at hf
      have hk := ksO_fold e3 hlt
      rw [← e4] at hk
      refine ⟨?_, hf.1⟩
      have hl : w0.getLast? = some 58 := by
        by_cases hq : w0.getLast? = some 58
        · exact hq
        · exact absurd (.inr hq) hc
      have hd : w0 = w0.dropLast ++ [58] := by
        obtain ⟨ys, rfl⟩ := List.getLast?_eq_some_iff.1 hl
        simp
      unfold lineQ
      simp only
      rw [hk, ← hj, e1]
      unfold wordsL
      rw [List.flatMap_map]
      conv => lhs; rw [hd]
      simp
theorem index_byte {c : UInt8} : ∀ {p l : List UInt8}, (∀ b ∈ p, b ≠ c) → Lib.indexByte (p ++ c :: l) c = (p.length : Int)
  | [], l, _ => by show Lib.indexByte (c :: l) c = _; unfold Lib.indexByte; simp
  | b :: p, l, h => by
    have ih := index_byte (p := p) (l := l) fun x hx => h x (by simp [hx])
    show Lib.indexByte (b :: (p ++ c :: l)) c = _
    unfold Lib.indexByte
    have hb : (b == c) = false := by simpa using h b (by simp)
    rw [hb, ih]
    have : ((p.length : Int) == -1) = false := by rw [beq_eq_false_iff_ne]; omega
    simp [this]
theorem cut_at {c : UInt8} {p l : List UInt8} (h : ∀ b ∈ p, b ≠ c) : Lib.cut (p ++ c :: l) [c] = (p, l, true) := by
  unfold Lib.cut
  rw [Lib.index_one, index_byte h, if_pos (by omega)]
  have e : ((p.length : Int)).toNat = p.length := by omega
  rw [e]
  simp
theorem progL_line {x : OperatorT} (hn : nameB x.nm = true) (hs : 0 ≤ x.skills ∧ x.skills ≤ 63) : progL (lineQ x) = some x := by
  have hc : Lib.cut (lineQ x) [58] = (x.nm.data.toList, wordsL (ksO x.skills), true) := cut_at fun b hb => (name_bytes hn b hb).2.2
  have hp := parts_words (ks := ksO x.skills) (p := []) ksO_lt (fun b hb => by cases hb)
  rw [List.nil_append] at hp
  have hw : wordsF (wordsL (ksO x.skills)) = (ksO x.skills).map nmQ := by
    unfold wordsF
    rw [hp, List.filter_cons_of_neg (by simp), List.filter_eq_self.2]
    intro p hp
    obtain ⟨k, hk, rfl⟩ := List.mem_map.1 hp
    have := (nmQ_bytes k (ksO_lt k hk)).2
    cases hq : nmQ k with
    | nil => exact absurd hq this
    | cons a b => rfl
  unfold progL
  rw [hc]
  simp only
  rw [hw, progW_of _ _ ksO_lt, foldO_skills hs]
  simp
/-- all lines, or none -/
def allM {α β : Type} (f : α → Option β) : List α → Option (List β)
  | [] => some []
  | a :: l => match f a, allM f l with
    | some b, some bs => some (b :: bs)
    | _, _ => none
theorem allM_snoc {α β : Type} {f : α → Option β} {a : α} : ∀ {l : List α}, allM f (l ++ [a]) = match allM f l, f a with | some bs, some b => some (bs ++ [b]) | _, _ => none
  | [] => by cases h : f a <;> simp [allM, h]
  | c :: l => by
    have ih := allM_snoc (f := f) (a := a) (l := l)
    show (match f c, allM f (l ++ [a]) with | some b, some bs => some (b :: bs) | _, _ => none) = (match (match f c, allM f l with | some b, some bs => some (b :: bs) | _, _ => none), f a with | some bs, some b => some (bs ++ [b]) | _, _ => none)
    rw [ih]
    cases f c <;> cases allM f l <;> cases f a <;> rfl
theorem allM_none {α β : Type} {f : α → Option β} : ∀ {l : List α} {a : α}, a ∈ l → f a = none → allM f l = none
  | c :: l, a, hm, h => by
    rcases List.mem_cons.1 hm with rfl | hm
    · show (match f a, allM f l with | some b, some bs => some (b :: bs) | _, _ => none) = none
      rw [h]
    · have ih := allM_none hm h
      show (match f c, allM f l with | some b, some bs => some (b :: bs) | _, _ => none) = none
      rw [ih]
      cases f c <;> rfl
theorem allM_map {α β : Type} {f : α → Option β} {g : β → α} : ∀ {xs : List β}, (∀ x ∈ xs, f (g x) = some x) → allM f (xs.map g) = some xs
  | [], _ => rfl
  | x :: xs, h => by
    have ih := allM_map (f := f) (g := g) (xs := xs) fun y hy => h y (by simp [hy])
    show (match f (g x), allM f (xs.map g) with | some b, some bs => some (b :: bs) | _, _ => none) = _
    rw [ih, h x (by simp)]
theorem allM_some {α β : Type} {f : α → Option β} {g : β → α} {P : β → Prop} (hf : ∀ a b, f a = some b → a = g b ∧ P b) : ∀ {l : List α} {xs : List β}, allM f l = some xs → l = xs.map g ∧ ∀ x ∈ xs, P x
  | [], xs, h => by obtain rfl := Option.some.inj h; exact ⟨rfl, fun x hx => by cases hx⟩
  | a :: l, xs, h => by
    have h' : (match f a, allM f l with | some b, some bs => some (b :: bs) | _, _ => none) = some xs := h
    cases ha : f a with
    | none => rw [ha] at h'; cases h'
    | some b =>
      cases hl : allM f l with
      | none => rw [ha, hl] at h'; cases h'
      | some bs =>
        rw [ha, hl] at h'
        obtain rfl := Option.some.inj h'
        obtain ⟨e1, e2⟩ := allM_some hf hl
        obtain ⟨e3, e4⟩ := hf a b ha
        exact ⟨by rw [List.map_cons, ← e3, ← e1], fun x hx => by rcases List.mem_cons.1 hx with rfl | hx; exact e4; exact e2 x hx⟩
/-- the whole text: both readings -/
def refO (s : List UInt8) : Option (List OperatorT) :=
  if (parts 10 s).getLast? ≠ some [] ∨ 9 < (parts 10 s).length then none
  else match allM refL (parts 10 s).dropLast with
    | none => none
    | some xs => if validOs xs = true then some xs else none
def progO (s : List UInt8) : Option (List OperatorT) :=
  if 9 < (parts 10 s).length then none
  else match allM progL (parts 10 s).dropLast with
    | none => none
    | some xs => if validOs xs = true ∧ textQ xs = s then some xs else none
theorem text_of_lines {s : List UInt8} {xs : List OperatorT} (hl : (parts 10 s).getLast? = some []) (h : (parts 10 s).dropLast = xs.map lineQ) : textQ xs = s := by
  have hj := parts_join 10 s
  have hd : parts 10 s = (parts 10 s).dropLast ++ [[]] := by
    obtain ⟨ys, hy⟩ := List.getLast?_eq_some_iff.1 hl
    rw [hy]; simp
  rw [h] at hd
  rw [hd] at hj
  rw [← hj]
  clear hj hd hl h
  have key : ∀ ys : List OperatorT, (ys.map lineQ ++ [[]]).headD [] ++ ((ys.map lineQ ++ [[]]).tail.flatMap fun p => (10 : UInt8) :: p) = textQ ys := by
    intro ys
    induction ys with
    | nil => rfl
    | cons y ys ih =>
      show lineQ y ++ ((ys.map lineQ ++ [[]]).flatMap fun p => (10 : UInt8) :: p) = textQ (y :: ys)
      have e : textQ (y :: ys) = lineQ y ++ 10 :: textQ ys := by unfold textQ; rw [List.flatMap_cons]; simp
      rw [e, ← ih]
      congr 1
      cases ys with
      | nil => rfl
      | cons z zs => rfl
  exact (key xs).symm
theorem readO_eq (s : List UInt8) : progO s = refO s := by
  have hvp : ∀ {xs : List OperatorT}, validOs xs = true → ∀ x ∈ xs, nameB x.nm = true ∧ 0 ≤ x.skills ∧ x.skills ≤ 63 := fun h => (validOs_parts h).2
  have hfull : ∀ {xs : List OperatorT}, validOs xs = true → textQ xs = s → parts 10 s = xs.map lineQ ++ [[]] := by
    intro xs hv ht
    rw [← ht]
    exact parts_text fun x hx => (hvp hv x hx).1
  cases hr : refO s with
  | some xs =>
    have h := hr
    unfold refO at h
    split at h
    · cases h
    · rename_i hc
      cases ha : allM refL (parts 10 s).dropLast with
      | none => rw [ha] at h; cases h
      | some ys =>
        rw [ha] at h
        simp only at h
        split at h
        · rename_i hv
          obtain rfl := Option.some.inj h
          have hl : (parts 10 s).getLast? = some [] := by
            by_cases hq : (parts 10 s).getLast? = some []
            · exact hq
            · exact absurd (.inl hq) hc
          have hm := (allM_some (g := lineQ) (P := fun _ => True) (fun a b hab => ⟨(refL_some hab).1, trivial⟩) ha).1
          have ht := text_of_lines hl hm
          unfold progO
          rw [if_neg (fun h => hc (.inr h)), hm, allM_map fun x hx => progL_line (hvp hv x hx).1 (hvp hv x hx).2]
          simp only
          rw [if_pos ⟨hv, ht⟩]
        · cases h
  | none =>
    cases hp : progO s with
    | none => rfl
    | some xs =>
      have h := hp
      unfold progO at h
      split at h
      · cases h
      · rename_i hc
        cases ha : allM progL (parts 10 s).dropLast with
        | none => rw [ha] at h; cases h
        | some ys =>
          rw [ha] at h
          simp only at h
          split at h
          · rename_i hv
            obtain rfl := Option.some.inj h
            have hf := hfull hv.1 hv.2
            exfalso
            unfold refO at hr
            rw [if_neg (by rw [hf] at hc ⊢; simp at hc ⊢; exact hc), hf] at hr
            simp only [List.dropLast_concat] at hr
            rw [allM_map fun x hx => refL_line (hvp hv.1 x hx).1 (hvp hv.1 x hx).2] at hr
            simp only at hr
            rw [if_pos hv.1] at hr
            cases hr
          · cases h
end Go.Proofs.YtilgepapkigblaaDoor
