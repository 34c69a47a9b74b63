/- Posts and operators, plain: augmenting paths find a greatest matching. No program in sight. No condition. -/
import Derived.WalkKit
namespace Go.Proofs.Ytfojfcmjoacbgaa
set_option linter.unusedVariables false
set_option maxRecDepth 100000

def upd {β : Type} (f : Nat → β) (i : Nat) (v : β) : Nat → β := fun j => if j = i then v else f j
theorem upd_same {β : Type} (f : Nat → β) (i : Nat) (v : β) : upd f i v i = v := if_pos rfl
theorem upd_other {β : Type} {f : Nat → β} {i j : Nat} {v : β} (h : j ≠ i) : upd f i v j = f j := if_neg h
abbrev St := (Nat → Int) × (Nat → Bool)
/-- one operator is asked -/
def augStep (E : Nat → Nat → Bool) (again : Nat → St → Bool × St) (p : Nat) (r : Bool × St) (i : Nat) : Bool × St :=
  if r.1 = true then r else if (r.2.2 i || !E i p) = true then r
  else if r.2.1 i < 0 then (true, upd r.2.1 i (p : Int), upd r.2.2 i true)
  else if (again (r.2.1 i).toNat (r.2.1, upd r.2.2 i true)).1 = true then (true, upd (again (r.2.1 i).toNat (r.2.1, upd r.2.2 i true)).2.1 i (p : Int), (again (r.2.1 i).toNat (r.2.1, upd r.2.2 i true)).2.2)
  else again (r.2.1 i).toNat (r.2.1, upd r.2.2 i true)
/-- another post for operators, so that a post can be filled -/
def aug (E : Nat → Nat → Bool) (n : Nat) : Nat → Nat → St → Bool × St
  | 0, _, st => (false, st)
  | f + 1, p, st => (List.range n).foldl (augStep E (aug E n f) p) (false, st)
def augK (E : Nat → Nat → Bool) (n f p : Nat) (st : St) (k : Nat) : Bool × St := (List.range k).foldl (augStep E (aug E n f) p) (false, st)
theorem aug_succ (E : Nat → Nat → Bool) (n f p : Nat) (st : St) : aug E n (f + 1) p st = augK E n f p st n := rfl
theorem augK_zero (E : Nat → Nat → Bool) (n f p : Nat) (st : St) : augK E n f p st 0 = (false, st) := rfl
theorem augK_succ (E : Nat → Nat → Bool) (n f p : Nat) (st : St) (k : Nat) : augK E n f p st (k + 1) = augStep E (aug E n f) p (augK E n f p st k) k := by
  unfold augK
  rw [List.range_succ, List.foldl_append]
  rfl
theorem augStep_done {E : Nat → Nat → Bool} {again : Nat → St → Bool × St} {p i : Nat} {r : Bool × St} (h : r.1 = true) : augStep E again p r i = r := by unfold augStep; rw [if_pos h]

/-- what is not yet seen -/
def unseen (n : Nat) (seen : Nat → Bool) : Nat := (List.range n).countP (fun i => !seen i)
theorem countP_lt {α : Type} {p q : α → Bool} {l : List α} (h : ∀ x ∈ l, p x = true → q x = true) {y : α} (hy : y ∈ l) (hq : q y = true) (hp : p y = false) : l.countP p < l.countP q := by
  induction l with
  | nil => cases hy
  | cons x l ih =>
    rw [List.countP_cons, List.countP_cons]
    have hle : l.countP p ≤ l.countP q := List.countP_mono_left (fun z hz => h z (List.mem_cons_of_mem _ hz))
    rcases List.mem_cons.1 hy with rfl | hy
    · rw [hq, hp]; simp; omega
    · have := ih (fun z hz => h z (List.mem_cons_of_mem _ hz)) hy
      have h1 := h x (List.mem_cons_self ..)
      cases hpx : p x with
      | false => simp; split <;> omega
      | true => rw [h1 hpx]; simp; omega
theorem unseen_mono {n : Nat} {s t : Nat → Bool} (h : ∀ i, s i = true → t i = true) : unseen n t ≤ unseen n s :=
  List.countP_mono_left (fun i _ hi => by
    cases hs : s i with
    | false => rfl
    | true => rw [h i hs] at hi; cases hi)
theorem unseen_upd {n k : Nat} {s : Nat → Bool} (hk : k < n) (h : s k = false) : unseen n (upd s k true) < unseen n s := by
  refine countP_lt (y := k) (fun i _ hi => ?_) (List.mem_range.2 hk) (by rw [h]; rfl) (by rw [upd_same]; rfl)
  by_cases e : i = k
  · subst e; rw [upd_same] at hi; cases hi
  · rw [upd_other e] at hi; exact hi

/-- a call that fails, whatever its fuel -/
theorem aug_false (E : Nat → Nat → Bool) (n : Nat) : ∀ (f p : Nat) (at_ : Nat → Int) (seen : Nat → Bool), (aug E n f p (at_, seen)).1 = false →
    (aug E n f p (at_, seen)).2.1 = at_ ∧ ∀ i, seen i = true → (aug E n f p (at_, seen)).2.2 i = true := by
  intro f
  induction f with
  | zero => intro p at_ seen _; exact ⟨rfl, fun i h => h⟩
  | succ f ih =>
    intro p at_ seen
    rw [aug_succ]
    have key : ∀ k, (augK E n f p (at_, seen) k).1 = false → (augK E n f p (at_, seen) k).2.1 = at_ ∧ ∀ i, seen i = true → (augK E n f p (at_, seen) k).2.2 i = true := by
      intro k
      induction k with
      | zero => intro _; exact ⟨rfl, fun i h => h⟩
      | succ k ihk =>
        rw [augK_succ]
        generalize augK E n f p (at_, seen) k = r at ihk ⊢
        obtain ⟨rb, ra, rs⟩ := r
        intro h
        unfold augStep at h ⊢
        dsimp only at *
        cases rb with
        | true => simp at h
        | false =>
          obtain ⟨h1, h2⟩ := ihk rfl
          subst h1
          simp only [Bool.false_eq_true, if_false] at h ⊢
          by_cases c1 : (rs k || !E k p) = true
          · rw [if_pos c1]; exact ⟨rfl, h2⟩
          · rw [if_neg c1] at h ⊢
            by_cases c2 : ra k < 0
            · rw [if_pos c2] at h; cases h
            · rw [if_neg c2] at h ⊢
              by_cases c3 : (aug E n f (ra k).toNat (ra, upd rs k true)).1 = true
              · rw [if_pos c3] at h; cases h
              · rw [if_neg c3] at h ⊢
                obtain ⟨h3, h4⟩ := ih _ _ _ h
                refine ⟨h3, fun i hi => h4 i ?_⟩
                by_cases e : i = k
                · subst e; exact upd_same _ _ _
                · rw [upd_other e]; exact h2 i hi
    exact key n
/-- the loop, as far as nothing was found -/
theorem augK_false (E : Nat → Nat → Bool) (n f p : Nat) (at_ : Nat → Int) (seen : Nat → Bool) : ∀ k, (augK E n f p (at_, seen) k).1 = false →
    (augK E n f p (at_, seen) k).2.1 = at_ ∧ ∀ i, seen i = true → (augK E n f p (at_, seen) k).2.2 i = true := by
  intro k
  induction k with
  | zero => intro _; exact ⟨rfl, fun i h => h⟩
  | succ k ihk =>
    rw [augK_succ]
    generalize augK E n f p (at_, seen) k = r at ihk ⊢
    obtain ⟨rb, ra, rs⟩ := r
    intro h
    unfold augStep at h ⊢
    dsimp only at *
    cases rb with
    | true => simp at h
    | false =>
      obtain ⟨h1, h2⟩ := ihk rfl
      subst h1
      simp only [Bool.false_eq_true, if_false] at h ⊢
      by_cases c1 : (rs k || !E k p) = true
      · rw [if_pos c1]; exact ⟨rfl, h2⟩
      · rw [if_neg c1] at h ⊢
        by_cases c2 : ra k < 0
        · rw [if_pos c2] at h; cases h
        · rw [if_neg c2] at h ⊢
          by_cases c3 : (aug E n f (ra k).toNat (ra, upd rs k true)).1 = true
          · rw [if_pos c3] at h; cases h
          · rw [if_neg c3] at h ⊢
            obtain ⟨h3, h4⟩ := aug_false E n f _ _ _ h
            refine ⟨h3, fun i hi => h4 i ?_⟩
            by_cases e : i = k
            · subst e; exact upd_same _ _ _
            · rw [upd_other e]; exact h2 i hi

/-- a call that fails with fuel enough: all that can be reached has been seen, and all of it is taken -/
theorem aug_fail (E : Nat → Nat → Bool) (n : Nat) : ∀ (f p : Nat) (at_ : Nat → Int) (seen : Nat → Bool), unseen n seen < f → (aug E n f p (at_, seen)).1 = false →
    (∀ i, i < n → E i p = true → (aug E n f p (at_, seen)).2.2 i = true) ∧
    ∀ i, (aug E n f p (at_, seen)).2.2 i = true → seen i = false → i < n ∧ 0 ≤ at_ i ∧ ∀ j, j < n → E j (at_ i).toNat = true → (aug E n f p (at_, seen)).2.2 j = true := by
  intro f
  induction f with
  | zero => intro p at_ seen h; omega
  | succ f ih =>
    intro p at_ seen hu
    rw [aug_succ]
    have key : ∀ k, k ≤ n → (augK E n f p (at_, seen) k).1 = false → (∀ i, i < k → E i p = true → (augK E n f p (at_, seen) k).2.2 i = true) ∧
        ∀ i, (augK E n f p (at_, seen) k).2.2 i = true → seen i = false → i < n ∧ 0 ≤ at_ i ∧ ∀ j, j < n → E j (at_ i).toNat = true → (augK E n f p (at_, seen) k).2.2 j = true := by
      intro k
      induction k with
      | zero => intro _ _; exact ⟨fun i hi => by omega, fun i h1 h2 => by rw [augK_zero] at h1; exact absurd h1 (by show ¬ seen i = true; rw [h2]; decide)⟩
      | succ k ihk =>
        intro hk
        have h0 := augK_false E n f p at_ seen k
        rw [augK_succ]
        have ihk := ihk (by omega)
        generalize augK E n f p (at_, seen) k = r at ihk h0 ⊢
        obtain ⟨rb, ra, rs⟩ := r
        intro h
        unfold augStep at h ⊢
        dsimp only at *
        cases rb with
        | true => simp at h
        | false =>
          obtain ⟨h1, h2⟩ := h0 rfl
          obtain ⟨i1, i2⟩ := ihk rfl
          subst h1
          simp only [Bool.false_eq_true, if_false] at h ⊢
          by_cases c1 : (rs k || !E k p) = true
          · rw [if_pos c1]
            refine ⟨fun i hi he => ?_, i2⟩
            by_cases e : i < k
            · exact i1 i e he
            · obtain rfl : i = k := by omega
              simpa [he] using c1
          · rw [if_neg c1] at h ⊢
            by_cases c2 : ra k < 0
            · rw [if_pos c2] at h; cases h
            · rw [if_neg c2] at h ⊢
              by_cases c3 : (aug E n f (ra k).toNat (ra, upd rs k true)).1 = true
              · rw [if_pos c3] at h; cases h
              · rw [if_neg c3] at h ⊢
                have hrs : rs k = false := by
                  cases hh : rs k with
                  | false => rfl
                  | true => rw [hh] at c1; exact absurd rfl c1
                have hun : unseen n (upd rs k true) < f := by
                  have := unseen_upd (n := n) (k := k) (s := rs) (by omega) hrs
                  have := unseen_mono (n := n) h2
                  omega
                obtain ⟨_, h4⟩ := aug_false E n f _ _ _ h
                obtain ⟨j1, j2⟩ := ih _ _ _ hun h
                have hmono : ∀ i, rs i = true → (aug E n f (ra k).toNat (ra, upd rs k true)).2.2 i = true := fun i hi => h4 i (by
                  by_cases e : i = k
                  · subst e; exact upd_same _ _ _
                  · rw [upd_other e]; exact hi)
                have hk2 : (aug E n f (ra k).toNat (ra, upd rs k true)).2.2 k = true := h4 k (upd_same _ _ _)
                refine ⟨fun i hi he => ?_, fun i hi hs => ?_⟩
                · by_cases e : i < k
                  · exact hmono i (i1 i e he)
                  · obtain rfl : i = k := by omega
                    exact hk2
                · by_cases e : i = k
                  · subst e
                    exact ⟨by omega, by omega, fun j hj he => j1 j hj he⟩
                  · cases hr : rs i with
                    | true =>
                      obtain ⟨a1, a2, a3⟩ := i2 i hr hs
                      exact ⟨a1, a2, fun j hj he => hmono j (a3 j hj he)⟩
                    | false => exact j2 i hi (by rw [upd_other e]; exact hr)
    exact key n (Nat.le_refl _)
/-- a certificate: the posts S have all their operators in T, and these are taken by posts of S -/
structure Cert (E : Nat → Nat → Bool) (n : Nat) (at_ : Nat → Int) (S T : Nat → Prop) : Prop where
  nb : ∀ j, S j → ∀ i, i < n → E i j = true → T i
  tk : ∀ i, T i → i < n ∧ 0 ≤ at_ i ∧ S (at_ i).toNat
theorem aug_cert (E : Nat → Nat → Bool) (n : Nat) {S T : Nat → Prop} : ∀ (f p : Nat) (at_ : Nat → Int) (seen : Nat → Bool), Cert E n at_ S T →
    (S p → (aug E n f p (at_, seen)).1 = false) ∧ ((aug E n f p (at_, seen)).1 = true → ∀ i, T i → (aug E n f p (at_, seen)).2.1 i = at_ i) := by
  intro f
  induction f with
  | zero => intro p at_ seen _; exact ⟨fun _ => rfl, fun h => by cases h⟩
  | succ f ih =>
    intro p at_ seen hc
    rw [aug_succ]
    have key : ∀ k, k ≤ n → (S p → (augK E n f p (at_, seen) k).1 = false) ∧ ((augK E n f p (at_, seen) k).1 = true → ∀ i, T i → (augK E n f p (at_, seen) k).2.1 i = at_ i) := by
      intro k
      induction k with
      | zero => intro _; exact ⟨fun _ => rfl, fun h => by cases h⟩
      | succ k ihk =>
        intro hk
        have h0 := augK_false E n f p at_ seen k
        rw [augK_succ]
        have ihk := ihk (by omega)
        generalize augK E n f p (at_, seen) k = r at ihk h0 ⊢
        obtain ⟨rb, ra, rs⟩ := r
        obtain ⟨i1, i2⟩ := ihk
        cases rb with
        | true => rw [augStep_done rfl]; exact ⟨i1, i2⟩
        | false =>
          obtain ⟨h1, h2⟩ := h0 rfl
          dsimp only at h1
          subst h1
          unfold augStep
          simp only [Bool.false_eq_true, if_false]
          by_cases c1 : (rs k || !E k p) = true
          · rw [if_pos c1]; exact ⟨fun _ => rfl, fun h => by cases h⟩
          · rw [if_neg c1]
            have he : E k p = true := by
              cases hh : E k p with
              | true => rfl
              | false => rw [hh] at c1; simp at c1
            have hTk : T k → S (ra k).toNat ∧ 0 ≤ ra k := fun ht => ⟨(hc.tk k ht).2.2, (hc.tk k ht).2.1⟩
            by_cases c2 : ra k < 0
            · rw [if_pos c2]
              have hnT : ¬ T k := fun ht => by have := (hTk ht).2; omega
              refine ⟨fun hS => absurd (hc.nb p hS k (by omega) he) hnT, fun _ i hi => ?_⟩
              exact upd_other (fun e => hnT (e ▸ hi))
            · rw [if_neg c2]
              obtain ⟨j1, j2⟩ := ih (ra k).toNat ra (upd rs k true) hc
              by_cases c3 : (aug E n f (ra k).toNat (ra, upd rs k true)).1 = true
              · rw [if_pos c3]
                have hnT : ¬ T k := fun ht => by have := j1 (hTk ht).1; rw [this] at c3; cases c3
                refine ⟨fun hS => absurd (hc.nb p hS k (by omega) he) hnT, fun _ i hi => ?_⟩
                have e : i ≠ k := fun e => hnT (e ▸ hi)
                exact (upd_other e).trans (j2 c3 i hi)
              · rw [if_neg c3]
                exact ⟨fun _ => by simpa using c3, fun h => absurd h c3⟩
    exact key n (Nat.le_refl _)
/-- how many operators are taken -/
def cnt (n : Nat) (a : Nat → Int) : Nat := (List.range n).countP (fun i => decide (0 ≤ a i))
theorem cnt_far {n k : Nat} {a : Nat → Int} {v : Int} (h : n ≤ k) : cnt n (upd a k v) = cnt n a := by
  unfold cnt
  refine List.countP_congr fun i hi => ?_
  have := List.mem_range.1 hi
  rw [upd_other (by omega)]
theorem cnt_succ (n : Nat) (a : Nat → Int) : cnt (n + 1) a = cnt n a + if 0 ≤ a n then 1 else 0 := by
  unfold cnt
  rw [List.range_succ, List.countP_append]
  by_cases h : 0 ≤ a n <;> simp [h]
theorem cnt_upd {k : Nat} {a : Nat → Int} {v : Int} (hv : 0 ≤ v) : ∀ n, k < n → cnt n (upd a k v) = cnt n a + if 0 ≤ a k then 0 else 1 := by
  intro n
  induction n with
  | zero => intro h; omega
  | succ n ih =>
    intro hk
    rw [cnt_succ, cnt_succ]
    by_cases e : k = n
    · subst e
      rw [cnt_far (Nat.le_refl _), upd_same, if_pos hv]
      by_cases h : 0 ≤ a k <;> simp [h]
    · rw [ih (by omega), upd_other (by omega)]
      omega
/-- what a matching is, among the operators that are not seen -/
structure Inj (n : Nat) (a : Nat → Int) (seen : Nat → Bool) : Prop where
  inj : ∀ i j, i < n → j < n → seen i = false → seen j = false → 0 ≤ a i → a i = a j → i = j
structure Aug (E : Nat → Nat → Bool) (n p : Nat) (a : Nat → Int) (seen : Nat → Bool) (b : Nat → Int) : Prop where
  keep : ∀ i, seen i = true ∨ n ≤ i → b i = a i
  inj : ∀ i j, i < n → j < n → seen i = false → seen j = false → 0 ≤ b i → b i = b j → i = j
  edge : ∀ i, i < n → 0 ≤ b i → E i (b i).toNat = true
  from_ : ∀ i, i < n → seen i = false → 0 ≤ b i → b i = p ∨ ∃ j, j < n ∧ seen j = false ∧ a j = b i
  here : ∃ i, i < n ∧ seen i = false ∧ b i = p
  still : ∀ i, i < n → seen i = false → 0 ≤ a i → ∃ j, j < n ∧ seen j = false ∧ b j = a i
  count : cnt n b = cnt n a + 1
theorem aug_ok (E : Nat → Nat → Bool) (n : Nat) : ∀ (f p : Nat) (at_ : Nat → Int) (seen : Nat → Bool),
    (∀ i j, i < n → j < n → seen i = false → seen j = false → 0 ≤ at_ i → at_ i = at_ j → i = j) → (∀ i, i < n → seen i = false → at_ i ≠ (p : Int)) → (∀ i, i < n → 0 ≤ at_ i → E i (at_ i).toNat = true) →
    (aug E n f p (at_, seen)).1 = true → Aug E n p at_ seen (aug E n f p (at_, seen)).2.1 := by
  intro f
  induction f with
  | zero => intro p at_ seen _ _ _ h; cases h
  | succ f ih =>
    intro p at_ seen H1 H2 H3
    rw [aug_succ]
    have key : ∀ k, k ≤ n → (augK E n f p (at_, seen) k).1 = true → Aug E n p at_ seen (augK E n f p (at_, seen) k).2.1 := by
      intro k
      induction k with
      | zero => intro _ h; cases h
      | succ k ihk =>
        intro hk
        have h0 := augK_false E n f p at_ seen k
        rw [augK_succ]
        have ihk := ihk (by omega)
        generalize augK E n f p (at_, seen) k = r at ihk h0 ⊢
        obtain ⟨rb, ra, rs⟩ := r
        intro h
        cases rb with
        | true => rw [augStep_done rfl] at h ⊢; exact ihk rfl
        | false =>
          obtain ⟨h1, h2⟩ := h0 rfl
          dsimp only at h1 h2
          subst h1
          unfold augStep at h ⊢
          simp only [Bool.false_eq_true, if_false] at h ⊢
          by_cases c1 : (rs k || !E k p) = true
          · rw [if_pos c1] at h; cases h
          · rw [if_neg c1] at h ⊢
            have he : E k p = true := by
              cases hh : E k p with
              | true => rfl
              | false => rw [hh] at c1; simp at c1
            have hrs : rs k = false := by
              cases hh : rs k with
              | false => rfl
              | true => rw [hh] at c1; exact absurd rfl c1
            have hsk : seen k = false := by
              cases hh : seen k with
              | false => rfl
              | true => rw [h2 k hh] at hrs; cases hrs
            by_cases c2 : ra k < 0
            · rw [if_pos c2]
              refine ⟨fun i hi => ?_, fun i j hi hj si sj h0 hij => ?_, fun i hi h0 => ?_, fun i hi si h0 => ?_, ⟨k, by omega, hsk, upd_same _ _ _⟩, fun i hi si h0 => ?_, ?_⟩
              · refine upd_other fun e => ?_
                subst e
                rcases hi with hi | hi
                · rw [hsk] at hi; cases hi
                · omega
              · dsimp only at h0 hij
                by_cases ei : i = k
                · by_cases ej : j = k
                  · omega
                  · subst ei
                    rw [upd_same, upd_other ej] at hij
                    exact absurd hij.symm (H2 j hj sj)
                · by_cases ej : j = k
                  · subst ej
                    rw [upd_same, upd_other ei] at hij
                    exact absurd hij (H2 i hi si)
                  · rw [upd_other ei, upd_other ej] at hij
                    rw [upd_other ei] at h0
                    exact H1 i j hi hj si sj h0 hij
              · dsimp only at h0 ⊢
                by_cases ei : i = k
                · subst ei; rw [upd_same]; simpa using he
                · rw [upd_other ei] at h0 ⊢; exact H3 i hi h0
              · dsimp only at h0 ⊢
                by_cases ei : i = k
                · subst ei; left; exact upd_same _ _ _
                · rw [upd_other ei]; exact .inr ⟨i, hi, si, rfl⟩
              · have ei : i ≠ k := by intro e; subst e; omega
                exact ⟨i, hi, si, upd_other ei⟩
              · dsimp only
                rw [cnt_upd (by omega) n (by omega), if_neg (by omega)]
            · rw [if_neg c2] at h ⊢
              by_cases c3 : (aug E n f (ra k).toNat (ra, upd rs k true)).1 = true
              · rw [if_pos c3]
                have hq : ((ra k).toNat : Int) = ra k := Int.toNat_of_nonneg (by omega)
                have hus : ∀ i, upd rs k true i = false → i ≠ k ∧ rs i = false ∧ seen i = false := by
                  intro i hi
                  have e : i ≠ k := by intro e; subst e; rw [upd_same] at hi; cases hi
                  rw [upd_other e] at hi
                  refine ⟨e, hi, ?_⟩
                  cases hh : seen i with
                  | false => rfl
                  | true => rw [h2 i hh] at hi; cases hi
                have A := ih (ra k).toNat ra (upd rs k true) (fun i j hi hj si sj => H1 i j hi hj (hus i si).2.2 (hus j sj).2.2) (fun i hi si e => (hus i si).1 (H1 i k hi (by omega) (hus i si).2.2 hsk (by omega) (by rw [e, hq]))) H3 c3
                generalize (aug E n f (ra k).toNat (ra, upd rs k true)).2.1 = b at A ⊢
                have hbk : b k = ra k := A.keep k (.inl (upd_same _ _ _))
                have hX : ∀ i, i < n → i ≠ k → seen i = false → 0 ≤ b i → ∃ j, j < n ∧ seen j = false ∧ ra j = b i := by
                  intro i hi ei si h0
                  cases hr : rs i with
                  | true => exact ⟨i, hi, si, (A.keep i (.inl (by rw [upd_other ei]; exact hr))).symm⟩
                  | false =>
                    rcases A.from_ i hi (by rw [upd_other ei]; exact hr) h0 with e | ⟨j, hj, sj, e⟩
                    · exact ⟨k, by omega, hsk, by rw [e, hq]⟩
                    · exact ⟨j, hj, (hus j sj).2.2, e⟩
                have hE : ∀ i, i < n → i ≠ k → seen i = false → rs i = true → ∀ j, j < n → j ≠ k → rs j = false → 0 ≤ b i → b i = b j → False := by
                  intro i hi ei si ri j hj ej rj h0 hij
                  have h3 := A.keep i (.inl (by rw [upd_other ei]; exact ri))
                  rcases A.from_ j hj (by rw [upd_other ej]; exact rj) (by omega) with e | ⟨l, hl, sl, e⟩
                  · exact ei (H1 i k hi (by omega) si hsk (by omega) (by rw [← h3, hij, e, hq]))
                  · have := H1 i l hi hl si (hus l sl).2.2 (by omega) (by rw [← h3, hij, e])
                    subst this
                    rw [(hus i sl).2.1] at ri; cases ri
                refine ⟨fun i hi => ?_, fun i j hi hj si sj h0 hij => ?_, fun i hi h0 => ?_, fun i hi si h0 => ?_, ⟨k, by omega, hsk, upd_same _ _ _⟩, fun i hi si h0 => ?_, ?_⟩
                · have ei : i ≠ k := by
                    intro e
                    subst e
                    rcases hi with hi | hi
                    · rw [hsk] at hi; cases hi
                    · omega
                  refine (upd_other ei).trans (A.keep i ?_)
                  rcases hi with hi | hi
                  · exact .inl (by rw [upd_other ei]; exact h2 i hi)
                  · exact .inr hi
                · dsimp only at h0 hij
                  by_cases ei : i = k
                  · by_cases ej : j = k
                    · omega
                    · subst ei
                      rw [upd_same, upd_other ej] at hij
                      obtain ⟨l, hl, sl, e⟩ := hX j hj ej sj (by omega)
                      exact absurd (e.trans hij.symm) (H2 l hl sl)
                  · by_cases ej : j = k
                    · subst ej
                      rw [upd_same, upd_other ei] at hij
                      rw [upd_other ei] at h0
                      obtain ⟨l, hl, sl, e⟩ := hX i hi ei si h0
                      exact absurd (e.trans hij) (H2 l hl sl)
                    · rw [upd_other ei, upd_other ej] at hij
                      rw [upd_other ei] at h0
                      cases ri : rs i with
                      | false =>
                        cases rj : rs j with
                        | false => exact A.inj i j hi hj (by rw [upd_other ei]; exact ri) (by rw [upd_other ej]; exact rj) h0 hij
                        | true => exact absurd (hE j hj ej sj rj i hi ei ri (by omega) hij.symm) id
                      | true =>
                        cases rj : rs j with
                        | false => exact absurd (hE i hi ei si ri j hj ej rj h0 hij) id
                        | true =>
                          have e1 := A.keep i (.inl (by rw [upd_other ei]; exact ri))
                          have e2 := A.keep j (.inl (by rw [upd_other ej]; exact rj))
                          exact H1 i j hi hj si sj (by omega) (by rw [← e1, ← e2, hij])
                · dsimp only at h0 ⊢
                  by_cases ei : i = k
                  · subst ei; rw [upd_same]; simpa using he
                  · rw [upd_other ei] at h0 ⊢; exact A.edge i hi h0
                · dsimp only at h0 ⊢
                  by_cases ei : i = k
                  · subst ei; left; exact upd_same _ _ _
                  · rw [upd_other ei] at h0 ⊢; exact .inr (hX i hi ei si h0)
                · by_cases ei : i = k
                  · subst ei
                    obtain ⟨j, hj, sj, e⟩ := A.here
                    exact ⟨j, hj, (hus j sj).2.2, (upd_other (hus j sj).1).trans (by rw [e, hq])⟩
                  · cases ri : rs i with
                    | true => exact ⟨i, hi, si, (upd_other ei).trans (A.keep i (.inl (by rw [upd_other ei]; exact ri)))⟩
                    | false =>
                      obtain ⟨j, hj, sj, e⟩ := A.still i hi (by rw [upd_other ei]; exact ri) h0
                      exact ⟨j, hj, (hus j sj).2.2, (upd_other (hus j sj).1).trans e⟩
                · dsimp only
                  rw [cnt_upd (by omega) n (by omega), if_pos (by omega), A.count]
              · rw [if_neg c3] at h
                exact absurd h c3
    exact key n (Nat.le_refl _)
/-- the operators' posts, behind so many posts -/
def kuhn (E : Nat → Nat → Bool) (n : Nat) : Nat → Nat → Int
  | 0 => fun _ => -1
  | p + 1 => (aug E n (n + 1) p (kuhn E n p, fun _ => false)).2.1
def kuhnN (E : Nat → Nat → Bool) (n : Nat) : Nat → Nat
  | 0 => 0
  | p + 1 => kuhnN E n p + if (aug E n (n + 1) p (kuhn E n p, fun _ => false)).1 = true then 1 else 0
structure Kuhn (E : Nat → Nat → Bool) (n p : Nat) (a : Nat → Int) (c : Nat) : Prop where
  inj : ∀ i j, i < n → j < n → 0 ≤ a i → a i = a j → i = j
  edge : ∀ i, i < n → 0 ≤ a i → E i (a i).toNat = true
  lt : ∀ i, i < n → a i < p
  count : cnt n a = c
  cert : ∃ S T : Nat → Prop, Cert E n a S T ∧ ∀ j, j < p → S j ∨ ∃ i, i < n ∧ a i = j
theorem kuhn_ok (E : Nat → Nat → Bool) (n : Nat) : ∀ p, Kuhn E n p (kuhn E n p) (kuhnN E n p) := by
  intro p
  induction p with
  | zero =>
    refine ⟨fun i j _ _ h => absurd h (by show ¬ (0 : Int) ≤ -1; omega), fun i _ h => absurd h (by show ¬ (0 : Int) ≤ -1; omega), fun i _ => by show (-1 : Int) < 0; omega, ?_, fun _ => False, fun _ => False, ⟨fun _ h => h.elim, fun _ h => h.elim⟩, fun j h => by omega⟩
    show cnt n (fun _ => -1) = 0
    unfold cnt
    rw [List.countP_eq_zero]
    intro i _
    simp
  | succ p ih =>
    obtain ⟨h1, h2, h3, h4, S, T, hc, h5⟩ := ih
    have hu : unseen n (fun _ => false) < n + 1 := by
      have : unseen n (fun _ => false) ≤ (List.range n).length := List.countP_le_length
      rw [List.length_range] at this
      omega
    rw [show kuhn E n (p + 1) = (aug E n (n + 1) p (kuhn E n p, fun _ => false)).2.1 from rfl, show kuhnN E n (p + 1) = kuhnN E n p + if (aug E n (n + 1) p (kuhn E n p, fun _ => false)).1 = true then 1 else 0 from rfl]
    cases hr : (aug E n (n + 1) p (kuhn E n p, fun _ => false)).1 with
    | true =>
      have A := aug_ok E n (n + 1) p (kuhn E n p) (fun _ => false) (fun i j hi hj _ _ => h1 i j hi hj) (fun i hi _ e => by have := h3 i hi; omega) h2 hr
      have C := (aug_cert E n (n + 1) p (kuhn E n p) (fun _ => false) hc).2 hr
      rw [if_pos rfl]
      refine ⟨fun i j hi hj => A.inj i j hi hj rfl rfl, A.edge, fun i hi => ?_, by rw [A.count, h4], S, T, ⟨hc.nb, fun i hi => by rw [C i hi]; exact hc.tk i hi⟩, fun j hj => ?_⟩
      · by_cases h0 : 0 ≤ (aug E n (n + 1) p (kuhn E n p, fun _ => false)).2.1 i
        · rcases A.from_ i hi rfl h0 with e | ⟨j, hj, _, e⟩
          · omega
          · have := h3 j hj; omega
        · omega
      · by_cases e : j < p
        · rcases h5 j e with h | ⟨i, hi, hh⟩
          · exact .inl h
          · obtain ⟨l, hl, _, e2⟩ := A.still i hi rfl (by omega)
            exact .inr ⟨l, hl, by rw [e2, hh]⟩
        · obtain rfl : j = p := by omega
          obtain ⟨i, hi, _, e⟩ := A.here
          exact .inr ⟨i, hi, e⟩
    | false =>
      obtain ⟨e1, _⟩ := aug_false E n (n + 1) p (kuhn E n p) (fun _ => false) hr
      obtain ⟨f1, f2⟩ := aug_fail E n (n + 1) p (kuhn E n p) (fun _ => false) hu hr
      rw [if_neg (by decide), e1]
      generalize (aug E n (n + 1) p (kuhn E n p, fun _ => false)).2.2 = sn at f1 f2
      refine ⟨h1, h2, fun i hi => by have := h3 i hi; omega, by rw [h4]; rfl, fun j => S j ∨ j = p ∨ ∃ i, sn i = true ∧ 0 ≤ kuhn E n p i ∧ (kuhn E n p i).toNat = j, fun i => T i ∨ sn i = true, ⟨fun j hj i hi he => ?_, fun i hi => ?_⟩, fun j hj => ?_⟩
      · rcases hj with hj | hj | ⟨l, hl, h0, hh⟩
        · exact .inl (hc.nb j hj i hi he)
        · subst hj; exact .inr (f1 i hi he)
        · subst hh; exact .inr ((f2 l hl rfl).2.2 i hi he)
      · rcases hi with hi | hi
        · obtain ⟨a1, a2, a3⟩ := hc.tk i hi
          exact ⟨a1, a2, .inl a3⟩
        · obtain ⟨a1, a2, a3⟩ := f2 i hi rfl
          exact ⟨a1, a2, .inr (.inr ⟨i, hi, a2, rfl⟩)⟩
      · by_cases e : j < p
        · rcases h5 j e with h | h
          · exact .inl (.inl h)
          · exact .inr h
        · exact .inl (.inr (.inl (by omega)))
/-- different numbers below n, all of a kind: no more than there are -/
theorem pig (P : Nat → Bool) : ∀ (n : Nat) (l : List Nat), l.Nodup → (∀ x ∈ l, x < n ∧ P x = true) → l.length ≤ (List.range n).countP P := by
  intro n
  induction n with
  | zero =>
    intro l _ h
    cases l with
    | nil => exact Nat.le_refl _
    | cons x l => exact absurd (h x (List.mem_cons_self ..)).1 (by omega)
  | succ n ih =>
    intro l hn h
    rw [List.range_succ, List.countP_append]
    by_cases hm : n ∈ l
    · have h1 := ih (l.erase n) (hn.erase n) (fun x hx => by
        have := (hn.mem_erase_iff).1 hx
        have h2 := h x this.2
        exact ⟨by have := this.1; omega, h2.2⟩)
      rw [List.length_erase_of_mem hm] at h1
      have h2 : [n].countP P = 1 := by simp [(h n hm).2]
      have h3 : 0 < l.length := List.length_pos_of_mem hm
      omega
    · have h1 := ih l hn (fun x hx => by
        have h2 := h x hx
        have : x ≠ n := fun e => hm (e ▸ hx)
        exact ⟨by omega, h2.2⟩)
      omega
theorem pigR {P : Nat → Bool} {n : Nat} {l : List Nat} {R : Nat → Nat → Prop} (hn : l.Nodup) (h : ∀ x ∈ l, ∃ i, i < n ∧ P i = true ∧ R x i) (hR : ∀ x ∈ l, ∀ y ∈ l, ∀ i, R x i → R y i → x = y) : l.length ≤ (List.range n).countP P := by
  have hex : ∃ g : Nat → Nat, ∀ x ∈ l, g x < n ∧ P (g x) = true ∧ R x (g x) := by
    classical
    refine ⟨fun x => if hx : ∃ i, i < n ∧ P i = true ∧ R x i then Classical.choose hx else 0, fun x hx => ?_⟩
    have hh := h x hx
    simp only [dif_pos hh]
    exact Classical.choose_spec hh
  obtain ⟨g, hg⟩ := hex
  have := pig P n (l.map g) ?_ (fun y hy => by
    obtain ⟨x, hx, rfl⟩ := List.mem_map.1 hy
    exact ⟨(hg x hx).1, (hg x hx).2.1⟩)
  · rw [List.length_map] at this
    exact this
  · show (l.map g).Pairwise (· ≠ ·)
    rw [List.pairwise_map]
    refine List.Pairwise.imp_of_mem (fun {a b} ha hb hab e => hab (hR a ha b hb (g a) (hg a ha).2.2 (by rw [e]; exact (hg b hb).2.2))) hn
/-- who has which post: at most one post each, and each can -/
structure Fill (E : Nat → Nat → Bool) (n d r : Nat) (left : Nat → Bool) (f : Nat → Option Nat) : Prop where
  ok : ∀ j, d ≤ j → j < d + r → ∀ k, f j = some k → k < n ∧ E k j = true ∧ left k = true
  inj : ∀ i j, d ≤ i → i < d + r → d ≤ j → j < d + r → ∀ k, f i = some k → f j = some k → i = j
def sizeF (d r : Nat) (f : Nat → Option Nat) : Nat := (List.range' d r).countP (fun j => (f j).isSome)
theorem sizeF_succ (d r : Nat) (f : Nat → Option Nat) : sizeF d (r + 1) f = sizeF (d + 1) r f + if (f d).isSome = true then 1 else 0 := by
  unfold sizeF
  rw [List.range'_succ, List.countP_cons]
theorem kuhn_most {E : Nat → Nat → Bool} {n m : Nat} {left : Nat → Bool} {f : Nat → Option Nat} (hf : Fill E n 0 m left f) : sizeF 0 m f ≤ kuhnN E n m := by
  obtain ⟨h1, h2, h3, h4, S, T, hc, h5⟩ := kuhn_ok E n m
  rw [← h4]
  unfold sizeF cnt
  rw [← List.range_eq_range', List.countP_eq_length_filter]
  refine pigR (R := fun j i => (S j ∧ f j = some i) ∨ (¬ S j ∧ kuhn E n m i = (j : Int))) (List.Pairwise.filter _ List.nodup_range) (fun j hj => ?_) (fun j hj l hl i hr hs => ?_)
  · rw [List.mem_filter, List.mem_range] at hj
    obtain ⟨k, hk⟩ := Option.isSome_iff_exists.1 hj.2
    by_cases hS : S j
    · obtain ⟨k1, k2, _⟩ := hf.ok j (Nat.zero_le _) (by omega) k hk
      have hT := hc.nb j hS k k1 k2
      exact ⟨k, k1, by simpa using (hc.tk k hT).2.1, .inl ⟨hS, hk⟩⟩
    · rcases h5 j hj.1 with h | ⟨i, hi, e⟩
      · exact absurd h hS
      · exact ⟨i, hi, by simp [e], .inr ⟨hS, e⟩⟩
  · rw [List.mem_filter, List.mem_range] at hj hl
    rcases hr with ⟨s1, e1⟩ | ⟨s1, e1⟩ <;> rcases hs with ⟨s2, e2⟩ | ⟨s2, e2⟩
    · exact hf.inj j l (Nat.zero_le _) (by omega) (Nat.zero_le _) (by omega) i e1 e2
    · obtain ⟨k1, k2, _⟩ := hf.ok j (Nat.zero_le _) (by omega) i e1
      have := (hc.tk i (hc.nb j s1 i k1 k2)).2.2
      rw [e2] at this
      exact absurd this s2
    · obtain ⟨k1, k2, _⟩ := hf.ok l (Nat.zero_le _) (by omega) i e2
      have := (hc.tk i (hc.nb l s2 i k1 k2)).2.2
      rw [e1] at this
      exact absurd this s1
    · omega
theorem kuhn_fill (E : Nat → Nat → Bool) (n m : Nat) : ∃ f, Fill E n 0 m (fun _ => true) f ∧ kuhnN E n m ≤ sizeF 0 m f := by
  obtain ⟨h1, h2, h3, h4, _⟩ := kuhn_ok E n m
  refine ⟨fun j => (List.range n).find? (fun i => decide (kuhn E n m i = (j : Int))), ⟨fun j _ _ k hk => ?_, fun i j _ _ _ _ k hi hj => ?_⟩, ?_⟩
  · have hm := List.mem_of_find?_eq_some hk
    have hp := List.find?_some hk
    rw [List.mem_range] at hm
    rw [decide_eq_true_eq] at hp
    have := h2 k hm (by omega)
    rw [hp] at this
    exact ⟨hm, by simpa using this, rfl⟩
  · have hp := List.find?_some hi
    have hq := List.find?_some hj
    rw [decide_eq_true_eq] at hp hq
    omega
  · rw [← h4]
    unfold sizeF cnt
    rw [← List.range_eq_range', List.countP_eq_length_filter]
    refine pigR (R := fun i j => kuhn E n m i = (j : Int)) (List.Pairwise.filter _ List.nodup_range) (fun i hi => ?_) (fun i hi l hl j hr hs => ?_)
    · rw [List.mem_filter, List.mem_range, decide_eq_true_eq] at hi
      have := h3 i hi.1
      refine ⟨(kuhn E n m i).toNat, by omega, ?_, by omega⟩
      rw [List.find?_isSome]
      exact ⟨i, List.mem_range.2 hi.1, by rw [decide_eq_true_eq]; omega⟩
    · rw [List.mem_filter, List.mem_range, decide_eq_true_eq] at hi hl
      exact h1 i l hi.1 hl.1 hi.2 (by omega)
/-- the greatest number of posts from d on that operators that are left can fill -/
def mostF (E : Nat → Nat → Bool) (n : Nat) : Nat → Nat → (Nat → Bool) → Nat
  | 0, _, _ => 0
  | r + 1, d, left => (List.range n).foldl (fun b k => if (left k && E k d) = true then max b (1 + mostF E n r (d + 1) (upd left k false)) else b) (mostF E n r (d + 1) left)
theorem mostF_succ (E : Nat → Nat → Bool) (n r d : Nat) (left : Nat → Bool) : mostF E n (r + 1) d left = (List.range n).foldl (fun b k => if (left k && E k d) = true then max b (1 + mostF E n r (d + 1) (upd left k false)) else b) (mostF E n r (d + 1) left) := rfl
theorem foldl_max (c : Nat → Bool) (v : Nat → Nat) : ∀ (l : List Nat) (b : Nat), b ≤ l.foldl (fun b k => if c k = true then max b (v k) else b) b ∧ (∀ k ∈ l, c k = true → v k ≤ l.foldl (fun b k => if c k = true then max b (v k) else b) b) ∧
    (l.foldl (fun b k => if c k = true then max b (v k) else b) b = b ∨ ∃ k ∈ l, c k = true ∧ l.foldl (fun b k => if c k = true then max b (v k) else b) b = v k) := by
  intro l
  induction l with
  | nil => intro b; exact ⟨Nat.le_refl _, (fun k hk => by cases hk), .inl rfl⟩
  | cons x l ih =>
    intro b
    rw [List.foldl_cons]
    by_cases hx : c x = true
    · rw [if_pos hx]
      obtain ⟨i1, i2, i3⟩ := ih (max b (v x))
      refine ⟨by omega, fun k hk hc => ?_, ?_⟩
      · rcases List.mem_cons.1 hk with rfl | hk
        · omega
        · exact i2 k hk hc
      · rcases i3 with e | ⟨k, hk, hc, e⟩
        · by_cases hb : b ≤ v x
          · exact .inr ⟨x, List.mem_cons_self .., hx, by rw [e]; omega⟩
          · exact .inl (by rw [e]; omega)
        · exact .inr ⟨k, List.mem_cons_of_mem _ hk, hc, e⟩
    · rw [if_neg hx]
      obtain ⟨i1, i2, i3⟩ := ih b
      refine ⟨i1, fun k hk hc => ?_, ?_⟩
      · rcases List.mem_cons.1 hk with rfl | hk
        · exact absurd hc hx
        · exact i2 k hk hc
      · rcases i3 with e | ⟨k, hk, hc, e⟩
        · exact .inl e
        · exact .inr ⟨k, List.mem_cons_of_mem _ hk, hc, e⟩
theorem mostF_ge (E : Nat → Nat → Bool) (n : Nat) : ∀ (r d : Nat) (left : Nat → Bool) (f : Nat → Option Nat), Fill E n d r left f → sizeF d r f ≤ mostF E n r d left := by
  intro r
  induction r with
  | zero => intro d left f _; exact Nat.le_refl _
  | succ r ih =>
    intro d left f hf
    obtain ⟨i1, i2, _⟩ := foldl_max (fun k => left k && E k d) (fun k => 1 + mostF E n r (d + 1) (upd left k false)) (List.range n) (mostF E n r (d + 1) left)
    rw [sizeF_succ, mostF_succ]
    cases hd : f d with
    | none =>
      have := ih (d + 1) left f ⟨fun j h1 h2 => hf.ok j (by omega) (by omega), fun i j h1 h2 h3 h4 => hf.inj i j (by omega) (by omega) (by omega) (by omega)⟩
      show _ + 0 ≤ _
      exact Nat.le_trans this i1
    | some k =>
      obtain ⟨k1, k2, k3⟩ := hf.ok d (Nat.le_refl _) (by omega) k hd
      have := ih (d + 1) (upd left k false) f ⟨fun j h1 h2 l hl => by
        obtain ⟨a1, a2, a3⟩ := hf.ok j (by omega) (by omega) l hl
        refine ⟨a1, a2, ?_⟩
        rw [upd_other]
        · exact a3
        · intro e
          subst e
          have := hf.inj d j (Nat.le_refl _) (by omega) (by omega) (by omega) l hd hl
          omega, fun i j h1 h2 h3 h4 => hf.inj i j (by omega) (by omega) (by omega) (by omega)⟩
      have h2 := i2 k (List.mem_range.2 k1) (by simp [k2, k3])
      show _ + 1 ≤ _
      exact Nat.le_trans (by omega) h2
theorem mostF_le (E : Nat → Nat → Bool) (n : Nat) : ∀ (r d : Nat) (left : Nat → Bool), ∃ f, Fill E n d r left f ∧ sizeF d r f = mostF E n r d left := by
  intro r
  induction r with
  | zero => intro d left; exact ⟨fun _ => none, ⟨(fun j _ _ k hk => by cases hk), (fun i j _ _ _ _ k hk => by cases hk)⟩, rfl⟩
  | succ r ih =>
    intro d left
    obtain ⟨_, _, i3⟩ := foldl_max (fun k => left k && E k d) (fun k => 1 + mostF E n r (d + 1) (upd left k false)) (List.range n) (mostF E n r (d + 1) left)
    have hsz : ∀ (g : Nat → Option Nat) (v : Option Nat), sizeF (d + 1) r (upd g d v) = sizeF (d + 1) r g := by
      intro g v
      unfold sizeF
      refine List.countP_congr fun j hj => ?_
      rw [List.mem_range'_1] at hj
      rw [upd_other (by omega)]
    rcases i3 with e | ⟨k, hk, hc, e⟩
    · obtain ⟨g, hg, hs⟩ := ih (d + 1) left
      refine ⟨upd g d none, ⟨fun j h1 h2 l hl => ?_, fun i j h1 h2 h3 h4 l hi hj => ?_⟩, ?_⟩
      · by_cases ej : j = d
        · subst ej; rw [upd_same] at hl; cases hl
        · rw [upd_other ej] at hl; exact hg.ok j (by omega) (by omega) l hl
      · have ei : i ≠ d := by intro e; subst e; rw [upd_same] at hi; cases hi
        have ej : j ≠ d := by intro e; subst e; rw [upd_same] at hj; cases hj
        rw [upd_other ei] at hi
        rw [upd_other ej] at hj
        exact hg.inj i j (by omega) (by omega) (by omega) (by omega) l hi hj
      · rw [sizeF_succ, hsz, upd_same, hs, mostF_succ]
        exact e.symm
    · obtain ⟨g, hg, hs⟩ := ih (d + 1) (upd left k false)
      rw [Bool.and_eq_true] at hc
      refine ⟨upd g d (some k), ⟨fun j h1 h2 l hl => ?_, fun i j h1 h2 h3 h4 l hi hj => ?_⟩, ?_⟩
      · by_cases ej : j = d
        · subst ej
          rw [upd_same] at hl
          cases hl
          exact ⟨List.mem_range.1 hk, hc.2, hc.1⟩
        · rw [upd_other ej] at hl
          obtain ⟨a1, a2, a3⟩ := hg.ok j (by omega) (by omega) l hl
          refine ⟨a1, a2, ?_⟩
          by_cases el : l = k
          · subst el; rw [upd_same] at a3; cases a3
          · rw [upd_other el] at a3; exact a3
      · have hno : ∀ j, d + 1 ≤ j → j < d + 1 + r → ∀ l, g j = some l → l ≠ k := fun j a b l hl e => by
          subst e
          have := (hg.ok j a b l hl).2.2
          rw [upd_same] at this
          cases this
        by_cases ei : i = d
        · by_cases ej : j = d
          · omega
          · subst ei
            rw [upd_same] at hi
            rw [upd_other ej] at hj
            cases hi
            exact absurd rfl (hno j (by omega) (by omega) k hj)
        · by_cases ej : j = d
          · subst ej
            rw [upd_same] at hj
            rw [upd_other ei] at hi
            cases hj
            exact absurd rfl (hno i (by omega) (by omega) k hi)
          · rw [upd_other ei] at hi
            rw [upd_other ej] at hj
            exact hg.inj i j (by omega) (by omega) (by omega) (by omega) l hi hj
      · rw [sizeF_succ, hsz, upd_same, hs, mostF_succ]
        refine Eq.trans ?_ e.symm
        show _ + 1 = _
        omega
/-- both ways find one number -/
theorem kuhn_eq (E : Nat → Nat → Bool) (n m : Nat) {left : Nat → Bool} (hl : ∀ k, k < n → left k = true) : kuhnN E n m = mostF E n m 0 left := by
  apply Nat.le_antisymm
  · obtain ⟨f, hf, hs⟩ := kuhn_fill E n m
    have := mostF_ge E n m 0 left f ⟨fun j h1 h2 k hk => ⟨(hf.ok j h1 h2 k hk).1, (hf.ok j h1 h2 k hk).2.1, hl k (hf.ok j h1 h2 k hk).1⟩, hf.inj⟩
    omega
  · obtain ⟨f, hf, hs⟩ := mostF_le E n m 0 left
    have := kuhn_most hf
    omega
end Go.Proofs.Ytfojfcmjoacbgaa
