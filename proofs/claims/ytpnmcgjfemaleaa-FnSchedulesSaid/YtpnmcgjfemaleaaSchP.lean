/- Schedules, plain: orders, ends, the best order, the rule for two machines, the bound. No program in sight. No condition. -/
import Derived.Test.YtpnmcgjfemaleaaBound
namespace Go.Proofs.Ytpnmcgjfemaleaa
set_option linter.unusedVariables false
set_option maxRecDepth 100000
def rangeI (n : Nat) : List Int := (List.range n).map (fun k : Nat => (k : Int))
theorem rangeI_length (n : Nat) : (rangeI n).length = n := by simp [rangeI]
theorem rangeI_mem {n : Nat} {x : Int} : x ∈ rangeI n ↔ 0 ≤ x ∧ x < n := by
  unfold rangeI
  rw [List.mem_map]
  constructor
  · rintro ⟨k, hk, rfl⟩
    have := List.mem_range.1 hk
    omega
  · intro h
    exact ⟨x.toNat, List.mem_range.2 (by omega), by omega⟩
theorem rangeI_get {n k : Nat} (h : k < n) : (rangeI n)[k]? = some (k : Int) := by simp [rangeI, h]
theorem rangeI_sorted (n : Nat) : (rangeI n).Pairwise (· ≤ ·) := by
  unfold rangeI
  rw [List.pairwise_map]
  exact List.pairwise_lt_range.imp (fun h => by omega)
theorem rangeI_nodup (n : Nat) : (rangeI n).Nodup := by
  unfold rangeI
  unfold List.Nodup
  rw [List.pairwise_map]
  exact List.pairwise_lt_range.imp (fun h => by omega)
theorem perm_of_nodup : ∀ {l r : List Int}, l.Nodup → (∀ x ∈ l, x ∈ r) → l.length = r.length → l.Perm r := by
  intro l
  induction l with
  | nil => intro r _ _ h; rw [List.eq_nil_of_length_eq_zero h.symm]
  | cons x l ih =>
    intro r hn hs hl
    have hx := hs x (List.mem_cons_self ..)
    obtain ⟨h1, h2⟩ := List.nodup_cons.1 hn
    have := ih h2 (r := r.erase x) (fun y hy => (List.mem_erase_of_ne (by rintro rfl; exact h1 hy)).2 (hs y (List.mem_cons_of_mem _ hy))) (by rw [List.length_erase_of_mem hx, ← hl]; rfl)
    exact (this.cons x).trans (List.perm_cons_erase hx).symm
def orderP (n : Nat) (o : List Int) : Prop := o.length = n ∧ (∀ x ∈ o, 0 ≤ x ∧ x < n) ∧ o.Nodup
instance (n : Nat) (o : List Int) : Decidable (orderP n o) := by unfold orderP; infer_instance
def orderB (n : Nat) (o : List Int) : Bool := decide (orderP n o)
theorem orderP_perm {n : Nat} {o : List Int} : orderP n o ↔ o.Perm (rangeI n) := by
  constructor
  · rintro ⟨h1, h2, h3⟩
    exact perm_of_nodup h3 (fun x hx => rangeI_mem.2 (h2 x hx)) (by rw [rangeI_length, h1])
  · intro h
    exact ⟨by rw [h.length_eq, rangeI_length], fun x hx => rangeI_mem.1 (h.mem_iff.1 hx), h.nodup_iff.2 (rangeI_nodup n)⟩
theorem sorted_eq {a b : List Int} (ha : a.Pairwise (· ≤ ·)) (hb : b.Pairwise (· ≤ ·)) (h : a.Perm b) : a = b :=
  List.Perm.eq_of_pairwise (fun x y _ _ h1 h2 => Int.le_antisymm h1 h2) ha hb h
theorem sort_range {n : Nat} {o : List Int} : (o.mergeSort fun x y => decide (x ≤ y)) = rangeI n ↔ orderP n o := by
  have hp := List.mergeSort_perm o (fun x y => decide (x ≤ y))
  have hs := List.pairwise_mergeSort (le := fun x y : Int => decide (x ≤ y)) (fun a b c h1 h2 => by simp at *; omega) (fun a b => by simp; omega) o
  rw [orderP_perm]
  constructor
  · intro h; rw [← h]; exact hp.symm
  · intro h; exact sorted_eq (hs.imp (by simp)) (rangeI_sorted n) (hp.trans h)
def updI (g : Nat → Int) (k : Nat) (v : Int) : Nat → Int := fun j => if j = k then v else g j
theorem cf_set (g : Nat → Int) (m k : Nat) (v : Int) : (cf g m).set k v = cf (updI g k v) m := by
  apply List.ext_getElem?
  intro j
  rw [List.getElem?_set]
  by_cases h : j < m
  · rw [cf_get (f := updI g k v) h]
    by_cases e : k = j
    · subst e; rw [if_pos rfl, if_pos (by rw [cf_length]; exact h)]; simp [updI]
    · rw [if_neg e, cf_get h]; show some (g j) = some (if j = k then v else g j); rw [if_neg (fun h => e h.symm)]
  · rw [List.getElem?_eq_none (l := cf (updI g k v) m) (by rw [cf_length]; omega)]
    by_cases e : k = j
    · subst e; rw [if_pos rfl, if_neg (by rw [cf_length]; exact h)]
    · rw [if_neg e, List.getElem?_eq_none (by rw [cf_length]; omega)]
theorem cf_congr {f g : Nat → Int} {m : Nat} (h : ∀ k, k < m → f k = g k) : cf f m = cf g m := by
  unfold cf; exact List.map_congr_left fun k hk => h k (List.mem_range.1 hk)
theorem cf_atI (xs : List Int) : cf (atI xs) xs.length = xs := by
  apply List.ext_getElem?
  intro j
  by_cases h : j < xs.length
  · rw [cf_get h]; unfold atI; rw [List.getD_eq_getElem?_getD]; simp [h]
  · rw [List.getElem?_eq_none (by rw [cf_length]; omega), List.getElem?_eq_none (by omega)]
theorem cf_take (f : Nat → Int) (m k : Nat) (h : k ≤ m) : (cf f m).take k = cf f k := by
  unfold cf; rw [← List.map_take, List.take_range]; rw [Nat.min_eq_left h]
/-- the times at which a job ends on each machine -/
def prevF (e : Nat → Int) : Nat → Int
  | 0 => 0
  | k + 1 => e k
def endF (g x : Nat → Int) : Nat → Int
  | 0 => max 0 (g 0) + x 0
  | k + 1 => max (endF g x k) (g (k + 1)) + x (k + 1)
theorem endF_eq (g x : Nat → Int) (k : Nat) : endF g x k = max (prevF (endF g x) k) (g k) + x k := by cases k <;> rfl
/-- the times at which the machines are free -/
def FJ (job : Int → Nat → Int) : (Nat → Int) → List Int → (Nat → Int)
  | g, [] => g
  | g, i :: o => FJ job (endF g (job i)) o
theorem FJ_snoc (job : Int → Nat → Int) : ∀ (o : List Int) (g : Nat → Int) (i : Int), FJ job g (o ++ [i]) = endF (FJ job g o) (job i) := by
  intro o
  induction o with
  | nil => intro g i; rfl
  | cons j o ih => intro g i; exact ih _ i
def jobI (xss : List (List Int)) (i : Int) : List Int := xss.getD i.toNat []
def jobF (xss : List (List Int)) (i : Int) : Nat → Int := atI (jobI xss i)
def freeJ (xss : List (List Int)) (o : List Int) : Nat → Int := FJ (jobF xss) (fun _ => 0) o
theorem freeJ_snoc (xss : List (List Int)) (o : List Int) (i : Int) : freeJ xss (o ++ [i]) = endF (freeJ xss o) (jobF xss i) := FJ_snoc _ _ _ _
/-- the state of the free machines in the middle of a job -/
def midF (g x : Nat → Int) (k : Nat) : Nat → Int := fun j => if j < k then endF g x j else g j
theorem midF_zero (g x : Nat → Int) : midF g x 0 = g := by funext j; simp [midF]
theorem midF_succ (g x : Nat → Int) (k : Nat) : updI (midF g x k) k (endF g x k) = midF g x (k + 1) := by
  funext j
  unfold updI midF
  by_cases h : j = k
  · subst h; simp
  · rw [if_neg h]
    by_cases h2 : j < k
    · rw [if_pos h2, if_pos (by omega)]
    · rw [if_neg h2, if_neg (by omega)]
theorem midF_at (g x : Nat → Int) (k : Nat) : midF g x k k = g k := by simp [midF]
def rowsJ (xss : List (List Int)) (o : List Int) (m k : Nat) : List (List Int) := (List.range k).map fun j => cf (freeJ xss (o.take (j + 1))) m
theorem rowsJ_succ (xss : List (List Int)) (o : List Int) (m k : Nat) : rowsJ xss o m (k + 1) = rowsJ xss o m k ++ [cf (freeJ xss (o.take (k + 1))) m] := by simp [rowsJ, List.range_succ]
theorem rowsJ_length (xss : List (List Int)) (o : List Int) (m k : Nat) : (rowsJ xss o m k).length = k := by simp [rowsJ]
theorem rowsJ_get {xss : List (List Int)} {o : List Int} {m k j : Nat} (h : j < k) : (rowsJ xss o m k)[j]? = some (cf (freeJ xss (o.take (j + 1))) m) := by simp [rowsJ, h]
def endsJ (xss : List (List Int)) (o : List Int) : List (List Int) := rowsJ xss o (colsJ xss) o.length
def spanJ (xss : List (List Int)) (o : List Int) : Int := if o = [] then 0 else freeJ xss o (colsJ xss - 1)
theorem endF_bound {g x : Nat → Int} {B : Int} (hB : 0 ≤ B) (hx : ∀ k, 0 ≤ x k ∧ x k ≤ 1000) : ∀ (k : Nat), (∀ j, j ≤ k → 0 ≤ g j ∧ g j ≤ B) → 0 ≤ endF g x k ∧ endF g x k ≤ B + (k + 1) * 1000 := by
  intro k
  induction k with
  | zero =>
    intro hg
    have h1 := hg 0 (Nat.le_refl _); have h2 := hx 0
    show 0 ≤ max 0 (g 0) + x 0 ∧ max 0 (g 0) + x 0 ≤ _
    omega
  | succ k ih =>
    intro hg
    have ih := ih fun j hj => hg j (by omega)
    have h1 := hg (k + 1) (Nat.le_refl _); have h2 := hx (k + 1)
    show 0 ≤ max (endF g x k) (g (k + 1)) + x (k + 1) ∧ max (endF g x k) (g (k + 1)) + x (k + 1) ≤ _
    omega
theorem endF_mono {g x : Nat → Int} (hx : ∀ k, 0 ≤ x k) (k : Nat) : g k ≤ endF g x k ∧ prevF (endF g x) k ≤ endF g x k := by
  rw [endF_eq]
  have := hx k
  omega
theorem endF_bound4 {g x : Nat → Int} {B : Int} (hB : 0 ≤ B) (hg : ∀ k, k < 4 → 0 ≤ g k ∧ g k ≤ B) (hx : ∀ k, 0 ≤ x k ∧ x k ≤ 1000) {k : Nat} (hk : k < 4) : 0 ≤ endF g x k ∧ endF g x k ≤ B + 4000 := by
  have := endF_bound hB hx k fun j hj => hg j (by omega)
  omega
theorem FJ_bound {job : Int → Nat → Int} (hj : ∀ i k, 0 ≤ job i k ∧ job i k ≤ 1000) : ∀ (o : List Int) (g : Nat → Int) (B : Int), 0 ≤ B → (∀ k, k < 4 → 0 ≤ g k ∧ g k ≤ B) → ∀ k, k < 4 → 0 ≤ FJ job g o k ∧ FJ job g o k ≤ B + o.length * 4000 := by
  intro o
  induction o with
  | nil => intro g B hB hg k hk; have := hg k hk; show 0 ≤ g k ∧ g k ≤ _; simp; omega
  | cons i o ih =>
    intro g B hB hg k hk
    have := ih (endF g (job i)) (B + 4000) (by omega) (fun k hk => endF_bound4 hB hg (hj i) hk) k hk
    show 0 ≤ FJ job (endF g (job i)) o k ∧ FJ job (endF g (job i)) o k ≤ _
    rw [List.length_cons]
    omega
theorem jobF_bound {xss : List (List Int)} (h : ∀ r ∈ xss, ∀ x ∈ r, 0 ≤ x ∧ x ≤ 1000) (i : Int) (k : Nat) : 0 ≤ jobF xss i k ∧ jobF xss i k ≤ 1000 := by
  unfold jobF atI jobI
  rw [List.getD_eq_getElem?_getD, List.getD_eq_getElem?_getD]
  cases hr : xss[i.toNat]? with
  | none => simp
  | some r =>
    show 0 ≤ (r[k]?).getD 0 ∧ (r[k]?).getD 0 ≤ 1000
    cases hx : r[k]? with
    | none => simp
    | some x => exact h r (List.mem_of_getElem? hr) x (List.mem_of_getElem? hx)
theorem freeJ_bound {xss : List (List Int)} (h : ∀ r ∈ xss, ∀ x ∈ r, 0 ≤ x ∧ x ≤ 1000) (o : List Int) {k : Nat} (hk : k < 4) : 0 ≤ freeJ xss o k ∧ freeJ xss o k ≤ o.length * 4000 := by
  have := FJ_bound (job := jobF xss) (jobF_bound h) o (fun _ => 0) 0 (by omega) (fun _ _ => by simp) k hk
  unfold freeJ
  omega
theorem freeJ_up {xss : List (List Int)} (h : ∀ r ∈ xss, ∀ x ∈ r, 0 ≤ x ∧ x ≤ 1000) (o : List Int) (i : Int) (k : Nat) : prevF (freeJ xss (o ++ [i])) k ≤ freeJ xss (o ++ [i]) k := by
  rw [freeJ_snoc]
  exact (endF_mono (fun k => (jobF_bound h i k).1) k).2
/-- x is put behind the last one that it is not before -/
def Ins (b : Int → Int → Bool) (x : Int) (l l' : List Int) : Prop := ∃ p q, l = p ++ q ∧ l' = p ++ x :: q ∧ (∀ y ∈ q, b x y = true) ∧ ∀ p' y, p = p' ++ [y] → b x y = false
/-- the numbers of l, each put to its place -/
def InsAll (b : Int → Int → Bool) : List Int → List Int → List Int → Prop
  | [], l, r => r = l
  | x :: xs, l, r => ∃ l', Ins b x l l' ∧ InsAll b xs l' r
theorem Ins.perm {b : Int → Int → Bool} {x : Int} {l l' : List Int} (h : Ins b x l l') : l'.Perm (x :: l) := by
  obtain ⟨p, q, rfl, rfl, _, _⟩ := h
  exact List.perm_middle
theorem Ins.unique {b : Int → Int → Bool} {x : Int} {l l1 l2 : List Int} (h1 : Ins b x l l1) (h2 : Ins b x l l2) : l1 = l2 := by
  obtain ⟨p, q, rfl, rfl, hq, hp⟩ := h1
  obtain ⟨p2, q2, e, rfl, hq2, hp2⟩ := h2
  have key : ∀ {p q p2 q2 : List Int}, p ++ q = p2 ++ q2 → (∀ y ∈ q2, b x y = true) → (∀ p' y, p = p' ++ [y] → b x y = false) → p.length ≤ p2.length := by
    intro p q p2 q2 e hq2 hp
    rcases Nat.lt_or_ge p2.length p.length with hlt | hge
    · exfalso
      have hne : p ≠ [] := by intro h; rw [h] at hlt; simp at hlt
      have h3 := hp p.dropLast (p.getLast hne) (List.dropLast_concat_getLast hne).symm
      have hk : (p2 ++ q2)[p.length - 1]? = some (p.getLast hne) := by
        rw [← e, List.getElem?_append_left (by omega), List.getLast_eq_getElem]
        simp
      rw [List.getElem?_append_right (by omega)] at hk
      have := hq2 _ (List.mem_of_getElem? hk)
      rw [h3] at this
      cases this
    · exact hge
  have h5 := key e hq2 hp
  have h6 := key e.symm hq hp2
  have h7 : p.length = p2.length := by omega
  obtain ⟨rfl, rfl⟩ := List.append_inj e h7
  rfl
theorem InsAll.unique {b : Int → Int → Bool} : ∀ {xs l r1 r2 : List Int}, InsAll b xs l r1 → InsAll b xs l r2 → r1 = r2 := by
  intro xs
  induction xs with
  | nil => intro l r1 r2 h1 h2; rw [h1, h2]
  | cons x xs ih =>
    intro l r1 r2 ⟨l1, h1, h2⟩ ⟨l2, h3, h4⟩
    have := h1.unique h3
    subst this
    exact ih h2 h4
theorem InsAll.snoc {b : Int → Int → Bool} {x : Int} {l' r : List Int} : ∀ {xs l : List Int}, InsAll b xs l l' → Ins b x l' r → InsAll b (xs ++ [x]) l r := by
  intro xs
  induction xs with
  | nil => intro l h1 h2; obtain rfl : l' = l := h1; exact ⟨r, h2, rfl⟩
  | cons y xs ih => intro l ⟨l1, h1, h2⟩ h3; exact ⟨l1, h1, ih h2 h3⟩
theorem InsAll.perm {b : Int → Int → Bool} : ∀ {xs l r : List Int}, InsAll b xs l r → r.Perm (xs ++ l) := by
  intro xs
  induction xs with
  | nil => intro l r h; rw [show r = l from h]; exact List.Perm.refl _
  | cons x xs ih =>
    intro l r ⟨l', h1, h2⟩
    exact (ih h2).trans (((List.Perm.refl xs).append h1.perm).trans List.perm_middle)
/-- a rule that puts all numbers into classes -/
structure Weak (b : Int → Int → Bool) : Prop where
  asym : ∀ x y, b x y = true → b y x = false
  tr : ∀ x y z, b x y = false → b y z = false → b x z = false
def ltB (b : Int → Int → Bool) (x y : Int) : Prop := b x y = true ∨ (b y x = false ∧ x < y)
theorem Weak.lt_asym {b : Int → Int → Bool} (hb : Weak b) {x y : Int} (h1 : ltB b x y) (h2 : ltB b y x) : x = y := by
  rcases h1 with h1 | h1 <;> rcases h2 with h2 | h2
  · rw [hb.asym _ _ h1] at h2; cases h2
  · rw [h1] at h2; cases h2.1
  · rw [h2] at h1; cases h1.1
  · omega
theorem Ins.sorted {b : Int → Int → Bool} (hb : Weak b) {x : Int} {l l' : List Int} (h : Ins b x l l') (hl : l.Pairwise (ltB b)) (hx : ∀ y ∈ l, y < x) : l'.Pairwise (ltB b) := by
  obtain ⟨p, q, rfl, rfl, hq, hp⟩ := h
  obtain ⟨h1, h2, h3⟩ := List.pairwise_append.1 hl
  refine List.pairwise_append.2 ⟨h1, List.pairwise_cons.2 ⟨fun y hy => .inl (hq y hy), h2⟩, fun a ha z hz => ?_⟩
  rcases List.mem_cons.1 hz with rfl | hz
  · right
    refine ⟨?_, hx a (List.mem_append_left _ ha)⟩
    have hne : p ≠ [] := by rintro rfl; cases ha
    have hlast := hp p.dropLast (p.getLast hne) (List.dropLast_concat_getLast hne).symm
    rw [← List.dropLast_concat_getLast hne] at ha h1
    rcases List.mem_append.1 ha with ha | ha
    · have := (List.pairwise_append.1 h1).2.2 a ha _ (List.mem_singleton.2 rfl)
      refine hb.tr _ _ _ hlast ?_
      rcases this with h | h
      · exact hb.asym _ _ h
      · exact h.1
    · rw [List.mem_singleton.1 ha]; exact hlast
  · exact h3 a ha z hz
theorem InsAll.sorted {b : Int → Int → Bool} (hb : Weak b) : ∀ {xs l r : List Int}, InsAll b xs l r → l.Pairwise (ltB b) → (∀ y ∈ l, ∀ x ∈ xs, y < x) → xs.Pairwise (· < ·) → r.Pairwise (ltB b) := by
  intro xs
  induction xs with
  | nil => intro l r h hl _ _; rw [show r = l from h]; exact hl
  | cons x xs ih =>
    intro l r ⟨l', h1, h2⟩ hl hlx hxs
    obtain ⟨h3, h4⟩ := List.pairwise_cons.1 hxs
    refine ih h2 (h1.sorted hb hl fun y hy => hlx y hy x (List.mem_cons_self ..)) (fun y hy z hz => ?_) h4
    rcases List.mem_cons.1 (h1.perm.mem_iff.1 hy) with rfl | hy
    · exact h3 z hz
    · exact hlx y hy z (List.mem_cons_of_mem _ hz)
theorem sorted_unique {b : Int → Int → Bool} (hb : Weak b) {l1 l2 : List Int} (h1 : l1.Pairwise (ltB b)) (h2 : l2.Pairwise (ltB b)) (h : l1.Perm l2) : l1 = l2 :=
  List.Perm.eq_of_pairwise (fun x y _ _ h3 h4 => hb.lt_asym h3 h4) h1 h2 h
/-- two parts, each of them by a rule of its own -/
theorem two_parts {b b1 b2 : Int → Int → Bool} {u : Int → Bool} {xs r1 r2 : List Int} (hb1 : Weak b1) (hb2 : Weak b2) (hxs : xs.Pairwise (· < ·))
    (hA : ∀ x y, u x = true → u y = true → b x y = b1 x y) (hB : ∀ x y, u x = false → u y = false → b x y = b2 x y) (hC : ∀ x y, u x = true → u y = false → b x y = true)
    (h1 : InsAll b1 (xs.filter u) [] r1) (h2 : InsAll b2 (xs.filter fun x => !u x) [] r2) : (r1 ++ r2).Pairwise (ltB b) ∧ (r1 ++ r2).Perm xs := by
  have p1 := h1.perm
  have p2 := h2.perm
  rw [List.append_nil] at p1 p2
  have m1 : ∀ x ∈ r1, u x = true := fun x hx => (List.mem_filter.1 (p1.mem_iff.1 hx)).2
  have m2 : ∀ x ∈ r2, u x = false := fun x hx => by have := (List.mem_filter.1 (p2.mem_iff.1 hx)).2; simpa using this
  have s1 := h1.sorted hb1 List.Pairwise.nil (fun y hy => by cases hy) (hxs.filter _)
  have s2 := h2.sorted hb2 List.Pairwise.nil (fun y hy => by cases hy) (hxs.filter _)
  refine ⟨List.pairwise_append.2 ⟨?_, ?_, fun x hx y hy => .inl (hC x y (m1 x hx) (m2 y hy))⟩, ?_⟩
  · refine List.Pairwise.imp_of_mem (fun {x y} hx hy h => ?_) s1
    unfold ltB at h ⊢
    rw [hA x y (m1 x hx) (m1 y hy), hA y x (m1 y hy) (m1 x hx)]
    exact h
  · refine List.Pairwise.imp_of_mem (fun {x y} hx hy h => ?_) s2
    unfold ltB at h ⊢
    rw [hB x y (m2 x hx) (m2 y hy), hB y x (m2 y hy) (m2 x hx)]
    exact h
  · exact (p1.append p2).trans (List.filter_append_perm u xs)

/-- the better one of two orders; the first where there is none so far -/
def bStep (xss : List (List Int)) (b o : List Int) : List Int := if b = [] ∨ spanJ xss o < spanJ xss b then o else b
/-- the best one of all orders that begin so -/
def visitB (xss : List (List Int)) (n : Nat) : Nat → List Int → List Int → List Int
  | 0, o, b => bStep xss b o
  | f + 1, o, b => (List.range n).foldl (fun b (k : Nat) => if o.contains (k : Int) = true then b else visitB xss n f (o ++ [(k : Int)]) b) b
def visitK (xss : List (List Int)) (n f : Nat) (o b : List Int) (k : Nat) : List Int := (List.range k).foldl (fun b (k : Nat) => if o.contains (k : Int) = true then b else visitB xss n f (o ++ [(k : Int)]) b) b
theorem visitB_succ (xss : List (List Int)) (n f : Nat) (o b : List Int) : visitB xss n (f + 1) o b = visitK xss n f o b n := rfl
theorem visitK_zero (xss : List (List Int)) (n f : Nat) (o b : List Int) : visitK xss n f o b 0 = b := rfl
theorem visitK_succ (xss : List (List Int)) (n f : Nat) (o b : List Int) (k : Nat) : visitK xss n f o b (k + 1) = if o.contains (k : Int) = true then visitK xss n f o b k else visitB xss n f (o ++ [(k : Int)]) (visitK xss n f o b k) := by
  unfold visitK
  rw [List.range_succ, List.foldl_append]
  rfl
theorem bStep_spec (xss : List (List Int)) {n : Nat} (hn : 0 < n) {o b : List Int} (ho : orderP n o) (hb : b = [] ∨ orderP n b) :
    orderP n (bStep xss b o) ∧ (b ≠ [] → spanJ xss (bStep xss b o) ≤ spanJ xss b) ∧ spanJ xss (bStep xss b o) ≤ spanJ xss o := by
  unfold bStep
  by_cases h : b = [] ∨ spanJ xss o < spanJ xss b
  · rw [if_pos h]
    refine ⟨ho, fun hne => ?_, Int.le_refl _⟩
    rcases h with h | h
    · exact absurd h hne
    · omega
  · rw [if_neg h]
    have h1 : b ≠ [] := fun e => h (.inl e)
    have h2 : ¬ spanJ xss o < spanJ xss b := fun e => h (.inr e)
    exact ⟨hb.resolve_left h1, fun _ => Int.le_refl _, by omega⟩
theorem orderP_ne {n : Nat} (hn : 0 < n) {o : List Int} (h : orderP n o) : o ≠ [] := by
  rintro rfl
  have := h.1
  simp at this
  omega
def VisitOk (xss : List (List Int)) (n : Nat) (o b r : List Int) : Prop :=
  (r = [] ∨ orderP n r) ∧ (b ≠ [] → r ≠ [] ∧ spanJ xss r ≤ spanJ xss b) ∧ ∀ t, orderP n (o ++ t) → r ≠ [] ∧ spanJ xss r ≤ spanJ xss (o ++ t)
theorem visit_spec (xss : List (List Int)) {n : Nat} (hn : 0 < n) : ∀ (f : Nat) (o b : List Int), o.length + f = n → (b = [] ∨ orderP n b) → (∀ x ∈ o, 0 ≤ x ∧ x < n) → o.Nodup →
    VisitOk xss n o b (visitB xss n f o b) := by
  intro f
  induction f with
  | zero =>
    intro o b hl hb hr hd
    have ho : orderP n o := ⟨by omega, hr, hd⟩
    obtain ⟨h1, h2, h3⟩ := bStep_spec xss hn ho hb
    have hne := orderP_ne hn h1
    refine ⟨.inr h1, fun h => ⟨hne, h2 h⟩, fun t ht => ⟨hne, ?_⟩⟩
    have : t = [] := by
      have := ht.1
      rw [List.length_append] at this
      exact List.eq_nil_of_length_eq_zero (by omega)
    rw [this, List.append_nil]
    exact h3
  | succ f ih =>
    intro o b hl hb hr hd
    rw [visitB_succ]
    have key : ∀ k, k ≤ n → (visitK xss n f o b k = [] ∨ orderP n (visitK xss n f o b k)) ∧ (b ≠ [] → visitK xss n f o b k ≠ [] ∧ spanJ xss (visitK xss n f o b k) ≤ spanJ xss b) ∧
        ∀ j : Nat, j < k → ∀ t, orderP n (o ++ (j : Int) :: t) → visitK xss n f o b k ≠ [] ∧ spanJ xss (visitK xss n f o b k) ≤ spanJ xss (o ++ (j : Int) :: t) := by
      intro k
      induction k with
      | zero => intro _; rw [visitK_zero]; exact ⟨hb, fun h => ⟨h, Int.le_refl _⟩, fun j hj => by omega⟩
      | succ k ihk =>
        intro hk
        obtain ⟨h1, h2, h3⟩ := ihk (by omega)
        rw [visitK_succ]
        by_cases hc : o.contains (k : Int) = true
        · rw [if_pos hc]
          refine ⟨h1, h2, fun j hj t ht => ?_⟩
          rcases Nat.lt_or_ge j k with hlt | hge
          · exact h3 j hlt t ht
          · obtain rfl : j = k := by omega
            exfalso
            have := (List.nodup_append.1 ht.2.2).2.2 (j : Int) (by simpa using hc) (j : Int) (List.mem_cons_self ..)
            exact this rfl
        · rw [if_neg hc]
          have hm : (k : Int) ∉ o := by simpa using hc
          obtain ⟨g1, g2, g3⟩ := ih (o ++ [(k : Int)]) (visitK xss n f o b k) (by rw [List.length_append]; simp; omega) h1
            (fun x hx => by rcases List.mem_append.1 hx with hx | hx; exact hr x hx; rw [List.mem_singleton.1 hx]; omega)
            (by rw [List.nodup_append]; exact ⟨hd, by simp, fun a ha c hc e => hm (by rw [List.mem_singleton] at hc; rw [← hc, ← e]; exact ha)⟩)
          refine ⟨g1, fun hne => ?_, fun j hj t ht => ?_⟩
          · obtain ⟨q1, q2⟩ := h2 hne
            obtain ⟨q3, q4⟩ := g2 q1
            exact ⟨q3, by omega⟩
          · rcases Nat.lt_or_ge j k with hlt | hge
            · obtain ⟨q1, q2⟩ := h3 j hlt t ht
              obtain ⟨q3, q4⟩ := g2 q1
              exact ⟨q3, by omega⟩
            · obtain rfl : j = k := by omega
              have := g3 t (by rw [List.append_assoc]; exact ht)
              rw [List.append_assoc] at this
              exact this
    obtain ⟨h1, h2, h3⟩ := key n (Nat.le_refl _)
    refine ⟨h1, h2, fun t ht => ?_⟩
    cases t with
    | nil => have := ht.1; rw [List.append_nil] at this; omega
    | cons x t =>
      have hx := ht.2.1 x (List.mem_append_right _ (List.mem_cons_self ..))
      have e : ((x.toNat : Nat) : Int) = x := by omega
      have := h3 x.toNat (by omega) t (by rw [e]; exact ht)
      rw [e] at this
      exact this
theorem visit_best (xss : List (List Int)) {n : Nat} (hn : 0 < n) : orderP n (visitB xss n n [] []) ∧ ∀ o, orderP n o → spanJ xss (visitB xss n n [] []) ≤ spanJ xss o := by
  obtain ⟨h1, h2, h3⟩ := visit_spec xss hn n [] [] (by simp) (.inl rfl) (fun x hx => by cases hx) List.nodup_nil
  have h4 := h3 (rangeI n) (orderP_perm.2 (List.Perm.refl _))
  exact ⟨h1.resolve_left h4.1, fun o ho => (h3 o ho).2⟩
/-- putting one in at its best place -/
def putAt (o : List Int) (i : Int) (k : Nat) : List Int := o.take k ++ i :: o.drop k
def insB (xss : List (List Int)) (o : List Int) (i : Int) (k : Nat) : List Int := (List.range k).foldl (fun b k => bStep xss b (putAt o i k)) []
theorem insB_succ (xss : List (List Int)) (o : List Int) (i : Int) (k : Nat) : insB xss o i (k + 1) = bStep xss (insB xss o i k) (putAt o i k) := by unfold insB; rw [List.range_succ, List.foldl_append]; rfl
theorem putAt_perm (o : List Int) (i : Int) (k : Nat) : (putAt o i k).Perm (i :: o) := by
  unfold putAt
  refine List.perm_middle.trans ?_
  rw [List.take_append_drop]
theorem insB_perm (xss : List (List Int)) (o : List Int) (i : Int) (k : Nat) : (insB xss o i k = [] ∧ k = 0) ∨ (insB xss o i k).Perm (i :: o) := by
  induction k with
  | zero => left; exact ⟨rfl, rfl⟩
  | succ k ih =>
    right
    rw [insB_succ]
    unfold bStep
    split
    · exact putAt_perm o i k
    · rename_i h
      rcases ih with h2 | h2
      · exact absurd (Or.inl h2.1) h
      · exact h2
def insO (xss : List (List Int)) : List Int → List Int → List Int
  | o, [] => o
  | o, i :: l => insO xss (insB xss o i (o.length + 1)) l
theorem insO_snoc (xss : List (List Int)) (i : Int) : ∀ (l o : List Int), insO xss o (l ++ [i]) = insB xss (insO xss o l) i ((insO xss o l).length + 1) := by
  intro l
  induction l with
  | nil => intro o; rfl
  | cons j l ih => intro o; exact ih _
theorem insO_perm (xss : List (List Int)) : ∀ (l o : List Int), (insO xss o l).Perm (l ++ o) := by
  intro l
  induction l with
  | nil => intro o; exact List.Perm.refl _
  | cons i l ih =>
    intro o
    have h := (insB_perm xss o i (o.length + 1)).resolve_left (fun h => by omega)
    refine (ih (insB xss o i (o.length + 1))).trans (((List.Perm.refl l).append h).trans ?_)
    exact List.perm_middle


/-- two machines: when the second one is free -/
def C2 (a b : Int → Int) : Int → Int → List Int → Int
  | _, B, [] => B
  | A, B, i :: o => C2 a b (A + a i) (max (A + a i) B + b i) o
theorem C2_mono (a b : Int → Int) : ∀ (o : List Int) (A B B' : Int), B ≤ B' → C2 a b A B o ≤ C2 a b A B' o := by
  intro o
  induction o with
  | nil => intro A B B' h; exact h
  | cons i o ih => intro A B B' h; exact ih _ _ _ (by omega)
theorem C2_swap {a b : Int → Int} (ha : ∀ i, 0 ≤ a i) (hb : ∀ i, 0 ≤ b i) {x y : Int} (h : min (a x) (b y) ≤ min (a y) (b x)) (A B : Int) (o : List Int) : C2 a b A B (x :: y :: o) ≤ C2 a b A B (y :: x :: o) := by
  show C2 a b (A + a x + a y) (max (A + a x + a y) (max (A + a x) B + b x) + b y) o ≤ C2 a b (A + a y + a x) (max (A + a y + a x) (max (A + a y) B + b y) + b x) o
  rw [show A + a y + a x = A + a x + a y by omega]
  have := ha x; have := ha y; have := hb x; have := hb y
  exact C2_mono a b o _ _ _ (by omega)
theorem C2_bubble {a b : Int → Int} (ha : ∀ i, 0 ≤ a i) (hb : ∀ i, 0 ≤ b i) {x : Int} {q : List Int} : ∀ (p : List Int) (A B : Int), (∀ y ∈ p, min (a x) (b y) ≤ min (a y) (b x)) → C2 a b A B (x :: (p ++ q)) ≤ C2 a b A B (p ++ x :: q) := by
  intro p
  induction p with
  | nil => intro A B _; exact Int.le_refl _
  | cons y p ih =>
    intro A B h
    refine Int.le_trans (C2_swap ha hb (h y (List.mem_cons_self ..)) A B (p ++ q)) ?_
    exact ih _ _ fun z hz => h z (List.mem_cons_of_mem _ hz)
theorem C2_best {a b : Int → Int} (ha : ∀ i, 0 ≤ a i) (hb : ∀ i, 0 ≤ b i) : ∀ (l1 l2 : List Int) (A B : Int), l1.Perm l2 → l1.Pairwise (fun x y => min (a x) (b y) ≤ min (a y) (b x)) → C2 a b A B l1 ≤ C2 a b A B l2 := by
  intro l1
  induction l1 with
  | nil => intro l2 A B h _; rw [h.symm.eq_nil]; exact Int.le_refl _
  | cons x l ih =>
    intro l2 A B h hs
    obtain ⟨h1, h2⟩ := List.pairwise_cons.1 hs
    obtain ⟨p, q, rfl⟩ := List.append_of_mem (h.mem_iff.1 (List.mem_cons_self ..))
    have hp : l.Perm (p ++ q) := (h.trans List.perm_middle).cons_inv
    refine Int.le_trans ?_ (C2_bubble ha hb p A B fun y hy => h1 y (hp.mem_iff.2 (List.mem_append_left _ hy)))
    exact ih _ _ _ hp h2
theorem FJ_C2 {job : Int → Nat → Int} (h : ∀ i k, 0 ≤ job i k) : ∀ (o : List Int) (g : Nat → Int), 0 ≤ g 0 → FJ job g o 1 = C2 (fun i => job i 0) (fun i => job i 1) (g 0) (g 1) o := by
  intro o
  induction o with
  | nil => intro g _; rfl
  | cons i o ih =>
    intro g hg
    have e0 : endF g (job i) 0 = g 0 + job i 0 := by show max 0 (g 0) + job i 0 = _; omega
    have e1 : endF g (job i) 1 = max (g 0 + job i 0) (g 1) + job i 1 := by show max (endF g (job i) 0) (g 1) + job i 1 = _; rw [e0]
    have := h i 0
    show FJ job (endF g (job i)) o 1 = C2 _ _ (g 0 + job i 0) (max (g 0 + job i 0) (g 1) + job i 1) o
    rw [ih (endF g (job i)) (by rw [e0]; omega), e0, e1]
/-- the rule for two machines -/
def johB (a b : Int → Int) (x y : Int) : Bool := if decide (a x < b x) != decide (a y < b y) then decide (a x < b x) else if a x < b x then decide (a x < a y) else decide (b x > b y)
theorem johB_weak (a b : Int → Int) : Weak (johB a b) := by
  constructor
  · intro x y h
    unfold johB at *
    by_cases h1 : a x < b x <;> by_cases h2 : a y < b y <;> simp [h1, h2] at h ⊢ <;> omega
  · intro x y z h1 h2
    unfold johB at *
    by_cases e1 : a x < b x <;> by_cases e2 : a y < b y <;> by_cases e3 : a z < b z <;> simp [e1, e2, e3] at h1 h2 ⊢ <;> omega
theorem joh_lt {a b : Int → Int} {x y : Int} (h : ltB (johB a b) x y) : min (a x) (b y) ≤ min (a y) (b x) := by
  have h1 : johB a b y x = false := by
    rcases h with h | h
    · exact (johB_weak a b).asym _ _ h
    · exact h.1
  unfold johB at h1
  by_cases e1 : a x < b x <;> by_cases e2 : a y < b y <;> simp [e1, e2] at h1 <;> omega
theorem joh_best {xss : List (List Int)} (hv : ∀ r ∈ xss, ∀ x ∈ r, 0 ≤ x ∧ x ≤ 1000) (hc : colsJ xss = 2) {l o : List Int} (hp : l.Perm o) (hs : l.Pairwise (ltB (johB (fun i => jobF xss i 0) (fun i => jobF xss i 1)))) : spanJ xss l ≤ spanJ xss o := by
  unfold spanJ
  by_cases h : l = []
  · subst h; rw [hp.symm.eq_nil]; simp
  · have h2 : o ≠ [] := by rintro rfl; exact h hp.eq_nil
    rw [if_neg h, if_neg h2, hc]
    unfold freeJ
    have hb := fun i k => (jobF_bound hv i k).1
    rw [FJ_C2 hb l _ (by omega), FJ_C2 hb o _ (by omega)]
    exact C2_best (fun i => hb i 0) (fun i => hb i 1) l o _ _ hp (hs.imp joh_lt)
/-- sums over the first of a row -/
def pfx (x : Nat → Int) : Nat → Int
  | 0 => 0
  | k + 1 => pfx x k + x k
theorem sumI_take (xs : List Int) : ∀ k, k ≤ xs.length → sumI (xs.take k) = pfx (atI xs) k := by
  intro k
  induction k with
  | zero => intro _; rfl
  | succ k ih =>
    intro h
    rw [List.take_succ_eq_append_getElem (by omega), sumI_snoc, ih (by omega)]
    show _ + _ = _ + _
    congr 1
    unfold atI
    rw [List.getD_eq_getElem?_getD]
    simp [show k < xs.length by omega]
theorem sumI_drop (xs : List Int) {k : Nat} (h : k ≤ xs.length) : sumI (xs.drop k) = pfx (atI xs) xs.length - pfx (atI xs) k := by
  have h1 := sumI_take xs k h
  have h2 := sumI_take xs xs.length (Nat.le_refl _)
  rw [List.take_of_length_le (Nat.le_refl _)] at h2
  have h3 : sumI xs = sumI (xs.take k) + sumI (xs.drop k) := by rw [← sumI_append, List.take_append_drop]
  omega
def sumO (f : Int → Int) (o : List Int) : Int := sumI (o.map f)
theorem sumO_perm {f : Int → Int} {o o' : List Int} (h : o.Perm o') : sumO f o = sumO f o' := by
  unfold sumO
  induction h with
  | nil => rfl
  | cons x _ ih => simp only [List.map_cons, sumI_cons]; omega
  | swap x y l => simp only [List.map_cons, sumI_cons]; omega
  | trans _ _ ih1 ih2 => omega
theorem colT_sum (xss : List (List Int)) (k : Nat) : ∀ n, colT xss k n = sumO (fun i => jobF xss i k) (rangeI n) := by
  intro n
  induction n with
  | zero => rfl
  | succ n ih =>
    unfold rangeI sumO at *
    rw [List.range_succ, List.map_append, List.map_append, sumI_append]
    show colT xss k n + _ = _
    rw [ih]
    congr 1
    simp [sumI_cons, sumI_nil, jobF, jobI, rowI]
theorem FJ_low {job : Int → Nat → Int} (k : Nat) : ∀ (o : List Int) (g : Nat → Int), (∀ i k, 0 ≤ job i k) → g k + sumO (fun i => job i k) o ≤ FJ job g o k := by
  intro o
  induction o with
  | nil => intro g _; simp [sumO, sumI_nil, FJ]
  | cons i o ih =>
    intro g h
    have h1 := ih (endF g (job i)) h
    have h2 := endF_eq g (job i) k
    have h3 : sumO (fun i => job i k) (i :: o) = job i k + sumO (fun i => job i k) o := rfl
    show _ ≤ FJ job (endF g (job i)) o k
    omega
theorem endF_pfx {g x : Nat → Int} : ∀ k, pfx x (k + 1) ≤ endF g x k := by
  intro k
  induction k with
  | zero => have := endF_eq g x 0; show 0 + x 0 ≤ _; simp only [prevF] at this; omega
  | succ k ih =>
    have := endF_eq g x (k + 1)
    show pfx x (k + 1) + x (k + 1) ≤ _
    simp only [prevF] at this
    omega
theorem endF_tail {g x : Nat → Int} (k : Nat) : ∀ j, endF g x k + (pfx x (k + 1 + j) - pfx x (k + 1)) ≤ endF g x (k + j) := by
  intro j
  induction j with
  | zero => simp
  | succ j ih =>
    have := endF_eq g x (k + j + 1)
    simp only [prevF] at this
    have e : pfx x (k + 1 + (j + 1)) = pfx x (k + 1 + j) + x (k + 1 + j) := rfl
    rw [e, show k + (j + 1) = k + j + 1 by omega, show k + 1 + j = k + j + 1 by omega] at *
    omega
theorem mn_le {f : Nat → Int} : ∀ {n i : Nat}, i < n → mn f n ≤ f i := by
  intro n
  induction n with
  | zero => intro i h; omega
  | succ n ih =>
    intro i h
    show min (mn f n) (f n) ≤ f i
    rcases Nat.lt_or_ge i n with h2 | h2
    · have := ih h2; omega
    · obtain rfl : i = n := by omega
      omega
theorem mx_le {g : Nat → Int} {M : Int} (h0 : 0 ≤ M) : ∀ {n : Nat}, (∀ k, k < n → g k ≤ M) → mx g n ≤ M := by
  intro n
  induction n with
  | zero => intro _; exact h0
  | succ n ih => intro h; have := ih fun k hk => h k (by omega); have := h n (by omega); show max _ _ ≤ M; omega
theorem rowI_len {xss : List (List Int)} {m : Nat} (hr : ∀ r ∈ xss, r.length = m) {i : Nat} (hi : i < xss.length) : (rowI xss i).length = m := by
  unfold rowI
  rw [List.getD_eq_getElem?_getD]
  have : xss[i]? = some xss[i] := by simp [hi]
  rw [this]
  exact hr _ (List.getElem_mem hi)
theorem bound_le {xss : List (List Int)} (hm : 1 ≤ colsJ xss ∧ colsJ xss ≤ 4) (hn : 1 ≤ xss.length) (hr : ∀ r ∈ xss, r.length = colsJ xss ∧ ∀ x ∈ r, 0 ≤ x ∧ x ≤ 1000) {o : List Int} (ho : orderP xss.length o) :
    mx (bnd xss) (colsJ xss) ≤ spanJ xss o := by
  have hb := jobF_bound (fun r h => (hr r h).2)
  have hne := orderP_ne hn ho
  have hs : spanJ xss o = freeJ xss o (colsJ xss - 1) := by unfold spanJ; rw [if_neg hne]
  have h0 : 0 ≤ spanJ xss o := by rw [hs]; exact (freeJ_bound (fun r h => (hr r h).2) o (by omega)).1
  refine mx_le h0 fun k hk => ?_
  rw [hs]
  -- the last one
  have hlast := (List.dropLast_concat_getLast hne).symm
  generalize o.getLast hne = z at hlast
  generalize o.dropLast = p at hlast
  have hz : 0 ≤ z ∧ z < xss.length := ho.2.1 z (by rw [hlast]; simp)
  have t1 : freeJ xss o k + (pfx (jobF xss z) (k + 1 + (colsJ xss - 1 - k)) - pfx (jobF xss z) (k + 1)) ≤ freeJ xss o (colsJ xss - 1) := by
    rw [hlast, freeJ_snoc]
    have := endF_tail (g := freeJ xss p) (x := jobF xss z) k (colsJ xss - 1 - k)
    rw [show k + (colsJ xss - 1 - k) = colsJ xss - 1 by omega] at this
    exact this
  rw [show k + 1 + (colsJ xss - 1 - k) = colsJ xss by omega] at t1
  have lz := rowI_len (fun r h => (hr r h).1) (i := z.toNat) (by omega)
  have t2 : beh xss k z.toNat = pfx (jobF xss z) (colsJ xss) - pfx (jobF xss z) (k + 1) := by
    unfold beh
    rw [sumI_drop _ (by omega), lz]
    rfl
  have t3 := mn_le (f := beh xss k) (n := xss.length) (i := z.toNat) (by omega)
  -- the first one
  have hfirst : ∃ y t, o = y :: t := by cases o with
    | nil => exact absurd rfl hne
    | cons y t => exact ⟨y, t, rfl⟩
  obtain ⟨y, t, hyt⟩ := hfirst
  have hy : 0 ≤ y ∧ y < xss.length := ho.2.1 y (by rw [hyt]; simp)
  have s1 := FJ_low (job := jobF xss) k t (endF (fun _ => 0) (jobF xss y)) (fun i k => (hb i k).1)
  have s2 := endF_pfx (g := fun _ => 0) (x := jobF xss y) k
  have ly := rowI_len (fun r h => (hr r h).1) (i := y.toNat) (by omega)
  have s3 : bef xss k y.toNat = pfx (jobF xss y) k := by unfold bef; rw [sumI_take _ _ (by omega)]; rfl
  have s4 := mn_le (f := bef xss k) (n := xss.length) (i := y.toNat) (by omega)
  have s5 : pfx (jobF xss y) (k + 1) = pfx (jobF xss y) k + jobF xss y k := rfl
  have s6 : sumO (fun i => jobF xss i k) o = jobF xss y k + sumO (fun i => jobF xss i k) t := by rw [hyt]; rfl
  have s7 : freeJ xss o = FJ (jobF xss) (endF (fun _ => 0) (jobF xss y)) t := by rw [hyt]; rfl
  have s8 : colT xss k xss.length = sumO (fun i => jobF xss i k) o := by rw [colT_sum]; exact sumO_perm (orderP_perm.1 ho).symm
  rw [← s7] at s1
  unfold bnd
  omega
end Go.Proofs.Ytpnmcgjfemaleaa
