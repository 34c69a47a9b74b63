/- Restarts, the plain law: losses, the greedy checkpoints, that they are the fewest. No condition. -/
import Derived.Test.YtljjilgpmckccaaSmall
namespace Go.Proofs.Ytljjilgpmckccaa

def sumI (xs : List Int) : Int := xs.foldr (fun x s => x + s) 0
theorem sumI_nil : sumI [] = 0 := rfl
theorem sumI_cons (x : Int) (xs : List Int) : sumI (x :: xs) = x + sumI xs := rfl
theorem sumI_append (xs ys : List Int) : sumI (xs ++ ys) = sumI xs + sumI ys := by
  induction xs with
  | nil => simp [sumI_nil]
  | cons x xs ih => rw [List.cons_append, sumI_cons, sumI_cons, ih]; omega
theorem sumI_snoc (xs : List Int) (x : Int) : sumI (xs ++ [x]) = sumI xs + x := by rw [sumI_append, sumI_cons, sumI_nil]; omega
theorem sumI_nonneg {xs : List Int} (h : ∀ x ∈ xs, 0 ≤ x) : 0 ≤ sumI xs := by
  induction xs with
  | nil => simp [sumI_nil]
  | cons x xs ih =>
    rw [sumI_cons]
    have := h x (List.mem_cons_self ..)
    have := ih fun y hy => h y (List.mem_cons_of_mem _ hy)
    omega
theorem sumI_le {xs : List Int} {M : Int} (hM : 0 ≤ M) (h : ∀ x ∈ xs, x ≤ M) : sumI xs ≤ xs.length * M := by
  induction xs with
  | nil => simp [sumI_nil]
  | cons x xs ih =>
    rw [sumI_cons, List.length_cons]
    have := h x (List.mem_cons_self ..)
    have := ih fun y hy => h y (List.mem_cons_of_mem _ hy)
    have e : ((xs.length + 1 : Nat) : Int) * M = xs.length * M + M := by rw [Int.natCast_add, Int.add_mul]; simp
    omega

/-- times of steps -/
def Times (ms : List Int) : Prop := (1 ≤ ms.length ∧ ms.length ≤ 20) ∧ ∀ x ∈ ms, 0 ≤ x ∧ x ≤ 10000
theorem Times.at {ms : List Int} (h : Times ms) {k : Nat} {x : Int} (hx : ms[k]? = some x) : 0 ≤ x ∧ x ≤ 10000 := h.2 x (List.mem_of_getElem? hx)

/-- the checkpoint from which a step that fails is done again -/
def fromF (cs : List Int) (at_ : Int) : Int := cs.foldl (fun f k => if k ≤ at_ then k else f) 0
theorem fromF_snoc (cs : List Int) (k at_ : Int) : fromF (cs ++ [k]) at_ = if k ≤ at_ then k else fromF cs at_ := by
  unfold fromF; rw [List.foldl_append]; rfl
theorem fromF_bd {cs : List Int} {at_ : Int} (h0 : 0 ≤ at_) (hc : ∀ c ∈ cs, 0 ≤ c) : 0 ≤ fromF cs at_ ∧ fromF cs at_ ≤ at_ := by
  suffices H : ∀ n, 0 ≤ fromF (cs.take n) at_ ∧ fromF (cs.take n) at_ ≤ at_ by
    have := H cs.length
    rwa [List.take_length] at this
  intro n
  induction n with
  | zero => simp [fromF]; exact h0
  | succ n ih =>
    by_cases hn : n < cs.length
    · rw [List.take_add_one, List.getElem?_eq_getElem hn]
      show 0 ≤ fromF (cs.take n ++ [cs[n]]) at_ ∧ _
      have hm := hc cs[n] (List.getElem_mem hn)
      have e : cs.take n ++ (some cs[n]).toList = cs.take n ++ [cs[n]] := rfl
      rw [e, fromF_snoc]
      split <;> omega
    · rw [List.take_of_length_le (by omega)] at ih ⊢
      exact ih
/-- what is lost if a step fails -/
def lossF (ms cs : List Int) (at_ : Int) : Int := sumI ((ms.take (at_.toNat + 1)).drop (fromF cs at_).toNat)

/-! ### the greedy checkpoints -/
def grSum (ms : List Int) (L : Int) : Nat → Int
  | 0 => 0
  | k + 1 => if L < grSum ms L k + ms.getD k 0 then ms.getD k 0 else grSum ms L k + ms.getD k 0
def grOut (ms : List Int) (L : Int) : Nat → List Int
  | 0 => []
  | k + 1 => if L < grSum ms L k + ms.getD k 0 then grOut ms L k ++ [(k : Int)] else grOut ms L k
def checksF (ms : List Int) (L : Int) : List Int := grOut ms L ms.length

theorem getD_of {ms : List Int} {k : Nat} {x : Int} (h : ms[k]? = some x) : ms.getD k 0 = x := by rw [List.getD_eq_getElem?_getD, h]; rfl
theorem grSum_succ {ms : List Int} {L x : Int} {k : Nat} (h : ms[k]? = some x) : grSum ms L (k + 1) = if L < grSum ms L k + x then x else grSum ms L k + x := by rw [grSum, getD_of h]
theorem grOut_succ {ms : List Int} {L x : Int} {k : Nat} (h : ms[k]? = some x) : grOut ms L (k + 1) = if L < grSum ms L k + x then grOut ms L k ++ [(k : Int)] else grOut ms L k := by rw [grOut, getD_of h]
theorem grOut_length (ms : List Int) (L : Int) (k : Nat) : (grOut ms L k).length ≤ k := by
  induction k with
  | zero => simp [grOut]
  | succ k ih =>
    rw [grOut]
    split
    · rw [List.length_append]; simp; omega
    · omega
theorem grSum_bd {ms : List Int} {L : Int} (ht : Times ms) {k : Nat} (hk : k ≤ ms.length) : 0 ≤ grSum ms L k ∧ grSum ms L k ≤ k * 10000 := by
  induction k with
  | zero => simp [grSum]
  | succ k ih =>
    have hx : ms[k]? = some ms[k] := by simp [show k < ms.length by omega]
    have hb := ht.at hx
    have := ih (by omega)
    rw [grSum_succ hx]
    split <;> omega
theorem grOut_mem {ms : List Int} {L : Int} {k : Nat} {c : Int} (h : c ∈ grOut ms L k) : 0 ≤ c ∧ c < k := by
  induction k with
  | zero => simp [grOut] at h
  | succ k ih =>
    rw [grOut] at h
    split at h
    · rcases List.mem_append.1 h with h | h
      · have := ih h; omega
      · simp at h; omega
    · have := ih h; omega
/-! ### what the greedy checkpoints lose; that no others are fewer -/
/-- the last cut among the first k steps, as a number of steps -/
def grCut (ms : List Int) (L : Int) : Nat → Nat
  | 0 => 0
  | k + 1 => if L < grSum ms L k + ms.getD k 0 then k else grCut ms L k
theorem grCut_le (ms : List Int) (L : Int) (k : Nat) : grCut ms L k ≤ k := by
  induction k with
  | zero => simp [grCut]
  | succ k ih => rw [grCut]; split <;> omega
theorem grOut_rises {ms : List Int} {L : Int} (h0 : ∀ (k : Nat) (x : Int), ms[k]? = some x → x ≤ L) (hp : 0 ≤ L) {k : Nat} : ∀ {j : Nat} {x : Int}, (grOut ms L k)[j]? = some x → 1 ≤ x ∧ ∀ i y, j = i + 1 → (grOut ms L k)[i]? = some y → y < x := by
  induction k with
  | zero => intro j x h; simp [grOut] at h
  | succ k ih =>
    intro j x h
    by_cases hc : L < grSum ms L k + ms.getD k 0
    · have e : grOut ms L (k + 1) = grOut ms L k ++ [(k : Int)] := by rw [grOut, if_pos hc]
      rw [e] at h ⊢
      by_cases hj : j < (grOut ms L k).length
      · rw [List.getElem?_append_left hj] at h
        have h1 := ih h
        refine ⟨h1.1, fun i y hi hy => ?_⟩
        rw [List.getElem?_append_left (by omega)] at hy
        exact h1.2 i y hi hy
      · have hj' : j = (grOut ms L k).length := by
          have := at_lt h
          simp at this; omega
        rw [List.getElem?_append_right (by omega), hj', Nat.sub_self] at h
        simp at h
        have hk1 : 1 ≤ k := by
          rcases k with _ | k
          · exfalso
            have hz : grSum ms L 0 = 0 := rfl
            rw [hz] at hc
            by_cases hm : 0 < ms.length
            · have hx : ms[0]? = some ms[0] := by simp [hm]
              have := h0 0 _ hx
              rw [getD_of hx] at hc
              omega
            · rw [List.getD_eq_getElem?_getD, List.getElem?_eq_none (by omega)] at hc
              simp at hc; omega
          · omega
        refine ⟨by omega, fun i y hi hy => ?_⟩
        rw [List.getElem?_append_left (by omega)] at hy
        have := grOut_mem (List.mem_of_getElem? hy)
        omega
    · have e : grOut ms L (k + 1) = grOut ms L k := by rw [grOut, if_neg hc]
      rw [e] at h ⊢
      exact ih h
theorem fromF_grOut (ms : List Int) (L : Int) (at_ : Nat) : ∀ k, at_ < k → fromF (grOut ms L k) at_ = grCut ms L (at_ + 1) := by
  have base : ∀ j, j ≤ at_ + 1 → fromF (grOut ms L j) at_ = grCut ms L j := by
    intro j
    induction j with
    | zero => intro _; rfl
    | succ j ih =>
      intro hj
      rw [grOut, grCut]
      split
      · rw [fromF_snoc, if_pos (by omega)]
      · exact ih (by omega)
  intro k hk
  induction k with
  | zero => omega
  | succ k ih =>
    by_cases e : at_ = k
    · subst e
      exact base _ (by omega)
    · rw [grOut]
      split
      · rw [fromF_snoc, if_neg (by omega)]
        exact ih (by omega)
      · exact ih (by omega)
theorem grSum_cut (ms : List Int) (L : Int) (k : Nat) (hk : k ≤ ms.length) : grSum ms L k = sumI ((ms.take k).drop (grCut ms L k)) := by
  induction k with
  | zero => rfl
  | succ k ih =>
    have hx : ms[k]? = some ms[k] := by simp [show k < ms.length by omega]
    have hl : (ms.take k).length = k := by rw [List.length_take]; omega
    have ih' := ih (by omega)
    rw [grSum_succ hx, grCut, getD_of hx, take_snoc hx]
    split
    · rw [List.drop_append, hl, Nat.sub_self, List.drop_of_length_le (by omega)]
      simp [sumI]
    · have := grCut_le ms L k
      rw [List.drop_append_of_le_length (by omega), sumI_snoc, ← ih']
theorem lossF_greedy {ms : List Int} {L : Int} {at_ : Nat} (h : at_ < ms.length) : lossF ms (checksF ms L) at_ = grSum ms L (at_ + 1) := by
  unfold lossF checksF
  rw [fromF_grOut ms L at_ _ h, grSum_cut ms L (at_ + 1) (by omega)]
  simp
theorem grSum_le {ms : List Int} {L : Int} (h0 : ∀ (k : Nat) (x : Int), ms[k]? = some x → x ≤ L) (hp : 0 ≤ L) : ∀ k, k ≤ ms.length → grSum ms L k ≤ L := by
  intro k
  induction k with
  | zero => intro _; exact hp
  | succ k ih =>
    intro hk
    have hx : ms[k]? = some ms[k] := by simp [show k < ms.length by omega]
    rw [grSum_succ hx]
    have := h0 k _ hx
    split <;> omega

/-- checkpoints of steps -/
def Checks (ms cs : List Int) : Prop := Rises cs 1 ((ms.length : Int) - 1) cs.length
theorem fromF_not {cs : List Int} {a : Int} (h : a ∉ cs) : fromF cs a = fromF cs (a - 1) := by
  suffices H : ∀ f, cs.foldl (fun f k => if k ≤ a then k else f) f = cs.foldl (fun f k => if k ≤ a - 1 then k else f) f from H 0
  induction cs with
  | nil => intro f; rfl
  | cons c cs ih =>
    intro f
    have hc : c ≠ a := fun e => h (by rw [e]; exact List.mem_cons_self ..)
    rw [List.foldl_cons, List.foldl_cons]
    have e : (if c ≤ a then c else f) = (if c ≤ a - 1 then c else f) := by
      by_cases h1 : c ≤ a
      · rw [if_pos h1, if_pos (by omega)]
      · rw [if_neg h1, if_neg (by omega)]
    rw [e]
    exact ih (fun hm => h (List.mem_cons_of_mem _ hm)) _
theorem fromF_mem {cs : List Int} {lo hi a : Int} (h : Rises cs lo hi cs.length) : ∀ m, m ≤ cs.length → a ∈ cs.take m → fromF (cs.take m) a = a := by
  intro m
  induction m with
  | zero => intro _ hm; simp at hm
  | succ m ih =>
    intro hm ha
    have hz : cs[m]? = some cs[m] := by simp [show m < cs.length by omega]
    rw [take_snoc hz, fromF_snoc]
    rw [take_snoc hz] at ha
    rcases List.mem_append.1 ha with ha | ha
    · obtain ⟨i, hi, rfl⟩ := List.mem_iff_getElem.1 ha
      rw [List.length_take] at hi
      have := h.lt (j := m) (i := i) (x := cs[m]) (y := (cs.take m)[i]'(by rw [List.length_take]; omega)) (by omega) (by omega) (by simp) hz
      rw [if_neg (by omega)]
      exact ih (by omega) ha
    · simp at ha
      rw [if_pos (by omega), ha]
open Classical in
/-- losses and numbers of checkpoints, step by step -/
noncomputable def tS (ms cs : List Int) : Nat → Int
  | 0 => 0
  | k + 1 => if (k : Int) ∈ cs then ms.getD k 0 else tS ms cs k + ms.getD k 0
open Classical in
noncomputable def dS (cs : List Int) : Nat → Nat
  | 0 => 0
  | k + 1 => if (k : Int) ∈ cs then dS cs k + 1 else dS cs k
theorem lossF_tS {ms cs : List Int} (h : Checks ms cs) : ∀ k, k < ms.length → lossF ms cs k = tS ms cs (k + 1) := by
  have hpos : ∀ c ∈ cs, 1 ≤ c := by
    intro c hc
    obtain ⟨i, hi, rfl⟩ := List.mem_iff_getElem.1 hc
    exact (h i cs[i] hi (by simp [hi])).1.1
  intro k
  induction k with
  | zero =>
    intro hk
    have hx : ms[0]? = some ms[0] := by simp [hk]
    have h0 : ((0 : Nat) : Int) ∉ cs := fun hm => by have := hpos _ hm; omega
    have hf := fromF_bd (cs := cs) (at_ := ((0 : Nat) : Int)) (by omega) (fun c hc => by have := hpos c hc; omega)
    rw [tS, if_neg h0, tS, getD_of hx]
    unfold lossF
    have e : fromF cs ((0 : Nat) : Int) = 0 := by have := hf.1; have := hf.2; omega
    rw [e, show (((0 : Nat) : Int).toNat + 1) = 0 + 1 from rfl, take_snoc hx]
    simp [sumI]
  | succ k ih =>
    intro hk
    have hx : ms[k + 1]? = some ms[k + 1] := by simp [hk]
    have hl : (ms.take (k + 1)).length = k + 1 := by rw [List.length_take]; omega
    have ih' := ih (by omega)
    rw [tS, getD_of hx]
    unfold lossF at ih' ⊢
    rw [Int.toNat_natCast] at ih' ⊢
    rw [take_snoc hx]
    by_cases hm : ((k + 1 : Nat) : Int) ∈ cs
    · have hf : fromF cs ((k + 1 : Nat) : Int) = ((k + 1 : Nat) : Int) := by
        have := fromF_mem (a := ((k + 1 : Nat) : Int)) h cs.length (Nat.le_refl _) (by rw [List.take_length]; exact hm)
        rwa [List.take_length] at this
      rw [if_pos hm, hf, Int.toNat_natCast, List.drop_append, hl, Nat.sub_self, List.drop_of_length_le (by omega)]
      simp [sumI]
    · have hf := fromF_not hm
      have hb := fromF_bd (cs := cs) (at_ := (k : Int)) (by omega) (fun c hc => by have := hpos c hc; omega)
      rw [show ((k + 1 : Nat) : Int) - 1 = (k : Int) by omega] at hf
      rw [if_neg hm, hf, List.drop_append_of_le_length (by omega), sumI_snoc, ih']
theorem dS_filter (cs : List Int) (hn : cs.Nodup) (hp : ∀ c ∈ cs, 0 ≤ c) (k : Nat) : dS cs k = (cs.filter (fun c => decide (c < (k : Int)))).length := by
  induction k with
  | zero =>
    have : cs.filter (fun c => decide (c < ((0 : Nat) : Int))) = [] := by
      rw [List.filter_eq_nil_iff]
      intro c hc
      have := hp c hc
      simp; omega
    rw [this]; rfl
  | succ k ih =>
    have key : ∀ l : List Int, l.Nodup → (l.filter (fun c => decide (c < ((k + 1 : Nat) : Int)))).length = (l.filter (fun c => decide (c < (k : Int)))).length + if (k : Int) ∈ l then 1 else 0 := by
      intro l
      induction l with
      | nil => intro _; simp
      | cons c l ihl =>
        intro hnd
        obtain ⟨h1, h2⟩ := List.nodup_cons.1 hnd
        have := ihl h2
        by_cases e : c = (k : Int)
        · subst e
          rw [if_neg h1] at this
          rw [List.filter_cons_of_pos (by simp; omega), List.filter_cons_of_neg (by simp), List.length_cons, this, if_pos (List.mem_cons_self ..)]
        · have e2 : ((k : Int) ∈ c :: l) ↔ ((k : Int) ∈ l) := by
            rw [List.mem_cons]
            exact ⟨fun h => h.resolve_left (fun e' => e e'.symm), Or.inr⟩
          by_cases hlt : c < (k : Int)
          · rw [List.filter_cons_of_pos (by simp; omega), List.filter_cons_of_pos (by simpa using hlt), List.length_cons, List.length_cons, this]
            simp only [e2]
            omega
          · rw [List.filter_cons_of_neg (by simp; omega), List.filter_cons_of_neg (by simpa using hlt), this]
            simp only [e2]
    rw [dS, key cs hn, ← ih]
    by_cases hm : (k : Int) ∈ cs
    · rw [if_pos hm, if_pos hm]
    · rw [if_neg hm, if_neg hm, Nat.add_zero]
theorem Rises.nodup {cs : List Int} {lo hi : Int} (h : Rises cs lo hi cs.length) : cs.Nodup := by
  rw [List.nodup_iff_pairwise_ne, List.pairwise_iff_getElem]
  intro i j hi hj hij
  have := h.lt (j := j) (i := i) (x := cs[j]) (y := cs[i]) hj hij (by simp [hi]) (by simp [hj])
  omega
theorem dS_all {ms cs : List Int} (h : Checks ms cs) : dS cs ms.length = cs.length := by
  have hb : ∀ c ∈ cs, 1 ≤ c ∧ c ≤ (ms.length : Int) - 1 := by
    intro c hc
    obtain ⟨i, hi, rfl⟩ := List.mem_iff_getElem.1 hc
    exact (h i cs[i] hi (by simp [hi])).1
  rw [dS_filter cs (Rises.nodup h) (fun c hc => by have := hb c hc; omega)]
  congr 1
  rw [List.filter_eq_self]
  intro c hc
  have := hb c hc
  simp; omega
/-- THE GREEDY CHECKPOINTS ARE THE FEWEST. -/
theorem greedy_fewest {ms cs : List Int} {L : Int} (ht : Times ms) (h : Checks ms cs) (hL : ∀ k, k < ms.length → lossF ms cs k ≤ L) : (checksF ms L).length ≤ cs.length := by
  have inv : ∀ k, k ≤ ms.length → (grOut ms L k).length < dS cs k ∨ ((grOut ms L k).length = dS cs k ∧ grSum ms L k ≤ tS ms cs k) ∧ True := by
    intro k
    induction k with
    | zero => intro _; right; simp [grOut, dS, grSum, tS]
    | succ k ih =>
      intro hk
      have hx : ms[k]? = some ms[k] := by simp [show k < ms.length by omega]
      have hb := ht.at hx
      have htk : tS ms cs (k + 1) ≤ L := by rw [← lossF_tS h k (by omega)]; exact hL k (by omega)
      have hnn : 0 ≤ tS ms cs k := by
        have : ∀ j, j ≤ ms.length → 0 ≤ tS ms cs j := by
          intro j
          induction j with
          | zero => intro _; simp [tS]
          | succ j ihj =>
            intro hj
            have hy : ms[j]? = some ms[j] := by simp [show j < ms.length by omega]
            have := ht.at hy
            have := ihj (by omega)
            rw [tS, getD_of hy]
            split <;> omega
        exact this k (by omega)
      rw [tS, getD_of hx] at htk
      rw [grOut_succ hx, grSum_succ hx, dS, tS, getD_of hx]
      have ih' := ih (by omega)
      by_cases hm : (k : Int) ∈ cs
      · rw [if_pos hm] at htk ⊢
        rw [if_pos hm]
        by_cases hc : L < grSum ms L k + ms[k]
        · rw [if_pos hc, if_pos hc]
          simp only [List.length_append, List.length_cons, List.length_nil]
          rcases ih' with h1 | ⟨⟨h1, h2⟩, _⟩
          · left; omega
          · right; exact ⟨⟨by omega, Int.le_refl _⟩, trivial⟩
        · rw [if_neg hc, if_neg hc]
          rcases ih' with h1 | ⟨⟨h1, h2⟩, _⟩
          · left; omega
          · left; omega
      · rw [if_neg hm] at htk ⊢
        rw [if_neg hm]
        by_cases hc : L < grSum ms L k + ms[k]
        · rw [if_pos hc, if_pos hc]
          simp only [List.length_append, List.length_cons, List.length_nil]
          rcases ih' with h1 | ⟨⟨h1, h2⟩, _⟩
          · by_cases e : (grOut ms L k).length + 1 < dS cs k
            · left; omega
            · right; exact ⟨⟨by omega, by omega⟩, trivial⟩
          · exfalso; omega
        · rw [if_neg hc, if_neg hc]
          rcases ih' with h1 | ⟨⟨h1, h2⟩, _⟩
          · left; omega
          · right; exact ⟨⟨by omega, by omega⟩, trivial⟩
  have := inv ms.length (Nat.le_refl _)
  rw [dS_all h] at this
  unfold checksF
  rcases this with h1 | ⟨⟨h1, _⟩, _⟩ <;> omega
/-- the greedy checkpoints are checkpoints -/
theorem greedy_checks {ms : List Int} {L : Int} (h0 : ∀ (k : Nat) (x : Int), ms[k]? = some x → x ≤ L) (hp : 0 ≤ L) : Checks ms (checksF ms L) := by
  intro j x hj hx
  have h1 := grOut_rises h0 hp hx
  have h2 := grOut_mem (List.mem_of_getElem? hx)
  exact ⟨⟨h1.1, by omega⟩, h1.2⟩
theorem greedy_mono {ms : List Int} {L L' : Int} (ht : Times ms) (h0 : ∀ (k : Nat) (x : Int), ms[k]? = some x → x ≤ L) (hp : 0 ≤ L) (hL : L ≤ L') : (checksF ms L').length ≤ (checksF ms L).length := by
  refine greedy_fewest ht (greedy_checks h0 hp) fun k hk => ?_
  rw [lossF_greedy hk]
  have := grSum_le h0 hp (k + 1) (by omega)
  omega
/-- at the greatest limit none is wanted -/
theorem greedy_none {ms : List Int} {L : Int} (ht : Times ms) (hL : 200000 ≤ L) : checksF ms L = [] := by
  have h := ht.1.2
  suffices H : ∀ k, k ≤ ms.length → grOut ms L k = [] ∧ grSum ms L k ≤ k * 10000 from (H _ (Nat.le_refl _)).1
  intro k
  induction k with
  | zero => intro _; simp [grOut, grSum]
  | succ k ih =>
    intro hk
    have hx : ms[k]? = some ms[k] := by simp [show k < ms.length by omega]
    have hb := ht.at hx
    obtain ⟨h1, h2⟩ := ih (by omega)
    rw [grOut_succ hx, grSum_succ hx, if_neg (by omega), if_neg (by omega)]
    exact ⟨h1, by omega⟩
end Go.Proofs.Ytljjilgpmckccaa
