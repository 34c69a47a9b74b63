/- The laws' own helpers on []int64: equal, copy, mark, held; each by its contract. Small functions on numbers, each by its contract. GrossFor: the program's and the reference's, each by its contract. No condition. -/
import Derived.Test.YtkpcdnbjngpooaaGreatDoorRows
import Derived.Test.YtkpcdnbjngpooaaGreatDoorPR1
namespace Go.Proofs.YtkpcdnbjngpooaaGreatDoor
open Go.ChangeShapes Go.WideShapes Go.ChangeAt Go.RowKit
set_option linter.unusedVariables false
set_option maxRecDepth 100000

def Pre {α : Type} (xs ys : List α) (k : Nat) : Prop := xs.take k = ys.take k


/-- k, k + 1, .. -/
def markL (k : Int) : Nat → List Int
  | 0 => []
  | n + 1 => k :: markL (k + 1) n
theorem markL_length (n : Nat) : ∀ k, (markL k n).length = n := by
  induction n with
  | zero => intro k; rfl
  | succ n ih => intro k; simp [markL, ih]
theorem markL_at (n : Nat) : ∀ (k : Int) (j : Nat), j < n → (markL k n)[j]? = some (k + j) := by
  induction n with
  | zero => intro k j h; omega
  | succ n ih =>
    intro k j h
    cases j with
    | zero => simp [markL]
    | succ j =>
      have := ih (k + 1) j (by omega)
      simp only [markL, List.getElem?_cons_succ, this]
      congr 1
      omega
theorem markL_mem {n : Nat} {k x : Int} (h : x ∈ markL k n) : k ≤ x ∧ x < k + n := by
  obtain ⟨j, hj, rfl⟩ := List.mem_iff_getElem.1 h
  have hj' : j < n := by simpa [markL_length] using hj
  have := markL_at n k j hj'
  rw [List.getElem?_eq_getElem hj] at this
  have := Option.some.inj this
  omega
theorem markL_get (n : Nat) (k : Int) (j : Nat) : (markL k n)[j]? = if j < n then some (k + j) else none := by
  by_cases h : j < n
  · rw [if_pos h, markL_at n k j h]
  · rw [if_neg h, List.getElem?_eq_none (by rw [markL_length]; omega)]
theorem markL_set (xs : List Int) (k : Int) (j : Nat) (hj : j < xs.length) : (((markL k j).map (Value.int .i64)) ++ ((xs.drop j).map (Value.int .i64))).set j (.int .i64 (k + j)) = ((markL k (j + 1)).map (Value.int .i64)) ++ ((xs.drop (j + 1)).map (Value.int .i64)) := by
  apply List.ext_getElem?
  intro i
  simp only [List.getElem?_set, List.getElem?_append, List.length_append, List.length_map, List.length_drop, markL_length, List.getElem?_map, markL_get, List.getElem?_drop]
  by_cases h1 : j = i
  · subst h1
    rw [if_pos rfl, if_pos (by omega), if_pos (by omega), if_pos (by omega)]
    rfl
  · rw [if_neg h1]
    by_cases h2 : i < j
    · rw [if_pos h2, if_pos h2, if_pos (by omega), if_pos (by omega)]
    · rw [if_neg h2, if_neg (by omega)]
      congr 2
      omega
theorem copy_set (xs : List Int) (n k : Nat) (x : Int) (hx : xs[k]? = some x) (hk : k < n) : (((xs.take k).map (Value.int .i64)) ++ List.replicate (n - k) (Value.int .i64 0)).set k (.int .i64 x) = ((xs.take (k + 1)).map (Value.int .i64)) ++ List.replicate (n - (k + 1)) (Value.int .i64 0) := by
  have hl := at_lt hx
  rw [take_snoc hx, List.map_append]
  have e : n - k = (n - (k + 1)) + 1 := by omega
  have h0 : ((xs.take k).map (Value.int .i64)).length = k := by simp; omega
  rw [e, List.replicate_succ, List.set_append_right _ _ (by omega), h0, Nat.sub_self]
  simp

theorem Tryz.infoInt64 : (Tryz.prog.info? 2).map (fun i => (i.zero, i.size, i.bytes)) = some (some (.int .i64 0), 1, 8) := by kernel_rfl

/- the same in the one form that the laws' walks take -/
abbrev okInt64 (x : Int) : Prop := -9223372036854775808 ≤ x ∧ x ≤ 9223372036854775807
abbrev RdInt64S (B : Nat) (w : World) (v : Value) (x : List Int) : Prop := Rds eI B w v x
abbrev OwnTInt64S (base top : Nat) (w : World) (v : Value) (x : List Int) : Prop := OwnT eI 2 base top w v x
abbrev OwnInt64S (base : Nat) (w : World) (v : Value) (x : List Int) : Prop := Own eI 2 base w v x
def szInt64S (x : List Int) : Int := x.length
def cntInt64S (x : List Int) : Nat := x.length
def mkInt64S (k : Int) (x : List Int) : List Int := markL k x.length
theorem cntInt64S_le (x : List Int) : (cntInt64S x : Int) ≤ 16 * szInt64S x := by unfold szInt64S cntInt64S; omega
theorem szInt64S_nonneg (x : List Int) : 0 ≤ szInt64S x := by unfold szInt64S; omega
end Go.Proofs.YtkpcdnbjngpooaaGreatDoor
namespace Go.Proofs.YtkpcdnbjngpooaaGreatDoor
open Go.ChangeShapes Go.WideShapes Go.ChangeAt Go.RowKit
set_option linter.unusedVariables false
set_option maxRecDepth 100000

theorem inside_yes (n lo hi : Int) (w : World) (hlo : lo ≤ n) (hhi : n ≤ hi) :
    Calls Tryz.prog 54 #[.int .i64 n, .int .i64 lo, .int .i64 hi] w fun e w' => e = .returned (.bool true) ∧ w = w' := by
  go_enter Tryz.func54, Tryz.ntmps54
  go_wp2
  go_ret
  exact ⟨rfl, rfl⟩
theorem inside_no (n lo hi : Int) (w : World) (hno : n < lo ∨ hi < n) :
    Calls Tryz.prog 54 #[.int .i64 n, .int .i64 lo, .int .i64 hi] w fun e w' => e = .returned (.bool false) ∧ w = w' := by
  by_cases hlo : lo ≤ n
  · have hhi : hi < n := by omega
    clear hno
    go_enter Tryz.func54, Tryz.ntmps54
    go_wp2
    go_ret
    exact ⟨ret_bool (by simp; omega), rfl⟩
  · clear hno
    go_enter Tryz.func54, Tryz.ntmps54
    go_wp2
    go_ret
    exact ⟨rfl, rfl⟩
theorem inside_any (n lo hi : Int) (w : World) :
    Calls Tryz.prog 54 #[.int .i64 n, .int .i64 lo, .int .i64 hi] w fun e w' => e = .returned (.bool (decide (lo ≤ n ∧ n ≤ hi))) ∧ w = w' := by
  by_cases h : lo ≤ n ∧ n ≤ hi
  · exact (inside_yes n lo hi w h.1 h.2).mono fun e w' hh => ⟨by rw [hh.1]; exact ret_bool (by simp [h]), hh.2⟩
  · exact (inside_no n lo hi w (by omega)).mono fun e w' hh => ⟨by rw [hh.1]; exact ret_bool (by simp [h]), hh.2⟩
theorem l00In_yes (n lo hi : Int) (w : World) (hlo : lo ≤ n) (hhi : n ≤ hi) :
    Calls Tryz.prog 61 #[.int .i64 n, .int .i64 lo, .int .i64 hi] w fun e w' => e = .returned (.bool true) ∧ w = w' := by
  go_enter Tryz.func61, Tryz.ntmps61
  go_wp2
  go_ret
  exact ⟨rfl, rfl⟩
theorem l00In_no (n lo hi : Int) (w : World) (hno : n < lo ∨ hi < n) :
    Calls Tryz.prog 61 #[.int .i64 n, .int .i64 lo, .int .i64 hi] w fun e w' => e = .returned (.bool false) ∧ w = w' := by
  by_cases hlo : lo ≤ n
  · have hhi : hi < n := by omega
    clear hno
    go_enter Tryz.func61, Tryz.ntmps61
    go_wp2
    go_ret
    exact ⟨ret_bool (by simp; omega), rfl⟩
  · clear hno
    go_enter Tryz.func61, Tryz.ntmps61
    go_wp2
    go_ret
    exact ⟨rfl, rfl⟩
theorem l00In_any (n lo hi : Int) (w : World) :
    Calls Tryz.prog 61 #[.int .i64 n, .int .i64 lo, .int .i64 hi] w fun e w' => e = .returned (.bool (decide (lo ≤ n ∧ n ≤ hi))) ∧ w = w' := by
  by_cases h : lo ≤ n ∧ n ≤ hi
  · exact (l00In_yes n lo hi w h.1 h.2).mono fun e w' hh => ⟨by rw [hh.1]; exact ret_bool (by simp [h]), hh.2⟩
  · exact (l00In_no n lo hi w (by omega)).mono fun e w' hh => ⟨by rw [hh.1]; exact ret_bool (by simp [h]), hh.2⟩
def maxI (a b : Int) : Int := if b < a then a else b
def minI (a b : Int) : Int := if a < b then a else b
theorem l00Max_any (a b : Int) (w : World) :
    Calls Tryz.prog 94 #[.int .i64 a, .int .i64 b] w fun e w' => e = .returned (.int .i64 (maxI a b)) ∧ w = w' := by
  by_cases h1 : b < a
  · have hm : maxI a b = a := if_pos h1
    rw [hm]
    clear hm
    go_enter Tryz.func94, Tryz.ntmps94
    go_wp2
    go_ret
    exact ⟨rfl, rfl⟩
  · have hm : maxI a b = b := if_neg h1
    rw [hm]
    clear hm
    go_enter Tryz.func94, Tryz.ntmps94
    go_wp2
    go_ret
    exact ⟨rfl, rfl⟩
theorem any_end {xs : List Int} {p : Int → Bool} (h : xs.any p = false) : (0 : Int) ≤ -1 ↔ ∃ x, x ∈ xs ∧ p x = true :=
  ⟨fun h => by omega, fun ⟨x, hx, hp⟩ => by rw [List.any_eq_true.2 ⟨x, hx, hp⟩] at h; cases h⟩
theorem size_any0 {ao : Option Addr} {n cap : Nat} {w : World} (hn : n ≤ 9223372036854775807) :
    Calls Tryz.prog 112 #[.slice ao n cap] w fun e w' => e = .returned (.int .i64 n) ∧ w = w' := by
  go_enter Tryz.func112, Tryz.ntmps112
  go_wp2
  go_ret
  exact ⟨rfl, rfl⟩
theorem size_any {α : Type} {E : Elt α} {xs : List α} {v : Value} {w : World} {A : Nat} (ha : Rds E A w v xs) :
    Calls Tryz.prog 112 #[v] w fun e w' => e = .returned (.int .i64 xs.length) ∧ w = w' := by
  have hle := ha.le
  obtain ⟨ao, cap, rfl⟩ := ha.shape
  clear ha
  go_enter Tryz.func112, Tryz.ntmps112
  go_wp2
  go_ret
  exact ⟨rfl, rfl⟩
/-- the first k numbers rise, within bounds -/
def Rises (xs : List Int) (lo hi : Int) (k : Nat) : Prop := ∀ j x, j < k → xs[j]? = some x → (lo ≤ x ∧ x ≤ hi) ∧ ∀ i y, j = i + 1 → xs[i]? = some y → y < x
theorem Rises.zero (xs : List Int) (lo hi : Int) : Rises xs lo hi 0 := fun j x h => absurd h (by omega)
theorem Rises.first {xs : List Int} {lo hi x : Int} (hx : xs[0]? = some x) (hb : lo ≤ x ∧ x ≤ hi) : Rises xs lo hi 1 := by
  intro j y hj hy
  obtain rfl : j = 0 := by omega
  rw [hx] at hy
  obtain rfl := Option.some.inj hy
  exact ⟨hb, fun i z h _ => by omega⟩
theorem Rises.succ {xs : List Int} {lo hi : Int} {k : Nat} {x y : Int} (h : Rises xs lo hi (k + 1)) (hy : xs[k]? = some y) (hx : xs[k + 1]? = some x) (hb : lo ≤ x ∧ x ≤ hi) (hlt : y < x) : Rises xs lo hi (k + 2) := by
  intro j z hj hz
  by_cases e : j < k + 1
  · exact h j z e hz
  · obtain rfl : j = k + 1 := by omega
    rw [hx] at hz
    obtain rfl := Option.some.inj hz
    refine ⟨hb, fun i z' h' hz' => ?_⟩
    obtain rfl : i = k := by omega
    rw [hy] at hz'
    obtain rfl := Option.some.inj hz'
    exact hlt
theorem Rises.lt {xs : List Int} {lo hi : Int} {k : Nat} (h : Rises xs lo hi k) : ∀ {j i : Nat} {x y : Int}, j < k → i < j → xs[i]? = some y → xs[j]? = some x → y < x := by
  intro j
  induction j with
  | zero => intro i x y _ hi; omega
  | succ j ih =>
    intro i x y hj hij hy hx
    have hjl : j < xs.length := by have := at_lt hx; omega
    have hz : xs[j]? = some xs[j] := by simp [hjl]
    have h1 := (h (j + 1) x hj hx).2 j xs[j] rfl hz
    by_cases e : i = j
    · subst e
      rw [hz] at hy
      obtain rfl := Option.some.inj hy
      exact h1
    · have := ih (by omega) (by omega) hy hz
      omega
end Go.Proofs.YtkpcdnbjngpooaaGreatDoor
namespace Go.Proofs.YtkpcdnbjngpooaaGreatDoor
open Go.ChangeShapes Go.WideShapes Go.ChangeAt Go.RowKit
set_option linter.unusedVariables false
set_option maxRecDepth 100000

theorem mul_bd (a b A B : Int) (ha : 0 ≤ a) (hA : a ≤ A) (hb : 0 ≤ b) (hB : b ≤ B) : 0 ≤ a * b ∧ a * b ≤ A * B :=
  ⟨Int.mul_nonneg ha hb, Int.mul_le_mul hA hB hb (by omega)⟩
/-- the gross pay -/
def grossF (r t : Int) : Int := if t ≤ 40 then r * t else r * 40 + (3 * (r * (t - 40)) + 1) / 2
theorem grossF_bd {r t : Int} (hr : 1 ≤ r ∧ r ≤ 10000) (hh : 0 ≤ t ∧ t ≤ 120) : 0 ≤ grossF r t ∧ grossF r t ≤ 1600001 := by
  unfold grossF
  split
  · have := mul_bd r t 10000 40 (by omega) (by omega) (by omega) (by omega); omega
  · have := mul_bd r (t - 40) 10000 80 (by omega) (by omega) (by omega) (by omega); omega

theorem grossFor_any (r t : Int) (hr : 1 ≤ r ∧ r ≤ 10000) (hh : 0 ≤ t ∧ t ≤ 120) (w : World) :
    Calls Tryz.prog 55 #[.int .i64 r, .int .i64 t] w fun e w' => e = .returned (.int .i64 (grossF r t)) ∧ w = w' := by
  by_cases h40 : t < 40
  · have hb := mul_bd t r 40 10000 hh.1 (by omega) (by omega) hr.2
    have he : grossF r t = t * r := by unfold grossF; rw [if_pos (by omega), Int.mul_comm]
    rw [he]
    clear he
    go_enter Tryz.func55, Tryz.ntmps55
    go_wp2
    go_ret
    exact ⟨ret_int (by rfl), rfl⟩
  · by_cases h41 : t = 40
    · subst h41
      have he : grossF r 40 = 40 * r := by unfold grossF; rw [if_pos (by omega), Int.mul_comm]
      rw [he]
      clear he h40
      go_enter Tryz.func55, Tryz.ntmps55
      go_wp2
      go_ret
      exact ⟨ret_int (by simp), rfl⟩
    · have hb := mul_bd (t - 40) r 80 10000 (by omega) (by omega) (by omega) hr.2
      have he : grossF r t = 40 * r + ((t - 40) * r * 3 + 1) / 2 := by unfold grossF; rw [if_neg (by omega), Int.mul_comm (t - 40) r, Int.mul_comm 40 r]; omega
      rw [he]
      have h42 : 40 < t := by omega
      clear he h40 h41
      go_enter Tryz.func55, Tryz.ntmps55
      go_wp2
      go_ret
      exact ⟨rfl, rfl⟩
theorem isRate_yes (r : Int) (w : World) (hr : 1 ≤ r ∧ r ≤ 10000) : Calls Tryz.prog 79 #[.int .i64 r] w fun e w' => e = .returned (.bool true) ∧ w = w' := by
  go_enter Tryz.func79, Tryz.ntmps79
  go_wp2_with (go_at_call 54; refine (inside_yes _ _ _ _ (by omega) (by omega)).mono ?_; rintro e w' ⟨rfl, rfl⟩)
  go_ret
  exact ⟨rfl, rfl⟩
theorem isRate_no (r : Int) (w : World) (hr : ¬ (1 ≤ r ∧ r ≤ 10000)) : Calls Tryz.prog 79 #[.int .i64 r] w fun e w' => e = .returned (.bool false) ∧ w = w' := by
  have hr' : r < 1 ∨ 10000 < r := by omega
  clear hr
  have H := Lib.hid hr'
  clear hr'
  go_enter Tryz.func79, Tryz.ntmps79
  go_wp2_with (go_at_call 54; refine (inside_no _ _ _ _ H.out).mono ?_; rintro e w' ⟨rfl, rfl⟩)
  go_ret
  exact ⟨rfl, rfl⟩
theorem areHours_yes (r : Int) (w : World) (hr : 0 ≤ r ∧ r ≤ 120) : Calls Tryz.prog 23 #[.int .i64 r] w fun e w' => e = .returned (.bool true) ∧ w = w' := by
  go_enter Tryz.func23, Tryz.ntmps23
  go_wp2_with (go_at_call 54; refine (inside_yes _ _ _ _ (by omega) (by omega)).mono ?_; rintro e w' ⟨rfl, rfl⟩)
  go_ret
  exact ⟨rfl, rfl⟩
theorem areHours_no (r : Int) (w : World) (hr : r < 0 ∨ 120 < r) : Calls Tryz.prog 23 #[.int .i64 r] w fun e w' => e = .returned (.bool false) ∧ w = w' := by
  have H := Lib.hid hr
  clear hr
  go_enter Tryz.func23, Tryz.ntmps23
  go_wp2_with (go_at_call 54; refine (inside_no _ _ _ _ H.out).mono ?_; rintro e w' ⟨rfl, rfl⟩)
  go_ret
  exact ⟨rfl, rfl⟩
theorem l23Hours_yes (t : Int) (w : World) (hr : 0 ≤ t ∧ t ≤ 120) : Calls Tryz.prog 28 #[.int .i64 t] w fun e w' => e = .returned (.bool true) ∧ w = w' := by
  go_enter Tryz.func28, Tryz.ntmps28
  go_wp2_with (go_at_call 61; refine (l00In_yes _ _ _ _ (by omega) (by omega)).mono ?_; rintro e w' ⟨rfl, rfl⟩)
  go_ret
  exact ⟨rfl, rfl⟩
theorem l23Hours_no (t : Int) (w : World) (hr : t < 0 ∨ 120 < t) : Calls Tryz.prog 28 #[.int .i64 t] w fun e w' => e = .returned (.bool false) ∧ w = w' := by
  have H := Lib.hid hr
  clear hr
  go_enter Tryz.func28, Tryz.ntmps28
  go_wp2_with (go_at_call 61; refine (l00In_no _ _ _ _ H.out).mono ?_; rintro e w' ⟨rfl, rfl⟩)
  go_ret
  exact ⟨rfl, rfl⟩
theorem l23Gross_any (r t : Int) (hr : 1 ≤ r ∧ r ≤ 10000) (hh : 0 ≤ t ∧ t ≤ 120) (w : World) :
    Calls Tryz.prog 62 #[.int .i64 r, .int .i64 t] w fun e w' => e = .returned (.int .i64 (grossF r t)) ∧ w = w' := by
  by_cases h40 : t ≤ 40
  · have hb := mul_bd r t 10000 40 (by omega) hr.2 hh.1 (by omega)
    have he : grossF r t = r * t := by unfold grossF; rw [if_pos h40]
    have hm : maxI 0 (t - 40) = 0 := by unfold maxI; split <;> omega
    rw [he]
    have Hm := Lib.hid hm
    clear he hm
    go_enter Tryz.func62, Tryz.ntmps62
    go_wp2_with (go_at_call 94; refine (l00Max_any _ _ _).mono ?_; rw [Hm.out]; rintro e w' ⟨rfl, rfl⟩)
    go_ret
    exact ⟨ret_int (by simp), rfl⟩
  · have hb := mul_bd r (t - 40) 10000 80 (by omega) hr.2 (by omega) (by omega)
    have hb1 : 0 ≤ 3 * r * (t - 40) ∧ 3 * r * (t - 40) ≤ 2400000 := by rw [Int.mul_assoc]; omega
    have hb2 : 0 ≤ r * (t - (t - 40)) ∧ r * (t - (t - 40)) ≤ 400000 := by rw [show t - (t - 40) = 40 by omega]; omega
    have he : grossF r t = r * 40 + (3 * (r * (t - 40)) + 1) / 2 := by unfold grossF; rw [if_neg h40]
    have hm : maxI 0 (t - 40) = t - 40 := by unfold maxI; split <;> omega
    rw [he]
    have Hm := Lib.hid hm
    clear he hm
    go_enter Tryz.func62, Tryz.ntmps62
    go_wp2_with (go_at_call 94; refine (l00Max_any _ _ _).mono ?_; rw [Hm.out]; rintro e w' ⟨rfl, rfl⟩)
    go_ret
    refine ⟨ret_int ?_, rfl⟩
    rw [show t - (t - 40) = 40 by omega, Int.mul_assoc 3 r (t - 40)]
end Go.Proofs.YtkpcdnbjngpooaaGreatDoor
