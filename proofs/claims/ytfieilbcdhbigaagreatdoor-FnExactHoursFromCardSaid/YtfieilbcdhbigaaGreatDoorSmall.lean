/- Small functions on numbers, each by its contract. No condition. -/
import Derived.Test.YtfieilbcdhbigaaGreatDoorRows
import Derived.Test.YtfieilbcdhbigaaGreatDoorBase
namespace Go.Proofs.YtfieilbcdhbigaaGreatDoor
open Go.ChangeShapes Go.WideShapes Go.ChangeAt Go.RowKit
set_option linter.unusedVariables false
set_option maxRecDepth 100000

theorem inside_yes (n lo hi : Int) (w : World) (hlo : lo ≤ n) (hhi : n ≤ hi) :
    Calls Tryz.prog 88 #[.int .i64 n, .int .i64 lo, .int .i64 hi] w fun e w' => e = .returned (.bool true) ∧ w = w' := by
  go_enter Tryz.func88, Tryz.ntmps88
  go_wp2
  go_ret
  exact ⟨rfl, rfl⟩
theorem inside_no (n lo hi : Int) (w : World) (hno : n < lo ∨ hi < n) :
    Calls Tryz.prog 88 #[.int .i64 n, .int .i64 lo, .int .i64 hi] w fun e w' => e = .returned (.bool false) ∧ w = w' := by
  by_cases hlo : lo ≤ n
  · have hhi : hi < n := by omega
    clear hno
    go_enter Tryz.func88, Tryz.ntmps88
    go_wp2
    go_ret
    exact ⟨ret_bool (by simp; omega), rfl⟩
  · clear hno
    go_enter Tryz.func88, Tryz.ntmps88
    go_wp2
    go_ret
    exact ⟨rfl, rfl⟩
theorem inside_any (n lo hi : Int) (w : World) :
    Calls Tryz.prog 88 #[.int .i64 n, .int .i64 lo, .int .i64 hi] w fun e w' => e = .returned (.bool (decide (lo ≤ n ∧ n ≤ hi))) ∧ w = w' := by
  by_cases h : lo ≤ n ∧ n ≤ hi
  · exact (inside_yes n lo hi w h.1 h.2).mono fun e w' hh => ⟨by rw [hh.1]; exact ret_bool (by simp [h]), hh.2⟩
  · exact (inside_no n lo hi w (by omega)).mono fun e w' hh => ⟨by rw [hh.1]; exact ret_bool (by simp [h]), hh.2⟩
theorem l00In_yes (n lo hi : Int) (w : World) (hlo : lo ≤ n) (hhi : n ≤ hi) :
    Calls Tryz.prog 86 #[.int .i64 n, .int .i64 lo, .int .i64 hi] w fun e w' => e = .returned (.bool true) ∧ w = w' := by
  go_enter Tryz.func86, Tryz.ntmps86
  go_wp2
  go_ret
  exact ⟨rfl, rfl⟩
theorem l00In_no (n lo hi : Int) (w : World) (hno : n < lo ∨ hi < n) :
    Calls Tryz.prog 86 #[.int .i64 n, .int .i64 lo, .int .i64 hi] w fun e w' => e = .returned (.bool false) ∧ w = w' := by
  by_cases hlo : lo ≤ n
  · have hhi : hi < n := by omega
    clear hno
    go_enter Tryz.func86, Tryz.ntmps86
    go_wp2
    go_ret
    exact ⟨ret_bool (by simp; omega), rfl⟩
  · clear hno
    go_enter Tryz.func86, Tryz.ntmps86
    go_wp2
    go_ret
    exact ⟨rfl, rfl⟩
theorem l00In_any (n lo hi : Int) (w : World) :
    Calls Tryz.prog 86 #[.int .i64 n, .int .i64 lo, .int .i64 hi] w fun e w' => e = .returned (.bool (decide (lo ≤ n ∧ n ≤ hi))) ∧ w = w' := by
  by_cases h : lo ≤ n ∧ n ≤ hi
  · exact (l00In_yes n lo hi w h.1 h.2).mono fun e w' hh => ⟨by rw [hh.1]; exact ret_bool (by simp [h]), hh.2⟩
  · exact (l00In_no n lo hi w (by omega)).mono fun e w' hh => ⟨by rw [hh.1]; exact ret_bool (by simp [h]), hh.2⟩
def maxI (a b : Int) : Int := if b < a then a else b
def minI (a b : Int) : Int := if a < b then a else b
theorem l00Max_any (a b : Int) (w : World) :
    Calls Tryz.prog 115 #[.int .i64 a, .int .i64 b] w fun e w' => e = .returned (.int .i64 (maxI a b)) ∧ w = w' := by
  by_cases h1 : b < a
  · have hm : maxI a b = a := if_pos h1
    rw [hm]
    clear hm
    go_enter Tryz.func115, Tryz.ntmps115
    go_wp2
    go_ret
    exact ⟨rfl, rfl⟩
  · have hm : maxI a b = b := if_neg h1
    rw [hm]
    clear hm
    go_enter Tryz.func115, Tryz.ntmps115
    go_wp2
    go_ret
    exact ⟨rfl, rfl⟩
theorem any_end {xs : List Int} {p : Int → Bool} (h : xs.any p = false) : (0 : Int) ≤ -1 ↔ ∃ x, x ∈ xs ∧ p x = true :=
  ⟨fun h => by omega, fun ⟨x, hx, hp⟩ => by rw [List.any_eq_true.2 ⟨x, hx, hp⟩] at h; cases h⟩
theorem size_any0 {ao : Option Addr} {n cap : Nat} {w : World} (hn : n ≤ 9223372036854775807) :
    Calls Tryz.prog 124 #[.slice ao n cap] w fun e w' => e = .returned (.int .i64 n) ∧ w = w' := by
  go_enter Tryz.func124, Tryz.ntmps124
  go_wp2
  go_ret
  exact ⟨rfl, rfl⟩
theorem size_any {α : Type} {E : Elt α} {xs : List α} {v : Value} {w : World} {A : Nat} (ha : Rds E A w v xs) :
    Calls Tryz.prog 124 #[v] w fun e w' => e = .returned (.int .i64 xs.length) ∧ w = w' := by
  have hle := ha.le
  obtain ⟨ao, cap, rfl⟩ := ha.shape
  clear ha
  go_enter Tryz.func124, Tryz.ntmps124
  go_wp2
  go_ret
  exact ⟨rfl, rfl⟩
/-- the first k numbers rise, within bounds -/
def Rises (xs : List Int) (lo hi : Int) (k : Nat) : Prop := ∀ j x, j < k → xs[j]? = some x → (lo ≤ x ∧ x ≤ hi) ∧ ∀ i y, j = i + 1 → xs[i]? = some y → y < x
theorem Rises.zero (xs : List Int) (lo hi : Int) : Rises xs lo hi 0 := fun j x h => absurd h (by omega)
theorem Rises.first {xs : List Int} {lo hi x : Int} (hx : xs[0]? = some x) (hb : lo ≤ x ∧ x ≤ hi) : Rises xs lo hi 1 := by
  intro j y hj hy
  obtain rfl : j = 0 := by omega
  rw [hx] at hy
  obtain rfl := Option.some.inj hy
  exact ⟨hb, fun i z h _ => by omega⟩
theorem Rises.succ {xs : List Int} {lo hi : Int} {k : Nat} {x y : Int} (h : Rises xs lo hi (k + 1)) (hy : xs[k]? = some y) (hx : xs[k + 1]? = some x) (hb : lo ≤ x ∧ x ≤ hi) (hlt : y < x) : Rises xs lo hi (k + 2) := by
  intro j z hj hz
  by_cases e : j < k + 1
  · exact h j z e hz
  · obtain rfl : j = k + 1 := by omega
    rw [hx] at hz
    obtain rfl := Option.some.inj hz
    refine ⟨hb, fun i z' h' hz' => ?_⟩
    obtain rfl : i = k := by omega
    rw [hy] at hz'
    obtain rfl := Option.some.inj hz'
    exact hlt
theorem Rises.lt {xs : List Int} {lo hi : Int} {k : Nat} (h : Rises xs lo hi k) : ∀ {j i : Nat} {x y : Int}, j < k → i < j → xs[i]? = some y → xs[j]? = some x → y < x := by
  intro j
  induction j with
  | zero => intro i x y _ hi; omega
  | succ j ih =>
    intro i x y hj hij hy hx
    have hjl : j < xs.length := by have := at_lt hx; omega
    have hz : xs[j]? = some xs[j] := by simp [hjl]
    have h1 := (h (j + 1) x hj hx).2 j xs[j] rfl hz
    by_cases e : i = j
    · subst e
      rw [hz] at hy
      obtain rfl := Option.some.inj hy
      exact h1
    · have := ih (by omega) (by omega) hy hz
      omega
end Go.Proofs.YtfieilbcdhbigaaGreatDoor
