/- Small functions on numbers, each by its contract. No condition. -/
import Derived.Test.YtifcgamiimddeaaRows
import Derived.Test.YtifcgamiimddeaaBase
namespace Go.Proofs.Ytifcgamiimddeaa
open Go.ChangeShapes Go.WideShapes Go.ChangeAt Go.RowKit
set_option linter.unusedVariables false

theorem inside_yes (n lo hi : Int) (w : World) (hlo : lo ≤ n) (hhi : n ≤ hi) :
    Calls Try.prog 34 #[.int .i64 n, .int .i64 lo, .int .i64 hi] w fun e w' => e = .returned (.bool true) ∧ w = w' := by
  go_enter Try.func34, Try.ntmps34
  go_wp2
  go_ret
  exact ⟨rfl, rfl⟩
theorem inside_no (n lo hi : Int) (w : World) (hno : n < lo ∨ hi < n) :
    Calls Try.prog 34 #[.int .i64 n, .int .i64 lo, .int .i64 hi] w fun e w' => e = .returned (.bool false) ∧ w = w' := by
  by_cases hlo : lo ≤ n
  · have hhi : hi < n := by omega
    clear hno
    go_enter Try.func34, Try.ntmps34
    go_wp2
    go_ret
    exact ⟨ret_bool (by simp; omega), rfl⟩
  · clear hno
    go_enter Try.func34, Try.ntmps34
    go_wp2
    go_ret
    exact ⟨rfl, rfl⟩
theorem inside_any (n lo hi : Int) (w : World) :
    Calls Try.prog 34 #[.int .i64 n, .int .i64 lo, .int .i64 hi] w fun e w' => e = .returned (.bool (decide (lo ≤ n ∧ n ≤ hi))) ∧ w = w' := by
  by_cases h : lo ≤ n ∧ n ≤ hi
  · exact (inside_yes n lo hi w h.1 h.2).mono fun e w' hh => ⟨by rw [hh.1]; exact ret_bool (by simp [h]), hh.2⟩
  · exact (inside_no n lo hi w (by omega)).mono fun e w' hh => ⟨by rw [hh.1]; exact ret_bool (by simp [h]), hh.2⟩
theorem l00In_yes (n lo hi : Int) (w : World) (hlo : lo ≤ n) (hhi : n ≤ hi) :
    Calls Try.prog 28 #[.int .i64 n, .int .i64 lo, .int .i64 hi] w fun e w' => e = .returned (.bool true) ∧ w = w' := by
  go_enter Try.func28, Try.ntmps28
  go_wp2
  go_ret
  exact ⟨rfl, rfl⟩
theorem l00In_no (n lo hi : Int) (w : World) (hno : n < lo ∨ hi < n) :
    Calls Try.prog 28 #[.int .i64 n, .int .i64 lo, .int .i64 hi] w fun e w' => e = .returned (.bool false) ∧ w = w' := by
  by_cases hlo : lo ≤ n
  · have hhi : hi < n := by omega
    clear hno
    go_enter Try.func28, Try.ntmps28
    go_wp2
    go_ret
    exact ⟨ret_bool (by simp; omega), rfl⟩
  · clear hno
    go_enter Try.func28, Try.ntmps28
    go_wp2
    go_ret
    exact ⟨rfl, rfl⟩
theorem l00In_any (n lo hi : Int) (w : World) :
    Calls Try.prog 28 #[.int .i64 n, .int .i64 lo, .int .i64 hi] w fun e w' => e = .returned (.bool (decide (lo ≤ n ∧ n ≤ hi))) ∧ w = w' := by
  by_cases h : lo ≤ n ∧ n ≤ hi
  · exact (l00In_yes n lo hi w h.1 h.2).mono fun e w' hh => ⟨by rw [hh.1]; exact ret_bool (by simp [h]), hh.2⟩
  · exact (l00In_no n lo hi w (by omega)).mono fun e w' hh => ⟨by rw [hh.1]; exact ret_bool (by simp [h]), hh.2⟩
def maxI (a b : Int) : Int := if b < a then a else b
def minI (a b : Int) : Int := if a < b then a else b
theorem l00Max_any (a b : Int) (w : World) :
    Calls Try.prog 47 #[.int .i64 a, .int .i64 b] w fun e w' => e = .returned (.int .i64 (maxI a b)) ∧ w = w' := by
  by_cases h1 : b < a
  · have hm : maxI a b = a := if_pos h1
    rw [hm]
    clear hm
    go_enter Try.func47, Try.ntmps47
    go_wp2
    go_ret
    exact ⟨rfl, rfl⟩
  · have hm : maxI a b = b := if_neg h1
    rw [hm]
    clear hm
    go_enter Try.func47, Try.ntmps47
    go_wp2
    go_ret
    exact ⟨rfl, rfl⟩
end Go.Proofs.Ytifcgamiimddeaa
