/- GrossFor: the program's and the reference's, each by its contract. No condition. -/
import Derived.Test.YtfhlmkeklmaedaaDoorSmall
namespace Go.Proofs.YtfhlmkeklmaedaaDoor
open Go.ChangeShapes Go.WideShapes Go.ChangeAt Go.RowKit
set_option linter.unusedVariables false
set_option maxRecDepth 100000

theorem mul_bd (a b A B : Int) (ha : 0 ≤ a) (hA : a ≤ A) (hb : 0 ≤ b) (hB : b ≤ B) : 0 ≤ a * b ∧ a * b ≤ A * B :=
  ⟨Int.mul_nonneg ha hb, Int.mul_le_mul hA hB hb (by omega)⟩
/-- the gross pay -/
def grossF (r t : Int) : Int := if t ≤ 40 then r * t else r * 40 + (3 * (r * (t - 40)) + 1) / 2
theorem grossF_bd {r t : Int} (hr : 1 ≤ r ∧ r ≤ 10000) (hh : 0 ≤ t ∧ t ≤ 120) : 0 ≤ grossF r t ∧ grossF r t ≤ 1600001 := by
  unfold grossF
  split
  · have := mul_bd r t 10000 40 (by omega) (by omega) (by omega) (by omega); omega
  · have := mul_bd r (t - 40) 10000 80 (by omega) (by omega) (by omega) (by omega); omega

theorem grossFor_any (r t : Int) (hr : 1 ≤ r ∧ r ≤ 10000) (hh : 0 ≤ t ∧ t ≤ 120) (w : World) :
    Calls Tryd.prog 45 #[.int .i64 r, .int .i64 t] w fun e w' => e = .returned (.int .i64 (grossF r t)) ∧ w = w' := by
  by_cases h40 : t < 40
  · have hb := mul_bd t r 40 10000 hh.1 (by omega) (by omega) hr.2
    have he : grossF r t = t * r := by unfold grossF; rw [if_pos (by omega), Int.mul_comm]
    rw [he]
    clear he
    go_enter Tryd.func45, Tryd.ntmps45
    go_wp2
    go_ret
    exact ⟨ret_int (by simp [wrap64]), rfl⟩
  · by_cases h41 : t = 40
    · subst h41
      have he : grossF r 40 = 40 * r := by unfold grossF; rw [if_pos (by omega), Int.mul_comm]
      rw [he]
      clear he h40
      go_enter Tryd.func45, Tryd.ntmps45
      go_wp2
      go_ret
      exact ⟨ret_int (by simp [wrap64]), rfl⟩
    · have hb := mul_bd (t - 40) r 80 10000 (by omega) (by omega) (by omega) hr.2
      have he : grossF r t = 40 * r + ((t - 40) * r * 3 + 1) / 2 := by unfold grossF; rw [if_neg (by omega), Int.mul_comm (t - 40) r, Int.mul_comm 40 r]; omega
      rw [he]
      have h42 : 40 < t := by omega
      clear he h40 h41
      go_enter Tryd.func45, Tryd.ntmps45
      go_wp2
      go_ret
      exact ⟨rfl, rfl⟩
theorem isRate_yes (r : Int) (w : World) (hr : 1 ≤ r ∧ r ≤ 10000) : Calls Tryd.prog 44 #[.int .i64 r] w fun e w' => e = .returned (.bool true) ∧ w = w' := by
  go_enter Tryd.func44, Tryd.ntmps44
  go_wp2_with (go_at_call 51; refine (inside_yes _ _ _ _ (by omega) (by omega)).mono ?_; rintro e w' ⟨rfl, rfl⟩)
  go_ret
  exact ⟨rfl, rfl⟩
theorem isRate_no (r : Int) (w : World) (hr : ¬ (1 ≤ r ∧ r ≤ 10000)) : Calls Tryd.prog 44 #[.int .i64 r] w fun e w' => e = .returned (.bool false) ∧ w = w' := by
  have hr' : r < 1 ∨ 10000 < r := by omega
  clear hr
  have H := Lib.hid hr'
  clear hr'
  go_enter Tryd.func44, Tryd.ntmps44
  go_wp2_with (go_at_call 51; refine (inside_no _ _ _ _ H.out).mono ?_; rintro e w' ⟨rfl, rfl⟩)
  go_ret
  exact ⟨rfl, rfl⟩
theorem areHours_yes (r : Int) (w : World) (hr : 0 ≤ r ∧ r ≤ 120) : Calls Tryd.prog 38 #[.int .i64 r] w fun e w' => e = .returned (.bool true) ∧ w = w' := by
  go_enter Tryd.func38, Tryd.ntmps38
  go_wp2_with (go_at_call 51; refine (inside_yes _ _ _ _ (by omega) (by omega)).mono ?_; rintro e w' ⟨rfl, rfl⟩)
  go_ret
  exact ⟨rfl, rfl⟩
theorem areHours_no (r : Int) (w : World) (hr : r < 0 ∨ 120 < r) : Calls Tryd.prog 38 #[.int .i64 r] w fun e w' => e = .returned (.bool false) ∧ w = w' := by
  have H := Lib.hid hr
  clear hr
  go_enter Tryd.func38, Tryd.ntmps38
  go_wp2_with (go_at_call 51; refine (inside_no _ _ _ _ H.out).mono ?_; rintro e w' ⟨rfl, rfl⟩)
  go_ret
  exact ⟨rfl, rfl⟩
theorem GrossFor_ok (r t : Int) (hr : 1 ≤ r ∧ r ≤ 10000) (hh : 0 ≤ t ∧ t ≤ 120) (w : World) :
    Calls Tryd.prog 15 #[.int .i64 r, .int .i64 t] w fun e w' => e = .returned (.tuple #[.int .i64 (grossF r t), .int .i64 0]) ∧ w = w' := by
  go_enter Tryd.func15, Tryd.ntmps15
  go_wp2_with (first
    | (go_at_call 44; refine (isRate_yes _ _ hr).mono ?_; rintro e w' ⟨rfl, rfl⟩)
    | (go_at_call 38; refine (areHours_yes _ _ hh).mono ?_; rintro e w' ⟨rfl, rfl⟩)
    | (go_at_call 45; refine (grossFor_any _ _ hr hh _).mono ?_; rintro e w' ⟨rfl, rfl⟩))
  go_ret2
  exact ⟨rfl, rfl⟩
theorem GrossFor_no (r t : Int) (h : ¬ (1 ≤ r ∧ r ≤ 10000) ∨ ¬ (0 ≤ t ∧ t ≤ 120)) (w : World) :
    Calls Tryd.prog 15 #[.int .i64 r, .int .i64 t] w fun e w' => e = .returned (.tuple #[.int .i64 0, .int .i64 2]) ∧ w = w' := by
  by_cases hr : 1 ≤ r ∧ r ≤ 10000
  · have hh : t < 0 ∨ 120 < t := by omega
    have H := Lib.hid hh
    clear hh h
    go_enter Tryd.func15, Tryd.ntmps15
    go_wp2_with (first
      | (go_at_call 44; refine (isRate_yes _ _ hr).mono ?_; rintro e w' ⟨rfl, rfl⟩)
      | (go_at_call 38; refine (areHours_no _ _ H.out).mono ?_; rintro e w' ⟨rfl, rfl⟩))
    go_ret2
    exact ⟨rfl, rfl⟩
  · have H := Lib.hid hr
    clear hr h
    go_enter Tryd.func15, Tryd.ntmps15
    go_wp2_with (first
      | (go_at_call 44; refine (isRate_no _ _ H.out).mono ?_; rintro e w' ⟨rfl, rfl⟩))
    go_ret2
    exact ⟨rfl, rfl⟩

theorem l23Hours_yes (t : Int) (w : World) (hr : 0 ≤ t ∧ t ≤ 120) : Calls Tryd.prog 40 #[.int .i64 t] w fun e w' => e = .returned (.bool true) ∧ w = w' := by
  go_enter Tryd.func40, Tryd.ntmps40
  go_wp2_with (go_at_call 46; refine (l00In_yes _ _ _ _ (by omega) (by omega)).mono ?_; rintro e w' ⟨rfl, rfl⟩)
  go_ret
  exact ⟨rfl, rfl⟩
theorem l23Hours_no (t : Int) (w : World) (hr : t < 0 ∨ 120 < t) : Calls Tryd.prog 40 #[.int .i64 t] w fun e w' => e = .returned (.bool false) ∧ w = w' := by
  have H := Lib.hid hr
  clear hr
  go_enter Tryd.func40, Tryd.ntmps40
  go_wp2_with (go_at_call 46; refine (l00In_no _ _ _ _ H.out).mono ?_; rintro e w' ⟨rfl, rfl⟩)
  go_ret
  exact ⟨rfl, rfl⟩
theorem l23Gross_any (r t : Int) (hr : 1 ≤ r ∧ r ≤ 10000) (hh : 0 ≤ t ∧ t ≤ 120) (w : World) :
    Calls Tryd.prog 47 #[.int .i64 r, .int .i64 t] w fun e w' => e = .returned (.int .i64 (grossF r t)) ∧ w = w' := by
  by_cases h40 : t ≤ 40
  · have hb := mul_bd r t 10000 40 (by omega) hr.2 hh.1 (by omega)
    have he : grossF r t = r * t := by unfold grossF; rw [if_pos h40]
    have hm : maxI 0 (t - 40) = 0 := by unfold maxI; split <;> omega
    rw [he]
    have Hm := Lib.hid hm
    clear he hm
    go_enter Tryd.func47, Tryd.ntmps47
    go_wp2_with (go_at_call 61; refine (l00Max_any _ _ _).mono ?_; rw [Hm.out]; rintro e w' ⟨rfl, rfl⟩)
    go_ret
    exact ⟨ret_int (by simp [wrap64]), rfl⟩
  · have hb := mul_bd r (t - 40) 10000 80 (by omega) hr.2 (by omega) (by omega)
    have hb1 : 0 ≤ 3 * r * (t - 40) ∧ 3 * r * (t - 40) ≤ 2400000 := by rw [Int.mul_assoc]; omega
    have hb2 : 0 ≤ r * (t - (t - 40)) ∧ r * (t - (t - 40)) ≤ 400000 := by rw [show t - (t - 40) = 40 by omega]; omega
    have he : grossF r t = r * 40 + (3 * (r * (t - 40)) + 1) / 2 := by unfold grossF; rw [if_neg h40]
    have hm : maxI 0 (t - 40) = t - 40 := by unfold maxI; split <;> omega
    rw [he]
    have Hm := Lib.hid hm
    clear he hm
    go_enter Tryd.func47, Tryd.ntmps47
    go_wp2_with (go_at_call 61; refine (l00Max_any _ _ _).mono ?_; rw [Hm.out]; rintro e w' ⟨rfl, rfl⟩)
    go_ret
    refine ⟨ret_int ?_, rfl⟩
    rw [show t - (t - 40) = 40 by omega, Int.mul_assoc 3 r (t - 40)]
theorem sGrossFor_ok (r t : Int) (hr : 1 ≤ r ∧ r ≤ 10000) (hh : 0 ≤ t ∧ t ≤ 120) (w : World) :
    Calls Tryd.prog 16 #[.int .i64 r, .int .i64 t] w fun e w' => e = .returned (.tuple #[.int .i64 (grossF r t), .int .i64 0]) ∧ w = w' := by
  go_enter Tryd.func16, Tryd.ntmps16
  go_wp2_with (first
    | (go_at_call 46; refine (l00In_yes _ _ _ _ (by omega) (by omega)).mono ?_; rintro e w' ⟨rfl, rfl⟩)
    | (go_at_call 40; refine (l23Hours_yes _ _ hh).mono ?_; rintro e w' ⟨rfl, rfl⟩)
    | (go_at_call 47; refine (l23Gross_any _ _ hr hh _).mono ?_; rintro e w' ⟨rfl, rfl⟩))
  go_ret2
  exact ⟨rfl, rfl⟩
theorem sGrossFor_no (r t : Int) (h : ¬ (1 ≤ r ∧ r ≤ 10000) ∨ ¬ (0 ≤ t ∧ t ≤ 120)) (w : World) :
    Calls Tryd.prog 16 #[.int .i64 r, .int .i64 t] w fun e w' => e = .returned (.tuple #[.int .i64 0, .int .i64 2]) ∧ w = w' := by
  by_cases hr : 1 ≤ r ∧ r ≤ 10000
  · have hh : t < 0 ∨ 120 < t := by omega
    have H := Lib.hid hh
    clear hh h
    go_enter Tryd.func16, Tryd.ntmps16
    go_wp2_with (first
      | (go_at_call 46; refine (l00In_yes _ _ _ _ (by omega) (by omega)).mono ?_; rintro e w' ⟨rfl, rfl⟩)
      | (go_at_call 40; refine (l23Hours_no _ _ H.out).mono ?_; rintro e w' ⟨rfl, rfl⟩))
    go_ret2
    exact ⟨rfl, rfl⟩
  · have hr' : r < 1 ∨ 10000 < r := by omega
    have H := Lib.hid hr'
    clear hr h hr'
    go_enter Tryd.func16, Tryd.ntmps16
    go_wp2_with (first
      | (go_at_call 46; refine (l00In_no _ _ _ _ H.out).mono ?_; rintro e w' ⟨rfl, rfl⟩))
    go_ret2
    exact ⟨rfl, rfl⟩
end Go.Proofs.YtfhlmkeklmaedaaDoor
