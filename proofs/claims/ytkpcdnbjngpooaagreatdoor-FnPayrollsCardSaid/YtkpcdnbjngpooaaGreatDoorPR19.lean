/- Characters and the numbers of their holes: the program's and the reference's, each by its contract. No condition. -/
import Derived.Test.YtkpcdnbjngpooaaGreatDoorPR12
import Derived.Test.YtkpcdnbjngpooaaGreatDoorPR10
namespace Go.Proofs.YtkpcdnbjngpooaaGreatDoor
open Go.ChangeShapes Go.WideShapes Go.ChangeAt Go.RowKit
set_option linter.unusedVariables false
set_option maxRecDepth 100000
abbrev charsB : ByteArray := ⟨#[32, 38, 65, 66, 67, 68, 69, 70, 71, 72, 73, 45, 74, 75, 76, 77, 78, 79, 80, 81, 82, 47, 83, 84, 85, 86, 87, 88, 89, 90, 48, 49, 50, 51, 52, 53, 54, 55, 56, 57]⟩
/-- the number of the holes of a character; -1 if there is none -/
def codeI (c : Int) : Int :=
  if c = 32 then 0 else if c = 38 then 1 else if c = 45 then 2 else if c = 47 then 12 else if 48 ≤ c ∧ c ≤ 57 then 4 * 2 ^ (c - 48).toNat
  else if 65 ≤ c ∧ c ≤ 73 then 1 + 4 * 2 ^ (c - 64).toNat else if 74 ≤ c ∧ c ≤ 82 then 2 + 4 * 2 ^ (c - 73).toNat else if 83 ≤ c ∧ c ≤ 90 then 4 + 4 * 2 ^ (c - 81).toNat else -1
def chI (c : Int) : Bool := decide (0 ≤ codeI c)
def chS (s : ByteArray) : Bool := (bytesI s).all chI
theorem chS_no {s : ByteArray} {k : Nat} (hk : k < s.size) (h : chI (s[k].toNat : Int) = false) : chS s = false := by
  unfold chS
  rw [List.all_eq_false]
  exact ⟨_, List.mem_of_getElem? (bytesI_at s k hk), by rw [h]; decide⟩
theorem codeI_no {c : Int} (h1 : ¬ c = 32) (h2 : ¬ c = 38) (h3 : ¬ c = 45) (h4 : ¬ c = 47) (h5 : ¬ (48 ≤ c ∧ c ≤ 57)) (h6 : ¬ (65 ≤ c ∧ c ≤ 73)) (h7 : ¬ (74 ≤ c ∧ c ≤ 82)) (h8 : ¬ (83 ≤ c ∧ c ≤ 90)) : codeI c = -1 := by
  unfold codeI
  rw [if_neg h1, if_neg h2, if_neg h3, if_neg h4, if_neg h5, if_neg h6, if_neg h7, if_neg h8]
theorem l02Bit_c (n : Int) (w : World) (h : 0 ≤ n ∧ n ≤ 9) : Calls Tryz.prog 75 #[.int .i64 n] w fun e w' => e = .returned (.int .i64 (4 * 2 ^ n.toNat)) ∧ w = w' := by
  have hh : n = 0 ∨ n = 1 ∨ n = 2 ∨ n = 3 ∨ n = 4 ∨ n = 5 ∨ n = 6 ∨ n = 7 ∨ n = 8 ∨ n = 9 := by omega
  clear h
  rcases hh with rfl | rfl | rfl | rfl | rfl | rfl | rfl | rfl | rfl | rfl
  all_goals
    go_enter Tryz.func75, Tryz.ntmps75
    go_wp2_with (go_at_call 61; refine (l00In_yes _ _ _ _ (by omega) (by omega)).mono ?_; rintro e w' ⟨rfl, rfl⟩)
    go_ret
    exact ⟨ret_int (by decide), rfl⟩
set_option maxHeartbeats 4000000 in
theorem l03Code_c (c : Int) (w : World) (h : 0 ≤ c ∧ c ≤ 255) : Calls Tryz.prog 103 #[.int .u8 c] w fun e w' => e = .returned (.int .i64 (codeI c)) ∧ w = w' := by
  by_cases h0 : c = 32 ∨ c = 38 ∨ c = 45 ∨ c = 47
  · clear h
    rcases h0 with rfl | rfl | rfl | rfl
    all_goals
      go_enter Tryz.func103, Tryz.ntmps103
      go_wp2_with (go_at_call 75; refine (l02Bit_c _ _ (by omega)).mono ?_; rintro e w' ⟨rfl, rfl⟩)
      go_ret
      exact ⟨ret_int (by decide), rfl⟩
  by_cases h5 : 48 ≤ c ∧ c ≤ 57
  · have hh : c = 48 ∨ c = 49 ∨ c = 50 ∨ c = 51 ∨ c = 52 ∨ c = 53 ∨ c = 54 ∨ c = 55 ∨ c = 56 ∨ c = 57 := by omega
    clear h h0 h5
    rcases hh with rfl | rfl | rfl | rfl | rfl | rfl | rfl | rfl | rfl | rfl
    all_goals
      go_enter Tryz.func103, Tryz.ntmps103
      go_wp2_with (first | (go_at_call 117; refine (l01Digit_yes _ _ (by omega)).mono ?_; rintro e w' ⟨rfl, rfl⟩) | (go_at_call 75; refine (l02Bit_c _ _ (by omega)).mono ?_; rintro e w' ⟨rfl, rfl⟩))
      go_ret
      exact ⟨ret_int (by decide), rfl⟩
  by_cases h65 : 65 ≤ c ∧ c ≤ 73
  · have hh : c = 65 ∨ c = 66 ∨ c = 67 ∨ c = 68 ∨ c = 69 ∨ c = 70 ∨ c = 71 ∨ c = 72 ∨ c = 73 := by omega
    clear h h0 h5 h65
    rcases hh with rfl | rfl | rfl | rfl | rfl | rfl | rfl | rfl | rfl
    all_goals
      go_enter Tryz.func103, Tryz.ntmps103
      go_wp2_with (first | (go_at_call 117; refine (l01Digit_no _ _ (by omega)).mono ?_; rintro e w' ⟨rfl, rfl⟩) | (go_at_call 75; refine (l02Bit_c _ _ (by omega)).mono ?_; rintro e w' ⟨rfl, rfl⟩))
      go_ret
      exact ⟨ret_int (by decide), rfl⟩
  by_cases h74 : 74 ≤ c ∧ c ≤ 82
  · have hh : c = 74 ∨ c = 75 ∨ c = 76 ∨ c = 77 ∨ c = 78 ∨ c = 79 ∨ c = 80 ∨ c = 81 ∨ c = 82 := by omega
    clear h h0 h5 h74
    rcases hh with rfl | rfl | rfl | rfl | rfl | rfl | rfl | rfl | rfl
    all_goals
      go_enter Tryz.func103, Tryz.ntmps103
      go_wp2_with (first | (go_at_call 117; refine (l01Digit_no _ _ (by omega)).mono ?_; rintro e w' ⟨rfl, rfl⟩) | (go_at_call 75; refine (l02Bit_c _ _ (by omega)).mono ?_; rintro e w' ⟨rfl, rfl⟩))
      go_ret
      exact ⟨ret_int (by decide), rfl⟩
  by_cases h83 : 83 ≤ c ∧ c ≤ 90
  · have hh : c = 83 ∨ c = 84 ∨ c = 85 ∨ c = 86 ∨ c = 87 ∨ c = 88 ∨ c = 89 ∨ c = 90 := by omega
    clear h h0 h5 h83
    rcases hh with rfl | rfl | rfl | rfl | rfl | rfl | rfl | rfl
    all_goals
      go_enter Tryz.func103, Tryz.ntmps103
      go_wp2_with (first | (go_at_call 117; refine (l01Digit_no _ _ (by omega)).mono ?_; rintro e w' ⟨rfl, rfl⟩) | (go_at_call 75; refine (l02Bit_c _ _ (by omega)).mono ?_; rintro e w' ⟨rfl, rfl⟩))
      go_ret
      exact ⟨ret_int (by decide), rfl⟩
  have H5 := Lib.hid h5
  rw [codeI_no (fun e => h0 (.inl e)) (fun e => h0 (.inr (.inl e))) (fun e => h0 (.inr (.inr (.inl e)))) (fun e => h0 (.inr (.inr (.inr e)))) h5 h65 h74 h83]
  have e1 : (c == 32) = false := by simpa using fun e => h0 (.inl e)
  have e2 : (c == 38) = false := by simpa using fun e => h0 (.inr (.inl e))
  have e3 : (c == 45) = false := by simpa using fun e => h0 (.inr (.inr (.inl e)))
  have e4 : (c == 47) = false := by simpa using fun e => h0 (.inr (.inr (.inr e)))
  clear h0 h5
  by_cases g1 : c < 65
  · clear h65 h74 h83
    have g2 : c < 74 := by omega
    have g3 : c < 83 := by omega
    go_enter Tryz.func103, Tryz.ntmps103
    go_wp2_with (first | (go_at_call 117; refine (l01Digit_no _ _ H5.out).mono ?_; rintro e w' ⟨rfl, rfl⟩))
    go_ret
    exact ⟨rfl, rfl⟩
  · have g2 : 91 ≤ c := by omega
    clear h65 h74 h83
    go_enter Tryz.func103, Tryz.ntmps103
    go_wp2_with (first | (go_at_call 117; refine (l01Digit_no _ _ H5.out).mono ?_; rintro e w' ⟨rfl, rfl⟩))
    go_ret
    exact ⟨rfl, rfl⟩
end Go.Proofs.YtkpcdnbjngpooaaGreatDoor
