/- Names: IsName of the program and of the reference, each by its contract. No condition. -/
import Derived.Test.YtfieilbcdhbigaaGreatDoorStr
import Derived.Test.YtfieilbcdhbigaaGreatDoorSmall
namespace Go.Proofs.YtfieilbcdhbigaaGreatDoor
open Go.ChangeShapes Go.WideShapes Go.ChangeAt Go.RowKit
set_option linter.unusedVariables false
set_option maxRecDepth 100000
def smallB (c : Int) : Bool := decide (97 ≤ c ∧ c ≤ 122)
def digitB (c : Int) : Bool := decide (48 ≤ c ∧ c ≤ 57)
def charB (c : Int) : Bool := smallB c || (digitB c || c == 45)
/-- the bytes of a text, as numbers -/
def bytesI (s : ByteArray) : List Int := s.data.toList.map (fun c => (c.toNat : Int))
theorem bytesI_length (s : ByteArray) : (bytesI s).length = s.size := by simp [bytesI]
theorem bytesI_at (s : ByteArray) (k : Nat) (h : k < s.size) : (bytesI s)[k]? = some (s[k].toNat : Int) := by
  unfold bytesI
  rw [List.getElem?_map]
  have h1 : s.data.toList[k]? = some s[k] := by
    rw [List.getElem?_eq_getElem (by simpa using h)]; rfl
  rw [h1]; rfl
def nameB (s : ByteArray) : Bool := decide (1 ≤ s.size) && (decide (s.size ≤ 12) && (((bytesI s).take 1).all smallB && (bytesI s).all charB))
theorem nameB_len {s : ByteArray} (h : ¬ (1 ≤ s.size ∧ s.size ≤ 12)) : nameB s = false := by
  unfold nameB
  by_cases h1 : 1 ≤ s.size
  · have h2 : ¬ s.size ≤ 12 := fun h3 => h ⟨h1, h3⟩
    simp [h2]
  · simp [h1]
theorem take_one {xs : List Int} {x : Int} (h : xs[0]? = some x) : xs.take 1 = [x] := by
  have := take_snoc h
  simpa using this
theorem nameB_first {s : ByteArray} (h0 : 0 < s.size) (h : ¬ (97 ≤ (s[0].toNat : Int) ∧ (s[0].toNat : Int) ≤ 122)) : nameB s = false := by
  unfold nameB
  rw [take_one (bytesI_at s 0 h0)]
  have : smallB (s[0].toNat : Int) = false := decide_eq_false h
  simp [this]
theorem nameB_char {s : ByteArray} {k : Nat} (hk : k < s.size) (h : charB (s[k].toNat : Int) = false) : nameB s = false := by
  unfold nameB
  have : (bytesI s).all charB = false := by
    rw [List.all_eq_false]
    exact ⟨_, List.mem_of_getElem? (bytesI_at s k hk), by rw [h]; decide⟩
  simp [this]
theorem nameB_all {s : ByteArray} (h1 : 1 ≤ s.size) (h2 : s.size ≤ 12) (h3 : 97 ≤ (s[0].toNat : Int) ∧ (s[0].toNat : Int) ≤ 122) (h : (bytesI s).all charB = true) : nameB s = true := by
  unfold nameB
  rw [take_one (bytesI_at s 0 h1)]
  have : smallB (s[0].toNat : Int) = true := decide_eq_true h3
  simp [this, h, h1, h2]
theorem nameB_size {s : ByteArray} (h : nameB s = true) : 1 ≤ s.size ∧ s.size ≤ 12 := by
  by_cases hh : 1 ≤ s.size ∧ s.size ≤ 12
  · exact hh
  · rw [nameB_len hh] at h; cases h
theorem charB_of {c : Int} (h : 97 ≤ c ∧ c ≤ 122 ∨ 48 ≤ c ∧ c ≤ 57 ∨ c = 45) : charB c = true := by
  unfold charB smallB digitB
  rcases h with h | h | h
  · simp [h]
  · simp [h]
  · subst h; decide
theorem charB_no {c : Int} (h1 : ¬ (97 ≤ c ∧ c ≤ 122)) (h2 : ¬ (48 ≤ c ∧ c ≤ 57)) (h3 : ¬ c = 45) : charB c = false := by
  unfold charB smallB digitB
  rw [decide_eq_false h1, decide_eq_false h2]
  simpa using h3
theorem isSmall_yes (c : Int) (w : World) (h : 97 ≤ c ∧ c ≤ 122) : Calls Tryz.prog 85 #[.int .u8 c] w fun e w' => e = .returned (.bool true) ∧ w = w' := by
  obtain ⟨h1, h2⟩ := h
  go_enter Tryz.func85, Tryz.ntmps85
  go_wp2
  go_ret
  exact ⟨rfl, rfl⟩
theorem isSmall_no (c : Int) (w : World) (h : ¬ (97 ≤ c ∧ c ≤ 122)) : Calls Tryz.prog 85 #[.int .u8 c] w fun e w' => e = .returned (.bool false) ∧ w = w' := by
  by_cases h1 : 97 ≤ c
  · have h2 : 122 < c := by omega
    clear h
    go_enter Tryz.func85, Tryz.ntmps85
    go_wp2
    go_ret
    exact ⟨ret_bool (by simp; omega), rfl⟩
  · clear h
    go_enter Tryz.func85, Tryz.ntmps85
    go_wp2
    go_ret
    exact ⟨rfl, rfl⟩
theorem isDigit_yes (c : Int) (w : World) (h : 48 ≤ c ∧ c ≤ 57) : Calls Tryz.prog 132 #[.int .u8 c] w fun e w' => e = .returned (.bool true) ∧ w = w' := by
  obtain ⟨h1, h2⟩ := h
  go_enter Tryz.func132, Tryz.ntmps132
  go_wp2
  go_ret
  exact ⟨rfl, rfl⟩
theorem isDigit_no (c : Int) (w : World) (h : ¬ (48 ≤ c ∧ c ≤ 57)) : Calls Tryz.prog 132 #[.int .u8 c] w fun e w' => e = .returned (.bool false) ∧ w = w' := by
  by_cases h1 : 48 ≤ c
  · have h2 : 57 < c := by omega
    clear h
    go_enter Tryz.func132, Tryz.ntmps132
    go_wp2
    go_ret
    exact ⟨ret_bool (by simp; omega), rfl⟩
  · clear h
    go_enter Tryz.func132, Tryz.ntmps132
    go_wp2
    go_ret
    exact ⟨rfl, rfl⟩
theorem l01Small_yes (c : Int) (w : World) (h : 97 ≤ c ∧ c ≤ 122) : Calls Tryz.prog 77 #[.int .u8 c] w fun e w' => e = .returned (.bool true) ∧ w = w' := by
  obtain ⟨h1, h2⟩ := h
  go_enter Tryz.func77, Tryz.ntmps77
  go_wp2
  go_ret
  exact ⟨rfl, rfl⟩
theorem l01Small_no (c : Int) (w : World) (h : ¬ (97 ≤ c ∧ c ≤ 122)) : Calls Tryz.prog 77 #[.int .u8 c] w fun e w' => e = .returned (.bool false) ∧ w = w' := by
  by_cases h1 : 97 ≤ c
  · have h2 : 122 < c := by omega
    clear h
    go_enter Tryz.func77, Tryz.ntmps77
    go_wp2
    go_ret
    exact ⟨ret_bool (by simp; omega), rfl⟩
  · clear h
    go_enter Tryz.func77, Tryz.ntmps77
    go_wp2
    go_ret
    exact ⟨rfl, rfl⟩
theorem l01Digit_yes (c : Int) (w : World) (h : 48 ≤ c ∧ c ≤ 57) : Calls Tryz.prog 129 #[.int .u8 c] w fun e w' => e = .returned (.bool true) ∧ w = w' := by
  obtain ⟨h1, h2⟩ := h
  go_enter Tryz.func129, Tryz.ntmps129
  go_wp2
  go_ret
  exact ⟨rfl, rfl⟩
theorem l01Digit_no (c : Int) (w : World) (h : ¬ (48 ≤ c ∧ c ≤ 57)) : Calls Tryz.prog 129 #[.int .u8 c] w fun e w' => e = .returned (.bool false) ∧ w = w' := by
  by_cases h1 : 48 ≤ c
  · have h2 : 57 < c := by omega
    clear h
    go_enter Tryz.func129, Tryz.ntmps129
    go_wp2
    go_ret
    exact ⟨ret_bool (by simp; omega), rfl⟩
  · clear h
    go_enter Tryz.func129, Tryz.ntmps129
    go_wp2
    go_ret
    exact ⟨rfl, rfl⟩
theorem IsName_c (s : ByteArray) (w : World) (hs : s.size ≤ 9223372036854775807) : Calls Tryz.prog 106 #[.string s] w fun e w' => e = .returned (.bool (nameB s)) ∧ w = w' := by
  by_cases h1 : 1 ≤ s.size
  · have hl : (s.toList == []) = false := by rw [ByteArray.toList_eq]; cases hd : s.data.toList with | nil => (have h9 : s.data.toList.length = 0 := by rw [hd]; rfl); rw [Array.length_toList] at h9; exact absurd h9 (by show ¬ s.size = 0; omega) | cons a b => rfl
    have hl2 : ¬ s.toList = [] := by simpa using hl
    have hl3 : s.toList.isEmpty = false := by cases hd : s.toList with | nil => exact absurd hd hl2 | cons a b => rfl
    by_cases h2 : s.size ≤ 12
    · by_cases h3 : 97 ≤ (s[0].toNat : Int) ∧ (s[0].toNat : Int) ≤ 122
      · have H3 := Lib.hid h3
        clear h3
        go_enter Tryz.func106, Tryz.ntmps106
        go_wp2_with fail
        with_reducible refine (isSmall_yes _ _ H3.out).mono ?_
        rintro e w' ⟨rfl, rfl⟩
        go_wp2_with fail
        go_loop [3] (fun i => ∃ k : Nat, k ≤ s.size ∧ i = .int .i64 k ∧ Hid (((bytesI s).take k).all charB = true)) (fun i => s.size - (intOf i).toNat)
        case atStart => exact ⟨0, Nat.zero_le _, rfl, rfl⟩
        case round =>
          obtain ⟨k, hk, rfl, hp⟩ := hrel
          by_cases hkn : k < s.size
          · have Hc := Lib.hid (bytesI_at s k hkn)
            by_cases c1 : 97 ≤ (s[k].toNat : Int) ∧ (s[k].toNat : Int) ≤ 122
            · have C1 := Lib.hid c1
              clear c1
              go_wp2_with (go_at_call 85; refine (isSmall_yes _ _ C1.out).mono ?_; rintro e w' ⟨rfl, rfl⟩)
              go_round
              case rel => exact ⟨k + 1, by omega, by go_num, by show _ = true; rw [take_snoc Hc.out, List.all_append, hp.out]; simp [charB_of (.inl C1.out)]⟩
              case measure => simp [intOf]; omega
            · have C1 := Lib.hid c1
              clear c1
              by_cases c2 : 48 ≤ (s[k].toNat : Int) ∧ (s[k].toNat : Int) ≤ 57
              · have C2 := Lib.hid c2
                clear c2
                go_wp2_with (first | (go_at_call 85; refine (isSmall_no _ _ C1.out).mono ?_; rintro e w' ⟨rfl, rfl⟩) | (go_at_call 132; refine (isDigit_yes _ _ C2.out).mono ?_; rintro e w' ⟨rfl, rfl⟩))
                go_round
                case rel => exact ⟨k + 1, by omega, by go_num, by show _ = true; rw [take_snoc Hc.out, List.all_append, hp.out]; simp [charB_of (.inr (.inl C2.out))]⟩
                case measure => simp [intOf]; omega
              · have C2 := Lib.hid c2
                clear c2
                by_cases c3 : (s[k].toNat : Int) = 45
                · have C3 := Lib.hid c3
                  have hq : ((s[k].toNat : Int) != 45) = false := by simpa using c3
                  clear c3
                  go_wp2_with (first | (go_at_call 85; refine (isSmall_no _ _ C1.out).mono ?_; rintro e w' ⟨rfl, rfl⟩) | (go_at_call 132; refine (isDigit_no _ _ C2.out).mono ?_; rintro e w' ⟨rfl, rfl⟩))
                  go_round
                  case rel => exact ⟨k + 1, by omega, by go_num, by show _ = true; rw [take_snoc Hc.out, List.all_append, hp.out]; simp [charB_of (.inr (.inr C3.out))]⟩
                  case measure => simp [intOf]; omega
                · have C3 := Lib.hid c3
                  have hq : ((s[k].toNat : Int) != 45) = true := by simpa using c3
                  clear c3
                  go_wp2_with (first | (go_at_call 85; refine (isSmall_no _ _ C1.out).mono ?_; rintro e w' ⟨rfl, rfl⟩) | (go_at_call 132; refine (isDigit_no _ _ C2.out).mono ?_; rintro e w' ⟨rfl, rfl⟩))
                  go_ret
                  exact ⟨ret_bool (nameB_char hkn (charB_no C1.out C2.out C3.out)).symm, rfl⟩
          · go_wp2
            go_ret
            refine ⟨ret_bool (Eq.symm (nameB_all (by omega) (by omega) H3.out ?_)), rfl⟩
            have := hp.out
            rw [List.take_of_length_le (by rw [bytesI_length]; omega)] at this
            exact this
      · have H3 := Lib.hid h3
        clear h3
        go_enter Tryz.func106, Tryz.ntmps106
        go_wp2_with fail
        with_reducible refine (isSmall_no _ _ H3.out).mono ?_
        rintro e w' ⟨rfl, rfl⟩
        go_wp2_with fail
        go_ret
        exact ⟨ret_bool (nameB_first (by omega) H3.out).symm, rfl⟩
    · have H := Lib.hid (nameB_len (s := s) (fun h => h2 h.2))
      go_enter Tryz.func106, Tryz.ntmps106
      go_wp2_with fail
      go_ret
      exact ⟨ret_bool H.out.symm, rfl⟩
  · have H := Lib.hid (nameB_len (s := s) (fun h => h1 h.1))
    have hl : (s.toList == []) = true := by rw [ByteArray.toList_eq]; cases hd : s.data.toList with | nil => rfl | cons a b => (have := congrArg List.length hd; simp at this; omega)
    have hl2 : s.toList = [] := by simpa using hl
    go_enter Tryz.func106, Tryz.ntmps106
    go_wp2_with fail
    go_ret
    exact ⟨ret_bool H.out.symm, rfl⟩
theorem sIsName_c (s : ByteArray) (w : World) (hs : s.size ≤ 9223372036854775807) : Calls Tryz.prog 104 #[.string s] w fun e w' => e = .returned (.bool (nameB s)) ∧ w = w' := by
  by_cases h1 : 1 ≤ s.size
  · have hl : (s.toList == []) = false := by rw [ByteArray.toList_eq]; cases hd : s.data.toList with | nil => (have h9 : s.data.toList.length = 0 := by rw [hd]; rfl); rw [Array.length_toList] at h9; exact absurd h9 (by show ¬ s.size = 0; omega) | cons a b => rfl
    have hl2 : ¬ s.toList = [] := by simpa using hl
    have hl3 : s.toList.isEmpty = false := by cases hd : s.toList with | nil => exact absurd hd hl2 | cons a b => rfl
    by_cases h2 : s.size ≤ 12
    · by_cases h3 : 97 ≤ (s[0].toNat : Int) ∧ (s[0].toNat : Int) ≤ 122
      · have H3 := Lib.hid h3
        clear h3
        go_enter Tryz.func104, Tryz.ntmps104
        go_wp2_with fail
        with_reducible refine (l01Small_yes _ _ H3.out).mono ?_
        rintro e w' ⟨rfl, rfl⟩
        go_wp2_with fail
        go_loop [3] (fun i => ∃ k : Nat, k ≤ s.size ∧ i = .int .i64 k ∧ Hid (((bytesI s).take k).all charB = true)) (fun i => s.size - (intOf i).toNat)
        case atStart => exact ⟨0, Nat.zero_le _, rfl, rfl⟩
        case round =>
          obtain ⟨k, hk, rfl, hp⟩ := hrel
          by_cases hkn : k < s.size
          · have Hc := Lib.hid (bytesI_at s k hkn)
            by_cases c1 : 97 ≤ (s[k].toNat : Int) ∧ (s[k].toNat : Int) ≤ 122
            · have C1 := Lib.hid c1
              clear c1
              go_wp2_with (go_at_call 77; refine (l01Small_yes _ _ C1.out).mono ?_; rintro e w' ⟨rfl, rfl⟩)
              go_round
              case rel => exact ⟨k + 1, by omega, by go_num, by show _ = true; rw [take_snoc Hc.out, List.all_append, hp.out]; simp [charB_of (.inl C1.out)]⟩
              case measure => simp [intOf]; omega
            · have C1 := Lib.hid c1
              clear c1
              by_cases c2 : 48 ≤ (s[k].toNat : Int) ∧ (s[k].toNat : Int) ≤ 57
              · have C2 := Lib.hid c2
                clear c2
                go_wp2_with (first | (go_at_call 77; refine (l01Small_no _ _ C1.out).mono ?_; rintro e w' ⟨rfl, rfl⟩) | (go_at_call 129; refine (l01Digit_yes _ _ C2.out).mono ?_; rintro e w' ⟨rfl, rfl⟩))
                go_round
                case rel => exact ⟨k + 1, by omega, by go_num, by show _ = true; rw [take_snoc Hc.out, List.all_append, hp.out]; simp [charB_of (.inr (.inl C2.out))]⟩
                case measure => simp [intOf]; omega
              · have C2 := Lib.hid c2
                clear c2
                by_cases c3 : (s[k].toNat : Int) = 45
                · have C3 := Lib.hid c3
                  have hq : ((s[k].toNat : Int) != 45) = false := by simpa using c3
                  clear c3
                  go_wp2_with (first | (go_at_call 77; refine (l01Small_no _ _ C1.out).mono ?_; rintro e w' ⟨rfl, rfl⟩) | (go_at_call 129; refine (l01Digit_no _ _ C2.out).mono ?_; rintro e w' ⟨rfl, rfl⟩))
                  go_round
                  case rel => exact ⟨k + 1, by omega, by go_num, by show _ = true; rw [take_snoc Hc.out, List.all_append, hp.out]; simp [charB_of (.inr (.inr C3.out))]⟩
                  case measure => simp [intOf]; omega
                · have C3 := Lib.hid c3
                  have hq : ((s[k].toNat : Int) != 45) = true := by simpa using c3
                  clear c3
                  go_wp2_with (first | (go_at_call 77; refine (l01Small_no _ _ C1.out).mono ?_; rintro e w' ⟨rfl, rfl⟩) | (go_at_call 129; refine (l01Digit_no _ _ C2.out).mono ?_; rintro e w' ⟨rfl, rfl⟩))
                  go_ret
                  exact ⟨ret_bool (nameB_char hkn (charB_no C1.out C2.out C3.out)).symm, rfl⟩
          · go_wp2
            go_ret
            refine ⟨ret_bool (Eq.symm (nameB_all (by omega) (by omega) H3.out ?_)), rfl⟩
            have := hp.out
            rw [List.take_of_length_le (by rw [bytesI_length]; omega)] at this
            exact this
      · have H3 := Lib.hid h3
        clear h3
        go_enter Tryz.func104, Tryz.ntmps104
        go_wp2_with fail
        with_reducible refine (l01Small_no _ _ H3.out).mono ?_
        rintro e w' ⟨rfl, rfl⟩
        go_wp2_with fail
        go_ret
        exact ⟨ret_bool (nameB_first (by omega) H3.out).symm, rfl⟩
    · have H := Lib.hid (nameB_len (s := s) (fun h => h2 h.2))
      go_enter Tryz.func104, Tryz.ntmps104
      go_wp2_with fail
      go_ret
      exact ⟨ret_bool H.out.symm, rfl⟩
  · have H := Lib.hid (nameB_len (s := s) (fun h => h1 h.1))
    have hl : (s.toList == []) = true := by rw [ByteArray.toList_eq]; cases hd : s.data.toList with | nil => rfl | cons a b => (have := congrArg List.length hd; simp at this; omega)
    have hl2 : s.toList = [] := by simpa using hl
    go_enter Tryz.func104, Tryz.ntmps104
    go_wp2_with fail
    go_ret
    exact ⟨ret_bool H.out.symm, rfl⟩
end Go.Proofs.YtfieilbcdhbigaaGreatDoor
