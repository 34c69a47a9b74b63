/- Names: IsName of the program and of the reference, each by its contract. No condition. -/
import Derived.Test.YtipldgbfenhknaaStr
import Derived.Test.YtipldgbfenhknaaSmall
namespace Go.Proofs.Ytipldgbfenhknaa
open Go.ChangeShapes Go.WideShapes Go.ChangeAt Go.RowKit
set_option linter.unusedVariables false
set_option maxRecDepth 100000
def smallB (c : Int) : Bool := decide (97 ≤ c ∧ c ≤ 122)
def digitB (c : Int) : Bool := decide (48 ≤ c ∧ c ≤ 57)
def charB (c : Int) : Bool := smallB c || (digitB c || c == 45)
/-- the bytes of a text, as numbers -/
def bytesI (s : ByteArray) : List Int := s.data.toList.map (fun c => (c.toNat : Int))
theorem bytesI_length (s : ByteArray) : (bytesI s).length = s.size := by simp [bytesI]
theorem bytesI_at (s : ByteArray) (k : Nat) (h : k < s.size) : (bytesI s)[k]? = some (s[k].toNat : Int) := by
  unfold bytesI
  rw [List.getElem?_map]
  have h1 : s.data.toList[k]? = some s[k] := by
    rw [List.getElem?_eq_getElem (by simpa using h)]; rfl
  rw [h1]; rfl
def nameB (s : ByteArray) : Bool := decide (1 ≤ s.size) && (decide (s.size ≤ 12) && (((bytesI s).take 1).all smallB && (bytesI s).all charB))
theorem nameB_len {s : ByteArray} (h : ¬ (1 ≤ s.size ∧ s.size ≤ 12)) : nameB s = false := by
  unfold nameB
  by_cases h1 : 1 ≤ s.size
  · have h2 : ¬ s.size ≤ 12 := fun h3 => h ⟨h1, h3⟩
    simp [h2]
  · simp [h1]
theorem take_one {xs : List Int} {x : Int} (h : xs[0]? = some x) : xs.take 1 = [x] := by
  have := take_snoc h
  simpa using this
theorem nameB_first {s : ByteArray} (h0 : 0 < s.size) (h : ¬ (97 ≤ (s[0].toNat : Int) ∧ (s[0].toNat : Int) ≤ 122)) : nameB s = false := by
  unfold nameB
  rw [take_one (bytesI_at s 0 h0)]
  have : smallB (s[0].toNat : Int) = false := decide_eq_false h
  simp [this]
theorem nameB_char {s : ByteArray} {k : Nat} (hk : k < s.size) (h : charB (s[k].toNat : Int) = false) : nameB s = false := by
  unfold nameB
  have : (bytesI s).all charB = false := by
    rw [List.all_eq_false]
    exact ⟨_, List.mem_of_getElem? (bytesI_at s k hk), by rw [h]; decide⟩
  simp [this]
theorem nameB_all {s : ByteArray} (h1 : 1 ≤ s.size) (h2 : s.size ≤ 12) (h3 : 97 ≤ (s[0].toNat : Int) ∧ (s[0].toNat : Int) ≤ 122) (h : (bytesI s).all charB = true) : nameB s = true := by
  unfold nameB
  rw [take_one (bytesI_at s 0 h1)]
  have : smallB (s[0].toNat : Int) = true := decide_eq_true h3
  simp [this, h, h1, h2]
theorem nameB_size {s : ByteArray} (h : nameB s = true) : 1 ≤ s.size ∧ s.size ≤ 12 := by
  by_cases hh : 1 ≤ s.size ∧ s.size ≤ 12
  · exact hh
  · rw [nameB_len hh] at h; cases h
theorem charB_of {c : Int} (h : 97 ≤ c ∧ c ≤ 122 ∨ 48 ≤ c ∧ c ≤ 57 ∨ c = 45) : charB c = true := by
  unfold charB smallB digitB
  rcases h with h | h | h
  · simp [h]
  · simp [h]
  · subst h; decide
theorem charB_no {c : Int} (h1 : ¬ (97 ≤ c ∧ c ≤ 122)) (h2 : ¬ (48 ≤ c ∧ c ≤ 57)) (h3 : ¬ c = 45) : charB c = false := by
  unfold charB smallB digitB
  rw [decide_eq_false h1, decide_eq_false h2]
  simpa using h3
theorem l01Digit_yes (c : Int) (w : World) (h : 48 ≤ c ∧ c ≤ 57) : Calls Try.prog 47 #[.int .u8 c] w fun e w' => e = .returned (.bool true) ∧ w = w' := by
  obtain ⟨h1, h2⟩ := h
  go_enter Try.func47, Try.ntmps47
  go_wp2
  go_ret
  exact ⟨rfl, rfl⟩
theorem l01Digit_no (c : Int) (w : World) (h : ¬ (48 ≤ c ∧ c ≤ 57)) : Calls Try.prog 47 #[.int .u8 c] w fun e w' => e = .returned (.bool false) ∧ w = w' := by
  by_cases h1 : 48 ≤ c
  · have h2 : 57 < c := by omega
    clear h
    go_enter Try.func47, Try.ntmps47
    go_wp2
    go_ret
    exact ⟨ret_bool (by simp; omega), rfl⟩
  · clear h
    go_enter Try.func47, Try.ntmps47
    go_wp2
    go_ret
    exact ⟨rfl, rfl⟩
end Go.Proofs.Ytipldgbfenhknaa
