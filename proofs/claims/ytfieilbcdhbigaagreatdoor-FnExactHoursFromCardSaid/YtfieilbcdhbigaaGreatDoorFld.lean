/- Fields: the program's and the reference's tests, each by its contract. No condition. -/
import Derived.Test.YtfieilbcdhbigaaGreatDoorName
namespace Go.Proofs.YtfieilbcdhbigaaGreatDoor
open Go.ChangeShapes Go.WideShapes Go.ChangeAt Go.RowKit
set_option linter.unusedVariables false
set_option maxRecDepth 100000
abbrev fieldP (f t w : Int) : Prop := 0 ≤ f ∧ f < t ∧ t ≤ w
theorem txt_empty {s : ByteArray} (h : s.size = 0) : s.toList.isEmpty = true := by
  rw [ByteArray.toList_eq]
  have h9 : s.data.toList.length = 0 := by rw [Array.length_toList]; exact h
  rw [List.eq_nil_of_length_eq_zero h9]; rfl
theorem txt_full {s : ByteArray} (h : ¬ s.size = 0) : s.toList.isEmpty = false := by
  rw [ByteArray.toList_eq]
  cases hd : s.data.toList with
  | nil => exact absurd (by have h9 : s.data.toList.length = 0 := by rw [hd]; rfl
                            rw [Array.length_toList] at h9; exact h9) h
  | cons a b => rfl
theorem isField_c (f t c : Int) (w : World) (hc : 0 ≤ c ∧ c ≤ 1000) : Calls Tryz.prog 140 #[.agg #[.int .i64 f, .int .i64 t], .int .i64 c] w fun e w' => e = .returned (.bool (decide (fieldP f t c))) ∧ Below w.heap.size w w' := by
  obtain ⟨p, hp⟩ : ∃ p, p = decide (fieldP f t c) := ⟨_, rfl⟩
  rw [← hp]
  have Hp := Lib.hid hp
  clear hp
  by_cases h1 : 0 ≤ f
  · by_cases h2 : f < t
    · by_cases h3 : t ≤ c
      · go_enter Tryz.func140, Tryz.ntmps140
        go_wp2
        go_ret
        exact ⟨ret_bool (by rw [Hp.out]; exact (decide_eq_true ⟨h1, h2, h3⟩).symm), (Below.refl _ _).alloc (Nat.le_refl _) _⟩
      · go_enter Tryz.func140, Tryz.ntmps140
        go_wp2
        go_ret
        exact ⟨ret_bool (by rw [Hp.out]; exact (decide_eq_false fun ⟨_, _, q⟩ => by omega).symm), (Below.refl _ _).alloc (Nat.le_refl _) _⟩
    · go_enter Tryz.func140, Tryz.ntmps140
      go_wp2
      go_ret
      exact ⟨ret_bool (by rw [Hp.out]; exact (decide_eq_false fun ⟨_, q, _⟩ => by omega).symm), (Below.refl _ _).alloc (Nat.le_refl _) _⟩
  · go_enter Tryz.func140, Tryz.ntmps140
    go_wp2
    go_ret
    exact ⟨ret_bool (by rw [Hp.out]; exact (decide_eq_false fun ⟨q, _, _⟩ => by omega).symm), (Below.refl _ _).alloc (Nat.le_refl _) _⟩
theorem l02Field_c (f t c : Int) (w : World) (hc : 0 ≤ c ∧ c ≤ 1000) : Calls Tryz.prog 139 #[.agg #[.int .i64 f, .int .i64 t], .int .i64 c] w fun e w' => e = .returned (.bool (decide (fieldP f t c))) ∧ Below w.heap.size w w' := by
  obtain ⟨p, hp⟩ : ∃ p, p = decide (fieldP f t c) := ⟨_, rfl⟩
  rw [← hp]
  have Hp := Lib.hid hp
  clear hp
  by_cases h1 : 0 ≤ f
  · by_cases h2 : f < t
    · by_cases h3 : t ≤ c
      · go_enter Tryz.func139, Tryz.ntmps139
        go_wp2
        go_ret
        exact ⟨ret_bool (by rw [Hp.out]; exact (decide_eq_true ⟨h1, h2, h3⟩).symm), (Below.refl _ _).alloc (Nat.le_refl _) _⟩
      · go_enter Tryz.func139, Tryz.ntmps139
        go_wp2
        go_ret
        exact ⟨ret_bool (by rw [Hp.out]; exact (decide_eq_false fun ⟨_, _, q⟩ => by omega).symm), (Below.refl _ _).alloc (Nat.le_refl _) _⟩
    · go_enter Tryz.func139, Tryz.ntmps139
      go_wp2
      go_ret
      exact ⟨ret_bool (by rw [Hp.out]; exact (decide_eq_false fun ⟨_, q, _⟩ => by omega).symm), (Below.refl _ _).alloc (Nat.le_refl _) _⟩
  · go_enter Tryz.func139, Tryz.ntmps139
    go_wp2
    go_ret
    exact ⟨ret_bool (by rw [Hp.out]; exact (decide_eq_false fun ⟨q, _, _⟩ => by omega).symm), (Below.refl _ _).alloc (Nat.le_refl _) _⟩
end Go.Proofs.YtfieilbcdhbigaaGreatDoor
