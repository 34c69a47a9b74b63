/- Valid steps: in plain words, and the program's test by its contract. No condition. -/
import Derived.Test.YtipldgbfenhknaaStpL
import Derived.Test.YtipldgbfenhknaaCode
import Derived.Lib.QuietBelow
namespace Go.Proofs.Ytipldgbfenhknaa
open Go.ChangeShapes Go.WideShapes Go.ChangeAt Go.RowKit
set_option linter.unusedVariables false
set_option maxRecDepth 100000
abbrev trayP (n : Int) : Prop := 0 ≤ n ∧ n ≤ 5
abbrev twoP (n : Int) : Prop := 2 ≤ n ∧ n ≤ 4
abbrev fieldP (f t w : Int) : Prop := 0 ≤ f ∧ f < t ∧ t ≤ w
structure StOk (x : StepT) (w : Int) : Prop where
  kd : 1 ≤ x.kd ∧ x.kd ≤ 7
  ta : trayP x.ta
  tb : trayP x.tb
  tc : trayP x.tc
  b0 : x.tb = 0 ∨ twoP x.kd
  c0 : x.tc = 0 ∨ ¬ x.kd = 7
  ff : fieldP x.ff x.ft w
  sum : x.kd = 7 → fieldP x.sf x.st w ∧ x.st - x.sf ≤ 12
  nosum : ¬ x.kd = 7 → x.sf = 0 ∧ x.st = 0
  tx : x.kd = 5 → chS x.tx = true ∧ (x.tx.size : Int) = x.ft - x.ff
  notx : ¬ x.kd = 5 → x.tx.size = 0
instance (x : StepT) (w : Int) : Decidable (StOk x w) :=
  decidable_of_iff ((1 ≤ x.kd ∧ x.kd ≤ 7) ∧ trayP x.ta ∧ trayP x.tb ∧ trayP x.tc ∧ (x.tb = 0 ∨ twoP x.kd) ∧ (x.tc = 0 ∨ ¬ x.kd = 7) ∧ fieldP x.ff x.ft w ∧ (x.kd = 7 → fieldP x.sf x.st w ∧ x.st - x.sf ≤ 12) ∧ (¬ x.kd = 7 → x.sf = 0 ∧ x.st = 0) ∧ (x.kd = 5 → chS x.tx = true ∧ (x.tx.size : Int) = x.ft - x.ff) ∧ (¬ x.kd = 5 → x.tx.size = 0))
    ⟨fun ⟨a, b, c, d, e, f, g, h, i, j, k⟩ => ⟨a, b, c, d, e, f, g, h, i, j, k⟩, fun ⟨a, b, c, d, e, f, g, h, i, j, k⟩ => ⟨a, b, c, d, e, f, g, h, i, j, k⟩⟩
def stB (x : StepT) (w : Int) : Bool := decide (StOk x w)
theorem stB_no {x : StepT} {w : Int} (h : StOk x w → False) : stB x w = false := decide_eq_false h
theorem stB_yes {x : StepT} {w : Int} (h : StOk x w) : stB x w = true := decide_eq_true h
theorem txt_empty {s : ByteArray} (h : s.size = 0) : s.toList.isEmpty = true := by
  rw [ByteArray.toList_eq]
  have h9 : s.data.toList.length = 0 := by rw [Array.length_toList]; exact h
  rw [List.eq_nil_of_length_eq_zero h9]; rfl
theorem txt_full {s : ByteArray} (h : ¬ s.size = 0) : s.toList.isEmpty = false := by
  rw [ByteArray.toList_eq]
  cases hd : s.data.toList with
  | nil => exact absurd (by have h9 : s.data.toList.length = 0 := by rw [hd]; rfl
                            rw [Array.length_toList] at h9; exact h9) h
  | cons a b => rfl
theorem isTray_yes (n : Int) (w : World) (h : trayP n) : Calls Try.prog 40 #[.int .i64 n] w fun e w' => e = .returned (.bool true) ∧ w = w' := by
  go_enter Try.func40, Try.ntmps40
  go_wp2_with (go_at_call 19; refine (inside_yes _ _ _ _ h.1 h.2).mono ?_; rintro e w' ⟨rfl, rfl⟩)
  go_ret
  exact ⟨rfl, rfl⟩
theorem isTray_no (n : Int) (w : World) (h : ¬ trayP n) : Calls Try.prog 40 #[.int .i64 n] w fun e w' => e = .returned (.bool false) ∧ w = w' := by
  have h2 : n < 0 ∨ 5 < n := by unfold trayP at h; omega
  have H := Lib.hid h2
  clear h h2
  go_enter Try.func40, Try.ntmps40
  go_wp2_with (go_at_call 19; refine (inside_no _ _ _ _ H.out).mono ?_; rintro e w' ⟨rfl, rfl⟩)
  go_ret
  exact ⟨rfl, rfl⟩
theorem takesTwo_yes (n : Int) (w : World) (h : twoP n) : Calls Try.prog 32 #[.int .i64 n] w fun e w' => e = .returned (.bool true) ∧ w = w' := by
  go_enter Try.func32, Try.ntmps32
  go_wp2_with (go_at_call 19; refine (inside_yes _ _ _ _ h.1 h.2).mono ?_; rintro e w' ⟨rfl, rfl⟩)
  go_ret
  exact ⟨rfl, rfl⟩
theorem takesTwo_no (n : Int) (w : World) (h : ¬ twoP n) : Calls Try.prog 32 #[.int .i64 n] w fun e w' => e = .returned (.bool false) ∧ w = w' := by
  have h2 : n < 2 ∨ 4 < n := by unfold twoP at h; omega
  have H := Lib.hid h2
  clear h h2
  go_enter Try.func32, Try.ntmps32
  go_wp2_with (go_at_call 19; refine (inside_no _ _ _ _ H.out).mono ?_; rintro e w' ⟨rfl, rfl⟩)
  go_ret
  exact ⟨rfl, rfl⟩
theorem l15Tray_yes (n : Int) (w : World) (h : trayP n) : Calls Try.prog 36 #[.int .i64 n] w fun e w' => e = .returned (.bool true) ∧ w = w' := by
  go_enter Try.func36, Try.ntmps36
  go_wp2_with (go_at_call 15; refine (l00In_yes _ _ _ _ h.1 h.2).mono ?_; rintro e w' ⟨rfl, rfl⟩)
  go_ret
  exact ⟨rfl, rfl⟩
theorem l15Tray_no (n : Int) (w : World) (h : ¬ trayP n) : Calls Try.prog 36 #[.int .i64 n] w fun e w' => e = .returned (.bool false) ∧ w = w' := by
  have h2 : n < 0 ∨ 5 < n := by unfold trayP at h; omega
  have H := Lib.hid h2
  clear h h2
  go_enter Try.func36, Try.ntmps36
  go_wp2_with (go_at_call 15; refine (l00In_no _ _ _ _ H.out).mono ?_; rintro e w' ⟨rfl, rfl⟩)
  go_ret
  exact ⟨rfl, rfl⟩
theorem l15Both_yes (n : Int) (w : World) (h : twoP n) : Calls Try.prog 27 #[.int .i64 n] w fun e w' => e = .returned (.bool true) ∧ w = w' := by
  go_enter Try.func27, Try.ntmps27
  go_wp2_with (go_at_call 15; refine (l00In_yes _ _ _ _ h.1 h.2).mono ?_; rintro e w' ⟨rfl, rfl⟩)
  go_ret
  exact ⟨rfl, rfl⟩
theorem l15Both_no (n : Int) (w : World) (h : ¬ twoP n) : Calls Try.prog 27 #[.int .i64 n] w fun e w' => e = .returned (.bool false) ∧ w = w' := by
  have h2 : n < 2 ∨ 4 < n := by unfold twoP at h; omega
  have H := Lib.hid h2
  clear h h2
  go_enter Try.func27, Try.ntmps27
  go_wp2_with (go_at_call 15; refine (l00In_no _ _ _ _ H.out).mono ?_; rintro e w' ⟨rfl, rfl⟩)
  go_ret
  exact ⟨rfl, rfl⟩
theorem isField_c (f t c : Int) (w : World) (hc : 0 ≤ c ∧ c ≤ 1000) : Calls Try.prog 41 #[.agg #[.int .i64 f, .int .i64 t], .int .i64 c] w fun e w' => e = .returned (.bool (decide (fieldP f t c))) ∧ Below w.heap.size w w' := by
  obtain ⟨p, hp⟩ : ∃ p, p = decide (fieldP f t c) := ⟨_, rfl⟩
  rw [← hp]
  have Hp := Lib.hid hp
  clear hp
  by_cases h1 : 0 ≤ f
  · by_cases h2 : f < t
    · by_cases h3 : t ≤ c
      · go_enter Try.func41, Try.ntmps41
        go_wp2
        go_ret
        exact ⟨ret_bool (by rw [Hp.out]; exact (decide_eq_true ⟨h1, h2, h3⟩).symm), (Below.refl _ _).alloc (Nat.le_refl _) _⟩
      · go_enter Try.func41, Try.ntmps41
        go_wp2
        go_ret
        exact ⟨ret_bool (by rw [Hp.out]; exact (decide_eq_false fun ⟨_, _, q⟩ => by omega).symm), (Below.refl _ _).alloc (Nat.le_refl _) _⟩
    · go_enter Try.func41, Try.ntmps41
      go_wp2
      go_ret
      exact ⟨ret_bool (by rw [Hp.out]; exact (decide_eq_false fun ⟨_, q, _⟩ => by omega).symm), (Below.refl _ _).alloc (Nat.le_refl _) _⟩
  · go_enter Try.func41, Try.ntmps41
    go_wp2
    go_ret
    exact ⟨ret_bool (by rw [Hp.out]; exact (decide_eq_false fun ⟨q, _, _⟩ => by omega).symm), (Below.refl _ _).alloc (Nat.le_refl _) _⟩
theorem l02Field_c (f t c : Int) (w : World) (hc : 0 ≤ c ∧ c ≤ 1000) : Calls Try.prog 37 #[.agg #[.int .i64 f, .int .i64 t], .int .i64 c] w fun e w' => e = .returned (.bool (decide (fieldP f t c))) ∧ Below w.heap.size w w' := by
  obtain ⟨p, hp⟩ : ∃ p, p = decide (fieldP f t c) := ⟨_, rfl⟩
  rw [← hp]
  have Hp := Lib.hid hp
  clear hp
  by_cases h1 : 0 ≤ f
  · by_cases h2 : f < t
    · by_cases h3 : t ≤ c
      · go_enter Try.func37, Try.ntmps37
        go_wp2
        go_ret
        exact ⟨ret_bool (by rw [Hp.out]; exact (decide_eq_true ⟨h1, h2, h3⟩).symm), (Below.refl _ _).alloc (Nat.le_refl _) _⟩
      · go_enter Try.func37, Try.ntmps37
        go_wp2
        go_ret
        exact ⟨ret_bool (by rw [Hp.out]; exact (decide_eq_false fun ⟨_, _, q⟩ => by omega).symm), (Below.refl _ _).alloc (Nat.le_refl _) _⟩
    · go_enter Try.func37, Try.ntmps37
      go_wp2
      go_ret
      exact ⟨ret_bool (by rw [Hp.out]; exact (decide_eq_false fun ⟨_, q, _⟩ => by omega).symm), (Below.refl _ _).alloc (Nat.le_refl _) _⟩
  · go_enter Try.func37, Try.ntmps37
    go_wp2
    go_ret
    exact ⟨ret_bool (by rw [Hp.out]; exact (decide_eq_false fun ⟨q, _, _⟩ => by omega).symm), (Below.refl _ _).alloc (Nat.le_refl _) _⟩
theorem isNumberField_c (f t c : Int) (w : World) (hc : 0 ≤ c ∧ c ≤ 1000) : Calls Try.prog 42 #[.agg #[.int .i64 f, .int .i64 t], .int .i64 c] w fun e w' => e = .returned (.bool (decide (fieldP f t c ∧ t - f ≤ 12))) ∧ Below w.heap.size w w' := by
  obtain ⟨p, hp⟩ : ∃ p, p = decide (fieldP f t c ∧ t - f ≤ 12) := ⟨_, rfl⟩
  rw [← hp]
  have Hp := Lib.hid hp
  have Hc := Lib.hid hc
  clear hp
  go_enter Try.func42, Try.ntmps42
  go_wp2_with fail
  with_reducible refine (isField_c f t c _ Hc.out).mono ?_
  by_cases h1 : fieldP f t c
  · have H1 := Lib.hid h1
    have hb1 : 0 ≤ f ∧ f < t ∧ t ≤ 1000 := by unfold fieldP at h1; omega
    have hb2 := hb1.1
    have hb3 := hb1.2.1
    have hb4 := hb1.2.2
    rw [decide_eq_true h1]
    clear h1 hb1
    rintro e w1 ⟨rfl, hb⟩
    have hb9 := ((Below.refl w.heap.size w).alloc (Nat.le_refl _) _).trans (hb.mono (by simp))
    have Hb := Lib.hid hb9
    have hz : w.heap.size < w1.heap.size := by have := hb.size; simp at this; omega
    obtain ⟨hcc, hcf⟩ := bcell hb
    clear hb hb9
    by_cases h2 : t - f ≤ 12
    · go_wp2
      go_ret
      exact ⟨ret_bool (by rw [Hp.out]; exact (decide_eq_true ⟨H1.out, h2⟩).symm), Hb.out⟩
    · go_wp2
      go_ret
      exact ⟨ret_bool (by rw [Hp.out]; exact decide_eq_decide.2 ⟨fun q => ⟨H1.out, q⟩, fun q => q.2⟩), Hb.out⟩
  · have H1 := Lib.hid h1
    rw [decide_eq_false h1]
    clear h1
    rintro e w1 ⟨rfl, hb⟩
    have hb9 := ((Below.refl w.heap.size w).alloc (Nat.le_refl _) _).trans (hb.mono (by simp))
    have Hb := Lib.hid hb9
    clear hb hb9
    go_wp2
    go_ret
    exact ⟨ret_bool (by rw [Hp.out]; exact (decide_eq_false fun h => H1.out h.1).symm), Hb.out⟩
end Go.Proofs.Ytipldgbfenhknaa
