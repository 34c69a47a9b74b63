/- Valid flows: the program's test by its contract. No condition. -/
import Derived.Test.YtipldgbfenhknaaStpI
namespace Go.Proofs.Ytipldgbfenhknaa
open Go.ChangeShapes Go.WideShapes Go.ChangeAt Go.RowKit
set_option linter.unusedVariables false
set_option maxRecDepth 100000
abbrev C9 (c : Int) : Prop := 1 ≤ c ∧ c ≤ 20
def badS (c : Int) (x : StepT) : Bool := !stB x c
def flB (xs : List StepT) (c : Int) : Bool := !(xs.any (badS c)) && decide (xs.length ≤ 20)
theorem flB_long {xs : List StepT} {c : Int} (h : ¬ xs.length ≤ 20) : flB xs c = false := by unfold flB; rw [decide_eq_false h, Bool.and_false]
theorem flB_short {xs : List StepT} {c : Int} (h : xs.length ≤ 20) : flB xs c = !(xs.any (badS c)) := by unfold flB; rw [decide_eq_true h, Bool.and_true]
theorem flB_bad {xs : List StepT} {c : Int} {k : Nat} {x : StepT} (hx : xs[k]? = some x) (h : stB x c = false) : flB xs c = false := by
  unfold flB
  have : xs.any (badS c) = true := List.any_eq_true.2 ⟨x, List.mem_of_getElem? hx, by unfold badS; rw [h]; rfl⟩
  rw [this]; rfl
theorem flB_all {xs : List StepT} {c : Int} (h : xs.any (badS c) = false) : flB xs c = decide (xs.length ≤ 20) := by unfold flB; rw [h]; rfl
theorem flB_parts {xs : List StepT} {c : Int} (h : flB xs c = true) : xs.length ≤ 20 ∧ ∀ x ∈ xs, StOk x c := by
  unfold flB at h
  rw [Bool.and_eq_true, decide_eq_true_eq] at h
  refine ⟨h.2, fun x hx => ?_⟩
  have h1 : xs.any (badS c) = false := by simpa using h.1
  have h2 := List.any_eq_false.1 h1 x hx
  unfold badS at h2
  exact of_decide_eq_true (by unfold stB at h2; simpa using h2)
theorem clo_Step (c9 : Int) (y : StepT) (w : World) (hc : C9 c9) (hy : okStep y) {c : Nat} (hcc : w.cell? ⟨c, 0, none⟩ = some (.int .i64 c9)) (hlt : c < w.heap.size) :
    Calls Try.prog 30 #[vStep y, .pointer (some ⟨c, 0, none⟩)] w fun e w' => e = .returned (.bool (badS c9 y)) ∧ Below w.heap.size w w' := by
  have hne : c ≠ w.heap.size := by omega
  have Hc := Lib.hid hc
  have Hy := Lib.hid hy
  clear hc hy
  go_enter Try.func30, Try.ntmps30
  go_wp2_with fail
  with_reducible refine (ValidStep_c y c9 _ Hy.out Hc.out).mono ?_
  rintro e w1 ⟨rfl, hb⟩
  have hb9 := ((Below.refl w.heap.size w).alloc (Nat.le_refl _) _).trans (hb.mono (by simp))
  clear hb
  go_wp2
  go_ret
  exact ⟨rfl, hb9⟩
theorem indexStep_c {xs : List StepT} {v : Value} {w : World} {A : Nat} (c9 : Int) (h9 : Hid (C9 c9)) {c : Nat} (hcc : w.cell? ⟨c, 0, none⟩ = some (.int .i64 c9)) (hlc : c < w.heap.size) (ha : RdStepS A w v xs) :
    Calls Try.prog 39 #[v, .func (.func 30) #[] #[.pointer (some ⟨c, 0, none⟩)]] w fun e w' => (∃ r : Int, e = .returned (.int .i64 r) ∧ -1 ≤ r ∧ (0 ≤ r ↔ xs.any (badS c9) = true)) ∧ Below w.heap.size w w' := by
  have hle := ha.le
  obtain ⟨ao, cap, rfl, ho⟩ := eStep_open ha
  obtain ⟨n, hn⟩ : ∃ n, n = xs.length := ⟨_, rfl⟩
  rw [← hn]
  have Hn := Lib.hid hn
  have Ho := Lib.hid ho
  have Hcc := Lib.hid hcc
  clear hcc
  have hle' : n ≤ 9223372036854775807 := by omega
  clear ho hn hle ha
  go_enter Try.func39, Try.ntmps39
  go_wp2
  go_loopw [8] (fun i wr => ∃ k : Nat, k ≤ n ∧ i = .int .i64 k ∧ Hid ((xs.take k).any (badS c9) = false) ∧ Below w.heap.size w wr) (fun i _ => n - (intOf i).toNat)
  case atStart => exact ⟨0, Nat.zero_le _, rfl, rfl, Below.refl _ _⟩
  case round =>
    obtain ⟨k, hk, rfl, hp, hbb⟩ := hrel
    by_cases hkn : k < n
    · obtain ⟨b, off, rfl, hlt, hc⟩ := Ho.out (by have := Hn.out; omega)
      obtain ⟨y, hy, ⟨c0, c1, c2, c3, c4, c5, c6, c7, c8⟩, bx⟩ := hc k (by have := Hn.out; omega)
      have Hy := Lib.hid hy
      have Hbx := Lib.hid bx
      have d0 := (hbb.cell (p := ⟨b, off + k * 9, none⟩) hlt.2).trans c0
      have d1 := (hbb.cell (p := ⟨b, off + k * 9 + 1, none⟩) hlt.2).trans c1
      have d2 := (hbb.cell (p := ⟨b, off + k * 9 + 2, none⟩) hlt.2).trans c2
      have d3 := (hbb.cell (p := ⟨b, off + k * 9 + 3, none⟩) hlt.2).trans c3
      have d4 := (hbb.cell (p := ⟨b, off + k * 9 + 4, none⟩) hlt.2).trans c4
      have d5 := (hbb.cell (p := ⟨b, off + k * 9 + 5, none⟩) hlt.2).trans c5
      have d6 := (hbb.cell (p := ⟨b, off + k * 9 + 6, none⟩) hlt.2).trans c6
      have d7 := (hbb.cell (p := ⟨b, off + k * 9 + 7, none⟩) hlt.2).trans c7
      have d8 := (hbb.cell (p := ⟨b, off + k * 9 + 8, none⟩) hlt.2).trans c8
      have hcw := (hbb.cell (p := ⟨c, 0, none⟩) hlc).trans Hcc.out
      have hlw : c < wr.heap.size := by have := hbb.size; omega
      have Hcw := Lib.hid hcw
      clear hcw
      clear hy hc bx c0 c1 c2 c3 c4 c5 c6 c7 c8
      go_wp2_with fail
      with_reducible refine (clo_Step c9 y wr h9.out Hbx.out Hcw.out hlw).mono ?_
      cases hq : (badS c9) y with
      | true =>
        have Hq := Lib.hid hq
        clear hq
        rintro e w1 ⟨rfl, hb1⟩
        have hb2 := hbb.trans (hb1.mono hbb.size)
        go_wp2
        go_ret
        refine ⟨⟨_, rfl, by omega, ?_⟩, hb2⟩
        have : xs.any (badS c9) = true := List.any_eq_true.2 ⟨y, List.mem_of_getElem? Hy.out, Hq.out⟩
        simp [this]
      | false =>
        have Hq := Lib.hid hq
        clear hq
        rintro e w1 ⟨rfl, hb1⟩
        have hb2 := hbb.trans (hb1.mono hbb.size)
        clear d0 d1 d2 d3 d4 d5 d6 d7 d8 hb1 hbb
        go_wp2
        go_roundw
        case rel => exact ⟨k + 1, by omega, by go_num, by show _ = false; rw [take_snoc Hy.out, List.any_append, hp.out]; simp [Hq.out], hb2⟩
        case measure => simp [intOf]; omega
    · go_wp2
      go_ret
      refine ⟨⟨_, rfl, by omega, ?_⟩, hbb⟩
      have hq := hp.out
      rw [List.take_of_length_le (by have := Hn.out; omega)] at hq
      exact any_endT hq
theorem containsStep_c {xs : List StepT} {v : Value} {w : World} {A : Nat} (c9 : Int) (h9 : Hid (C9 c9)) {c : Nat} (hcc : w.cell? ⟨c, 0, none⟩ = some (.int .i64 c9)) (hlc : c < w.heap.size) (ha : RdStepS A w v xs) :
    Calls Try.prog 29 #[v, .func (.func 30) #[] #[.pointer (some ⟨c, 0, none⟩)]] w fun e w' => e = .returned (.bool (xs.any (badS c9))) ∧ Below w.heap.size w w' := by
  have Ha := Lib.hid ha
  have Hcc := Lib.hid hcc
  clear hcc
  obtain ⟨ao, cap, rfl⟩ := ha.shape
  clear ha
  go_enter Try.func29, Try.ntmps29
  go_wp2_with fail
  with_reducible refine (indexStep_c c9 h9 Hcc.out hlc Ha.out).mono ?_
  rintro e w' ⟨⟨r, rfl, hr, hi⟩, hb⟩
  have Hi := Lib.hid hi
  clear hi
  go_wp2
  go_ret
  refine ⟨ret_bool ?_, hb⟩
  rw [Bool.eq_iff_iff, decide_eq_true_iff]
  exact Hi.out

theorem ValidFlow_c {xs : List StepT} {v : Value} {w : World} {A : Nat} (c9 : Int) (hc : C9 c9) (ha : RdStepS A w v xs) :
    Calls Try.prog 18 #[v, .int .i64 c9] w fun e w' => e = .returned (.bool (flB xs c9)) ∧ Below w.heap.size w w' := by
  have hle := ha.le
  have Hc := Lib.hid hc
  have hb1 : Below w.heap.size w (w.alloc (.cells #[.int .i64 c9] 2)) := (Below.refl _ _).alloc (Nat.le_refl _) _
  have Hb1 := Lib.hid hb1
  have HR := Lib.hid (Rds.onn ha hb1)
  have HB := Lib.hid (Box.new w [.int .i64 c9] 2)
  obtain ⟨ao, cap, rfl⟩ := ha.shape
  obtain ⟨n, hn⟩ : ∃ n, n = xs.length := ⟨_, rfl⟩
  rw [← hn] at hle HR ⊢
  have Hn := Lib.hid hn
  clear ha hc hb1 hn
  go_enter Try.func18, Try.ntmps18
  go_wp2_with fail
  with_reducible refine (inside_yes _ _ _ _ Hc.out.1 Hc.out.2).mono ?_
  rintro e w1 ⟨rfl, rfl⟩
  by_cases h20 : n ≤ 20
  · have e1 := flB_short (c := c9) (show xs.length ≤ 20 by have := Hn.out; omega)
    have E1 := Lib.hid e1
    clear e1
    go_wp2_with fail
    with_reducible refine (containsStep_c c9 (Lib.hid Hc.out) (HB.out.cell 0 _ rfl) HB.out.lt HR.out).mono ?_
    rintro e w2 ⟨rfl, hb2⟩
    have hb3 := Hb1.out.trans (hb2.mono Hb1.out.size)
    clear hb2
    go_wp2
    go_ret
    exact ⟨ret_bool E1.out.symm, hb3⟩
  · have e1 := flB_long (c := c9) (show ¬ xs.length ≤ 20 by have := Hn.out; omega)
    have E1 := Lib.hid e1
    clear e1
    go_wp2
    go_ret
    exact ⟨ret_bool E1.out.symm, Hb1.out⟩
end Go.Proofs.Ytipldgbfenhknaa
