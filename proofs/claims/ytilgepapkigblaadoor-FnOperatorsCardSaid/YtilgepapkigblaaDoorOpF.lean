/- Operators: texts that are spoiled. No condition. -/
import Derived.Test.YtilgepapkigblaaDoorOpE
import Derived.Deep.RegionLaw
namespace Go.Proofs.YtilgepapkigblaaDoor
open Go.ChangeShapes Go.WideShapes Go.ChangeAt Go.RowKit
set_option linter.unusedVariables false
set_option maxRecDepth 100000
theorem ne_emptyT {s : ByteArray} (h : 1 ≤ s.size) : s.toList.isEmpty = false := by
  have h3 : s.data.toList.length = s.size := Array.length_toList
  rw [ByteArray.toList_eq]
  cases hq : s.data.toList with
  | nil => rw [hq] at h3; simp at h3; omega
  | cons a l => rfl
theorem empty_of {s : ByteArray} (h : s.size = 0) : s.toList.isEmpty = true := by
  have h3 : s.data.toList.length = s.size := Array.length_toList
  rw [ByteArray.toList_eq]
  cases hq : s.data.toList with
  | nil => rfl
  | cons a l => rw [hq] at h3; simp at h3; omega
theorem StrAt.drew {W : World} {nb n : Nat} (h : StrAt W nb n) : StrAt W.drew nb n := h
theorem l01Spoil_any {w : World} {b N : Nat} {t : ByteArray} (hs : Src w b N) (hN : N ≤ 100000) (ht : t.size ≤ 100000) :
    Calls Tryd.prog 55 #[.pointer (some ⟨b, 0, none⟩), .string t] w fun e w' => (∃ s : ByteArray, e = .returned (.string s) ∧ s.size ≤ t.size + 101) ∧ Src w' b (N + 10) ∧ w.grownBy w' (some b) := by
  have hbl := hs.lt
  go_enter Tryd.func55, Tryd.ntmps55
  go_wp2_with fail
  refine (pick_any 5 hs (by omega) (by omega)).mono ?_
  rintro e w1 ⟨⟨r, rfl, hr0, hr1, _⟩, hs1, hg1, -⟩
  have hr2 := hr1 (by omega)
  clear hs hr1
  by_cases q0 : r = 0
  · subst q0
    go_wp2_with fail
    refine (pick_any ((t.size : Int) + 1) hs1 (by omega) (by omega)).mono ?_
    rintro e w2 ⟨⟨k0, rfl, hk0, hk1, _⟩, hs2, hg2, -⟩
    have hk2 := hk1 (by omega)
    obtain ⟨k, rfl⟩ := Int.eq_ofNat_of_zero_le hk0
    have hkn : k ≤ t.size := by omega
    have hg12 := grownBy_trans hg1 hg2
    have hbl2 := hs2.lt
    clear hk1 hs1 hg1 hg2
    have hst : StrAt (w2.alloc (.cells #[.string ⟨#[32]⟩, .string ⟨#[48]⟩, .string ⟨#[45]⟩, .string ⟨#[120]⟩, .string ⟨#[49]⟩, .string ⟨#[57]⟩, .string ⟨#[46]⟩] 9)) w2.heap.size 7 := StrAt.new (by
      intro k hk
      obtain rfl | rfl | rfl | rfl | rfl | rfl | rfl : k = 0 ∨ k = 1 ∨ k = 2 ∨ k = 3 ∨ k = 4 ∨ k = 5 ∨ k = 6 := by omega
      all_goals exact ⟨_, rfl, by decide⟩)
    have Hst := Lib.hid hst
    have HS := Lib.hid hs2
    have HG := Lib.hid hg12
    clear hs2 hg12 hst
    go_upto_region 4 with fail
    go_region_law (go_simp; go_at_call 64; with_reducible refine (text_any (nb := w2.heap.size) (n := 7) (HS.out.alloc _).drew (by omega) (StrAt.drew Hst.out) (by omega) (by omega)).mono ?_; rintro e w3 ⟨⟨s0, rfl, hs0⟩, hs3, hg3⟩; have hx1 : (t.extract 0 k).size + s0.size ≤ t.size + 100 := (by rw [ByteArray.size_extract]; omega); have hx2 : (t.extract 0 k ++ s0).size + (t.extract k t.size).size ≤ t.size + 100 := (by rw [ByteArray.size_append, ByteArray.size_extract, ByteArray.size_extract]; omega); have hx3 : ¬ 9223372036854775807 < (t.extract 0 k).size + s0.size := (by omega); have hx4 : ¬ 9223372036854775807 < (t.extract 0 k ++ s0).size + (t.extract k t.size).size := (by omega); have hx5 : ¬ 9223372036854775807 < k + s0.size := (by omega); have hx6 : ¬ 9223372036854775807 < k + s0.size + (t.size - k) := (by omega); have Hx2 := Lib.hid hx2; have HS3 := Lib.hid hs3; have HG3 := Lib.hid (grownBy_trans HG.out (grownBy_trans (World.grownBy_alloc _ _ _) (grownBy_trans (grownBy_drew _ (some b)) hg3))); clear hs3 hg3)
    all_goals go_wp2
    all_goals go_ret
    all_goals exact ⟨⟨_, rfl, by have := Hx2.out; rw [ByteArray.size_append]; omega⟩, HS3.out.mono (by omega), HG3.out⟩
  · by_cases q1 : r = 1
    · subst q1
      clear q0
      by_cases h0 : t.size = 0
      · have he : t.toList.isEmpty = true := empty_of h0
        have hne : (!t.toList.isEmpty) = false := by rw [he]; rfl
        have HS := Lib.hid hs1
        have HG := Lib.hid hg1
        clear hs1 hg1 he
        go_wp2
        go_ret
        exact ⟨⟨_, rfl, by omega⟩, HS.out.mono (by omega), HG.out⟩
      have he : t.toList.isEmpty = false := ne_emptyT (by omega)
      have hne : (!t.toList.isEmpty) = true := by rw [he]; rfl
      go_wp2_with fail
      refine (pick_any (t.size : Int) hs1 (by omega) (by omega)).mono ?_
      rintro e w2 ⟨⟨k0, rfl, hk0, hk1, _⟩, hs2, hg2, -⟩
      have hk2 := hk1 (by omega)
      obtain ⟨k, rfl⟩ := Int.eq_ofNat_of_zero_le hk0
      have hkn : k < t.size := by omega
      have hg12 := grownBy_trans hg1 hg2
      have hbl2 := hs2.lt
      have HS := Lib.hid hs2
      have HG := Lib.hid hg12
      have hx2 : (t.extract 0 k).size + (t.extract (k + 1) t.size).size ≤ t.size := by rw [ByteArray.size_extract, ByteArray.size_extract]; omega
      have hx4 : ¬ 9223372036854775807 < (t.extract 0 k).size + (t.extract (k + 1) t.size).size := by omega
      have hk3 : k ≤ t.size := by omega
      have hk4 : k + 1 ≤ t.size := by omega
      have hk5 : 0 ≤ (k : Int) + 1 := by omega
      have hk6 : (k : Int) + 1 ≤ (t.size : Int) := by omega
      have hwr : IntKind.i64.wrap ((k : Int) + 1) = ((k + 1 : Nat) : Int) := by rw [IntKind.wrap_i64]; omega
      have Hx2 := Lib.hid hx2
      have hx5 : ¬ 9223372036854775807 < k + (t.size - (k + 1)) := by omega
      clear hk1 hs1 hg1 hg2 he hne hs2 hg12
      go_wp2_with fail
      go_region_law (fail)
      all_goals go_wp2
      all_goals go_ret
      all_goals exact ⟨⟨_, rfl, by have := Hx2.out; rw [ByteArray.size_append]; omega⟩, (HS.out.mono (by omega)).drew, grownBy_trans HG.out (grownBy_drew _ _)⟩
    · have e0 : (r == 0) = false := by simpa using q0
      have e1 : (r == 1) = false := by simpa using q1
      have HS := Lib.hid hs1
      have HG := Lib.hid hg1
      clear q0 q1 hs1 hg1
      go_wp2
      go_ret
      exact ⟨⟨_, rfl, by omega⟩, HS.out.mono (by omega), HG.out⟩
theorem below_grown {w w' : World} (h : Below w.heap.size w w') (row : Option Nat) : w.grownBy w' row := ⟨h.os, h.tape, h.output, h.size, fun k hk _ => h.block k hk⟩
theorem textO_le {xs : List OperatorT} (hl : xs.length ≤ 9) (h : ∀ x ∈ xs, x.nm.size ≤ 12) : (textO xs).size ≤ 720 := by
  have := textO_size h xs.length (Nat.le_refl _)
  rw [List.take_length] at this
  omega
theorem validOs_names {xs : List OperatorT} (h : validOs xs = true) : ∀ x ∈ xs, x.nm.size ≤ 12 := fun x hx => by
  have h1 := ((validOs_parts h).2 x hx).1
  by_cases hq : 1 ≤ x.nm.size ∧ x.nm.size ≤ 12
  · exact hq.2
  · rw [nameB_len hq] at h1; cases h1
theorem DrawReadOperators_any {w : World} {A : Nat} {v : Value} {cs : List Int} (ha : Rds eB A w v cs) (hA : A ≤ w.heap.size) :
    Calls Tryd.prog 19 #[v] w fun e w' => (∃ s : ByteArray, e = .returned (.string s) ∧ s.size ≤ 1000) ∧ Below w.heap.size w w' := by
  have Ha := Lib.hid ha
  obtain ⟨ao, cap, rfl⟩ := ha.shape
  clear ha
  go_enter Tryd.func19, Tryd.ntmps19
  go_wp2_with fail
  refine (l00From_any Ha.out hA).mono ?_
  rintro e w1 ⟨rfl, hs1, hb1⟩
  have hz1 : w.heap.size < w1.heap.size := hs1.lt
  have Hb1 := Lib.hid hb1
  clear hb1
  go_wp2_with fail
  refine (l22Draw_v hs1 (by omega)).mono ?_
  rintro e w2 ⟨⟨u, xs, rfl, ho2, hl2, hr2⟩, hs2, hg2⟩
  have hb2 : Below w.heap.size w w2 := grown_below Hb1.out hg2 (Nat.le_refl _) (by omega)
  have hz2 : w.heap.size ≤ w2.heap.size := hb2.size
  have hv2 := rowN_valid hr2 (by omega)
  have htx := textO_le (xs := xs) (by omega) (validOs_names hv2)
  have hbl2 := hs2.lt
  clear hs1 hg2 hr2 hl2
  go_wp2_with fail
  with_reducible refine (l22Text_c ho2.rds hv2).mono ?_
  rintro e w3 ⟨rfl, hbt⟩
  generalize textO xs = t at htx ⊢
  have hb3 := hb2.trans (hbt.mono hz2)
  have hs3 := hs2.kept (below_grown hbt none) (fun k hk => by cases hk)
  have hz3 := hb3.size
  clear hb2 hs2 hbt ho2 hv2
  go_wp2_with fail
  refine (one_any 3 hs3 (by omega) (by omega)).mono ?_
  rintro e w4 ⟨⟨q, rfl⟩, hs4, hg4, -⟩
  have hb4 := grown_below hb3 hg4 (Nat.le_refl _) hz3
  have hz4 := hb4.size
  clear hs3 hg4 hb3
  cases q with
  | true =>
    go_wp2_with fail
    refine (l01Spoil_any hs4 (by omega) (by omega)).mono ?_
    rintro e w5 ⟨⟨s, rfl, hs⟩, hs5, hg5⟩
    have hb5 := grown_below hb4 hg5 (Nat.le_refl _) hz4
    have Hs := Lib.hid hs
    clear hs4 hs5 hg5 hb4 hs
    go_wp2
    go_ret
    exact ⟨⟨_, rfl, by have := Hs.out; omega⟩, hb5⟩
  | false =>
    clear hs4
    go_wp2
    go_ret
    exact ⟨⟨_, rfl, by omega⟩, hb4⟩
end Go.Proofs.YtilgepapkigblaaDoor
