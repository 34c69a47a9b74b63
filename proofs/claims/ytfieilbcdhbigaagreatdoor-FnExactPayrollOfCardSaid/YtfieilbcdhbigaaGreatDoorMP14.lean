/- Items and layouts in the laws' helpers: marked. No condition. -/
import Derived.Test.YtfieilbcdhbigaaGreatDoorMP12
import Derived.Test.YtfieilbcdhbigaaGreatDoorMP9
import Derived.Deep.RegionWith
namespace Go.Proofs.YtfieilbcdhbigaaGreatDoor
open Go.ChangeShapes Go.WideShapes Go.ChangeAt Go.RowKit
set_option linter.unusedVariables false
set_option maxRecDepth 100000
def fItem (k : Int) : ItemT := ⟨mtxt k, k + 1, k + 1 + 1, k + 1 + 1 + 1⟩
def mkItemS (k : Int) (x : List ItemT) : List ItemT := mkL fItem 4 k x.length
theorem fItem_ok {k : Int} (h0 : 0 ≤ k) (h1 : k + 4 ≤ 9223372036854775807) : okItem (fItem k) := by unfold okItem fItem; refine ⟨mtxt_size _, ⟨?_, ?_⟩, ⟨?_, ?_⟩, ⟨?_, ?_⟩⟩ <;> dsimp only <;> omega
theorem markItemS_c {xs : List ItemT} {base top : Nat} {v : Value} {w : World} (k : Int) (ha : OwnTItemS base top w v xs) (hk : 0 ≤ k) (hl : k + cntItemS xs ≤ 9223372036854775807) :
    Calls Tryz.prog 55 #[v, .int .i64 k] w fun e w' => e = .returned (.int .i64 (k + cntItemS xs)) ∧ OwnTItemS base top w' v (mkItemS k xs) ∧ Within base top w w' ∧ w.grownBy w' v.ownBlock := by
  obtain ⟨hown, htop⟩ := ha
  unfold cntItemS at hl ⊢
  rcases hown.1.2 with ⟨rfl, h0⟩ | ⟨g, cap, cur, rfl, hbg, hg, rest⟩
  · obtain rfl : xs = [] := List.eq_nil_of_length_eq_zero h0
    clear hown
    go_enter Tryz.func55, Tryz.ntmps55
    go_wp2
    go_rounds 1
    go_ret
    exact ⟨ret_int (by simp), ⟨Own.nil _ _ _ _, htop⟩, Within.refl _ _ _, World.grownBy.refl _ _⟩
  · obtain ⟨n, hn⟩ : ∃ n, n = xs.length := ⟨_, rfl⟩
    unfold mkItemS
    rw [← hn] at hown hl ⊢
    have Hn := Lib.hid hn
    have hl' : k + 4 * n ≤ 9223372036854775807 := by omega
    have hgt : g < top := htop g rfl
    have hown0 : OwnItemS base w (.slice (some ⟨g, 0, none⟩) n cap) (mkL fItem 4 k 0 ++ xs.drop 0) := by simpa [mkL] using hown
    clear hown hn hl hg rest htop
    go_enter Tryz.func55, Tryz.ntmps55
    go_wp2
    go_loopw [1, 5] (fun c i wr => ∃ j : Nat, j ≤ n ∧ i = .int .i64 j ∧ c = .int .i64 (k + 4 * j) ∧ OwnItemS base wr (.slice (some ⟨g, 0, none⟩) n cap) (mkL fItem 4 k j ++ xs.drop j) ∧ w.grownBy wr (some g)) (fun _ i _ => n - (intOf i).toNat)
    case atStart => exact ⟨0, Nat.zero_le _, rfl, by simp, hown0, World.grownBy.refl _ _⟩
    case round =>
      obtain ⟨j, hj, rfl, rfl, hw, hgr⟩ := hrel
      clear hown0
      by_cases hjn : j < n
      · have hlen : n = (mkL fItem 4 k j ++ xs.drop j).length := by have := Hn.out; rw [List.length_append, mkL_length, List.length_drop]; omega
        have Hlen := Lib.hid hlen
        clear hlen
        go_wp2_with fail
        with_reducible refine (markText_c (k + 4 * j) wr (by omega) (by omega)).mono ?_
        rintro e w1 ⟨rfl, hb⟩
        have hw1 := hw.below hb (Nat.le_refl _)
        have hgr1 : w.grownBy w1 (some g) := grownBy_trans hgr ⟨hb.os, hb.tape, hb.output, hb.size, fun i hi _ => hb.block i hi⟩
        clear hw hgr hb
        obtain ⟨⟨y0, hy0⟩, hf0⟩ := Own.cellE (E := eItem) hw1 Hlen.out (k := j) (j := 0) hjn (by decide)
        obtain ⟨⟨y1, hy1⟩, hf1⟩ := Own.cellE (E := eItem) hw1 Hlen.out (k := j) (j := 1) hjn (by decide)
        obtain ⟨⟨y2, hy2⟩, hf2⟩ := Own.cellE (E := eItem) hw1 Hlen.out (k := j) (j := 2) hjn (by decide)
        obtain ⟨⟨y3, hy3⟩, hf3⟩ := Own.cellE (E := eItem) hw1 Hlen.out (k := j) (j := 3) hjn (by decide)
        simp only [show eItem.sz = 4 from rfl, Nat.add_zero] at hy0 hf0 hy1 hf1 hy2 hf2 hy3 hf3
        have hst := Own.storeE (E := eItem) (by decide) hw1 Hlen.out hjn (x := fItem (k + 4 * j)) (fItem_ok (by omega) (by omega))
        rw [mkL_set xs k j (by have := Hn.out; omega)] at hst
        have Hst := Lib.hid hst
        have Hgr := Lib.hid hgr1
        clear hst hw1 hgr1
        go_wp2
        go_roundw
        case rel => exact ⟨j + 1, by omega, by go_num, by go_num, Hst.out.1, grownBy_trans Hgr.out Hst.out.2.1⟩
        case measure => simp [intOf]; omega
      · go_wp2
        go_ret
        obtain rfl : j = n := by omega
        rw [List.drop_of_length_le (by have := Hn.out; omega), List.append_nil] at hw
        exact ⟨ret_int (by omega), ⟨hw, fun i hi => by cases hi; exact hgt⟩, Within.of_grown hgr fun i hi => by cases hi; exact ⟨hbg, hgt⟩, hgr⟩
theorem markLayout_c {xs : List ItemT} {base top : Nat} {v : Value} {w : World} (wd k : Int) (ha : OwnTItemS base top w v xs) (ht : top ≤ w.heap.size) (hk : 0 ≤ k) (hl : k + cntItemS xs ≤ 9223372036854775807) :
    Calls Tryz.prog 21 #[.agg #[.int .i64 wd, v], .int .i64 k] w fun e w' => e = .returned (.int .i64 (k + cntItemS xs)) ∧ OwnTItemS base top w' v (mkItemS k xs) ∧ Within base top w w' := by
  obtain ⟨W, hW⟩ : ∃ W, W = w.alloc (.cells #[.int .i64 wd, v] 32) := ⟨_, rfl⟩
  have hb0 : Below w.heap.size w W := by rw [hW]; exact (Below.refl _ _).alloc (Nat.le_refl _) _
  have hg0 : Within base top w W := by rw [hW]; exact Within.of_grown (World.grownBy_alloc w _ none) (fun k h => by cases h)
  have Ha := Lib.hid (OwnT.below ha hb0 ht)
  have HW := Lib.hid hW
  have Hg0 := Lib.hid hg0
  obtain ⟨ao, cap, rfl⟩ := ha.1.shape
  have Hl := Lib.hid hl
  clear ha hb0 hg0 hW hl
  go_enter Tryz.func21, Tryz.ntmps21
  go_wp2_with fail
  rw [← HW.out]
  with_reducible refine (markItemS_c k Ha.out hk Hl.out).mono ?_
  rintro e w1 ⟨rfl, ho, hw, _⟩
  have Ho := Lib.hid ho
  have Hw := Lib.hid (Hg0.out.trans hw)
  clear ho hw
  go_wp2
  go_ret
  exact ⟨rfl, Ho.out, Hw.out⟩
end Go.Proofs.YtfieilbcdhbigaaGreatDoor
