/- Operators in the laws' helpers: marked and held. No condition. -/
import Derived.Test.YtilgepapkigblaaDoorStrO
import Derived.StillTailTactics
import Derived.Deep.RegionWith
namespace Go.Proofs.YtilgepapkigblaaDoor
open Go.ChangeShapes Go.WideShapes Go.ChangeAt Go.RowKit
set_option linter.unusedVariables false
set_option maxRecDepth 100000
def fOperator (k : Int) : OperatorT := ⟨mtxt k, k + 1⟩
def mkOperatorS (k : Int) (x : List OperatorT) : List OperatorT := mkL fOperator 2 k x.length
theorem fOperator_ok {k : Int} (h0 : 0 ≤ k) (h1 : k + 2 ≤ 9223372036854775807) : okOperator (fOperator k) := by unfold okOperator fOperator; refine ⟨mtxt_size _, ⟨?_, ?_⟩⟩ <;> dsimp only <;> omega
theorem markOperatorS_c {xs : List OperatorT} {base top : Nat} {v : Value} {w : World} (k : Int) (ha : OwnTOperatorS base top w v xs) (hk : 0 ≤ k) (hl : k + cntOperatorS xs ≤ 9223372036854775807) :
    Calls Tryd.prog 8 #[v, .int .i64 k] w fun e w' => e = .returned (.int .i64 (k + cntOperatorS xs)) ∧ OwnTOperatorS base top w' v (mkOperatorS k xs) ∧ Within base top w w' ∧ w.grownBy w' v.ownBlock := by
  obtain ⟨hown, htop⟩ := ha
  unfold cntOperatorS at hl ⊢
  rcases hown.1.2 with ⟨rfl, h0⟩ | ⟨g, cap, cur, rfl, hbg, hg, rest⟩
  · obtain rfl : xs = [] := List.eq_nil_of_length_eq_zero h0
    clear hown
    go_enter Tryd.func8, Tryd.ntmps8
    go_wp2
    go_rounds 1
    go_ret
    exact ⟨ret_int (by simp), ⟨Own.nil _ _ _ _, htop⟩, Within.refl _ _ _, World.grownBy.refl _ _⟩
  · obtain ⟨n, hn⟩ : ∃ n, n = xs.length := ⟨_, rfl⟩
    unfold mkOperatorS
    rw [← hn] at hown hl ⊢
    have Hn := Lib.hid hn
    have hl' : k + 2 * n ≤ 9223372036854775807 := by omega
    have hgt : g < top := htop g rfl
    have hown0 : OwnOperatorS base w (.slice (some ⟨g, 0, none⟩) n cap) (mkL fOperator 2 k 0 ++ xs.drop 0) := by simpa [mkL] using hown
    clear hown hn hl hg rest htop
    go_enter Tryd.func8, Tryd.ntmps8
    go_wp2
    go_loopw [1, 5] (fun c i wr => ∃ j : Nat, j ≤ n ∧ i = .int .i64 j ∧ c = .int .i64 (k + 2 * j) ∧ OwnOperatorS base wr (.slice (some ⟨g, 0, none⟩) n cap) (mkL fOperator 2 k j ++ xs.drop j) ∧ w.grownBy wr (some g)) (fun _ i _ => n - (intOf i).toNat)
    case atStart => exact ⟨0, Nat.zero_le _, rfl, by simp, hown0, World.grownBy.refl _ _⟩
    case round =>
      obtain ⟨j, hj, rfl, rfl, hw, hgr⟩ := hrel
      clear hown0
      by_cases hjn : j < n
      · have hlen : n = (mkL fOperator 2 k j ++ xs.drop j).length := by have := Hn.out; rw [List.length_append, mkL_length, List.length_drop]; omega
        have Hlen := Lib.hid hlen
        clear hlen
        go_wp2_with fail
        with_reducible refine (markText_c (k + 2 * j) wr (by omega) (by omega)).mono ?_
        rintro e w1 ⟨rfl, hb⟩
        have hw1 := hw.below hb (Nat.le_refl _)
        have hgr1 : w.grownBy w1 (some g) := grownBy_trans hgr ⟨hb.os, hb.tape, hb.output, hb.size, fun i hi _ => hb.block i hi⟩
        clear hw hgr hb
        obtain ⟨⟨y0, hy0⟩, hf0⟩ := Own.cellE (E := eOperator) hw1 Hlen.out (k := j) (j := 0) hjn (by decide)
        obtain ⟨⟨y1, hy1⟩, hf1⟩ := Own.cellE (E := eOperator) hw1 Hlen.out (k := j) (j := 1) hjn (by decide)
        simp only [show eOperator.sz = 2 from rfl, Nat.add_zero] at hy0 hf0 hy1 hf1
        have hst := Own.storeE (E := eOperator) (by decide) hw1 Hlen.out hjn (x := fOperator (k + 2 * j)) (fOperator_ok (by omega) (by omega))
        rw [mkL_set xs k j (by have := Hn.out; omega)] at hst
        have Hst := Lib.hid hst
        have Hgr := Lib.hid hgr1
        clear hst hw1 hgr1
        go_wp2
        go_roundw
        case rel => exact ⟨j + 1, by omega, by go_num, by go_num, Hst.out.1, grownBy_trans Hgr.out Hst.out.2.1⟩
        case measure => simp [intOf]; omega
      · go_wp2
        go_ret
        obtain rfl : j = n := by omega
        rw [List.drop_of_length_le (by have := Hn.out; omega), List.append_nil] at hw
        exact ⟨ret_int (by omega), ⟨hw, fun i hi => by cases hi; exact hgt⟩, Within.of_grown hgr fun i hi => by cases hi; exact ⟨hbg, hgt⟩, hgr⟩
theorem heldOperatorS_c {xs : List OperatorT} {v : Value} {w : World} {A : Nat} (k : Int) (ha : RdOperatorS A w v (mkOperatorS k xs)) (hk : 0 ≤ k) (hl : k + cntOperatorS xs ≤ 9223372036854775807) :
    Calls Tryd.prog 9 #[v, .int .i64 k] w fun e w' => e = .returned (.int .i64 (k + cntOperatorS xs)) ∧ Below w.heap.size w w' := by
  unfold cntOperatorS at hl ⊢
  have hlen : (mkOperatorS k xs).length = xs.length := mkL_length _ _
  have hget : ∀ j, j < xs.length → (mkOperatorS k xs)[j]? = some (fOperator (k + 2 * j)) := fun j hj => by unfold mkOperatorS; rw [mkL_get, if_pos hj]
  obtain ⟨ao, cap, rfl, ho⟩ := eOperator_open ha
  obtain ⟨n, hn⟩ : ∃ n, n = xs.length := ⟨_, rfl⟩
  rw [hlen] at ho
  rw [hlen, ← hn]
  rw [← hn] at hget hl ho
  have Ho := Lib.hid ho
  have Hget := Lib.hid hget
  have hl' : k + 2 * n ≤ 9223372036854775807 := by omega
  clear ho hn ha hget hlen hl
  go_enter Tryd.func9, Tryd.ntmps9
  go_wp2
  go_loopw [1, 5] (fun c i wr => ∃ j : Nat, j ≤ n ∧ i = .int .i64 j ∧ c = .int .i64 (k + 2 * j) ∧ Below w.heap.size w wr) (fun _ i _ => n - (intOf i).toNat)
  case atStart => exact ⟨0, Nat.zero_le _, rfl, by simp, Below.refl _ _⟩
  case round =>
    obtain ⟨j, hj, rfl, rfl, hbb⟩ := hrel
    by_cases hjn : j < n
    · obtain ⟨b, off, rfl, hlt, hc⟩ := Ho.out (by omega)
      obtain ⟨x, hx, ⟨c0, c1⟩, bx⟩ := hc j hjn
      obtain rfl : fOperator (k + 2 * j) = x := Option.some.inj ((Hget.out j hjn).symm.trans hx)
      have d0 : wr.cell? ⟨b, off + j * 2, none⟩ = some (.string (mtxt (k + 2 * j))) := (hbb.cell (p := ⟨b, off + j * 2, none⟩) hlt.2).trans c0
      have d1 : wr.cell? ⟨b, off + j * 2 + 1, none⟩ = some (.int .i64 (k + 2 * j + 1)) := (hbb.cell (p := ⟨b, off + j * 2 + 1, none⟩) hlt.2).trans c1
      have D0 := Lib.hid c0
      have D1 := Lib.hid c1
      clear hx hc bx c0 c1
      have hlw : b < wr.heap.size := by have := hbb.size; omega
      go_upto_region 4 with fail
      go_cut [19] (fun c wx => c = .bool false ∧ Below w.heap.size w wx)
      case first =>
        go_region_with ((go_at_call 38; refine (markText_c (k + 2 * j) _ (by omega) (by omega)).mono ?_; rintro e w1 ⟨rfl, hb1⟩; have d0' := (hb1.cell (p := ⟨b, off + j * 2, none⟩) hlw).trans d0; have hbb1 := (Below.drew1 hbb).trans (hb1.mono hbb.size)))
        all_goals (go_wp2_with fail; go_meet; exact ⟨rfl, hbb1⟩)
      case rest =>
      obtain ⟨rfl, hbb1⟩ := hcut
      clear hbb
      replace d1 : wc.cell? ⟨b, off + j * 2 + 1, none⟩ = some (.int .i64 (k + 2 * j + 1)) := (hbb1.cell (p := ⟨b, off + j * 2 + 1, none⟩) hlt.2).trans D1.out
      have hbb := hbb1
      clear d0 hbb1
      go_wp2
      go_roundw
      case rel => exact ⟨j + 1, by omega, by go_num, by go_num, hbb⟩
      case measure => simp [intOf]; omega
    · go_wp2
      go_ret
      obtain rfl : j = n := by omega
      exact ⟨ret_int (by omega), hbb⟩
end Go.Proofs.YtilgepapkigblaaDoor
