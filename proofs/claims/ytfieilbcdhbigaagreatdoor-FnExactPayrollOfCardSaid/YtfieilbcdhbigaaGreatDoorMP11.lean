/- Workers and pays in the laws' helpers: marked and held. No condition. -/
import Derived.Test.YtfieilbcdhbigaaGreatDoorMP9
import Derived.Deep.RegionWith
namespace Go.Proofs.YtfieilbcdhbigaaGreatDoor
open Go.ChangeShapes Go.WideShapes Go.ChangeAt Go.RowKit
set_option linter.unusedVariables false
set_option maxRecDepth 100000
def fWorker (k : Int) : WorkerT := ⟨mtxt k, k + 1, k + 1 + 1⟩
def mkWorkerS (k : Int) (x : List WorkerT) : List WorkerT := mkL fWorker 3 k x.length
theorem fWorker_ok {k : Int} (h0 : 0 ≤ k) (h1 : k + 3 ≤ 9223372036854775807) : okWorker (fWorker k) := by unfold okWorker fWorker; refine ⟨mtxt_size _, ⟨?_, ?_⟩, ⟨?_, ?_⟩⟩ <;> dsimp only <;> omega
theorem markWorkerS_c {xs : List WorkerT} {base top : Nat} {v : Value} {w : World} (k : Int) (ha : OwnTWorkerS base top w v xs) (hk : 0 ≤ k) (hl : k + cntWorkerS xs ≤ 9223372036854775807) :
    Calls Tryz.prog 20 #[v, .int .i64 k] w fun e w' => e = .returned (.int .i64 (k + cntWorkerS xs)) ∧ OwnTWorkerS base top w' v (mkWorkerS k xs) ∧ Within base top w w' ∧ w.grownBy w' v.ownBlock := by
  obtain ⟨hown, htop⟩ := ha
  unfold cntWorkerS at hl ⊢
  rcases hown.1.2 with ⟨rfl, h0⟩ | ⟨g, cap, cur, rfl, hbg, hg, rest⟩
  · obtain rfl : xs = [] := List.eq_nil_of_length_eq_zero h0
    clear hown
    go_enter Tryz.func20, Tryz.ntmps20
    go_wp2
    go_rounds 1
    go_ret
    exact ⟨ret_int (by simp), ⟨Own.nil _ _ _ _, htop⟩, Within.refl _ _ _, World.grownBy.refl _ _⟩
  · obtain ⟨n, hn⟩ : ∃ n, n = xs.length := ⟨_, rfl⟩
    unfold mkWorkerS
    rw [← hn] at hown hl ⊢
    have Hn := Lib.hid hn
    have hl' : k + 3 * n ≤ 9223372036854775807 := by omega
    have hgt : g < top := htop g rfl
    have hown0 : OwnWorkerS base w (.slice (some ⟨g, 0, none⟩) n cap) (mkL fWorker 3 k 0 ++ xs.drop 0) := by simpa [mkL] using hown
    clear hown hn hl hg rest htop
    go_enter Tryz.func20, Tryz.ntmps20
    go_wp2
    go_loopw [1, 5] (fun c i wr => ∃ j : Nat, j ≤ n ∧ i = .int .i64 j ∧ c = .int .i64 (k + 3 * j) ∧ OwnWorkerS base wr (.slice (some ⟨g, 0, none⟩) n cap) (mkL fWorker 3 k j ++ xs.drop j) ∧ w.grownBy wr (some g)) (fun _ i _ => n - (intOf i).toNat)
    case atStart => exact ⟨0, Nat.zero_le _, rfl, by simp, hown0, World.grownBy.refl _ _⟩
    case round =>
      obtain ⟨j, hj, rfl, rfl, hw, hgr⟩ := hrel
      clear hown0
      by_cases hjn : j < n
      · have hlen : n = (mkL fWorker 3 k j ++ xs.drop j).length := by have := Hn.out; rw [List.length_append, mkL_length, List.length_drop]; omega
        have Hlen := Lib.hid hlen
        clear hlen
        go_wp2_with fail
        with_reducible refine (markText_c (k + 3 * j) wr (by omega) (by omega)).mono ?_
        rintro e w1 ⟨rfl, hb⟩
        have hw1 := hw.below hb (Nat.le_refl _)
        have hgr1 : w.grownBy w1 (some g) := grownBy_trans hgr ⟨hb.os, hb.tape, hb.output, hb.size, fun i hi _ => hb.block i hi⟩
        clear hw hgr hb
        obtain ⟨⟨y0, hy0⟩, hf0⟩ := Own.cellE (E := eWorker) hw1 Hlen.out (k := j) (j := 0) hjn (by decide)
        obtain ⟨⟨y1, hy1⟩, hf1⟩ := Own.cellE (E := eWorker) hw1 Hlen.out (k := j) (j := 1) hjn (by decide)
        obtain ⟨⟨y2, hy2⟩, hf2⟩ := Own.cellE (E := eWorker) hw1 Hlen.out (k := j) (j := 2) hjn (by decide)
        simp only [show eWorker.sz = 3 from rfl, Nat.add_zero] at hy0 hf0 hy1 hf1 hy2 hf2
        have hst := Own.storeE (E := eWorker) (by decide) hw1 Hlen.out hjn (x := fWorker (k + 3 * j)) (fWorker_ok (by omega) (by omega))
        rw [mkL_set xs k j (by have := Hn.out; omega)] at hst
        have Hst := Lib.hid hst
        have Hgr := Lib.hid hgr1
        clear hst hw1 hgr1
        go_wp2
        go_roundw
        case rel => exact ⟨j + 1, by omega, by go_num, by go_num, Hst.out.1, grownBy_trans Hgr.out Hst.out.2.1⟩
        case measure => simp [intOf]; omega
      · go_wp2
        go_ret
        obtain rfl : j = n := by omega
        rw [List.drop_of_length_le (by have := Hn.out; omega), List.append_nil] at hw
        exact ⟨ret_int (by omega), ⟨hw, fun i hi => by cases hi; exact hgt⟩, Within.of_grown hgr fun i hi => by cases hi; exact ⟨hbg, hgt⟩, hgr⟩
def fPay (k : Int) : PayT := ⟨k, k + 1, k + 1 + 1, k + 1 + 1 + 1⟩
def mkPayS (k : Int) (x : List PayT) : List PayT := mkL fPay 4 k x.length
theorem fPay_ok {k : Int} (h0 : 0 ≤ k) (h1 : k + 4 ≤ 9223372036854775807) : okPay (fPay k) := by unfold okPay fPay; refine ⟨⟨?_, ?_⟩, ⟨?_, ?_⟩, ⟨?_, ?_⟩, ⟨?_, ?_⟩⟩ <;> dsimp only <;> omega
theorem markPayS_c {xs : List PayT} {base top : Nat} {v : Value} {w : World} (k : Int) (ha : OwnTPayS base top w v xs) (hk : 0 ≤ k) (hl : k + cntPayS xs ≤ 9223372036854775807) :
    Calls Tryz.prog 28 #[v, .int .i64 k] w fun e w' => e = .returned (.int .i64 (k + cntPayS xs)) ∧ OwnTPayS base top w' v (mkPayS k xs) ∧ Within base top w w' ∧ w.grownBy w' v.ownBlock := by
  obtain ⟨hown, htop⟩ := ha
  unfold cntPayS at hl ⊢
  rcases hown.1.2 with ⟨rfl, h0⟩ | ⟨g, cap, cur, rfl, hbg, hg, rest⟩
  · obtain rfl : xs = [] := List.eq_nil_of_length_eq_zero h0
    clear hown
    go_enter Tryz.func28, Tryz.ntmps28
    go_wp2
    go_rounds 1
    go_ret
    exact ⟨ret_int (by simp), ⟨Own.nil _ _ _ _, htop⟩, Within.refl _ _ _, World.grownBy.refl _ _⟩
  · obtain ⟨n, hn⟩ : ∃ n, n = xs.length := ⟨_, rfl⟩
    unfold mkPayS
    rw [← hn] at hown hl ⊢
    have Hn := Lib.hid hn
    have hl' : k + 4 * n ≤ 9223372036854775807 := by omega
    have hgt : g < top := htop g rfl
    have hown0 : OwnPayS base w (.slice (some ⟨g, 0, none⟩) n cap) (mkL fPay 4 k 0 ++ xs.drop 0) := by simpa [mkL] using hown
    clear hown hn hl hg rest htop
    go_enter Tryz.func28, Tryz.ntmps28
    go_wp2
    go_loopw [1, 5] (fun c i wr => ∃ j : Nat, j ≤ n ∧ i = .int .i64 j ∧ c = .int .i64 (k + 4 * j) ∧ OwnPayS base wr (.slice (some ⟨g, 0, none⟩) n cap) (mkL fPay 4 k j ++ xs.drop j) ∧ w.grownBy wr (some g)) (fun _ i _ => n - (intOf i).toNat)
    case atStart => exact ⟨0, Nat.zero_le _, rfl, by simp, hown0, World.grownBy.refl _ _⟩
    case round =>
      obtain ⟨j, hj, rfl, rfl, hw, hgr⟩ := hrel
      clear hown0
      by_cases hjn : j < n
      · have hlen : n = (mkL fPay 4 k j ++ xs.drop j).length := by have := Hn.out; rw [List.length_append, mkL_length, List.length_drop]; omega
        have Hlen := Lib.hid hlen
        clear hlen
        have hw1 := hw
        have hgr1 := hgr
        clear hw hgr
        obtain ⟨⟨y0, hy0⟩, hf0⟩ := Own.cellE (E := ePay) hw1 Hlen.out (k := j) (j := 0) hjn (by decide)
        obtain ⟨⟨y1, hy1⟩, hf1⟩ := Own.cellE (E := ePay) hw1 Hlen.out (k := j) (j := 1) hjn (by decide)
        obtain ⟨⟨y2, hy2⟩, hf2⟩ := Own.cellE (E := ePay) hw1 Hlen.out (k := j) (j := 2) hjn (by decide)
        obtain ⟨⟨y3, hy3⟩, hf3⟩ := Own.cellE (E := ePay) hw1 Hlen.out (k := j) (j := 3) hjn (by decide)
        simp only [show ePay.sz = 4 from rfl, Nat.add_zero] at hy0 hf0 hy1 hf1 hy2 hf2 hy3 hf3
        have hst := Own.storeE (E := ePay) (by decide) hw1 Hlen.out hjn (x := fPay (k + 4 * j)) (fPay_ok (by omega) (by omega))
        rw [mkL_set xs k j (by have := Hn.out; omega)] at hst
        have Hst := Lib.hid hst
        have Hgr := Lib.hid hgr1
        clear hst hw1 hgr1
        go_wp2
        go_roundw
        case rel => exact ⟨j + 1, by omega, by go_num, by go_num, Hst.out.1, grownBy_trans Hgr.out Hst.out.2.1⟩
        case measure => simp [intOf]; omega
      · go_wp2
        go_ret
        obtain rfl : j = n := by omega
        rw [List.drop_of_length_le (by have := Hn.out; omega), List.append_nil] at hw
        exact ⟨ret_int (by omega), ⟨hw, fun i hi => by cases hi; exact hgt⟩, Within.of_grown hgr fun i hi => by cases hi; exact ⟨hbg, hgt⟩, hgr⟩
theorem heldPayS_c {xs : List PayT} {v : Value} {w : World} {A : Nat} (k : Int) (ha : RdPayS A w v (mkPayS k xs)) (hk : 0 ≤ k) (hl : k + cntPayS xs ≤ 9223372036854775807) :
    Calls Tryz.prog 29 #[v, .int .i64 k] w fun e w' => e = .returned (.int .i64 (k + cntPayS xs)) ∧ Below w.heap.size w w' := by
  unfold cntPayS at hl ⊢
  have hlen : (mkPayS k xs).length = xs.length := mkL_length _ _
  have hget : ∀ j, j < xs.length → (mkPayS k xs)[j]? = some (fPay (k + 4 * j)) := fun j hj => by unfold mkPayS; rw [mkL_get, if_pos hj]
  obtain ⟨ao, cap, rfl, ho⟩ := ePay_open ha
  obtain ⟨n, hn⟩ : ∃ n, n = xs.length := ⟨_, rfl⟩
  rw [hlen] at ho
  rw [hlen, ← hn]
  rw [← hn] at hget hl ho
  have Ho := Lib.hid ho
  have Hget := Lib.hid hget
  have hl' : k + 4 * n ≤ 9223372036854775807 := by omega
  clear ho hn ha hget hlen hl
  go_enter Tryz.func29, Tryz.ntmps29
  go_wp2
  go_loopw [1, 5] (fun c i wr => ∃ j : Nat, j ≤ n ∧ i = .int .i64 j ∧ c = .int .i64 (k + 4 * j) ∧ Below w.heap.size w wr) (fun _ i _ => n - (intOf i).toNat)
  case atStart => exact ⟨0, Nat.zero_le _, rfl, by simp, Below.refl _ _⟩
  case round =>
    obtain ⟨j, hj, rfl, rfl, hbb⟩ := hrel
    by_cases hjn : j < n
    · obtain ⟨b, off, rfl, hlt, hc⟩ := Ho.out (by omega)
      obtain ⟨x, hx, ⟨c0, c1, c2, c3⟩, bx⟩ := hc j hjn
      obtain rfl : fPay (k + 4 * j) = x := Option.some.inj ((Hget.out j hjn).symm.trans hx)
      have d0 : wr.cell? ⟨b, off + j * 4, none⟩ = some (.int .i64 (k + 4 * j)) := (hbb.cell (p := ⟨b, off + j * 4, none⟩) hlt.2).trans c0
      have d1 : wr.cell? ⟨b, off + j * 4 + 1, none⟩ = some (.int .i64 (k + 4 * j + 1)) := (hbb.cell (p := ⟨b, off + j * 4 + 1, none⟩) hlt.2).trans c1
      have d2 : wr.cell? ⟨b, off + j * 4 + 2, none⟩ = some (.int .i64 (k + 4 * j + 1 + 1)) := (hbb.cell (p := ⟨b, off + j * 4 + 2, none⟩) hlt.2).trans c2
      have d3 : wr.cell? ⟨b, off + j * 4 + 3, none⟩ = some (.int .i64 (k + 4 * j + 1 + 1 + 1)) := (hbb.cell (p := ⟨b, off + j * 4 + 3, none⟩) hlt.2).trans c3
      have D0 := Lib.hid c0
      have D1 := Lib.hid c1
      have D2 := Lib.hid c2
      have D3 := Lib.hid c3
      clear hx hc bx c0 c1 c2 c3
      go_wp2
      go_roundw
      case rel => exact ⟨j + 1, by omega, by go_num, by go_num, hbb⟩
      case measure => simp [intOf]; omega
    · go_wp2
      go_ret
      obtain rfl : j = n := by omega
      exact ⟨ret_int (by omega), hbb⟩
end Go.Proofs.YtfieilbcdhbigaaGreatDoor
