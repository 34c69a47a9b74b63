/- SameWorkers: the program's and the reference's, each by its contract. No condition. -/
import Derived.Test.YtlcmliibdfclnaaStrW
namespace Go.Proofs.Ytlcmliibdfclnaa
open Go.ChangeShapes Go.WideShapes Go.ChangeAt Go.RowKit
set_option linter.unusedVariables false
def sameWorker (x y : WorkerT) : Bool := x.nm.toList == y.nm.toList && (x.rate == y.rate && (x.tax == y.tax))
theorem neq_Worker (x y : WorkerT) (w : World) : (binOp .neq 52 (vWorker x) (vWorker y)).run Try.prog w = .ok (.bool (!sameWorker x y)) w := by
  have hS : Try.prog.underlying 52 = some (.struct (Try.prog.fieldsOf 52)) := by kernel_rfl
  have hp : Try.prog.stoodInHeld 52 = false := by kernel_rfl
  rw [run_neq_struct, show (10000 : Nat) = 9999 + 1 from rfl, run_equalIn_agg w 9999 52 _ _ hS hp]
  simp only [Program.fieldsOf, Try.underlying52]
  go_simp
  unfold sameWorker
  by_cases h0 : x.nm.toList = y.nm.toList <;> by_cases h1 : x.rate = y.rate <;> by_cases h2 : x.tax = y.tax <;> simp [h0, h1, h2]
theorem sameWorker_iff (x y : WorkerT) : sameWorker x y = true ↔ x = y := by
  unfold sameWorker
  obtain ⟨x0, x1, x2⟩ := x
  obtain ⟨y0, y1, y2⟩ := y
  simp only [Bool.and_eq_true, beq_iff_eq, WorkerT.mk.injEq, toList_inj]
instance : DecidableEq WorkerT := fun x y => decidable_of_iff (sameWorker x y = true) (sameWorker_iff x y)
theorem neqWorker_run {x y : WorkerT} (w : World) {b : Bool} (h : (!sameWorker x y) = b) : (binOp .neq 52 (vWorker x) (vWorker y)).run Try.prog w = .ok (.bool b) w := by rw [neq_Worker, h]
theorem sSameWorkers_c {xs ys : List WorkerT} {va vb : Value} {w : World} {A B : Nat} (ha : RdWorkerS A w va xs) (hb : RdWorkerS B w vb ys) :
    Calls Try.prog 17 #[va, vb] w fun e w' => e = .returned (.bool (decide (xs = ys))) ∧ Below w.heap.size w w' := by
  have hle := ha.le
  have hleb := hb.le
  obtain ⟨ao, cap, rfl, ho⟩ := eWorker_open ha
  obtain ⟨bo, bcap, rfl, hob⟩ := eWorker_open hb
  obtain ⟨n, hn⟩ : ∃ n, n = xs.length := ⟨_, rfl⟩
  obtain ⟨m, hm⟩ : ∃ m, m = ys.length := ⟨_, rfl⟩
  rw [← hn, ← hm]
  have Hn := Lib.hid hn
  have Hm := Lib.hid hm
  have Ho := Lib.hid ho
  have Hob := Lib.hid hob
  have hle' : n ≤ 9223372036854775807 := by omega
  have hle2 : m ≤ 9223372036854775807 := by omega
  clear ho hob hn hm hle hleb ha hb
  by_cases hnm : n = m
  · subst hnm
    go_enter Try.func17, Try.ntmps17
    go_wp2
    go_loopw [5] (fun i wr => ∃ k : Nat, k ≤ n ∧ i = .int .i64 k ∧ Hid (xs.take k = ys.take k) ∧ Below w.heap.size w wr) (fun i _ => n - (intOf i).toNat)
    case atStart => exact ⟨0, Nat.zero_le _, rfl, rfl, Below.refl _ _⟩
    case round =>
      obtain ⟨k, hk, rfl, hp, hbb⟩ := hrel
      by_cases hkn : k < n
      · obtain ⟨b, off, rfl, hlt, hc⟩ := Ho.out (by have := Hn.out; omega)
        obtain ⟨x, hx, ⟨c0, c1, c2⟩, bx⟩ := hc k (by have := Hn.out; omega)
        have Hx := Lib.hid hx
        have d0 := (hbb.cell (p := ⟨b, off + k * 3, none⟩) hlt.2).trans c0
        have d1 := (hbb.cell (p := ⟨b, off + k * 3 + 1, none⟩) hlt.2).trans c1
        have d2 := (hbb.cell (p := ⟨b, off + k * 3 + 2, none⟩) hlt.2).trans c2
        clear hx hc bx c0 c1 c2
        obtain ⟨b2, off2, rfl, hlt2, hc⟩ := Hob.out (by have := Hm.out; omega)
        obtain ⟨y, hy, ⟨c0, c1, c2⟩, bx⟩ := hc k (by have := Hm.out; omega)
        have Hy := Lib.hid hy
        have f0 := (hbb.cell (p := ⟨b2, off2 + k * 3, none⟩) hlt2.2).trans c0
        have f1 := (hbb.cell (p := ⟨b2, off2 + k * 3 + 1, none⟩) hlt2.2).trans c1
        have f2 := (hbb.cell (p := ⟨b2, off2 + k * 3 + 2, none⟩) hlt2.2).trans c2
        clear hy hc bx c0 c1 c2
        cases hs : sameWorker x y with
        | true =>
          have hr := fun w => neqWorker_run (x := x) (y := y) w (b := false) (by rw [hs]; rfl)
          have Hs := Lib.hid hs
          clear hs
          go_wp2
          go_quiet (fail)
          clear hr
          go_wp2
          go_roundw
          case rel => exact ⟨k + 1, by omega, by go_num, take_eq_succ hp.out Hx.out Hy.out ((sameWorker_iff _ _).1 Hs.out), hbb.drewNy _⟩
          case measure => simp [intOf]; omega
        | false =>
          have hr := fun w => neqWorker_run (x := x) (y := y) w (b := true) (by rw [hs]; rfl)
          have Hs := Lib.hid hs
          clear hs
          go_wp2
          go_quiet (fail)
          clear hr
          go_wp2
          go_ret
          refine ⟨ret_bool (Eq.symm (decide_eq_false fun h => ?_)), hbb.drewNy _⟩
          have h2 := ne_of_at Hx.out Hy.out (fun h3 => by have := Hs.out; rw [h3, (sameWorker_iff _ _).2 rfl] at this; cases this)
          exact h2 h
      · go_wp2
        go_ret
        refine ⟨ret_bool (Eq.symm (decide_eq_true ?_)), hbb⟩
        have h1 := hp.out
        rw [List.take_of_length_le (by have := Hn.out; omega), List.take_of_length_le (by have := Hm.out; omega)] at h1
        exact h1
  · have hne : ¬ xs = ys := fun e => hnm (by have h1 := Hn.out; have h2 := Hm.out; rw [e] at h1; omega)
    have hne2 : ((n : Int) != (m : Int)) = true := by simpa using fun h : (n : Int) = m => hnm (by omega)
    have Hne := Lib.hid hne
    clear hne hnm
    go_enter Try.func17, Try.ntmps17
    go_wp2
    go_ret
    exact ⟨ret_bool (by simpa using Hne.out), Below.refl _ _⟩
theorem equalWorkers_c {xs ys : List WorkerT} {va vb : Value} {w : World} {A B : Nat} (ha : RdWorkerS A w va xs) (hb : RdWorkerS B w vb ys) :
    Calls Try.prog 40 #[va, vb] w fun e w' => e = .returned (.bool (decide (xs = ys))) ∧ Below w.heap.size w w' := by
  have hle := ha.le
  have hleb := hb.le
  obtain ⟨ao, cap, rfl, ho⟩ := eWorker_open ha
  obtain ⟨bo, bcap, rfl, hob⟩ := eWorker_open hb
  obtain ⟨n, hn⟩ : ∃ n, n = xs.length := ⟨_, rfl⟩
  obtain ⟨m, hm⟩ : ∃ m, m = ys.length := ⟨_, rfl⟩
  rw [← hn, ← hm]
  have Hn := Lib.hid hn
  have Hm := Lib.hid hm
  have Ho := Lib.hid ho
  have Hob := Lib.hid hob
  have hle' : n ≤ 9223372036854775807 := by omega
  have hle2 : m ≤ 9223372036854775807 := by omega
  clear ho hob hn hm hle hleb ha hb
  by_cases hnm : n = m
  · subst hnm
    go_enter Try.func40, Try.ntmps40
    go_wp2
    go_loopw [13] (fun i wr => ∃ k : Nat, k ≤ n ∧ i = .int .i64 k ∧ Hid (xs.take k = ys.take k) ∧ Below w.heap.size w wr) (fun i _ => n - (intOf i).toNat)
    case atStart => exact ⟨0, Nat.zero_le _, rfl, rfl, Below.refl _ _⟩
    case round =>
      obtain ⟨k, hk, rfl, hp, hbb⟩ := hrel
      by_cases hkn : k < n
      · obtain ⟨b, off, rfl, hlt, hc⟩ := Ho.out (by have := Hn.out; omega)
        obtain ⟨x, hx, ⟨c0, c1, c2⟩, bx⟩ := hc k (by have := Hn.out; omega)
        have Hx := Lib.hid hx
        have d0 := (hbb.cell (p := ⟨b, off + k * 3, none⟩) hlt.2).trans c0
        have d1 := (hbb.cell (p := ⟨b, off + k * 3 + 1, none⟩) hlt.2).trans c1
        have d2 := (hbb.cell (p := ⟨b, off + k * 3 + 2, none⟩) hlt.2).trans c2
        clear hx hc bx c0 c1 c2
        obtain ⟨b2, off2, rfl, hlt2, hc⟩ := Hob.out (by have := Hm.out; omega)
        obtain ⟨y, hy, ⟨c0, c1, c2⟩, bx⟩ := hc k (by have := Hm.out; omega)
        have Hy := Lib.hid hy
        have f0 := (hbb.cell (p := ⟨b2, off2 + k * 3, none⟩) hlt2.2).trans c0
        have f1 := (hbb.cell (p := ⟨b2, off2 + k * 3 + 1, none⟩) hlt2.2).trans c1
        have f2 := (hbb.cell (p := ⟨b2, off2 + k * 3 + 2, none⟩) hlt2.2).trans c2
        clear hy hc bx c0 c1 c2
        cases hs : sameWorker x y with
        | true =>
          have hr := fun w => neqWorker_run (x := x) (y := y) w (b := false) (by rw [hs]; rfl)
          have Hs := Lib.hid hs
          clear hs
          go_wp2
          go_quiet (fail)
          clear hr
          go_wp2
          go_roundw
          case rel => exact ⟨k + 1, by omega, by go_num, take_eq_succ hp.out Hx.out Hy.out ((sameWorker_iff _ _).1 Hs.out), hbb.drewNy _⟩
          case measure => simp [intOf]; omega
        | false =>
          have hr := fun w => neqWorker_run (x := x) (y := y) w (b := true) (by rw [hs]; rfl)
          have Hs := Lib.hid hs
          clear hs
          go_wp2
          go_quiet (fail)
          clear hr
          go_wp2
          go_ret
          refine ⟨ret_bool (Eq.symm (decide_eq_false fun h => ?_)), hbb.drewNy _⟩
          have h2 := ne_of_at Hx.out Hy.out (fun h3 => by have := Hs.out; rw [h3, (sameWorker_iff _ _).2 rfl] at this; cases this)
          exact h2 h
      · go_wp2
        go_ret
        refine ⟨ret_bool (Eq.symm (decide_eq_true ?_)), hbb⟩
        have h1 := hp.out
        rw [List.take_of_length_le (by have := Hn.out; omega), List.take_of_length_le (by have := Hm.out; omega)] at h1
        exact h1
  · have hne : ¬ xs = ys := fun e => hnm (by have h1 := Hn.out; have h2 := Hm.out; rw [e] at h1; omega)
    have hne2 : ((n : Int) != (m : Int)) = true := by simpa using fun h : (n : Int) = m => hnm (by omega)
    have Hne := Lib.hid hne
    clear hne hnm
    go_enter Try.func40, Try.ntmps40
    go_wp2
    go_ret
    exact ⟨ret_bool (by simpa using Hne.out), Below.refl _ _⟩

theorem SameWorkers_c {xs ys : List WorkerT} {va vb : Value} {w : World} {A B : Nat} (ha : RdWorkerS A w va xs) (hb : RdWorkerS B w vb ys) :
    Calls Try.prog 19 #[va, vb] w fun e w' => e = .returned (.bool (decide (xs = ys))) ∧ Below w.heap.size w w' := by
  obtain ⟨ao, cap, rfl⟩ := ha.shape
  obtain ⟨bo, bcap, rfl⟩ := hb.shape
  have Ha := Lib.hid ha
  have Hb := Lib.hid hb
  clear ha hb
  go_enter Try.func19, Try.ntmps19
  go_wp2_with fail
  with_reducible refine (equalWorkers_c Ha.out Hb.out).mono ?_
  rintro e w1 ⟨rfl, hb1⟩
  go_wp2
  go_ret
  exact ⟨ret_bool (by simp), hb1⟩
end Go.Proofs.Ytlcmliibdfclnaa
