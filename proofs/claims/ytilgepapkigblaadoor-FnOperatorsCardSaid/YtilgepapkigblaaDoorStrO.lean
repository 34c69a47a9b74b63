/- Operators in the laws' helpers. No condition. -/
import Derived.Test.YtilgepapkigblaaDoorStr
import Derived.Test.YtilgepapkigblaaDoorMark
namespace Go.Proofs.YtilgepapkigblaaDoor
open Go.ChangeShapes Go.WideShapes Go.ChangeAt Go.RowKit
set_option linter.unusedVariables false
set_option maxRecDepth 100000
structure OperatorT where
  nm : ByteArray
  skills : Int
abbrev vOperator (x : OperatorT) : Value := .agg #[.string x.nm, .int .i64 x.skills]
abbrev lOperator (x : OperatorT) : Value := .agg #[.string x.nm, .int .i64 x.skills]
def okOperator (x : OperatorT) : Prop := x.nm.size ≤ 9223372036854775807 ∧ (-9223372036854775808 ≤ x.skills ∧ x.skills ≤ 9223372036854775807)
def eOperator : Elt OperatorT := { sz := 2, cells := fun x => [.string x.nm, .int .i64 x.skills], ok := okOperator, len := fun _ => rfl, one := fun x u hu => by simp at hu; rcases hu with rfl | rfl <;> rfl }
def zOperator : OperatorT := ⟨⟨#[]⟩, 0⟩
theorem ok_zOperator : okOperator zOperator := by unfold okOperator zOperator; exact ⟨Nat.zero_le _, ⟨by decide, by decide⟩⟩
abbrev RdOperatorS (B : Nat) (w : World) (v : Value) (x : List OperatorT) : Prop := Rds eOperator B w v x
abbrev OwnOperatorS (base : Nat) (w : World) (v : Value) (x : List OperatorT) : Prop := Own eOperator 50 base w v x
abbrev OwnTOperatorS (base top : Nat) (w : World) (v : Value) (x : List OperatorT) : Prop := OwnT eOperator 50 base top w v x
def szOperator (x : OperatorT) : Int := (x.nm.size : Int)
theorem szOperator_nonneg (x : OperatorT) : 0 ≤ szOperator x := by unfold szOperator; omega
def szOperatorS (x : List OperatorT) : Int := x.length + sumBy szOperator x
theorem szOperatorS_nonneg (x : List OperatorT) : 0 ≤ szOperatorS x := by unfold szOperatorS; have := sumBy_nonneg szOperator_nonneg x; omega
def cntOperatorS (x : List OperatorT) : Nat := 2 * x.length
theorem cntOperatorS_le (x : List OperatorT) : (cntOperatorS x : Int) ≤ 16 * szOperatorS x := by unfold szOperatorS cntOperatorS; have := sumBy_nonneg szOperator_nonneg x; omega
theorem szOperatorS_len (x : List OperatorT) : (x.length : Int) ≤ szOperatorS x := by unfold szOperatorS; have := sumBy_nonneg szOperator_nonneg x; omega
theorem eOperator_open {w : World} {B : Nat} {v : Value} {xs : List OperatorT} (h : Rds eOperator B w v xs) : ∃ ao cap, v = .slice ao xs.length cap ∧
    (0 < xs.length → ∃ b off, ao = some ⟨b, off, none⟩ ∧ (b < B ∧ b < w.heap.size) ∧ ∀ k, k < xs.length → ∃ x, xs[k]? = some x ∧ (w.cell? ⟨b, off + k * 2, none⟩ = some (.string x.nm) ∧ w.cell? ⟨b, off + k * 2 + 1, none⟩ = some (.int .i64 x.skills)) ∧ okOperator x) := by
  rcases Rds.cases h with ⟨rfl, ao, cap, rfl, _⟩ | ⟨b, off, cap, rfl, hlt, hc⟩
  · exact ⟨ao, cap, rfl, fun h => absurd h (by simp)⟩
  · refine ⟨_, cap, rfl, fun _ => ⟨b, off, rfl, hlt, fun k hk => ?_⟩⟩
    obtain ⟨h1, h2⟩ := hc k xs[k] (by simp [hk])
    refine ⟨xs[k], by simp [hk], ⟨?_, ?_⟩, h1⟩
    · exact h2 0 (by decide)
    · have := h2 1 (by decide); rw [← Nat.add_assoc] at this; exact this
theorem eqOperator_c (w : World) (x : OperatorT) :
    Calls Tryd.prog 37 #[vOperator x, vOperator x] w fun e w' => e = .returned (.bool true) ∧ Below w.heap.size w w' := by
  go_enter Tryd.func37, Tryd.ntmps37
  go_wp2
  go_ret
  exact ⟨rfl, ((Below.refl _ _).alloc (Nat.le_refl _) _).alloc (by simp) _⟩
theorem eqOperatorS_c {xs : List OperatorT} {va vb : Value} {w : World} {A B : Nat} (ha : RdOperatorS A w va xs) (hb : RdOperatorS B w vb xs) :
    Calls Tryd.prog 7 #[va, vb] w fun e w' => e = .returned (.bool true) ∧ Below w.heap.size w w' := by
  obtain ⟨bo, bcap, rfl, hob⟩ := eOperator_open hb
  have Hob := Lib.hid hob
  clear hob hb
  have hle := ha.le
  have hok := ha.2
  obtain ⟨ao, cap, rfl, ho⟩ := eOperator_open ha
  obtain ⟨n, hn⟩ : ∃ n, n = xs.length := ⟨_, rfl⟩
  rw [← hn]
  have Hn := Lib.hid hn
  have Ho := Lib.hid ho
  have Hok := Lib.hid hok
  have hle' : n ≤ 9223372036854775807 := by omega
  clear hok ho hn hle ha
  go_enter Tryd.func7, Tryd.ntmps7
  go_wp2
  go_loopw [5] (fun i wr => ∃ k : Nat, k ≤ n ∧ i = .int .i64 k ∧ Below w.heap.size w wr) (fun i _ => n - (intOf i).toNat)
  case atStart => exact ⟨0, Nat.zero_le _, rfl, Below.refl _ _⟩
  case round =>
    obtain ⟨k, hk, rfl, hbb⟩ := hrel
    by_cases hkn : k < n
    · obtain ⟨b, off, rfl, hlt, hc⟩ := Ho.out (by have := Hn.out; omega)
      obtain ⟨x, hx, ⟨c0, c1⟩, bx⟩ := hc k (by have := Hn.out; omega)
      have Hx := Lib.hid hx
      have d0 := (hbb.cell (p := ⟨b, off + k * 2, none⟩) hlt.2).trans c0
      have d1 := (hbb.cell (p := ⟨b, off + k * 2 + 1, none⟩) hlt.2).trans c1
      clear hx hc bx c0 c1
      obtain ⟨b2, off2, rfl, hlt2, hc⟩ := Hob.out (by have := Hn.out; omega)
      obtain ⟨x2, hx2, ⟨c0, c1⟩, bx⟩ := hc k (by have := Hn.out; omega)
      obtain rfl : x = x2 := Option.some.inj (Hx.out.symm.trans hx2)
      have f0 := (hbb.cell (p := ⟨b2, off2 + k * 2, none⟩) hlt2.2).trans c0
      have f1 := (hbb.cell (p := ⟨b2, off2 + k * 2 + 1, none⟩) hlt2.2).trans c1
      clear hx2 hc bx c0 c1
      go_wp2_with fail
      go_still_tail 8, (by kernel_rfl)
      change wpList _ _ _ _ _ wr.drew
      have hbd : Below w.heap.size w wr.drew := ⟨hbb.os, hbb.tape, hbb.output, hbb.size, hbb.block⟩
      clear hbb d0 f0 d1 f1
      generalize wr.drew = w2 at hbd ⊢
      go_wp2_with fail
      with_reducible refine (eqOperator_c w2 x).mono ?_
      rintro e w3 ⟨rfl, hb3⟩
      have hbb1 : Below w.heap.size w w3 := hbd.trans (hb3.mono hbd.size)
      clear hb3 hbd
      go_wp2
      go_roundw
      case rel => exact ⟨k + 1, by omega, by go_num, hbb1⟩
      case measure => simp [intOf]; omega
    · go_wp2
      go_ret
      exact ⟨rfl, hbb⟩
def sameOperator (x y : OperatorT) : Bool := x.nm.toList == y.nm.toList && (x.skills == y.skills)
theorem neq_Operator (x y : OperatorT) (w : World) : (binOp .neq 50 (vOperator x) (vOperator y)).run Tryd.prog w = .ok (.bool (!sameOperator x y)) w := by
  have hS : Tryd.prog.underlying 50 = some (.struct (Tryd.prog.fieldsOf 50)) := by kernel_rfl
  have hp : Tryd.prog.stoodInHeld 50 = false := by kernel_rfl
  rw [run_neq_struct, show (10000 : Nat) = 9999 + 1 from rfl, run_equalIn_agg w 9999 50 _ _ hS hp]
  simp only [Program.fieldsOf, Tryd.underlying50]
  go_simp
  unfold sameOperator
  by_cases h0 : x.nm.toList = y.nm.toList <;> by_cases h1 : x.skills = y.skills <;> simp [h0, h1]
theorem sameOperator_iff (x y : OperatorT) : sameOperator x y = true ↔ x = y := by
  unfold sameOperator
  obtain ⟨x0, x1⟩ := x
  obtain ⟨y0, y1⟩ := y
  simp only [Bool.and_eq_true, beq_iff_eq, OperatorT.mk.injEq, toList_inj]
instance : DecidableEq OperatorT := fun x y => decidable_of_iff (sameOperator x y = true) (sameOperator_iff x y)
theorem neqOperator_run {x y : OperatorT} (w : World) {b : Bool} (h : (!sameOperator x y) = b) : (binOp .neq 50 (vOperator x) (vOperator y)).run Tryd.prog w = .ok (.bool b) w := by rw [neq_Operator, h]
theorem sSameOperators_c {xs ys : List OperatorT} {va vb : Value} {w : World} {A B : Nat} (ha : RdOperatorS A w va xs) (hb : RdOperatorS B w vb ys) :
    Calls Tryd.prog 22 #[va, vb] w fun e w' => e = .returned (.bool (decide (xs = ys))) ∧ Below w.heap.size w w' := by
  have hle := ha.le
  have hleb := hb.le
  obtain ⟨ao, cap, rfl, ho⟩ := eOperator_open ha
  obtain ⟨bo, bcap, rfl, hob⟩ := eOperator_open hb
  obtain ⟨n, hn⟩ : ∃ n, n = xs.length := ⟨_, rfl⟩
  obtain ⟨m, hm⟩ : ∃ m, m = ys.length := ⟨_, rfl⟩
  rw [← hn, ← hm]
  have Hn := Lib.hid hn
  have Hm := Lib.hid hm
  have Ho := Lib.hid ho
  have Hob := Lib.hid hob
  have hle' : n ≤ 9223372036854775807 := by omega
  have hle2 : m ≤ 9223372036854775807 := by omega
  clear ho hob hn hm hle hleb ha hb
  by_cases hnm : n = m
  · subst hnm
    go_enter Tryd.func22, Tryd.ntmps22
    go_wp2
    go_loopw [5] (fun i wr => ∃ k : Nat, k ≤ n ∧ i = .int .i64 k ∧ Hid (xs.take k = ys.take k) ∧ Below w.heap.size w wr) (fun i _ => n - (intOf i).toNat)
    case atStart => exact ⟨0, Nat.zero_le _, rfl, rfl, Below.refl _ _⟩
    case round =>
      obtain ⟨k, hk, rfl, hp, hbb⟩ := hrel
      by_cases hkn : k < n
      · obtain ⟨b, off, rfl, hlt, hc⟩ := Ho.out (by have := Hn.out; omega)
        obtain ⟨x, hx, ⟨c0, c1⟩, bx⟩ := hc k (by have := Hn.out; omega)
        have Hx := Lib.hid hx
        have d0 := (hbb.cell (p := ⟨b, off + k * 2, none⟩) hlt.2).trans c0
        have d1 := (hbb.cell (p := ⟨b, off + k * 2 + 1, none⟩) hlt.2).trans c1
        clear hx hc bx c0 c1
        obtain ⟨b2, off2, rfl, hlt2, hc⟩ := Hob.out (by have := Hm.out; omega)
        obtain ⟨y, hy, ⟨c0, c1⟩, bx⟩ := hc k (by have := Hm.out; omega)
        have Hy := Lib.hid hy
        have f0 := (hbb.cell (p := ⟨b2, off2 + k * 2, none⟩) hlt2.2).trans c0
        have f1 := (hbb.cell (p := ⟨b2, off2 + k * 2 + 1, none⟩) hlt2.2).trans c1
        clear hy hc bx c0 c1
        cases hs : sameOperator x y with
        | true =>
          have hr := fun w => neqOperator_run (x := x) (y := y) w (b := false) (by rw [hs]; rfl)
          have Hs := Lib.hid hs
          clear hs
          go_wp2
          go_quiet (fail)
          clear hr
          go_wp2
          go_roundw
          case rel => exact ⟨k + 1, by omega, by go_num, take_eq_succ hp.out Hx.out Hy.out ((sameOperator_iff _ _).1 Hs.out), hbb.drewNy _⟩
          case measure => simp [intOf]; omega
        | false =>
          have hr := fun w => neqOperator_run (x := x) (y := y) w (b := true) (by rw [hs]; rfl)
          have Hs := Lib.hid hs
          clear hs
          go_wp2
          go_quiet (fail)
          clear hr
          go_wp2
          go_ret
          refine ⟨ret_bool (Eq.symm (decide_eq_false fun h => ?_)), hbb.drewNy _⟩
          have h2 := ne_of_at Hx.out Hy.out (fun h3 => by have := Hs.out; rw [h3, (sameOperator_iff _ _).2 rfl] at this; cases this)
          exact h2 h
      · go_wp2
        go_ret
        refine ⟨ret_bool (Eq.symm (decide_eq_true ?_)), hbb⟩
        have h1 := hp.out
        rw [List.take_of_length_le (by have := Hn.out; omega), List.take_of_length_le (by have := Hm.out; omega)] at h1
        exact h1
  · have hne : ¬ xs = ys := fun e => hnm (by have h1 := Hn.out; have h2 := Hm.out; rw [e] at h1; omega)
    have hne2 : ((n : Int) != (m : Int)) = true := by simpa using fun h : (n : Int) = m => hnm (by omega)
    have Hne := Lib.hid hne
    clear hne hnm
    go_enter Tryd.func22, Tryd.ntmps22
    go_wp2
    go_ret
    exact ⟨ret_bool (by simpa using Hne.out), Below.refl _ _⟩
theorem equalOperators_c {xs ys : List OperatorT} {va vb : Value} {w : World} {A B : Nat} (ha : RdOperatorS A w va xs) (hb : RdOperatorS B w vb ys) :
    Calls Tryd.prog 56 #[va, vb] w fun e w' => e = .returned (.bool (decide (xs = ys))) ∧ Below w.heap.size w w' := by
  have hle := ha.le
  have hleb := hb.le
  obtain ⟨ao, cap, rfl, ho⟩ := eOperator_open ha
  obtain ⟨bo, bcap, rfl, hob⟩ := eOperator_open hb
  obtain ⟨n, hn⟩ : ∃ n, n = xs.length := ⟨_, rfl⟩
  obtain ⟨m, hm⟩ : ∃ m, m = ys.length := ⟨_, rfl⟩
  rw [← hn, ← hm]
  have Hn := Lib.hid hn
  have Hm := Lib.hid hm
  have Ho := Lib.hid ho
  have Hob := Lib.hid hob
  have hle' : n ≤ 9223372036854775807 := by omega
  have hle2 : m ≤ 9223372036854775807 := by omega
  clear ho hob hn hm hle hleb ha hb
  by_cases hnm : n = m
  · subst hnm
    go_enter Tryd.func56, Tryd.ntmps56
    go_wp2
    go_loopw [13] (fun i wr => ∃ k : Nat, k ≤ n ∧ i = .int .i64 k ∧ Hid (xs.take k = ys.take k) ∧ Below w.heap.size w wr) (fun i _ => n - (intOf i).toNat)
    case atStart => exact ⟨0, Nat.zero_le _, rfl, rfl, Below.refl _ _⟩
    case round =>
      obtain ⟨k, hk, rfl, hp, hbb⟩ := hrel
      by_cases hkn : k < n
      · obtain ⟨b, off, rfl, hlt, hc⟩ := Ho.out (by have := Hn.out; omega)
        obtain ⟨x, hx, ⟨c0, c1⟩, bx⟩ := hc k (by have := Hn.out; omega)
        have Hx := Lib.hid hx
        have d0 := (hbb.cell (p := ⟨b, off + k * 2, none⟩) hlt.2).trans c0
        have d1 := (hbb.cell (p := ⟨b, off + k * 2 + 1, none⟩) hlt.2).trans c1
        clear hx hc bx c0 c1
        obtain ⟨b2, off2, rfl, hlt2, hc⟩ := Hob.out (by have := Hm.out; omega)
        obtain ⟨y, hy, ⟨c0, c1⟩, bx⟩ := hc k (by have := Hm.out; omega)
        have Hy := Lib.hid hy
        have f0 := (hbb.cell (p := ⟨b2, off2 + k * 2, none⟩) hlt2.2).trans c0
        have f1 := (hbb.cell (p := ⟨b2, off2 + k * 2 + 1, none⟩) hlt2.2).trans c1
        clear hy hc bx c0 c1
        cases hs : sameOperator x y with
        | true =>
          have hr := fun w => neqOperator_run (x := x) (y := y) w (b := false) (by rw [hs]; rfl)
          have Hs := Lib.hid hs
          clear hs
          go_wp2
          go_quiet (fail)
          clear hr
          go_wp2
          go_roundw
          case rel => exact ⟨k + 1, by omega, by go_num, take_eq_succ hp.out Hx.out Hy.out ((sameOperator_iff _ _).1 Hs.out), hbb.drewNy _⟩
          case measure => simp [intOf]; omega
        | false =>
          have hr := fun w => neqOperator_run (x := x) (y := y) w (b := true) (by rw [hs]; rfl)
          have Hs := Lib.hid hs
          clear hs
          go_wp2
          go_quiet (fail)
          clear hr
          go_wp2
          go_ret
          refine ⟨ret_bool (Eq.symm (decide_eq_false fun h => ?_)), hbb.drewNy _⟩
          have h2 := ne_of_at Hx.out Hy.out (fun h3 => by have := Hs.out; rw [h3, (sameOperator_iff _ _).2 rfl] at this; cases this)
          exact h2 h
      · go_wp2
        go_ret
        refine ⟨ret_bool (Eq.symm (decide_eq_true ?_)), hbb⟩
        have h1 := hp.out
        rw [List.take_of_length_le (by have := Hn.out; omega), List.take_of_length_le (by have := Hm.out; omega)] at h1
        exact h1
  · have hne : ¬ xs = ys := fun e => hnm (by have h1 := Hn.out; have h2 := Hm.out; rw [e] at h1; omega)
    have hne2 : ((n : Int) != (m : Int)) = true := by simpa using fun h : (n : Int) = m => hnm (by omega)
    have Hne := Lib.hid hne
    clear hne hnm
    go_enter Tryd.func56, Tryd.ntmps56
    go_wp2
    go_ret
    exact ⟨ret_bool (by simpa using Hne.out), Below.refl _ _⟩

theorem SameOperators_c {xs ys : List OperatorT} {va vb : Value} {w : World} {A B : Nat} (ha : RdOperatorS A w va xs) (hb : RdOperatorS B w vb ys) :
    Calls Tryd.prog 25 #[va, vb] w fun e w' => e = .returned (.bool (decide (xs = ys))) ∧ Below w.heap.size w w' := by
  obtain ⟨ao, cap, rfl⟩ := ha.shape
  obtain ⟨bo, bcap, rfl⟩ := hb.shape
  have Ha := Lib.hid ha
  have Hb := Lib.hid hb
  clear ha hb
  go_enter Tryd.func25, Tryd.ntmps25
  go_wp2_with fail
  with_reducible refine (equalOperators_c Ha.out Hb.out).mono ?_
  rintro e w1 ⟨rfl, hb1⟩
  go_wp2
  go_ret
  exact ⟨ret_bool (by simp), hb1⟩
end Go.Proofs.YtilgepapkigblaaDoor
