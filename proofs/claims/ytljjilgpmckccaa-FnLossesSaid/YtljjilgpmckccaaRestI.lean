/- Restarts, the walks of the program's own functions. No condition. -/
import Derived.Test.YtljjilgpmckccaaRestW
namespace Go.Proofs.Ytljjilgpmckccaa
open Go.ChangeShapes Go.WideShapes Go.ChangeAt Go.RowKit
set_option linter.unusedVariables false

theorem lossF_bd {ms cs : List Int} {at_ : Int} (ht : Times ms) : 0 ≤ lossF ms cs at_ ∧ lossF ms cs at_ ≤ 200000 := by
  unfold lossF
  have hm : ∀ x ∈ (ms.take (at_.toNat + 1)).drop (fromF cs at_).toNat, 0 ≤ x ∧ x ≤ 10000 := fun x hx => ht.2 x (List.mem_of_mem_take (List.mem_of_mem_drop hx))
  refine ⟨sumI_nonneg fun x hx => (hm x hx).1, ?_⟩
  have h1 := sumI_le (M := 10000) (by omega) fun x hx => (hm x hx).2
  have h2 : ((ms.take (at_.toNat + 1)).drop (fromF cs at_).toNat).length ≤ ms.length := by rw [List.length_drop, List.length_take]; omega
  have := ht.1.2
  omega
/-- the losses for all steps -/
def lossesF (ms cs : List Int) (k : Nat) : List Int := (List.range k).map fun (j : Nat) => lossF ms cs j
theorem lossesF_succ (ms cs : List Int) (k : Nat) : lossesF ms cs (k + 1) = lossesF ms cs k ++ [lossF ms cs k] := by unfold lossesF; rw [List.range_succ, List.map_append]; rfl
theorem lossesF_length (ms cs : List Int) (k : Nat) : (lossesF ms cs k).length = k := by unfold lossesF; simp
theorem lossesF_bd {ms cs : List Int} (ht : Times ms) {k : Nat} {x : Int} (h : x ∈ lossesF ms cs k) : 0 ≤ x ∧ x ≤ 200000 := by
  obtain ⟨j, _, rfl⟩ := List.mem_map.1 h
  exact lossF_bd ht

theorem losses_any {ms cs : List Int} {v u : Value} {w : World} {A B : Nat} (ha : RdI A w v ms) (hA : A ≤ w.heap.size) (hc : RdI B w u cs) (hB : B ≤ w.heap.size) (ht : Times ms) (hk : Checks ms cs) :
    Calls Try.prog 58 #[v, u] w fun e w' => ∃ r, e = .returned r ∧ OwnInt64S w.heap.size w' r (lossesF ms cs ms.length) ∧ Below w.heap.size w w' := by
  obtain ⟨i0, hi, hz0, hz1, hz2⟩ := info_parts Try.infoInt64
  have Ha := Lib.hid ha
  have Hc := Lib.hid hc
  have hml := ht.1.2
  obtain ⟨ao, cap, rfl⟩ := ha.shape
  obtain ⟨ao', cap', rfl⟩ := hc.shape
  obtain ⟨n, hn⟩ : ∃ n, n = ms.length := ⟨_, rfl⟩
  rw [← hn] at Ha hml ⊢
  have Hn := Lib.hid hn
  have Ht := Lib.hid ht
  have Hk := Lib.hid hk
  clear ha hc hn ht hk
  go_enter Try.func58, Try.ntmps58
  go_wp2
  go_loopw [5, 10] (fun v i wr => ∃ k : Nat, k ≤ n ∧ i = .int .i64 k ∧ Own eI 2 w.heap.size wr v (lossesF ms cs k) ∧ Below w.heap.size w wr) (fun _ i _ => n - (intOf i).toNat)
  case atStart =>
    refine ⟨0, Nat.zero_le _, rfl, ?_, (Below.refl _ _).alloc (Nat.le_refl _) _⟩
    exact Own.lit (E := eI) (xs := []) (Nat.le_refl _) rfl rfl (by decide) (fun x hx => by cases hx)
  case round =>
    obtain ⟨k, hk, rfl, hown, hb⟩ := hrel
    have hs : w.heap.size ≤ wr.heap.size := hb.size
    by_cases hkn : k < n
    · have hlb := lossF_bd (cs := cs) (at_ := (k : Int)) Ht.out
      go_wp2_with fail
      refine (lossAt_any (Ha.out.below hb hA) (Hc.out.below hb hB) Ht.out Hk.out (by omega) (by have := Hn.out; omega)).mono ?_
      rintro e w' ⟨rfl, rfl⟩
      obtain ⟨q, hq⟩ : ∃ q, q = lossF ms cs k := ⟨_, rfl⟩
      rw [← hq] at hlb ⊢
      have Hq := Lib.hid hq
      have Hqp : eI.ok q := by show -9223372036854775808 ≤ q ∧ q ≤ 9223372036854775807; omega
      clear hq
      go_wp2_with (first | (at_builtin; refine wpList_appS (E := eI) rfl _ _ 22 rfl Try.underlying22 hi hz0 hz1 hz2 rfl (by decide) rfl rfl (hown.alloc _) (rds_one (E := eI) (x := q) Hqp rfl) ?b1 ?b2 ?b3 ?_))
      case b1 => rw [lossesF_length]; unfold maxLen; simp; omega
      case b2 => rw [lossesF_length]; simp; omega
      case b3 => simp; omega
      intro v' w1 hown' hg
      have hb' : Below w.heap.size w w1 := hg.alloc.below hb hs (fun j hj => (hown.lt j hj).1)
      clear hg hb hown Hqp
      go_wp2
      go_roundw
      case rel => exact ⟨k + 1, by omega, by go_num, by rw [lossesF_succ, ← Hq.out]; exact hown', hb'⟩
      case measure => simp [intOf]; omega
    · go_wp2
      go_ret
      obtain rfl : k = n := by omega
      exact ⟨_, rfl, hown, hb⟩

theorem isStepOf_any {ms : List Int} {v : Value} {w : World} {A : Nat} (at_ : Int) (ha : RdI A w v ms) (hl : ms.length ≤ 1000000000) :
    Calls Try.prog 53 #[v, .int .i64 at_] w fun e w' => e = .returned (.bool (decide (0 ≤ at_ ∧ at_ ≤ (ms.length : Int) - 1))) ∧ w = w' := by
  have Ha := Lib.hid ha
  obtain ⟨ao, cap, rfl⟩ := ha.shape
  clear ha
  go_enter Try.func53, Try.ntmps53
  go_wp2_with fail
  refine (size_any Ha.out).mono ?_
  rintro e w' ⟨rfl, rfl⟩
  go_wp2_with fail
  refine (inside_any _ _ _ _).mono ?_
  rintro e w' ⟨rfl, rfl⟩
  go_wp2
  go_ret
  exact ⟨ret_bool (by simp), rfl⟩

/-- the law's own results -/
noncomputable def LostR (ms cs : List Int) (at_ : Int) : Int := if codeF ms cs (decide (0 ≤ at_ ∧ at_ ≤ (ms.length : Int) - 1)) = 0 then lossF ms cs at_ else 0
theorem codeF_zero {ms cs : List Int} {b : Bool} (h : codeF ms cs b = 0) : Times ms ∧ Checks ms cs ∧ b = true := by
  unfold codeF at h
  split at h
  · split at h
    · rename_i h1 h2; exact ⟨h1, h2⟩
    · omega
  · omega
theorem LostWork_c {ms cs : List Int} {at_ : Int} (hl : ms.length ≤ 1048576) (w : World) (A : Nat) (v : Value) (ha : RdI A w v ms) (B : Nat) (u : Value) (hc : RdI B w u cs) :
    Calls Try.prog 15 #[v, u, .int .i64 at_] w fun e w' => e = .returned (.tuple #[.int .i64 (LostR ms cs at_), .int .i64 (codeF ms cs (decide (0 ≤ at_ ∧ at_ ≤ (ms.length : Int) - 1)))]) ∧ Below w.heap.size w w' := by
  have Ha := Lib.hid ha
  have Hc := Lib.hid hc
  obtain ⟨ao, cap, rfl⟩ := ha.shape
  obtain ⟨ao', cap', rfl⟩ := hc.shape
  clear ha hc
  unfold LostR
  obtain ⟨c, hc⟩ : ∃ c, c = codeF ms cs (decide (0 ≤ at_ ∧ at_ ≤ (ms.length : Int) - 1)) := ⟨_, rfl⟩
  rw [← hc]
  by_cases h0 : c = 0
  · rw [if_pos h0]
    have hz := codeF_zero (hc.symm.trans h0)
    have Hz := Lib.hid hz
    subst h0
    have Hcc := Lib.hid hc
    clear hc hz
    go_enter Try.func15, Try.ntmps15
    go_wp2_with fail
    refine (isStepOf_any at_ Ha.out (by omega)).mono ?_
    rintro e w' ⟨rfl, rfl⟩
    go_wp2_with fail
    refine (checkCode_any _ Ha.out Hc.out).mono ?_
    rw [show ((decide (0 ≤ at_) && decide (at_ ≤ (ms.length : Int) - 1)) : Bool) = decide (0 ≤ at_ ∧ at_ ≤ (ms.length : Int) - 1) by simp, ← Hcc.out]
    rintro e w' ⟨rfl, rfl⟩
    go_wp2_with fail
    have hz2 := of_decide_eq_true Hz.out.2.2
    refine (lossAt_any Ha.out Hc.out Hz.out.1 Hz.out.2.1 hz2.1 (by omega)).mono ?_
    rintro e w' ⟨rfl, rfl⟩
    clear hz2
    go_wp2
    go_ret2
    exact ⟨rfl, Below.refl _ _⟩
  · rw [if_neg h0]
    have Hcc := Lib.hid hc
    clear hc
    have hne : (c != 0) = true := by simpa using h0
    clear h0
    go_enter Try.func15, Try.ntmps15
    go_wp2_with fail
    refine (isStepOf_any at_ Ha.out (by omega)).mono ?_
    rintro e w' ⟨rfl, rfl⟩
    go_wp2_with fail
    refine (checkCode_any _ Ha.out Hc.out).mono ?_
    rw [show ((decide (0 ≤ at_) && decide (at_ ≤ (ms.length : Int) - 1)) : Bool) = decide (0 ≤ at_ ∧ at_ ≤ (ms.length : Int) - 1) by simp, ← Hcc.out]
    rintro e w' ⟨rfl, rfl⟩
    go_wp2
    go_ret2
    exact ⟨rfl, Below.refl _ _⟩
/-- a code that a caller looks at: it is 0 with all that it says, or not 0 -/
theorem code_ne {c : Int} (h : c ≠ 0) : (c != 0) = true := by simpa using h
noncomputable def WorstR (ms cs : List Int) : Int := if codeF ms cs true = 0 then maxL (lossesF ms cs ms.length) else 0
noncomputable def SumLR (ms cs : List Int) : Int := if codeF ms cs true = 0 then sumI (lossesF ms cs ms.length) else 0
theorem WorstLoss_c {ms cs : List Int} (w : World) (A : Nat) (hA : A ≤ w.heap.size) (v : Value) (ha : RdI A w v ms) (B : Nat) (hB : B ≤ w.heap.size) (u : Value) (hc : RdI B w u cs) :
    Calls Try.prog 28 #[v, u] w fun e w' => e = .returned (.tuple #[.int .i64 (WorstR ms cs), .int .i64 (codeF ms cs true)]) ∧ Below w.heap.size w w' := by
  have Ha := Lib.hid ha
  have Hc := Lib.hid hc
  obtain ⟨ao, cap, rfl⟩ := ha.shape
  obtain ⟨ao', cap', rfl⟩ := hc.shape
  clear ha hc
  unfold WorstR
  obtain ⟨c, hc⟩ : ∃ c, c = codeF ms cs true := ⟨_, rfl⟩
  rw [← hc]
  by_cases h0 : c = 0
  · rw [if_pos h0]
    have hz := codeF_zero (hc.symm.trans h0)
    have Hz := Lib.hid hz
    subst h0
    have Hcc := Lib.hid hc
    clear hc hz
    go_enter Try.func28, Try.ntmps28
    go_wp2_with fail
    refine (checkCode_any _ Ha.out Hc.out).mono ?_
    rw [← Hcc.out]
    rintro e w' ⟨rfl, rfl⟩
    go_wp2_with fail
    refine (losses_any Ha.out hA Hc.out hB Hz.out.1 Hz.out.2.1).mono ?_
    rintro e w1 ⟨r, rfl, ho, hb⟩
    go_wp2_with fail
    refine (Max_any ho.rds (by rw [lossesF_length]; exact Hz.out.1.1.1)).mono ?_
    rintro e w' ⟨rfl, rfl⟩
    go_wp2
    go_ret2
    exact ⟨rfl, hb⟩
  · rw [if_neg h0]
    have Hcc := Lib.hid hc
    have hne := code_ne h0
    clear hc h0
    go_enter Try.func28, Try.ntmps28
    go_wp2_with fail
    refine (checkCode_any _ Ha.out Hc.out).mono ?_
    rw [← Hcc.out]
    rintro e w' ⟨rfl, rfl⟩
    go_wp2
    go_ret2
    exact ⟨rfl, Below.refl _ _⟩
theorem SumOfLosses_c {ms cs : List Int} (w : World) (A : Nat) (hA : A ≤ w.heap.size) (v : Value) (ha : RdI A w v ms) (B : Nat) (hB : B ≤ w.heap.size) (u : Value) (hc : RdI B w u cs) :
    Calls Try.prog 20 #[v, u] w fun e w' => e = .returned (.tuple #[.int .i64 (SumLR ms cs), .int .i64 (codeF ms cs true)]) ∧ Below w.heap.size w w' := by
  have Ha := Lib.hid ha
  have Hc := Lib.hid hc
  obtain ⟨ao, cap, rfl⟩ := ha.shape
  obtain ⟨ao', cap', rfl⟩ := hc.shape
  clear ha hc
  unfold SumLR
  obtain ⟨c, hc⟩ : ∃ c, c = codeF ms cs true := ⟨_, rfl⟩
  rw [← hc]
  by_cases h0 : c = 0
  · rw [if_pos h0]
    have hz := codeF_zero (hc.symm.trans h0)
    have Hz := Lib.hid hz
    subst h0
    have Hcc := Lib.hid hc
    clear hc hz
    go_enter Try.func20, Try.ntmps20
    go_wp2_with fail
    refine (checkCode_any _ Ha.out Hc.out).mono ?_
    rw [← Hcc.out]
    rintro e w' ⟨rfl, rfl⟩
    go_wp2_with fail
    refine (losses_any Ha.out hA Hc.out hB Hz.out.1 Hz.out.2.1).mono ?_
    rintro e w1 ⟨r, rfl, ho, hb⟩
    go_wp2_with fail
    refine (sumOf_any ho.rds (fun x hx => by have := lossesF_bd Hz.out.1 hx; omega) (by rw [lossesF_length]; have := Hz.out.1.1.2; omega)).mono ?_
    rintro e w' ⟨rfl, rfl⟩
    go_wp2
    go_ret2
    exact ⟨rfl, hb⟩
  · rw [if_neg h0]
    have Hcc := Lib.hid hc
    have hne := code_ne h0
    clear hc h0
    go_enter Try.func20, Try.ntmps20
    go_wp2_with fail
    refine (checkCode_any _ Ha.out Hc.out).mono ?_
    rw [← Hcc.out]
    rintro e w' ⟨rfl, rfl⟩
    go_wp2
    go_ret2
    exact ⟨rfl, Below.refl _ _⟩
noncomputable def TotalB (ms : List Int) (at_ save : Int) : Bool := decide (0 ≤ at_ ∧ at_ ≤ (ms.length : Int) - 1) && decide (0 ≤ save ∧ save ≤ 10000)
noncomputable def TotalR (ms cs : List Int) (at_ save : Int) : Int := if codeF ms cs (TotalB ms at_ save) = 0 then sumI ms + lossF ms cs at_ + save * cs.length else 0
theorem Checks.length_le {ms cs : List Int} (h : Checks ms cs) (ht : Times ms) : cs.length ≤ 20 := by
  have e := dS_all h
  have : ∀ k, dS cs k ≤ k := by
    intro k
    induction k with
    | zero => simp [dS]
    | succ k ih => rw [dS]; split <;> omega
  have := this ms.length
  have := ht.1.2
  omega
theorem mul_bd2 (a b A B : Int) (ha : 0 ≤ a) (hA : a ≤ A) (hb : 0 ≤ b) (hB : b ≤ B) : 0 ≤ a * b ∧ a * b ≤ A * B :=
  ⟨Int.mul_nonneg ha hb, Int.mul_le_mul hA hB hb (by omega)⟩
theorem Times.sum {ms : List Int} (ht : Times ms) : 0 ≤ sumI ms ∧ sumI ms ≤ 200000 := by
  refine ⟨sumI_nonneg fun x hx => (ht.2 x hx).1, ?_⟩
  have h1 := sumI_le (M := 10000) (by omega) fun x hx => (ht.2 x hx).2
  have := ht.1.2
  omega
theorem TotalWithFailure_c {ms cs : List Int} {at_ save : Int} (hl : ms.length ≤ 1048576) (w : World) (A : Nat) (v : Value) (ha : RdI A w v ms) (B : Nat) (u : Value) (hc : RdI B w u cs) :
    Calls Try.prog 18 #[v, u, .int .i64 at_, .int .i64 save] w fun e w' => e = .returned (.tuple #[.int .i64 (TotalR ms cs at_ save), .int .i64 (codeF ms cs (TotalB ms at_ save))]) ∧ Below w.heap.size w w' := by
  have Ha := Lib.hid ha
  have Hc := Lib.hid hc
  obtain ⟨ao, cap, rfl⟩ := ha.shape
  obtain ⟨ao', cap', rfl⟩ := hc.shape
  clear ha hc
  unfold TotalR
  obtain ⟨c, hc⟩ : ∃ c, c = codeF ms cs (TotalB ms at_ save) := ⟨_, rfl⟩
  rw [← hc]
  by_cases h0 : c = 0
  · rw [if_pos h0]
    have hz := codeF_zero (hc.symm.trans h0)
    have Hz := Lib.hid hz
    subst h0
    have Hcc := Lib.hid hc
    have hin : (0 ≤ at_ ∧ at_ ≤ (ms.length : Int) - 1) ∧ (0 ≤ save ∧ save ≤ 10000) := by
      have := hz.2.2; unfold TotalB at this; simpa using this
    have hbt : TotalB ms at_ save = true := hz.2.2
    have Hbt := Lib.hid hbt
    have hcl := hz.2.1.length_le hz.1
    have hlb := lossF_bd (cs := cs) (at_ := at_) hz.1
    have hsb := hz.1.sum
    have hmb := mul_bd2 save cs.length 10000 20 hin.2.1 hin.2.2 (by omega) (by omega)
    clear hc hz hbt
    go_enter Try.func18, Try.ntmps18
    go_wp2_with fail
    refine (isStepOf_any at_ Ha.out (by omega)).mono ?_
    rintro e w' ⟨rfl, rfl⟩
    go_wp2_with fail
    refine (inside_yes _ _ _ _ (by omega) (by omega)).mono ?_
    rintro e w' ⟨rfl, rfl⟩
    go_wp2_with fail
    refine (checkCode_any true Ha.out Hc.out).mono ?_
    rw [show codeF ms cs true = 0 by have := Hcc.out; rw [Hbt.out] at this; exact this.symm]
    rintro e w' ⟨rfl, rfl⟩
    go_wp2_with fail
    refine (sumOf_any Ha.out (fun x hx => by have := Hz.out.1.2 x hx; omega) (by have := Hz.out.1.1.2; omega)).mono ?_
    rintro e w' ⟨rfl, rfl⟩
    go_wp2_with fail
    refine (lossAt_any Ha.out Hc.out Hz.out.1 Hz.out.2.1 hin.1.1 (by omega)).mono ?_
    rintro e w' ⟨rfl, rfl⟩
    go_wp2_with fail
    refine (size_any Hc.out).mono ?_
    rintro e w' ⟨rfl, rfl⟩
    go_wp2
    go_ret2
    exact ⟨rfl, Below.refl _ _⟩
  · rw [if_neg h0]
    have Hcc := Lib.hid hc
    have hne := code_ne h0
    clear hc h0
    by_cases hin : 0 ≤ at_ ∧ at_ ≤ (ms.length : Int) - 1
    · have hd1 : decide (0 ≤ at_) = true := by simp [hin.1]
      have hd2 : decide (at_ ≤ (ms.length : Int) - 1) = true := by simp [hin.2]
      have hbt : TotalB ms at_ save = decide (0 ≤ save ∧ save ≤ 10000) := by unfold TotalB; simp [hin]
      have Hbt := Lib.hid hbt
      clear hbt hd1 hd2
      go_enter Try.func18, Try.ntmps18
      go_wp2_with fail
      refine (isStepOf_any at_ Ha.out (by omega)).mono ?_
      rintro e w' ⟨rfl, rfl⟩
      go_wp2_with fail
      refine (inside_any _ _ _ _).mono ?_
      rintro e w' ⟨rfl, rfl⟩
      go_wp2_with fail
      refine (checkCode_any _ Ha.out Hc.out).mono ?_
      rw [show ((decide (0 ≤ save) && decide (save ≤ 10000)) : Bool) = TotalB ms at_ save by rw [Hbt.out]; simp, ← Hcc.out]
      rintro e w' ⟨rfl, rfl⟩
      go_wp2
      go_ret2
      exact ⟨rfl, Below.refl _ _⟩
    · have hbt : TotalB ms at_ save = false := by unfold TotalB; simp; intro h1 h2; exact absurd ⟨h1, by omega⟩ hin
      have hd : (decide (0 ≤ at_ ∧ at_ ≤ (ms.length : Int) - 1)) = false := by simpa using fun h1 => by omega
      have Hd := Lib.hid hd
      have Hbt := Lib.hid hbt
      clear hbt hin hd
      go_enter Try.func18, Try.ntmps18
      go_wp2_with fail
      refine (isStepOf_any at_ Ha.out (by omega)).mono ?_
      rw [Hd.out]
      rintro e w' ⟨rfl, rfl⟩
      go_wp2_with fail
      refine (checkCode_any false Ha.out Hc.out).mono ?_
      rw [show codeF ms cs false = c by rw [Hcc.out, Hbt.out]]
      rintro e w' ⟨rfl, rfl⟩
      go_wp2
      go_ret2
      exact ⟨rfl, Below.refl _ _⟩

theorem grOut_ok {ms : List Int} {L : Int} (hl : ms.length ≤ 20) {k : Nat} (hk : k ≤ ms.length) : ∀ x ∈ grOut ms L k, eI.ok x := by
  intro x hx
  have := grOut_mem hx
  show -9223372036854775808 ≤ x ∧ x ≤ 9223372036854775807
  omega
theorem checksFor_any {ms : List Int} {v : Value} {w : World} {A : Nat} {L : Int} (ha : RdI A w v ms) (hA : A ≤ w.heap.size) (ht : Times ms) (hL : 0 ≤ L ∧ L ≤ 1000000000) :
    Calls Try.prog 62 #[v, .int .i64 L] w fun e w' => ∃ r, e = .returned r ∧ OwnInt64S w.heap.size w' r (checksF ms L) ∧ Below w.heap.size w w' := by
  obtain ⟨i0, hi, hz0, hz1, hz2⟩ := info_parts Try.infoInt64
  have hml := ht.1.2
  have hml1 := ht.1.1
  obtain ⟨ao, cap, hv, hoa⟩ := ha.open
  obtain ⟨b, off, rfl, hlt, hc⟩ := hoa (by omega)
  subst hv
  obtain ⟨n, hn⟩ : ∃ n, n = ms.length := ⟨_, rfl⟩
  rw [← hn] at hml ⊢
  have Hn := Lib.hid hn
  have Ht := Lib.hid ht
  have Hcell := Lib.hid hc
  have hbl := hlt.2
  clear ha hn ht hc hoa hlt hml1
  go_enter Try.func62, Try.ntmps62
  go_wp2
  go_loopw [5, 6, 12] (fun v s i wr => ∃ k : Nat, k ≤ n ∧ i = .int .i64 k ∧ (∃ t : Int, s = .int .i64 t ∧ Hid (t = grSum ms L k)) ∧ Own eI 2 w.heap.size wr v (grOut ms L k) ∧ Below w.heap.size w wr) (fun _ _ i _ => n - (intOf i).toNat)
  case atStart =>
    refine ⟨0, Nat.zero_le _, rfl, ⟨0, rfl, rfl⟩, ?_, (Below.refl _ _).alloc (Nat.le_refl _) _⟩
    exact Own.lit (E := eI) (xs := []) (Nat.le_refl _) rfl rfl (by decide) (fun x hx => by cases hx)
  case round =>
    obtain ⟨k, hk, rfl, ⟨t, rfl, htt⟩, hown, hb⟩ := hrel
    have hs : w.heap.size ≤ wr.heap.size := hb.size
    by_cases hkn : k < n
    · obtain ⟨x, hx, hcx, bx⟩ := Hcell.out k (by have := Hn.out; omega)
      have hxb := Ht.out.at hx
      have htb := grSum_bd (L := L) Ht.out (k := k) (by have := Hn.out; omega)
      rw [← htt.out] at htb
      have hcx' : wr.cell? ⟨b, off + k, none⟩ = some (.int .i64 x) := (hb.cell (p := ⟨b, off + k, none⟩) hbl).trans hcx
      have Hx := Lib.hid hx
      clear hx hcx bx
      by_cases hcut : L < t + x
      · have e1 : grOut ms L (k + 1) = grOut ms L k ++ [(k : Int)] := by rw [grOut_succ Hx.out, ← htt.out, if_pos hcut]
        have e2 : grSum ms L (k + 1) = x := by rw [grSum_succ Hx.out, ← htt.out, if_pos hcut]
        have E1 := Lib.hid e1
        have E2 := Lib.hid e2
        have Hkp : eI.ok (k : Int) := by show -9223372036854775808 ≤ (k : Int) ∧ (k : Int) ≤ 9223372036854775807; omega
        have hgl := grOut_length ms L k
        clear e1 e2
        go_wp2_with (first | (at_builtin; refine wpList_appS (E := eI) rfl _ _ 22 rfl Try.underlying22 hi hz0 hz1 hz2 rfl (by decide) rfl rfl (hown.alloc _) (rds_one (E := eI) (x := (k : Int)) Hkp rfl) ?b1 ?b2 ?b3 ?_))
        case b1 => unfold maxLen; simp; omega
        case b2 => simp; omega
        case b3 => simp; omega
        intro v' w1 hown' hg
        have hb' : Below w.heap.size w w1 := hg.alloc.below hb hs (fun j hj => (hown.lt j hj).1)
        clear hg hb hown Hkp hcx' hgl
        go_wp2
        go_roundw
        case rel => exact ⟨k + 1, by omega, by go_num, ⟨x, by go_num, E2.out.symm⟩, by rw [E1.out]; exact hown', hb'⟩
        case measure => simp [intOf]; omega
      · have e1 : grOut ms L (k + 1) = grOut ms L k := by rw [grOut_succ Hx.out, ← htt.out, if_neg hcut]
        have e2 : grSum ms L (k + 1) = t + x := by rw [grSum_succ Hx.out, ← htt.out, if_neg hcut]
        have E1 := Lib.hid e1
        have E2 := Lib.hid e2
        clear e1 e2
        go_wp2
        go_roundw
        case rel => exact ⟨k + 1, by omega, by go_num, ⟨t + x, by go_num, E2.out.symm⟩, by rw [E1.out]; exact hown, hb⟩
        case measure => simp [intOf]; omega
    · go_wp2
      go_ret
      obtain rfl : k = n := by omega
      exact ⟨_, rfl, by unfold checksF; rw [← Hn.out]; exact hown, hb⟩
open Classical in
/-- the code of ChecksFor -/
noncomputable def CFc (ms : List Int) (L : Int) : Int := if codeF ms [] (decide (0 ≤ L ∧ L ≤ 200000)) = 0 then (if ∀ x ∈ ms, x ≤ L then 0 else 3) else codeF ms [] (decide (0 ≤ L ∧ L ≤ 200000))
open Classical in
noncomputable def CFr (ms : List Int) (L : Int) : List Int := if CFc ms L = 0 then checksF ms L else []
theorem Times.max {ms : List Int} (ht : Times ms) : (∀ x ∈ ms, x ≤ maxL ms) ∧ maxL ms ∈ ms := maxL_all (fun e => by have := ht.1.1; rw [e] at this; simp at this)
theorem ChecksFor_c {ms : List Int} {L : Int} (w : World) (A : Nat) (hA : A ≤ w.heap.size) (v : Value) (ha : RdI A w v ms) :
    Calls Try.prog 22 #[v, .int .i64 L] w fun e w' => ∃ r, e = .returned (.tuple #[r, .int .i64 (CFc ms L)]) ∧ OwnInt64S w.heap.size w' r (CFr ms L) ∧ Below w.heap.size w w' := by
  have Ha := Lib.hid ha
  obtain ⟨ao, cap, rfl⟩ := ha.shape
  clear ha
  unfold CFr
  obtain ⟨c, hc⟩ : ∃ c, c = codeF ms [] (decide (0 ≤ L ∧ L ≤ 200000)) := ⟨_, rfl⟩
  by_cases h0 : c = 0
  · have hz := codeF_zero (hc.symm.trans h0)
    have Hz := Lib.hid hz
    subst h0
    have Hcc := Lib.hid hc
    have hL := of_decide_eq_true hz.2.2
    by_cases hall : ∀ x ∈ ms, x ≤ L
    · have e : CFc ms L = 0 := by unfold CFc; rw [if_pos hc.symm, if_pos hall]
      rw [e, if_pos rfl]
      have hm : ¬ (L < maxL ms) := by have := hall _ hz.1.max.2; omega
      clear hc hz e hall
      go_enter Try.func22, Try.ntmps22
      go_wp2_with fail
      refine (inside_any _ _ _ _).mono ?_
      rintro e w' ⟨rfl, rfl⟩
      go_wp2_with fail
      refine (checkCode_any _ Ha.out (Rds.nil eI 0 w)).mono ?_
      rw [codeF_ok Hz.out.1 Hz.out.2.1 rfl]
      rintro e w' ⟨rfl, rfl⟩
      go_wp2_with fail
      refine (Max_any Ha.out (by have := Hz.out.1.1.1; omega)).mono ?_
      rintro e w' ⟨rfl, rfl⟩
      go_wp2_with fail
      refine (checksFor_any Ha.out hA Hz.out.1 (by omega)).mono ?_
      rintro e w1 ⟨r, rfl, ho, hb⟩
      go_wp2
      go_ret2
      exact ⟨_, rfl, ho, hb⟩
    · have e : CFc ms L = 3 := by unfold CFc; rw [if_pos hc.symm, if_neg hall]
      rw [e, if_neg (by omega)]
      have hm : L < maxL ms := by
        apply Classical.byContradiction
        intro h
        exact hall fun x hx => by have := hz.1.max.1 x hx; omega
      clear hc hz e hall
      go_enter Try.func22, Try.ntmps22
      go_wp2_with fail
      refine (inside_any _ _ _ _).mono ?_
      rintro e w' ⟨rfl, rfl⟩
      go_wp2_with fail
      refine (checkCode_any _ Ha.out (Rds.nil eI 0 w)).mono ?_
      rw [codeF_ok Hz.out.1 Hz.out.2.1 rfl]
      rintro e w' ⟨rfl, rfl⟩
      go_wp2_with fail
      refine (Max_any Ha.out (by have := Hz.out.1.1.1; omega)).mono ?_
      rintro e w' ⟨rfl, rfl⟩
      go_wp2
      go_ret2
      exact ⟨_, rfl, Own.nil _ _ _ _, Below.refl _ _⟩
  · have e : CFc ms L = c := by unfold CFc; rw [if_neg (by rw [← hc]; exact h0), ← hc]
    rw [e, if_neg h0]
    have Hcc := Lib.hid hc
    have hne := code_ne h0
    clear hc h0 e
    go_enter Try.func22, Try.ntmps22
    go_wp2_with fail
    refine (inside_any _ _ _ _).mono ?_
    rintro e w' ⟨rfl, rfl⟩
    go_wp2_with fail
    refine (checkCode_any _ Ha.out (Rds.nil eI 0 w)).mono ?_
    rw [show ((decide (0 ≤ L) && decide (L ≤ 200000)) : Bool) = decide (0 ≤ L ∧ L ≤ 200000) by simp, ← Hcc.out]
    rintro e w' ⟨rfl, rfl⟩
    go_wp2
    go_ret2
    exact ⟨_, rfl, Own.nil _ _ _ _, Below.refl _ _⟩

open Classical in
/-- the least limit under which so few checkpoints serve -/
theorem least_ex {ms : List Int} {count : Int} (ht : Times ms) (h0 : 0 ≤ count) : ∃ L : Int, (maxL ms ≤ L ∧ L ≤ 200000 ∧ ((checksF ms L).length : Int) ≤ count) ∧ ∀ M, maxL ms ≤ M → ((checksF ms M).length : Int) ≤ count → L ≤ M := by
  have hmx := ht.max
  have hm0 := ht.2 _ hmx.2
  have key : ∀ d : Nat, ∀ L0 : Int, maxL ms ≤ L0 → L0 = 200000 - d → (∀ M, maxL ms ≤ M → M < L0 → ¬ ((checksF ms M).length : Int) ≤ count) →
      ∃ L : Int, (maxL ms ≤ L ∧ L ≤ 200000 ∧ ((checksF ms L).length : Int) ≤ count) ∧ ∀ M, maxL ms ≤ M → ((checksF ms M).length : Int) ≤ count → L ≤ M := by
    intro d
    induction d with
    | zero =>
      intro L0 h1 h2 h3
      refine ⟨L0, ⟨h1, by omega, by rw [greedy_none ht (by omega)]; simpa using h0⟩, fun M hM hc => ?_⟩
      apply Classical.byContradiction
      intro hlt
      exact h3 M hM (by omega) hc
    | succ d ih =>
      intro L0 h1 h2 h3
      by_cases hc : ((checksF ms L0).length : Int) ≤ count
      · refine ⟨L0, ⟨h1, by omega, hc⟩, fun M hM hc' => ?_⟩
        apply Classical.byContradiction
        intro hlt
        exact h3 M hM (by omega) hc'
      · refine ih (L0 + 1) (by omega) (by omega) fun M hM hlt => ?_
        by_cases e : M = L0
        · rw [e]; exact hc
        · exact h3 M hM (by omega)
  exact key (200000 - maxL ms).toNat (maxL ms) (Int.le_refl _) (by omega) fun M h1 h2 => by omega
open Classical in
noncomputable def leastL (ms : List Int) (count : Int) : Int := if h : Times ms ∧ 0 ≤ count then (least_ex h.1 h.2).choose else 0
theorem leastL_spec {ms : List Int} {count : Int} (ht : Times ms) (h0 : 0 ≤ count) : (maxL ms ≤ leastL ms count ∧ leastL ms count ≤ 200000 ∧ ((checksF ms (leastL ms count)).length : Int) ≤ count) ∧ ∀ M, maxL ms ≤ M → ((checksF ms M).length : Int) ≤ count → leastL ms count ≤ M := by
  unfold leastL
  rw [dif_pos ⟨ht, h0⟩]
  exact (least_ex ht h0).choose_spec
noncomputable def BCc (ms : List Int) (count : Int) : Int := codeF ms [] (decide (0 ≤ count ∧ count ≤ (ms.length : Int) - 1))
noncomputable def BCr (ms : List Int) (count : Int) : List Int := if BCc ms count = 0 then checksF ms (leastL ms count) else []
theorem BestChecks_c {ms : List Int} {count : Int} (hl : ms.length ≤ 1048576) (w : World) (A : Nat) (hA : A ≤ w.heap.size) (v : Value) (ha : RdI A w v ms) :
    Calls Try.prog 26 #[v, .int .i64 count] w fun e w' => ∃ r, e = .returned (.tuple #[r, .int .i64 (BCc ms count)]) ∧ OwnInt64S w.heap.size w' r (BCr ms count) ∧ Below w.heap.size w w' := by
  have Ha := Lib.hid ha
  obtain ⟨ao, cap, rfl⟩ := ha.shape
  clear ha
  unfold BCr
  obtain ⟨c, hc⟩ : ∃ c, c = BCc ms count := ⟨_, rfl⟩
  rw [← hc]
  by_cases h0 : c = 0
  · rw [if_pos h0]
    have hz := codeF_zero (b := (decide (0 ≤ count ∧ count ≤ (ms.length : Int) - 1))) (by show BCc ms count = 0; rw [← hc]; exact h0)
    have Hz := Lib.hid hz
    subst h0
    have hL := of_decide_eq_true hz.2.2
    have hsp := leastL_spec hz.1 hL.1
    have Hsp := Lib.hid hsp
    have hm0 := hz.1.2 _ hz.1.max.2
    clear hc hz hsp
    go_enter Try.func26, Try.ntmps26
    go_wp2_with fail
    refine (size_any Ha.out).mono ?_
    rintro e w' ⟨rfl, rfl⟩
    go_wp2_with fail
    refine (inside_any _ _ _ _).mono ?_
    rintro e w' ⟨rfl, rfl⟩
    go_wp2_with fail
    refine (checkCode_any _ Ha.out (Rds.nil eI 0 w)).mono ?_
    rw [codeF_ok Hz.out.1 Hz.out.2.1 rfl]
    rintro e w' ⟨rfl, rfl⟩
    go_wp2_with fail
    refine (Max_any Ha.out (by have := Hz.out.1.1.1; omega)).mono ?_
    rintro e w' ⟨rfl, rfl⟩
    go_wp2_with fail
    go_loopw [7] (fun l wr => ∃ L : Int, maxL ms ≤ L ∧ L ≤ leastL ms count ∧ l = .int .i64 L ∧ Below w.heap.size w wr) (fun l _ => (leastL ms count - intOf l).toNat)
    case atStart => exact ⟨_, Int.le_refl _, Hsp.out.1.1, rfl, Below.refl _ _⟩
    case round =>
      obtain ⟨L, hLm, hLl, rfl, hb⟩ := hrel
      have hle := Hsp.out.1.2.1
      go_wp2_with fail
      refine (checksFor_any (Ha.out.below hb hA) (by have := hb.size; omega) Hz.out.1 (by omega)).mono ?_
      rintro e w1 ⟨r, rfl, ho, hb1⟩
      go_wp2_with fail
      refine (size_any ho.rds).mono ?_
      rintro e w' ⟨rfl, rfl⟩
      have hb2 : Below w.heap.size w w1 := hb.trans (hb1.mono hb.size)
      by_cases hfew : ((checksF ms L).length : Int) ≤ count
      · have e : L = leastL ms count := by have := Hsp.out.2 L hLm hfew; omega
        have E := Lib.hid e
        clear e ho hb hb1
        go_wp2_with fail
        refine (checksFor_any (Ha.out.below hb2 hA) (by have := hb2.size; omega) Hz.out.1 (by omega)).mono ?_
        rintro e w3 ⟨r3, rfl, ho3, hb3⟩
        go_wp2
        go_ret2
        refine ⟨_, rfl, ?_, hb2.trans (hb3.mono hb2.size)⟩
        rw [← E.out]
        exact ho3.mono hb2.size
      · have hlt : L < leastL ms count := by
          apply Classical.byContradiction
          intro h
          have e : L = leastL ms count := by omega
          exact hfew (by rw [e]; exact Hsp.out.1.2.2)
        clear ho hb hb1
        go_wp2
        go_roundw
        case rel => exact ⟨L + 1, by omega, by omega, by go_num, hb2⟩
        case measure => simp [intOf]; omega
  · rw [if_neg h0]
    have Hcc := Lib.hid hc
    have hne := code_ne h0
    clear hc h0
    go_enter Try.func26, Try.ntmps26
    go_wp2_with fail
    refine (size_any Ha.out).mono ?_
    rintro e w' ⟨rfl, rfl⟩
    go_wp2_with fail
    refine (inside_any _ _ _ _).mono ?_
    rintro e w' ⟨rfl, rfl⟩
    go_wp2_with fail
    refine (checkCode_any _ Ha.out (Rds.nil eI 0 w)).mono ?_
    rw [show ((decide (0 ≤ count) && decide (count ≤ (ms.length : Int) - 1)) : Bool) = decide (0 ≤ count ∧ count ≤ (ms.length : Int) - 1) by simp, show codeF ms [] (decide (0 ≤ count ∧ count ≤ (ms.length : Int) - 1)) = c from Hcc.out.symm]
    rintro e w' ⟨rfl, rfl⟩
    go_wp2
    go_ret2
    exact ⟨_, rfl, Own.nil _ _ _ _, Below.refl _ _⟩
end Go.Proofs.Ytljjilgpmckccaa
