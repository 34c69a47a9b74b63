/- Restarts, the walks of the reference's functions. No condition. -/
import Derived.Test.YtljjilgpmckccaaRestI
namespace Go.Proofs.Ytljjilgpmckccaa
open Go.ChangeShapes Go.WideShapes Go.ChangeAt Go.RowKit
set_option linter.unusedVariables false

theorem l20Ok_any {ms : List Int} {v : Value} {w : World} {A : Nat} (ha : RdI A w v ms) :
    Calls Try.prog 59 #[v] w fun e w' => (∃ b : Bool, e = .returned (.bool b) ∧ (b = true ↔ Times ms)) ∧ w = w' := by
  have hle := ha.le
  obtain ⟨ao, cap, rfl, ho⟩ := ha.open
  obtain ⟨n, hn⟩ : ∃ n, n = ms.length := ⟨_, rfl⟩
  rw [← hn]
  have Hn := Lib.hid hn
  have Ho := Lib.hid ho
  have hn' : n ≤ 9223372036854775807 := by omega
  clear ho hn hle ha
  go_enter Try.func59, Try.ntmps59
  go_wp2
  go_loop [3] (fun i => ∃ k : Nat, k ≤ n ∧ i = .int .i64 k ∧ Hid (∀ j x, j < k → ms[j]? = some x → 0 ≤ x ∧ x ≤ 10000)) (fun i => n - (intOf i).toNat)
  case atStart => exact ⟨0, Nat.zero_le _, rfl, fun j x h => by omega⟩
  case round =>
    obtain ⟨k, hk, rfl, hp⟩ := hrel
    by_cases hkn : k < n
    · obtain ⟨b, off, rfl, hlt, hc⟩ := Ho.out (by have := Hn.out; omega)
      obtain ⟨x, hx, hcx, bx⟩ := hc k (by have := Hn.out; omega)
      have Hx := Lib.hid hx
      clear hx hc
      by_cases hr : 0 ≤ x ∧ x ≤ 10000
      · go_wp2_with (go_at_call 50; refine (l00In_yes _ _ _ _ (by omega) (by omega)).mono ?_; rintro e w' ⟨rfl, rfl⟩)
        go_round
        case rel =>
          refine ⟨k + 1, by omega, by go_num, ?_⟩
          intro j y hj hy
          by_cases e : j < k
          · exact hp.out j y e hy
          · obtain rfl : j = k := by omega
            rw [Hx.out] at hy
            obtain rfl := Option.some.inj hy
            exact hr
        case measure => simp [intOf]; omega
      · have hr' : x < 0 ∨ 10000 < x := by omega
        have Hr := Lib.hid hr'
        clear hr hr'
        go_wp2_with (go_at_call 50; refine (l00In_no _ _ _ _ Hr.out).mono ?_; rintro e w' ⟨rfl, rfl⟩)
        go_ret
        exact ⟨⟨false, rfl, by simp; intro h; have := h.at Hx.out; have := Hr.out; omega⟩, rfl⟩
    · go_wp2_with fail
      refine (l00In_any _ _ _ _).mono ?_
      rintro e w' ⟨rfl, rfl⟩
      go_wp2
      go_ret
      refine ⟨⟨_, rfl, ?_⟩, rfl⟩
      have := Hn.out
      rw [Bool.and_eq_true, decide_eq_true_iff, decide_eq_true_iff]
      constructor
      · intro h
        refine ⟨by omega, fun x hx => ?_⟩
        obtain ⟨j, hj, rfl⟩ := List.mem_iff_getElem.1 hx
        exact hp.out j _ (by omega) (by simp [hj])
      · intro h; have := h.1; omega

theorem l20Code_any {ms cs : List Int} {v u : Value} {w : World} {A B : Nat} (ha : RdI A w v ms) (hc : RdI B w u cs) :
    Calls Try.prog 49 #[v, u] w fun e w' => e = .returned (.int .i64 (codeF ms cs true)) ∧ ∃ m, w' = w.drewN m := by
  have Ha := Lib.hid ha
  have Hc := Lib.hid hc
  have hle := ha.le
  obtain ⟨ao, cap, rfl⟩ := ha.shape
  obtain ⟨ao', cap', rfl⟩ := hc.shape
  clear ha hc
  by_cases ht : Times ms
  · have hml := ht.1.2
    have Ht := Lib.hid ht
    clear ht hle
    go_enter Try.func49, Try.ntmps49
    go_wp2_with fail
    refine (l20Ok_any Ha.out).mono ?_
    rintro e w' ⟨⟨b, rfl, hb⟩, rfl⟩
    rw [hb.2 Ht.out]
    clear hb
    go_wp2_with fail
    refine (l00Rises_any _ _ Hc.out).mono ?_
    rintro e w' ⟨⟨b, rfl, hb⟩, m, rfl⟩
    have Hb := Lib.hid hb
    clear hb
    cases b with
    | true =>
      have hch : Checks ms cs := Hb.out.1 rfl
      have Hch := Lib.hid hch
      clear hch
      go_wp2
      go_ret
      exact ⟨ret_int (by rw [codeF_ok Ht.out Hch.out rfl]), m, rfl⟩
    | false =>
      have hch : ¬ (Checks ms cs ∧ true = true) := fun h => absurd (Hb.out.2 h.1) (by simp)
      have Hch := Lib.hid hch
      clear hch
      go_wp2
      go_ret
      exact ⟨ret_int (by rw [codeF_no Ht.out (fun h => Hch.out ⟨h.1, trivial⟩)]), m, rfl⟩
  · have Ht := Lib.hid ht
    rw [codeF_bad ht]
    clear ht
    go_enter Try.func49, Try.ntmps49
    go_wp2_with fail
    refine (l20Ok_any Ha.out).mono ?_
    rintro e w' ⟨⟨b, rfl, hb⟩, rfl⟩
    obtain rfl : b = false := by cases b; rfl; exact absurd (hb.1 rfl) Ht.out
    clear hb
    go_wp2
    go_ret
    exact ⟨rfl, 0, rfl⟩

theorem sum_take_succ {ms : List Int} {f k : Nat} {x : Int} (h : ms[k]? = some x) (hf : f ≤ k) : sumI ((ms.take (k + 1)).drop f) = sumI ((ms.take k).drop f) + x := by
  have := at_lt h
  rw [take_snoc h, List.drop_append_of_le_length (by rw [List.length_take]; omega), sumI_snoc]
theorem l20Loss_any {ms cs : List Int} {v u : Value} {w : World} {A B : Nat} {at_ : Int} (ha : RdI A w v ms) (hc : RdI B w u cs) (ht : Times ms) (hk : Checks ms cs) (h0 : 0 ≤ at_) (h1 : at_ < ms.length) :
    Calls Try.prog 51 #[v, u, .int .i64 at_] w fun e w' => e = .returned (.int .i64 (lossF ms cs at_)) ∧ w = w' := by
  have hml := ht.1.2
  obtain ⟨ao, cap, hv, hoa⟩ := ha.open
  obtain ⟨b, off, rfl, hlt, hcell⟩ := hoa (by omega)
  subst hv
  have hle := hc.le
  obtain ⟨ao', cap', rfl, ho⟩ := hc.open
  obtain ⟨n, hn⟩ : ∃ n, n = cs.length := ⟨_, rfl⟩
  have hn' : n ≤ 9223372036854775807 := by omega
  rw [← hn]
  have Hn := Lib.hid hn
  have Ho := Lib.hid ho
  have Ht := Lib.hid ht
  have Hk := Lib.hid hk
  have Hcell := Lib.hid hcell
  obtain ⟨l, hl⟩ : ∃ l, l = ms.length := ⟨_, rfl⟩
  rw [← hl] at h1 hml ⊢
  have Hl := Lib.hid hl
  obtain ⟨a, rfl⟩ := Int.eq_ofNat_of_zero_le h0
  clear ho ha hc hn hle hoa hlt ht hk hl hcell
  go_enter Try.func51, Try.ntmps51
  go_wp2
  go_loop [7, 8] (fun f i => ∃ k : Nat, k ≤ n ∧ i = .int .i64 k ∧ ∃ t : Int, f = .int .i64 t ∧ Hid (t = fromF (cs.take k) a)) (fun _ i => n - (intOf i).toNat)
  case atStart => exact ⟨0, Nat.zero_le _, rfl, 0, rfl, rfl⟩
  case round =>
    obtain ⟨k, hk, rfl, t, rfl, hft⟩ := hrel
    by_cases hkn : k < n
    · obtain ⟨bb, off', rfl, hlt, hc⟩ := Ho.out (by have := Hn.out; omega)
      obtain ⟨x, hx, hcx, bx⟩ := hc k (by have := Hn.out; omega)
      have Hx := Lib.hid hx
      clear hx hc
      by_cases hxa : x ≤ (a : Int)
      · go_wp2
        go_round
        case rel => exact ⟨k + 1, by omega, by go_num, x, rfl, by show _ = _; rw [fromF_any Hx.out, if_pos hxa]⟩
        case measure => simp [intOf]; omega
      · go_wp2
        go_round
        case rel => exact ⟨k + 1, by omega, by go_num, t, rfl, by show _ = _; rw [fromF_any Hx.out, if_neg (by omega), hft.out]⟩
        case measure => simp [intOf]; omega
    · have hb := fromF_bd (cs := cs) (at_ := (a : Int)) h0 (fun c hc => by have := Hk.out.pos hc; omega)
      have ht2 : t = fromF cs a := by rw [hft.out, List.take_of_length_le (by have := Hn.out; omega)]
      rw [← ht2] at hb
      have Hft := Lib.hid ht2
      clear hft ht2
      obtain ⟨f, rfl⟩ := Int.eq_ofNat_of_zero_le hb.1
      go_wp2
      go_loop [9, 10] (fun s i => ∃ j : Nat, f ≤ j ∧ j ≤ a + 1 ∧ i = .int .i64 j ∧ ∃ t : Int, s = .int .i64 t ∧ (0 ≤ t ∧ t ≤ j * 10000) ∧ Hid (t = sumI ((ms.take j).drop f))) (fun _ i => a + 1 - (intOf i).toNat)
      case atStart => exact ⟨f, Nat.le_refl _, by omega, rfl, 0, rfl, by omega, by show _ = _; rw [List.drop_of_length_le (by rw [List.length_take]; omega)]; rfl⟩
      case round =>
        obtain ⟨j, hfj, hj, rfl, t, rfl, htb, hts⟩ := hrel
        by_cases hja : j ≤ a
        · obtain ⟨x, hx, hcx, bx⟩ := Hcell.out j (by have := Hl.out; omega)
          have hxb := Ht.out.at hx
          have Hx := Lib.hid hx
          clear hx
          go_wp2
          go_round
          case rel => exact ⟨j + 1, by omega, by omega, by go_num, t + x, by go_num, by omega, by show _ = _; rw [sum_take_succ Hx.out hfj, ← hts.out]⟩
          case measure => simp [intOf]; omega
        · obtain rfl : j = a + 1 := by omega
          go_wp2
          go_ret
          refine ⟨ret_int ?_, rfl⟩
          unfold lossF
          rw [← Hft.out, hts.out]
          simp

theorem sLostWork_c {ms cs : List Int} {at_ : Int} (w : World) (A : Nat) (v : Value) (ha : RdI A w v ms) (B : Nat) (u : Value) (hc : RdI B w u cs) :
    Calls Try.prog 13 #[v, u, .int .i64 at_] w fun e w' => e = .returned (.tuple #[.int .i64 (LostR ms cs at_), .int .i64 (codeF ms cs (decide (0 ≤ at_ ∧ at_ ≤ (ms.length : Int) - 1)))]) ∧ Below w.heap.size w w' := by
  have Ha := Lib.hid ha
  have Hc := Lib.hid hc
  have hle := ha.le
  obtain ⟨ao, cap, rfl⟩ := ha.shape
  obtain ⟨ao', cap', rfl⟩ := hc.shape
  clear ha hc
  unfold LostR
  obtain ⟨c, hc⟩ : ∃ c, c = codeF ms cs true := ⟨_, rfl⟩
  by_cases h0 : c = 0
  · have hz := codeF_zero (hc.symm.trans h0)
    have Hz := Lib.hid hz
    subst h0
    have Hcc := Lib.hid hc
    by_cases hin : 0 ≤ at_ ∧ at_ ≤ (ms.length : Int) - 1
    · have e : codeF ms cs (decide (0 ≤ at_ ∧ at_ ≤ (ms.length : Int) - 1)) = 0 := codeF_ok hz.1 hz.2.1 (by simpa using hin)
      rw [e, if_pos rfl]
      clear hc hz e
      go_enter Try.func13, Try.ntmps13
      go_wp2_with fail
      refine (l20Code_any Ha.out Hc.out).mono ?_
      rw [← Hcc.out]
      rintro e w' ⟨rfl, m, rfl⟩
      go_wp2_with fail
      refine (l00In_yes _ _ _ _ (by omega) (by omega)).mono ?_
      rintro e w' ⟨rfl, rfl⟩
      go_wp2_with fail
      refine (l20Loss_any (Ha.out.drewN m) (Hc.out.drewN m) Hz.out.1 Hz.out.2.1 hin.1 (by omega)).mono ?_
      rintro e w' ⟨rfl, rfl⟩
      go_wp2
      go_ret2
      exact ⟨rfl, below_drewN (Below.refl _ _) m⟩
    · have e : codeF ms cs (decide (0 ≤ at_ ∧ at_ ≤ (ms.length : Int) - 1)) = 2 := codeF_no hz.1 (by simp; intro _ h1; omega)
      have hin' : at_ < 0 ∨ (ms.length : Int) - 1 < at_ := by omega
      rw [e, if_neg (by omega)]
      have Hin := Lib.hid hin'
      clear hc hz e hin hin'
      go_enter Try.func13, Try.ntmps13
      go_wp2_with fail
      refine (l20Code_any Ha.out Hc.out).mono ?_
      rw [← Hcc.out]
      rintro e w' ⟨rfl, m, rfl⟩
      go_wp2_with fail
      refine (l00In_no _ _ _ _ Hin.out).mono ?_
      rintro e w' ⟨rfl, rfl⟩
      go_wp2
      go_ret2
      exact ⟨rfl, below_drewN (Below.refl _ _) m⟩
  · have e : codeF ms cs (decide (0 ≤ at_ ∧ at_ ≤ (ms.length : Int) - 1)) = c := by
      rw [hc] at h0 ⊢
      unfold codeF at h0 ⊢
      by_cases h1 : Times ms
      · rw [if_pos h1] at h0 ⊢
        rw [if_pos h1]
        by_cases h2 : Checks ms cs
        · rw [if_pos ⟨h2, rfl⟩] at h0; exact absurd rfl h0
        · rw [if_neg (fun h => h2 h.1), if_neg (fun h => h2 h.1)]
      · rw [if_neg h1, if_neg h1]
    rw [e, if_neg h0]
    have Hcc := Lib.hid hc
    have hne := code_ne h0
    have heq : (c == 0) = false := by simpa using h0
    clear hc h0 e
    go_enter Try.func13, Try.ntmps13
    go_wp2_with fail
    refine (l20Code_any Ha.out Hc.out).mono ?_
    rw [← Hcc.out]
    rintro e w' ⟨rfl, m, rfl⟩
    go_wp2
    go_ret2
    exact ⟨rfl, below_drewN (Below.refl _ _) m⟩

theorem codeF_same {ms cs : List Int} {b : Bool} (h0 : codeF ms cs true ≠ 0) : codeF ms cs b = codeF ms cs true := by
  unfold codeF at h0 ⊢
  by_cases h1 : Times ms
  · rw [if_pos h1] at h0 ⊢
    rw [if_pos h1]
    by_cases h2 : Checks ms cs
    · rw [if_pos ⟨h2, rfl⟩] at h0; exact absurd rfl h0
    · rw [if_neg (fun h => h2 h.1), if_neg (fun h => h2 h.1)]
  · rw [if_neg h1, if_neg h1]
theorem lossesF_take (ms cs : List Int) (k : Nat) (h : k ≤ ms.length) : (lossesF ms cs ms.length).take k = lossesF ms cs k := by
  unfold lossesF
  rw [← List.map_take, List.take_range, Nat.min_eq_left h]
/-- the greatest of numbers that are not negative, from 0 on -/
theorem max0 {xs : List Int} (h : ∀ x ∈ xs, 0 ≤ x) (h0 : 0 < xs.length) : xs.foldl maxI 0 = maxL xs := by
  cases xs with
  | nil => simp at h0
  | cons x xs =>
    have := h x (List.mem_cons_self ..)
    rw [List.foldl_cons, show maxI 0 x = x by unfold maxI; split <;> omega]
    rfl
theorem l20Worst_any {ms cs : List Int} {v u : Value} {w : World} {A B : Nat} (ha : RdI A w v ms) (hc : RdI B w u cs) (ht : Times ms) (hk : Checks ms cs) :
    Calls Try.prog 63 #[v, u] w fun e w' => e = .returned (.int .i64 (maxL (lossesF ms cs ms.length))) ∧ w = w' := by
  have Ha := Lib.hid ha
  have Hc := Lib.hid hc
  have hml := ht.1.2
  obtain ⟨ao, cap, rfl⟩ := ha.shape
  obtain ⟨ao', cap', rfl⟩ := hc.shape
  obtain ⟨n, hn⟩ : ∃ n, n = ms.length := ⟨_, rfl⟩
  rw [← hn] at Ha hml ⊢
  have Hn := Lib.hid hn
  have Ht := Lib.hid ht
  have Hk := Lib.hid hk
  clear ha hc hn ht hk
  go_enter Try.func63, Try.ntmps63
  go_wp2
  go_loop [5, 6] (fun m i => ∃ k : Nat, k ≤ n ∧ i = .int .i64 k ∧ ∃ t : Int, m = .int .i64 t ∧ Hid (t = (lossesF ms cs k).foldl maxI 0)) (fun _ i => n - (intOf i).toNat)
  case atStart => exact ⟨0, Nat.zero_le _, rfl, 0, rfl, rfl⟩
  case round =>
    obtain ⟨k, hk, rfl, t, rfl, htt⟩ := hrel
    by_cases hkn : k < n
    · go_wp2_with fail
      refine (l20Loss_any Ha.out Hc.out Ht.out Hk.out (by omega) (by have := Hn.out; omega)).mono ?_
      rintro e w' ⟨rfl, rfl⟩
      go_wp2_with fail
      refine (l00Max_any _ _ _).mono ?_
      rintro e w' ⟨rfl, rfl⟩
      go_wp2
      go_round
      case rel => exact ⟨k + 1, by omega, by go_num, _, rfl, by show _ = _; rw [lossesF_succ, List.foldl_append, ← htt.out]; rfl⟩
      case measure => simp [intOf]; omega
    · obtain rfl : k = n := by omega
      go_wp2
      go_ret
      refine ⟨ret_int ?_, rfl⟩
      rw [htt.out, max0 (fun x hx => (lossesF_bd Ht.out hx).1) (by rw [lossesF_length]; have := Ht.out.1.1; have := Hn.out; omega)]
theorem sWorstLoss_c {ms cs : List Int} (w : World) (A : Nat) (v : Value) (ha : RdI A w v ms) (B : Nat) (u : Value) (hc : RdI B w u cs) :
    Calls Try.prog 27 #[v, u] w fun e w' => e = .returned (.tuple #[.int .i64 (WorstR ms cs), .int .i64 (codeF ms cs true)]) ∧ Below w.heap.size w w' := by
  have Ha := Lib.hid ha
  have Hc := Lib.hid hc
  obtain ⟨ao, cap, rfl⟩ := ha.shape
  obtain ⟨ao', cap', rfl⟩ := hc.shape
  clear ha hc
  unfold WorstR
  obtain ⟨c, hc⟩ : ∃ c, c = codeF ms cs true := ⟨_, rfl⟩
  rw [← hc]
  by_cases h0 : c = 0
  · rw [if_pos h0]
    have hz := codeF_zero (hc.symm.trans h0)
    have Hz := Lib.hid hz
    subst h0
    have Hcc := Lib.hid hc
    clear hc hz
    go_enter Try.func27, Try.ntmps27
    go_wp2_with fail
    refine (l20Code_any Ha.out Hc.out).mono ?_
    rw [← Hcc.out]
    rintro e w' ⟨rfl, m, rfl⟩
    go_wp2_with fail
    refine (l20Worst_any (Ha.out.drewN m) (Hc.out.drewN m) Hz.out.1 Hz.out.2.1).mono ?_
    rintro e w' ⟨rfl, rfl⟩
    go_wp2
    go_ret2
    exact ⟨rfl, below_drewN (Below.refl _ _) m⟩
  · rw [if_neg h0]
    have Hcc := Lib.hid hc
    have hne := code_ne h0
    clear hc h0
    go_enter Try.func27, Try.ntmps27
    go_wp2_with fail
    refine (l20Code_any Ha.out Hc.out).mono ?_
    rw [← Hcc.out]
    rintro e w' ⟨rfl, m, rfl⟩
    go_wp2
    go_ret2
    exact ⟨rfl, below_drewN (Below.refl _ _) m⟩
theorem sSumOfLosses_c {ms cs : List Int} (w : World) (A : Nat) (v : Value) (ha : RdI A w v ms) (B : Nat) (u : Value) (hc : RdI B w u cs) :
    Calls Try.prog 19 #[v, u] w fun e w' => e = .returned (.tuple #[.int .i64 (SumLR ms cs), .int .i64 (codeF ms cs true)]) ∧ Below w.heap.size w w' := by
  have Ha := Lib.hid ha
  have Hc := Lib.hid hc
  obtain ⟨ao, cap, rfl⟩ := ha.shape
  obtain ⟨ao', cap', rfl⟩ := hc.shape
  clear ha hc
  unfold SumLR
  obtain ⟨c, hc⟩ : ∃ c, c = codeF ms cs true := ⟨_, rfl⟩
  rw [← hc]
  by_cases h0 : c = 0
  · rw [if_pos h0]
    have hz := codeF_zero (hc.symm.trans h0)
    have Hz := Lib.hid hz
    subst h0
    have Hcc := Lib.hid hc
    have hml := hz.1.1.2
    obtain ⟨n, hn⟩ : ∃ n, n = ms.length := ⟨_, rfl⟩
    rw [← hn] at Ha hml ⊢
    have Hn := Lib.hid hn
    clear hc hz hn
    go_enter Try.func19, Try.ntmps19
    go_wp2_with fail
    refine (l20Code_any Ha.out Hc.out).mono ?_
    rw [← Hcc.out]
    rintro e w' ⟨rfl, m, rfl⟩
    go_wp2
    go_loop [7, 8] (fun s i => ∃ k : Nat, k ≤ n ∧ i = .int .i64 k ∧ ∃ t : Int, s = .int .i64 t ∧ (0 ≤ t ∧ t ≤ k * 200000) ∧ Hid (t = sumI (lossesF ms cs k))) (fun _ i => n - (intOf i).toNat)
    case atStart => exact ⟨0, Nat.zero_le _, rfl, 0, rfl, by omega, rfl⟩
    case round =>
      obtain ⟨k, hk, rfl, t, rfl, htb, htt⟩ := hrel
      by_cases hkn : k < n
      · have hlb := lossF_bd (cs := cs) (at_ := (k : Int)) Hz.out.1
        go_wp2_with fail
        refine (l20Loss_any (Ha.out.drewN m) (Hc.out.drewN m) Hz.out.1 Hz.out.2.1 (by omega) (by have := Hn.out; omega)).mono ?_
        rintro e w' ⟨rfl, rfl⟩
        go_wp2
        go_round
        case rel => exact ⟨k + 1, by omega, by go_num, _, by go_num, by omega, by show _ = _; rw [lossesF_succ, sumI_snoc, ← htt.out]⟩
        case measure => simp [intOf]; omega
      · obtain rfl : k = n := by omega
        go_wp2
        go_ret2
        exact ⟨by rw [htt.out]; rfl, below_drewN (Below.refl _ _) m⟩
  · rw [if_neg h0]
    have Hcc := Lib.hid hc
    have hne := code_ne h0
    clear hc h0
    go_enter Try.func19, Try.ntmps19
    go_wp2_with fail
    refine (l20Code_any Ha.out Hc.out).mono ?_
    rw [← Hcc.out]
    rintro e w' ⟨rfl, m, rfl⟩
    go_wp2
    go_ret2
    exact ⟨rfl, below_drewN (Below.refl _ _) m⟩

theorem l20Fewest_any {ms : List Int} {v : Value} {w : World} {A : Nat} {L : Int} (ha : RdI A w v ms) (ht : Times ms) (hL : 0 ≤ L ∧ L ≤ 1000000000) :
    Calls Try.prog 60 #[v, .int .i64 L] w fun e w' => ∃ r b, e = .returned (.tuple #[r, .bool b]) ∧ (b = true ↔ ∀ x ∈ ms, x ≤ L) ∧ OwnInt64S w.heap.size w' r (if b = true then checksF ms L else []) ∧ Below w.heap.size w w' := by
  obtain ⟨i0, hi, hz0, hz1, hz2⟩ := info_parts Try.infoInt64
  have hml := ht.1.2
  have hml1 := ht.1.1
  obtain ⟨ao, cap, hv, hoa⟩ := ha.open
  obtain ⟨b, off, rfl, hlt, hc⟩ := hoa (by omega)
  subst hv
  obtain ⟨n, hn⟩ : ∃ n, n = ms.length := ⟨_, rfl⟩
  rw [← hn] at hml ⊢
  have Hn := Lib.hid hn
  have Ht := Lib.hid ht
  have Hcell := Lib.hid hc
  have hbl := hlt.2
  clear ha hn ht hc hoa hlt hml1
  go_enter Try.func60, Try.ntmps60
  go_wp2
  go_loopw [6, 7, 8] (fun v s i wr => ∃ k : Nat, k ≤ n ∧ i = .int .i64 k ∧ (∃ t : Int, s = .int .i64 t ∧ Hid (t = grSum ms L k)) ∧ Hid (∀ j x, j < k → ms[j]? = some x → x ≤ L) ∧ Own eI 2 w.heap.size wr v (grOut ms L k) ∧ Below w.heap.size w wr) (fun _ _ i _ => n - (intOf i).toNat)
  case atStart =>
    refine ⟨0, Nat.zero_le _, rfl, ⟨0, rfl, rfl⟩, fun j x h => by omega, ?_, (Below.refl _ _).alloc (Nat.le_refl _) _⟩
    exact Own.lit (E := eI) (xs := []) (Nat.le_refl _) rfl rfl (by decide) (fun x hx => by cases hx)
  case round =>
    obtain ⟨k, hk, rfl, ⟨t, rfl, htt⟩, hall, hown, hb⟩ := hrel
    have hs : w.heap.size ≤ wr.heap.size := hb.size
    by_cases hkn : k < n
    · obtain ⟨x, hx, hcx, bx⟩ := Hcell.out k (by have := Hn.out; omega)
      have hxb := Ht.out.at hx
      have htb := grSum_bd (L := L) Ht.out (k := k) (by have := Hn.out; omega)
      rw [← htt.out] at htb
      have hcx' : wr.cell? ⟨b, off + k, none⟩ = some (.int .i64 x) := (hb.cell (p := ⟨b, off + k, none⟩) hbl).trans hcx
      have Hx := Lib.hid hx
      clear hx hcx bx
      by_cases hbig : L < x
      · go_wp2
        go_ret2
        refine ⟨_, false, rfl, ?_, Own.nil _ _ _ _, hb⟩
        constructor
        · intro h; exact absurd h (by simp)
        intro h
        exfalso
        have := h x (List.mem_of_getElem? Hx.out)
        omega
      · have hall' : ∀ j y, j < k + 1 → ms[j]? = some y → y ≤ L := by
          intro j y hj hy
          by_cases e : j < k
          · exact hall.out j y e hy
          · obtain rfl : j = k := by omega
            rw [Hx.out] at hy
            obtain rfl := Option.some.inj hy
            omega
        have Hall := Lib.hid hall'
        clear hall'
        by_cases hcut : L < t + x
        · have e1 : grOut ms L (k + 1) = grOut ms L k ++ [(k : Int)] := by rw [grOut_succ Hx.out, ← htt.out, if_pos hcut]
          have e2 : grSum ms L (k + 1) = x := by rw [grSum_succ Hx.out, ← htt.out, if_pos hcut]
          have E1 := Lib.hid e1
          have E2 := Lib.hid e2
          have Hkp : eI.ok (k : Int) := by show -9223372036854775808 ≤ (k : Int) ∧ (k : Int) ≤ 9223372036854775807; omega
          have hgl := grOut_length ms L k
          clear e1 e2
          go_wp2_with (first | (at_builtin; refine wpList_appS (E := eI) rfl _ _ 22 rfl Try.underlying22 hi hz0 hz1 hz2 rfl (by decide) rfl rfl (hown.alloc _) (rds_one (E := eI) (x := (k : Int)) Hkp rfl) ?b1 ?b2 ?b3 ?_))
          case b1 => unfold maxLen; simp; omega
          case b2 => first | omega | (simp; omega)
          case b3 => first | omega | (simp; omega)
          intro v' w1 hown' hg
          have hb' : Below w.heap.size w w1 := hg.alloc.below hb hs (fun j hj => (hown.lt j hj).1)
          have hcx2 : w1.cell? ⟨b, off + k, none⟩ = some (.int .i64 x) := (hb'.cell (p := ⟨b, off + k, none⟩) hbl).trans ((hb.cell (p := ⟨b, off + k, none⟩) hbl).symm.trans hcx')
          clear hg hb hown Hkp hcx' hgl
          go_wp2
          go_roundw
          case rel => exact ⟨k + 1, by omega, by go_num, ⟨x, by go_num, E2.out.symm⟩, Hall, by rw [E1.out]; exact hown', hb'⟩
          case measure => simp [intOf]; omega
        · have e1 : grOut ms L (k + 1) = grOut ms L k := by rw [grOut_succ Hx.out, ← htt.out, if_neg hcut]
          have e2 : grSum ms L (k + 1) = t + x := by rw [grSum_succ Hx.out, ← htt.out, if_neg hcut]
          have E1 := Lib.hid e1
          have E2 := Lib.hid e2
          clear e1 e2
          go_wp2
          go_roundw
          case rel => exact ⟨k + 1, by omega, by go_num, ⟨t + x, by go_num, E2.out.symm⟩, Hall, by rw [E1.out]; exact hown, hb⟩
          case measure => simp [intOf]; omega
    · obtain rfl : k = n := by omega
      go_wp2
      go_ret2
      refine ⟨_, true, rfl, ?_, by rw [if_pos rfl]; unfold checksF; rw [← Hn.out]; exact hown, hb⟩
      simp only [true_iff]
      intro x hx
      obtain ⟨j, hj, rfl⟩ := List.mem_iff_getElem.1 hx
      exact hall.out j _ (by have := Hn.out; omega) (by simp [hj])

theorem codeF_nil {ms : List Int} {b : Bool} (ht : Times ms) : codeF ms [] b = if b = true then 0 else 2 := by
  have hc : Checks ms [] := fun j x h hx => by simp at hx
  cases b with
  | true => rw [codeF_ok ht hc rfl, if_pos rfl]
  | false => rw [codeF_no ht (by simp), if_neg (by simp)]
theorem sChecksFor_c {ms : List Int} {L : Int} (w : World) (A : Nat) (v : Value) (ha : RdI A w v ms) :
    Calls Try.prog 21 #[v, .int .i64 L] w fun e w' => ∃ r, e = .returned (.tuple #[r, .int .i64 (CFc ms L)]) ∧ OwnInt64S w.heap.size w' r (CFr ms L) ∧ Below w.heap.size w w' := by
  have Ha := Lib.hid ha
  obtain ⟨ao, cap, rfl⟩ := ha.shape
  clear ha
  unfold CFr
  by_cases ht : Times ms
  · have Ht := Lib.hid ht
    by_cases hL : 0 ≤ L ∧ L ≤ 200000
    · have hcz : codeF ms [] (decide (0 ≤ L ∧ L ≤ 200000)) = 0 := by rw [codeF_nil ht, if_pos (decide_eq_true hL)]
      obtain ⟨cc, hcc⟩ : ∃ cc, cc = CFc ms L := ⟨_, rfl⟩
      obtain ⟨rr, hrr⟩ : ∃ rr, rr = CFr ms L := ⟨_, rfl⟩
      show Calls _ _ _ _ fun e w' => ∃ r, e = .returned (.tuple #[r, .int .i64 (CFc ms L)]) ∧ OwnInt64S w.heap.size w' r (CFr ms L) ∧ Below w.heap.size w w'
      rw [← hcc, ← hrr]
      have Hcc := Lib.hid hcc
      have Hrr := Lib.hid hrr
      have Hcz := Lib.hid hcz
      clear hcz ht hcc hrr
      go_enter Try.func21, Try.ntmps21
      go_wp2_with fail
      refine (l20Ok_any Ha.out).mono ?_
      rintro e w' ⟨⟨b, rfl, hb⟩, rfl⟩
      rw [hb.2 Ht.out]
      clear hb
      go_wp2_with fail
      refine (l00In_yes _ _ _ _ (by omega) (by omega)).mono ?_
      rintro e w' ⟨rfl, rfl⟩
      go_wp2_with fail
      refine (l20Fewest_any Ha.out Ht.out (by omega)).mono ?_
      rintro e w1 ⟨r, b, rfl, hbb, ho, hb⟩
      have Hbb := Lib.hid hbb
      clear hbb
      cases b with
      | true =>
        have Ho := Lib.hid ho
        clear ho
        go_wp2
        go_ret2
        have e : CFc ms L = 0 := by unfold CFc; rw [if_pos Hcz.out, if_pos (Hbb.out.1 (by simp))]
        have h2 := Ho.out
        rw [if_pos (by trivial)] at h2
        exact ⟨_, by rw [Hcc.out, e]; rfl, by rw [Hrr.out, CFr, if_pos e]; exact h2, hb⟩
      | false =>
        clear ho
        go_wp2
        go_ret2
        have e : CFc ms L = 3 := by unfold CFc; rw [if_pos Hcz.out, if_neg (fun h => by have := Hbb.out.2 h; simp at this)]
        exact ⟨_, by rw [Hcc.out, e]; rfl, by rw [Hrr.out, CFr, if_neg (by omega)]; exact Own.nil _ _ _ _, hb⟩
    · have hcz : codeF ms [] (decide (0 ≤ L ∧ L ≤ 200000)) = 2 := by rw [codeF_nil ht, if_neg (by rw [decide_eq_true_iff]; exact hL)]
      have e : CFc ms L = 2 := by unfold CFc; rw [if_neg (by rw [hcz]; omega), hcz]
      rw [e, if_neg (by omega)]
      have hL' : L < 0 ∨ 200000 < L := by omega
      have HL := Lib.hid hL'
      clear hcz e hL hL' ht
      go_enter Try.func21, Try.ntmps21
      go_wp2_with fail
      refine (l20Ok_any Ha.out).mono ?_
      rintro e w' ⟨⟨b, rfl, hb⟩, rfl⟩
      rw [hb.2 Ht.out]
      clear hb
      go_wp2_with fail
      refine (l00In_no _ _ _ _ HL.out).mono ?_
      rintro e w' ⟨rfl, rfl⟩
      go_wp2
      go_ret2
      exact ⟨_, rfl, Own.nil _ _ _ _, Below.refl _ _⟩
  · have hcz : codeF ms [] (decide (0 ≤ L ∧ L ≤ 200000)) = 1 := codeF_bad ht
    have e : CFc ms L = 1 := by unfold CFc; rw [if_neg (by rw [hcz]; omega), hcz]
    rw [e, if_neg (by omega)]
    have Ht := Lib.hid ht
    clear hcz e ht
    go_enter Try.func21, Try.ntmps21
    go_wp2_with fail
    refine (l20Ok_any Ha.out).mono ?_
    rintro e w' ⟨⟨b, rfl, hb⟩, rfl⟩
    obtain rfl : b = false := by cases b; rfl; exact absurd (hb.1 rfl) Ht.out
    clear hb
    go_wp2
    go_ret2
    exact ⟨_, rfl, Own.nil _ _ _ _, Below.refl _ _⟩

/-- a limit under which so few serve -/
def Serves (ms : List Int) (count L : Int) : Prop := (∀ x ∈ ms, x ≤ L) ∧ ((checksF ms L).length : Int) ≤ count
theorem serves_iff {ms : List Int} {count L : Int} (ht : Times ms) (h0 : 0 ≤ count) : Serves ms count L ↔ leastL ms count ≤ L := by
  have hsp := leastL_spec ht h0
  have hmx := ht.max
  have hm0 := ht.2 _ hmx.2
  constructor
  · intro h
    exact hsp.2 L (h.1 _ hmx.2) h.2
  · intro h
    have h1 : ∀ (k : Nat) (x : Int), ms[k]? = some x → x ≤ leastL ms count := fun k x hx => by have := hmx.1 x (List.mem_of_getElem? hx); omega
    refine ⟨fun x hx => by have := hmx.1 x hx; omega, ?_⟩
    have := greedy_mono ht h1 (by omega) h
    omega
theorem sBestChecks_c {ms : List Int} {count : Int} (w : World) (A : Nat) (hA : A ≤ w.heap.size) (v : Value) (ha : RdI A w v ms) :
    Calls Try.prog 25 #[v, .int .i64 count] w fun e w' => ∃ r, e = .returned (.tuple #[r, .int .i64 (BCc ms count)]) ∧ OwnInt64S w.heap.size w' r (BCr ms count) ∧ Below w.heap.size w w' := by
  have Ha := Lib.hid ha
  have hle := ha.le
  obtain ⟨ao, cap, rfl⟩ := ha.shape
  clear ha
  unfold BCr
  by_cases ht : Times ms
  · have Ht := Lib.hid ht
    by_cases hL : 0 ≤ count ∧ count ≤ (ms.length : Int) - 1
    · have hcz : BCc ms count = 0 := by unfold BCc; rw [codeF_nil ht, if_pos (decide_eq_true hL)]
      rw [hcz, if_pos rfl]
      have hsp := leastL_spec ht hL.1
      have hm0 := ht.2 _ ht.max.2
      have hl0 : 0 ≤ leastL ms count ∧ leastL ms count ≤ 200000 := by have := hsp.1; omega
      clear hcz ht hsp hm0
      go_enter Try.func25, Try.ntmps25
      go_wp2_with fail
      refine (l20Ok_any Ha.out).mono ?_
      rintro e w' ⟨⟨b, rfl, hb⟩, rfl⟩
      rw [hb.2 Ht.out]
      clear hb
      go_wp2_with fail
      refine (l00In_yes _ _ _ _ (by omega) (by omega)).mono ?_
      rintro e w' ⟨rfl, rfl⟩
      go_wp2_with fail
      go_loopw [6, 7] (fun lo hi wr => ∃ l h : Int, -1 ≤ l ∧ l < leastL ms count ∧ leastL ms count ≤ h ∧ h ≤ 200000 ∧ lo = .int .i64 l ∧ hi = .int .i64 h ∧ Below w.heap.size w wr) (fun lo hi _ => (intOf hi - intOf lo).toNat)
      case atStart => exact ⟨-1, 200000, by omega, by omega, by omega, by omega, rfl, rfl, Below.refl _ _⟩
      case round =>
        obtain ⟨l, h, h1, h2, h3, h4, rfl, rfl, hb⟩ := hrel
        by_cases hgo : 1 < h - l
        · go_wp2_with fail
          refine (l20Fewest_any (Ha.out.below hb hA) Ht.out (by omega)).mono ?_
          rintro e w1 ⟨r, b, rfl, hbb, ho, hb1⟩
          have hb2 : Below w.heap.size w w1 := hb.trans (hb1.mono hb.size)
          have Hbb := Lib.hid hbb
          have hsv := serves_iff (L := (l + h) / 2) Ht.out hL.1
          have Hsv := Lib.hid hsv
          clear hbb hsv hb1
          cases b with
          | true =>
            rw [if_pos rfl] at ho
            obtain ⟨ao2, cap2, hv2⟩ := ho.shape
            subst hv2
            clear ho
            by_cases hfew : ((checksF ms ((l + h) / 2)).length : Int) ≤ count
            · have hmid := Hsv.out.1 ⟨Hbb.out.1 rfl, hfew⟩
              go_wp2
              go_roundw
              case rel => exact ⟨l, (l + h) / 2, by omega, by omega, by omega, by omega, rfl, rfl, hb2⟩
              case measure => simp [intOf]; omega
            · have hmid : (l + h) / 2 < leastL ms count := by
                apply Classical.byContradiction
                intro hn
                exact hfew (Hsv.out.2 (by omega)).2
              go_wp2
              go_roundw
              case rel => exact ⟨(l + h) / 2, h, by omega, by omega, by omega, by omega, rfl, rfl, hb2⟩
              case measure => simp [intOf]; omega
          | false =>
            clear ho
            have hmid : (l + h) / 2 < leastL ms count := by
              apply Classical.byContradiction
              intro hn
              have := Hbb.out.2 (Hsv.out.2 (by omega)).1
              simp at this
            go_wp2
            go_roundw
            case rel => exact ⟨(l + h) / 2, h, by omega, by omega, by omega, by omega, rfl, rfl, hb2⟩
            case measure => simp [intOf]; omega
        · go_wp2_with fail
          refine (l20Fewest_any (Ha.out.below hb hA) Ht.out (by omega)).mono ?_
          rintro e w1 ⟨r, b, rfl, hbb, ho, hb1⟩
          have hb2 : Below w.heap.size w w1 := hb.trans (hb1.mono hb.size)
          have e : h = leastL ms count := by omega
          have Ho := Lib.hid ho
          have Hbb := Lib.hid hbb
          have He := Lib.hid e
          clear ho hbb e
          go_wp2
          go_ret2
          refine ⟨_, rfl, ?_, hb2⟩
          have hsv := (serves_iff (L := h) Ht.out hL.1).2 (by omega)
          have h2 := Ho.out
          rw [if_pos (Hbb.out.2 hsv.1)] at h2
          rw [← He.out]
          exact h2.mono hb.size
    · have hcz : BCc ms count = 2 := by unfold BCc; rw [codeF_nil ht, if_neg (by rw [decide_eq_true_iff]; exact hL)]
      rw [hcz, if_neg (by omega)]
      have hL' : count < 0 ∨ (ms.length : Int) - 1 < count := by omega
      have HL := Lib.hid hL'
      clear hcz hL hL' ht
      go_enter Try.func25, Try.ntmps25
      go_wp2_with fail
      refine (l20Ok_any Ha.out).mono ?_
      rintro e w' ⟨⟨b, rfl, hb⟩, rfl⟩
      rw [hb.2 Ht.out]
      clear hb
      go_wp2_with fail
      refine (l00In_no _ _ _ _ HL.out).mono ?_
      rintro e w' ⟨rfl, rfl⟩
      go_wp2
      go_ret2
      exact ⟨_, rfl, Own.nil _ _ _ _, Below.refl _ _⟩
  · have hcz : BCc ms count = 1 := codeF_bad ht
    rw [hcz, if_neg (by omega)]
    have Ht := Lib.hid ht
    clear hcz ht
    go_enter Try.func25, Try.ntmps25
    go_wp2_with fail
    refine (l20Ok_any Ha.out).mono ?_
    rintro e w' ⟨⟨b, rfl, hb⟩, rfl⟩
    obtain rfl : b = false := by cases b; rfl; exact absurd (hb.1 rfl) Ht.out
    clear hb
    go_wp2
    go_ret2
    exact ⟨_, rfl, Own.nil _ _ _ _, Below.refl _ _⟩

theorem sTotal_c {ms cs : List Int} {at_ save : Int} (w : World) (A : Nat) (v : Value) (ha : RdI A w v ms) (B : Nat) (u : Value) (hc : RdI B w u cs) :
    Calls Try.prog 17 #[v, u, .int .i64 at_, .int .i64 save] w fun e w' => e = .returned (.tuple #[.int .i64 (TotalR ms cs at_ save), .int .i64 (codeF ms cs (TotalB ms at_ save))]) ∧ Below w.heap.size w w' := by
  have Ha := Lib.hid ha
  have Hc := Lib.hid hc
  have hle := ha.le
  obtain ⟨ao, cap, hv, hoa⟩ := ha.open
  subst hv
  obtain ⟨ao', cap', rfl⟩ := hc.shape
  clear ha hc
  unfold TotalR
  obtain ⟨c, hc⟩ : ∃ c, c = codeF ms cs true := ⟨_, rfl⟩
  by_cases h0 : c = 0
  · have hz := codeF_zero (hc.symm.trans h0)
    have Hz := Lib.hid hz
    subst h0
    have Hcc := Lib.hid hc
    have hml := hz.1.1
    by_cases hin : 0 ≤ at_ ∧ at_ ≤ (ms.length : Int) - 1
    · by_cases hsv : 0 ≤ save ∧ save ≤ 10000
      · have e : codeF ms cs (TotalB ms at_ save) = 0 := codeF_ok hz.1 hz.2.1 (by unfold TotalB; simp [hin, hsv])
        rw [e, if_pos rfl]
        have hcl := hz.2.1.length_le hz.1
        have hlb := lossF_bd (cs := cs) (at_ := at_) hz.1
        have hmb := mul_bd2 save cs.length 10000 20 hsv.1 hsv.2 (by omega) (by omega)
        obtain ⟨b, off, rfl, hlt, hcell⟩ := hoa (by omega)
        have Hcell := Lib.hid hcell
        obtain ⟨q, hq⟩ : ∃ q, q = lossF ms cs at_ := ⟨_, rfl⟩
        obtain ⟨p, hp⟩ : ∃ p, p = save * (cs.length : Int) := ⟨_, rfl⟩
        rw [← hq] at hlb ⊢
        rw [← hp] at hmb
        have Hq := Lib.hid hq
        have Hp := Lib.hid hp
        clear hc hz e hoa hlt hcell hq hp
        go_enter Try.func17, Try.ntmps17
        go_wp2_with fail
        refine (l20Code_any Ha.out Hc.out).mono ?_
        rw [← Hcc.out]
        rintro e w' ⟨rfl, m, rfl⟩
        go_wp2_with fail
        refine (l00In_yes _ _ _ _ (by omega) (by omega)).mono ?_
        rintro e w' ⟨rfl, rfl⟩
        go_wp2_with fail
        refine (l00In_yes _ _ _ _ (by omega) (by omega)).mono ?_
        rintro e w' ⟨rfl, rfl⟩
        go_wp2_with fail
        refine (l20Loss_any (Ha.out.drewN m) (Hc.out.drewN m) Hz.out.1 Hz.out.2.1 hin.1 (by omega)).mono ?_
        rw [← Hq.out]
        rintro e w' ⟨rfl, rfl⟩
        have hp2 : save * (cs.length : Int) = p := Hp.out.symm
        go_wp2
        clear hp2
        go_loop [11, 12] (fun s i => ∃ k : Nat, k ≤ ms.length ∧ i = .int .i64 k ∧ ∃ t : Int, s = .int .i64 (q + p + t) ∧ (0 ≤ t ∧ t ≤ k * 10000) ∧ Hid (t = sumI (ms.take k))) (fun _ i => ms.length - (intOf i).toNat)
        case atStart => exact ⟨0, Nat.zero_le _, rfl, 0, by go_num, by omega, rfl⟩
        case round =>
          obtain ⟨k, hk, rfl, t, rfl, htb, hts⟩ := hrel
          by_cases hkn : k < ms.length
          · obtain ⟨x, hx, hcx, bx⟩ := Hcell.out k hkn
            have hxb := Hz.out.1.at hx
            have Hx := Lib.hid hx
            clear hx
            go_wp2
            go_round
            case rel => exact ⟨k + 1, by omega, by go_num, t + x, by go_num, by omega, by show _ = _; rw [take_snoc Hx.out, sumI_snoc, ← hts.out]⟩
            case measure => simp [intOf]; omega
          · go_wp2
            go_ret2
            have h1 := hts.out
            rw [List.take_of_length_le (by omega)] at h1
            have h2 := Hp.out
            have h3 : q + p + t = sumI ms + q + save * (cs.length : Int) := by rw [← h2, h1]; omega
            exact ⟨by rw [← h3]; rfl, below_drewN (Below.refl _ _) m⟩
      · have e : codeF ms cs (TotalB ms at_ save) = 2 := codeF_no hz.1 (by unfold TotalB; simp; intro _ _ _ h1; omega)
        have hin' : save < 0 ∨ 10000 < save := by omega
        rw [e, if_neg (by omega)]
        have Hin := Lib.hid hin'
        clear hc hz e hsv hin' hoa
        go_enter Try.func17, Try.ntmps17
        go_wp2_with fail
        refine (l20Code_any Ha.out Hc.out).mono ?_
        rw [← Hcc.out]
        rintro e w' ⟨rfl, m, rfl⟩
        go_wp2_with fail
        refine (l00In_yes _ _ _ _ (by omega) (by omega)).mono ?_
        rintro e w' ⟨rfl, rfl⟩
        go_wp2_with fail
        refine (l00In_no _ _ _ _ Hin.out).mono ?_
        rintro e w' ⟨rfl, rfl⟩
        go_wp2
        go_ret2
        exact ⟨rfl, below_drewN (Below.refl _ _) m⟩
    · have e : codeF ms cs (TotalB ms at_ save) = 2 := codeF_no hz.1 (by unfold TotalB; simp; intro _ _ h1; omega)
      have hin' : at_ < 0 ∨ (ms.length : Int) - 1 < at_ := by omega
      rw [e, if_neg (by omega)]
      have Hin := Lib.hid hin'
      clear hc hz e hin hin' hoa
      go_enter Try.func17, Try.ntmps17
      go_wp2_with fail
      refine (l20Code_any Ha.out Hc.out).mono ?_
      rw [← Hcc.out]
      rintro e w' ⟨rfl, m, rfl⟩
      go_wp2_with fail
      refine (l00In_no _ _ _ _ Hin.out).mono ?_
      rintro e w' ⟨rfl, rfl⟩
      go_wp2
      go_ret2
      exact ⟨rfl, below_drewN (Below.refl _ _) m⟩
  · have e : codeF ms cs (TotalB ms at_ save) = c := by rw [hc, codeF_same (by rw [← hc]; exact h0)]
    rw [e, if_neg h0]
    have Hcc := Lib.hid hc
    have hne := code_ne h0
    have heq : (c == 0) = false := by simpa using h0
    clear hc h0 e hoa
    go_enter Try.func17, Try.ntmps17
    go_wp2_with fail
    refine (l20Code_any Ha.out Hc.out).mono ?_
    rw [← Hcc.out]
    rintro e w' ⟨rfl, m, rfl⟩
    go_wp2
    go_ret2
    exact ⟨rfl, below_drewN (Below.refl _ _) m⟩

theorem CFr_le (ms : List Int) (L : Int) : cntInt64S (CFr ms L) ≤ 1000000000 := by
  unfold cntInt64S CFr
  split
  · rename_i h
    have ht : Times ms := by
      unfold CFc at h
      split at h
      · rename_i h1; exact (codeF_zero h1).1
      · exact (codeF_zero h).1
    have := grOut_length ms L ms.length
    have := ht.1.2
    unfold checksF
    omega
  · simp
theorem BCr_le (ms : List Int) (L : Int) : cntInt64S (BCr ms L) ≤ 1000000000 := by
  unfold cntInt64S BCr
  split
  · rename_i h
    have ht : Times ms := (codeF_zero h).1
    have := grOut_length ms (leastL ms L) ms.length
    have := ht.1.2
    unfold checksF
    omega
  · simp
end Go.Proofs.Ytljjilgpmckccaa
