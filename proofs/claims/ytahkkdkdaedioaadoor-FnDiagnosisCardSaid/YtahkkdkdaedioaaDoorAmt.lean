/- Valid amounts: both sides; sums of digits; reports. No condition. -/
import Derived.Test.YtahkkdkdaedioaaDoorDiaQ
import Derived.Test.YtahkkdkdaedioaaDoorApp
import Derived.Test.YtahkkdkdaedioaaDoorSmall
namespace Go.Proofs.YtahkkdkdaedioaaDoor
open Go.ChangeShapes Go.WideShapes Go.ChangeAt Go.RowKit
set_option linter.unusedVariables false
set_option maxRecDepth 100000
def badAmt (x : Int) : Bool := !decide (0 ≤ x ∧ x ≤ 9999)
theorem amtOk_bad (xs : List Int) : amtOk xs = (decide (xs.length ≤ 12) && !xs.any badAmt) := by
  unfold amtOk
  congr 1
  rw [List.any_eq_not_all_not, Bool.not_not]
  congr 1
  funext x
  unfold badAmt
  simp
theorem clo_badAmt (x : Int) (w : World) (_h : okInt64 x) : Calls Tryd.prog 60 #[.int .i64 x] w fun e w' => e = .returned (.bool (badAmt x)) ∧ w = w' := by
  go_enter Tryd.func60, Tryd.ntmps60
  go_wp2_with fail
  refine (inside_any _ _ _ _).mono ?_
  rintro e w' ⟨rfl, rfl⟩
  go_wp2
  go_ret
  exact ⟨ret_bool (by unfold badAmt; simp), rfl⟩
theorem indexFunc_badAmt {xs : List Int} {v : Value} {w : World} {A : Nat} (ha : RdI A w v xs) :
    Calls Tryd.prog 79 #[v, .func (.func 60) #[] #[]] w fun e w' => (∃ r : Int, e = .returned (.int .i64 r) ∧ -1 ≤ r ∧ (0 ≤ r ↔ xs.any badAmt = true)) ∧ w = w' := by
  have hle := ha.le
  obtain ⟨ao, cap, rfl, ho⟩ := ha.open
  obtain ⟨l, hl⟩ : ∃ l, l = xs.length := ⟨_, rfl⟩
  rw [← hl]
  have Hl := Lib.hid hl
  have Ho := Lib.hid ho
  have hl' : l ≤ 9223372036854775807 := by omega
  clear ho hl hle ha
  go_enter Tryd.func79, Tryd.ntmps79
  go_wp2
  go_loop [8] (fun i => ∃ k : Nat, k ≤ l ∧ i = .int .i64 k ∧ Hid ((xs.take k).any badAmt = false)) (fun i => l - (intOf i).toNat)
  case atStart => exact ⟨0, Nat.zero_le _, rfl, rfl⟩
  case round =>
    obtain ⟨k, hk, rfl, hp⟩ := hrel
    by_cases hkn : k < l
    · obtain ⟨b, off, rfl, hlt, hc⟩ := Ho.out (by have := Hl.out; omega)
      obtain ⟨x, hx, hcx, bx⟩ := hc k (by have := Hl.out; omega)
      have Hx := Lib.hid hx
      have Hb := Lib.hid bx
      clear hx hc bx
      cases hq : badAmt x with
      | true =>
        have Hq := Lib.hid hq
        clear hq
        go_wp2_with (go_at_call 60; refine (clo_badAmt x _ Hb.out).mono ?_; rw [Hq.out]; rintro e w' ⟨rfl, rfl⟩)
        go_ret
        refine ⟨⟨_, rfl, by omega, ?_⟩, rfl⟩
        have : xs.any badAmt = true := List.any_eq_true.2 ⟨x, List.mem_of_getElem? Hx.out, Hq.out⟩
        simp [this]
      | false =>
        have Hq := Lib.hid hq
        clear hq
        go_wp2_with (go_at_call 60; refine (clo_badAmt x _ Hb.out).mono ?_; rw [Hq.out]; rintro e w' ⟨rfl, rfl⟩)
        go_round
        case rel => exact ⟨k + 1, by omega, by go_num, by show _ = false; rw [take_snoc Hx.out, List.any_append, hp.out]; simp [Hq.out]⟩
        case measure => simp [intOf]; omega
    · go_wp2
      go_ret
      refine ⟨⟨_, rfl, by omega, ?_⟩, rfl⟩
      have hq := hp.out
      rw [List.take_of_length_le (by have := Hl.out; omega)] at hq
      exact any_end hq
theorem any_badAmt {xs : List Int} {v : Value} {w : World} {A : Nat} (ha : RdI A w v xs) :
    Calls Tryd.prog 59 #[v, .func (.func 60) #[] #[]] w fun e w' => e = .returned (.bool (xs.any badAmt)) ∧ w = w' := by
  have Ha := Lib.hid ha
  obtain ⟨ao, cap, rfl⟩ := ha.shape
  clear ha
  go_enter Tryd.func59, Tryd.ntmps59
  go_wp2_with fail
  refine (indexFunc_badAmt Ha.out).mono ?_
  rintro e w' ⟨⟨r, rfl, hr, hi⟩, rfl⟩
  have Hi := Lib.hid hi
  clear hi
  go_wp2
  go_ret
  refine ⟨ret_bool ?_, rfl⟩
  rw [Bool.eq_iff_iff, decide_eq_true_iff]
  exact Hi.out
theorem ValidAmounts_c {xs : List Int} {v : Value} {w : World} {A : Nat} (ha : RdI A w v xs) :
    Calls Tryd.prog 34 #[v] w fun e w' => e = .returned (.bool (amtOk xs)) ∧ w = w' := by
  have Ha := Lib.hid ha
  have hle := ha.le
  obtain ⟨ao, cap, rfl⟩ := ha.shape
  obtain ⟨n, hn⟩ : ∃ n, n = xs.length := ⟨_, rfl⟩
  have e := amtOk_bad xs
  rw [← hn] at e Ha hle ⊢
  rw [e]
  clear ha hn e
  by_cases hl : n ≤ 12
  · rw [decide_eq_true hl, Bool.true_and]
    have h12 : (n : Int) ≤ 12 := by omega
    clear hl
    go_enter Tryd.func34, Tryd.ntmps34
    go_wp2_with fail
    with_reducible refine (any_badAmt Ha.out).mono ?_
    rintro e w' ⟨rfl, rfl⟩
    go_wp2
    go_ret
    exact ⟨rfl, rfl⟩
  · rw [decide_eq_false hl, Bool.false_and]
    have h12 : ¬ (n : Int) ≤ 12 := by omega
    clear hl
    go_enter Tryd.func34, Tryd.ntmps34
    go_wp2
    go_ret
    exact ⟨rfl, rfl⟩
theorem l19Ok_c {xs : List Int} {v : Value} {w : World} {A : Nat} (ha : RdI A w v xs) :
    Calls Tryd.prog 38 #[v] w fun e w' => e = .returned (.bool (amtOk xs)) ∧ w = w' := by
  have hle := ha.le
  obtain ⟨ao, cap, rfl, ho⟩ := ha.open
  obtain ⟨n, hn⟩ : ∃ n, n = xs.length := ⟨_, rfl⟩
  rw [← hn] at ho hle ⊢
  obtain ⟨ok, hok⟩ : ∃ ok, amtOk xs = ok := ⟨_, rfl⟩
  rw [hok]
  have Hok := Lib.hid hok
  have Hn := Lib.hid hn
  have Ho := Lib.hid ho
  clear ho hn ha hok
  go_enter Tryd.func38, Tryd.ntmps38
  go_wp2
  go_loop [3] (fun i => ∃ k : Nat, k ≤ n ∧ i = .int .i64 k ∧ Hid ((xs.take k).any badAmt = false)) (fun i => n - (intOf i).toNat)
  case atStart => exact ⟨0, Nat.zero_le _, rfl, rfl⟩
  case round =>
    obtain ⟨k, hk, rfl, hp⟩ := hrel
    by_cases hkn : k < n
    · obtain ⟨b, off, rfl, hlt, hc⟩ := Ho.out (by have := Hn.out; omega)
      obtain ⟨x, hx, hcx, bx⟩ := hc k (by have := Hn.out; omega)
      have Hx := Lib.hid hx
      clear hx hc bx
      cases hq : badAmt x with
      | true =>
        have e : amtOk xs = false := by
          rw [amtOk_bad, List.any_eq_true.2 ⟨x, List.mem_of_getElem? Hx.out, hq⟩, Bool.not_true, Bool.and_false]
        have hf : decide (0 ≤ x ∧ x ≤ 9999) = false := by unfold badAmt at hq; rwa [Bool.not_eq_true'] at hq
        rw [Hok.out] at e
        subst e
        have Hf := Lib.hid hf
        clear hq hf
        go_wp2_with fail
        with_reducible refine (l00In_any _ _ _ _).mono ?_
        rw [Hf.out]
        rintro e w' ⟨rfl, rfl⟩
        go_wp2
        go_ret
        exact ⟨rfl, rfl⟩
      | false =>
        have hf : decide (0 ≤ x ∧ x ≤ 9999) = true := by unfold badAmt at hq; rwa [Bool.not_eq_false'] at hq
        have Hq := Lib.hid hq
        have Hf := Lib.hid hf
        clear hq hf
        go_wp2_with fail
        with_reducible refine (l00In_any _ _ _ _).mono ?_
        rw [Hf.out]
        rintro e w' ⟨rfl, rfl⟩
        go_wp2
        go_round
        case rel => exact ⟨k + 1, by omega, by go_num, by show _ = false; rw [take_snoc Hx.out, List.any_append, hp.out]; simp [Hq.out]⟩
        case measure => simp [intOf]; omega
    · obtain rfl : k = n := by omega
      have e : amtOk xs = decide ((k : Int) ≤ 12) := by
        have h := hp.out
        rw [List.take_of_length_le (by have := Hn.out; omega)] at h
        rw [amtOk_bad, h, Bool.not_false, Bool.and_true, ← Hn.out]
        exact decide_eq_decide.2 (by omega)
      rw [Hok.out] at e
      subst e
      go_wp2
      go_ret
      exact ⟨rfl, rfl⟩
theorem dsum_step {n : Int} (h : 0 ≤ n ∧ n ≤ 9999) : dsum n = n % 10 + dsum (n / 10) := by
  unfold dsum digA p10
  simp
  omega
theorem l19Digits_c {n : Int} {w : World} (h : 0 ≤ n ∧ n ≤ 9999) : Calls Tryd.prog 67 #[.int .i64 n] w fun e w' => e = .returned (.int .i64 (dsum n)) ∧ w = w' := by
  obtain ⟨d, hd⟩ : ∃ d, d = dsum n := ⟨_, rfl⟩
  rw [← hd]
  have Hd := Lib.hid hd
  clear hd
  go_enter Tryd.func67, Tryd.ntmps67
  go_wp2
  go_loop [0, 3] (fun nv sv => ∃ q s : Int, (0 ≤ q ∧ q ≤ 9999) ∧ (0 ≤ s ∧ s + dsum q ≤ 36) ∧ nv = .int .i64 q ∧ sv = .int .i64 s ∧ Hid (d = s + dsum q)) (fun nv _ => (intOf nv).toNat)
  case atStart => exact ⟨n, 0, h, by have := dsum_bound n; omega, rfl, rfl, by show d = _; rw [Hd.out]; omega⟩
  case round =>
    obtain ⟨q, s, ⟨hq0, hq1⟩, ⟨hs0, hs1⟩, rfl, rfl, Hs⟩ := hrel
    have hs2 : s ≤ 36 := by have := dsum_bound q; omega
    have Hs1 := Lib.hid hs1
    clear hs1
    by_cases hqz : 0 < q
    · have hst := dsum_step ⟨hq0, hq1⟩
      have Hst := Lib.hid hst
      clear hst
      go_wp2
      go_round
      case rel => exact ⟨q / 10, s + q % 10, by omega, by have := Hst.out; have := Hs1.out; omega, by go_num, by go_num, by show d = _; rw [Hs.out, Hst.out]; omega⟩
      case measure => simp [intOf]; omega
    · obtain rfl : q = 0 := by omega
      have hz : d = s := by rw [Hs.out]; show s + dsum 0 = s; rw [show dsum 0 = 0 by decide]; omega
      subst hz
      clear hqz
      go_wp2
      go_ret
      exact ⟨rfl, rfl⟩
end Go.Proofs.YtahkkdkdaedioaaDoor
