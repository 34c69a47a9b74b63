/- Posts: the code of operators and posts; the first fault: both sides. No condition. -/
import Derived.Test.YtfojfcmjoacbgaaCan
import Derived.Test.YtfojfcmjoacbgaaCopy
import Derived.Deep.RegionHeld3
namespace Go.Proofs.Ytfojfcmjoacbgaa
open Go.ChangeShapes Go.WideShapes Go.ChangeAt Go.RowKit
set_option linter.unusedVariables false
set_option maxRecDepth 100000
def badM (x : Int) : Bool := !decide (0 ≤ x ∧ x ≤ 5)
def postsB (ps : List Int) : Bool := decide (ps.length ≤ 8) && !(ps.any badM)
theorem postsB_parts {ps : List Int} (h : postsB ps = true) : ps.length ≤ 8 ∧ ∀ p ∈ ps, 0 ≤ p ∧ p ≤ 5 := by
  unfold postsB at h
  rw [Bool.and_eq_true, decide_eq_true_eq, Bool.not_eq_true', List.any_eq_false] at h
  refine ⟨h.1, fun p hp => ?_⟩
  have := h.2 p hp
  unfold badM at this
  simpa using this
/-- the code of operators and posts -/
def PCode (xs : List OperatorT) (ps : List Int) : Int := if validOs xs = true then (if postsB ps = true then 0 else 2) else 1
theorem PCode_ok {xs : List OperatorT} {ps : List Int} (h : PCode xs ps = 0) : validOs xs = true ∧ postsB ps = true := by
  unfold PCode at h
  split at h
  · rename_i h1
    split at h
    · rename_i h2; exact ⟨h1, h2⟩
    · cases h
  · cases h
theorem clo_badM (x : Int) (w : World) (_h : -9223372036854775808 ≤ x ∧ x ≤ 9223372036854775807) : Calls Try.prog 85 #[.int .i64 x] w fun e w' => e = .returned (.bool (badM x)) ∧ w = w' := by
  unfold badM
  go_enter Try.func85, Try.ntmps85
  go_wp2_with fail
  with_reducible refine (isMachine_any x _).mono ?_
  rintro e w' ⟨rfl, rfl⟩
  go_wp2
  go_ret
  exact ⟨ret_bool (by by_cases h1 : 0 ≤ x <;> by_cases h2 : x ≤ 5 <;> simp [h1, h2]), rfl⟩
theorem indexFunc_badM {xs : List Int} {v : Value} {w : World} {A : Nat} (ha : RdI A w v xs) :
    Calls Try.prog 97 #[v, .func (.func 85) #[] #[]] w fun e w' => (∃ r : Int, e = .returned (.int .i64 r) ∧ -1 ≤ r ∧ (0 ≤ r ↔ xs.any badM = true)) ∧ w = w' := by
  have hle := ha.le
  obtain ⟨ao, cap, rfl, ho⟩ := ha.open
  obtain ⟨l, hl⟩ : ∃ l, l = xs.length := ⟨_, rfl⟩
  rw [← hl]
  have Hl := Lib.hid hl
  have Ho := Lib.hid ho
  have hl' : l ≤ 9223372036854775807 := by omega
  clear ho hl hle ha
  go_enter Try.func97, Try.ntmps97
  go_wp2
  go_loop [8] (fun i => ∃ k : Nat, k ≤ l ∧ i = .int .i64 k ∧ Hid ((xs.take k).any badM = false)) (fun i => l - (intOf i).toNat)
  case atStart => exact ⟨0, Nat.zero_le _, rfl, rfl⟩
  case round =>
    obtain ⟨k, hk, rfl, hp⟩ := hrel
    by_cases hkn : k < l
    · obtain ⟨b, off, rfl, hlt, hc⟩ := Ho.out (by have := Hl.out; omega)
      obtain ⟨x, hx, hcx, bx⟩ := hc k (by have := Hl.out; omega)
      have Hx := Lib.hid hx
      have Hb := Lib.hid bx
      clear hx hc bx
      cases hq : badM x with
      | true =>
        have Hq := Lib.hid hq
        clear hq
        go_wp2_with (go_at_call 85; refine (clo_badM x _ Hb.out).mono ?_; rw [Hq.out]; rintro e w' ⟨rfl, rfl⟩)
        go_ret
        refine ⟨⟨_, rfl, by omega, ?_⟩, rfl⟩
        have : xs.any badM = true := List.any_eq_true.2 ⟨x, List.mem_of_getElem? Hx.out, Hq.out⟩
        simp [this]
      | false =>
        have Hq := Lib.hid hq
        clear hq
        go_wp2_with (go_at_call 85; refine (clo_badM x _ Hb.out).mono ?_; rw [Hq.out]; rintro e w' ⟨rfl, rfl⟩)
        go_round
        case rel => exact ⟨k + 1, by omega, by go_num, by show _ = false; rw [take_snoc Hx.out, List.any_append, hp.out]; simp [Hq.out]⟩
        case measure => simp [intOf]; omega
    · go_wp2
      go_ret
      refine ⟨⟨_, rfl, by omega, ?_⟩, rfl⟩
      have hq := hp.out
      rw [List.take_of_length_le (by have := Hl.out; omega)] at hq
      exact any_end hq
theorem any_badM {xs : List Int} {v : Value} {w : World} {A : Nat} (ha : RdI A w v xs) :
    Calls Try.prog 84 #[v, .func (.func 85) #[] #[]] w fun e w' => e = .returned (.bool (xs.any badM)) ∧ w = w' := by
  have Ha := Lib.hid ha
  obtain ⟨ao, cap, rfl⟩ := ha.shape
  clear ha
  go_enter Try.func84, Try.ntmps84
  go_wp2_with fail
  refine (indexFunc_badM Ha.out).mono ?_
  rintro e w' ⟨⟨r, rfl, hr, hi⟩, rfl⟩
  have Hi := Lib.hid hi
  clear hi
  go_wp2
  go_ret
  refine ⟨ret_bool ?_, rfl⟩
  rw [Bool.eq_iff_iff, decide_eq_true_iff]
  exact Hi.out
theorem postCode_c {xs : List OperatorT} {ps : List Int} {v u : Value} {w : World} {A B : Nat} (ha : RdOperatorS A w v xs) (hp : RdI B w u ps) :
    Calls Try.prog 65 #[v, u] w fun e w' => e = .returned (.int .i64 (PCode xs ps)) ∧ Below w.heap.size w w' := by
  have Ha := Lib.hid ha
  have Hp := Lib.hid hp
  have hle := hp.le
  obtain ⟨ao, cap, rfl⟩ := hp.shape
  obtain ⟨n, hn⟩ : ∃ n, n = ps.length := ⟨_, rfl⟩
  rw [← hn] at Hp hle ⊢
  have Hn := Lib.hid hn
  clear ha hp hn
  cases hv : validOs xs with
  | false =>
    have e1 : PCode xs ps = 1 := by unfold PCode; rw [hv]; rfl
    rw [e1]
    have Hv := Lib.hid hv
    clear hv e1
    go_enter Try.func65, Try.ntmps65
    go_wp2_with fail
    with_reducible refine (ValidOperators_c Ha.out).mono ?_
    rw [Hv.out]
    rintro e w1 ⟨rfl, hb⟩
    go_wp2
    go_ret
    exact ⟨rfl, hb⟩
  | true =>
    by_cases h8 : n ≤ 8
    · have e1 : PCode xs ps = if ps.any badM = true then 2 else 0 := by
        unfold PCode postsB
        rw [hv, if_pos rfl, decide_eq_true (by have := Hn.out; omega)]
        cases ps.any badM <;> rfl
      have Hv := Lib.hid hv
      clear hv
      rw [e1]
      clear e1
      cases hq : ps.any badM with
      | true =>
        have Hq := Lib.hid hq
        clear hq
        go_enter Try.func65, Try.ntmps65
        go_wp2_with fail
        with_reducible refine (ValidOperators_c Ha.out).mono ?_
        rw [Hv.out]
        rintro e w1 ⟨rfl, hb⟩
        have hp1 := Rds.onn Hp.out hb
        have Hp1 := Lib.hid hp1
        clear hp1
        go_wp2_with fail
        with_reducible refine (any_badM Hp1.out).mono ?_
        rw [Hq.out]
        rintro e w' ⟨rfl, rfl⟩
        go_wp2
        go_ret
        exact ⟨rfl, hb⟩
      | false =>
        have Hq := Lib.hid hq
        clear hq
        go_enter Try.func65, Try.ntmps65
        go_wp2_with fail
        with_reducible refine (ValidOperators_c Ha.out).mono ?_
        rw [Hv.out]
        rintro e w1 ⟨rfl, hb⟩
        have hp1 := Rds.onn Hp.out hb
        have Hp1 := Lib.hid hp1
        clear hp1
        go_wp2_with fail
        with_reducible refine (any_badM Hp1.out).mono ?_
        rw [Hq.out]
        rintro e w' ⟨rfl, rfl⟩
        go_wp2
        go_ret
        exact ⟨rfl, hb⟩
    · have e1 : PCode xs ps = 2 := by unfold PCode postsB; rw [hv, if_pos rfl, decide_eq_false (by have := Hn.out; omega)]; rfl
      rw [e1]
      have Hv := Lib.hid hv
      clear hv e1
      go_enter Try.func65, Try.ntmps65
      go_wp2_with fail
      with_reducible refine (ValidOperators_c Ha.out).mono ?_
      rw [Hv.out]
      rintro e w1 ⟨rfl, hb⟩
      go_wp2
      go_ret
      exact ⟨rfl, hb⟩
theorem l22Posts_c {ps : List Int} {v : Value} {w : World} {A : Nat} (ha : RdI A w v ps) :
    Calls Try.prog 83 #[v] w fun e w' => e = .returned (.bool (postsB ps)) ∧ w = w' := by
  have hle := ha.le
  obtain ⟨ao, cap, rfl, ho⟩ := RdI.open ha
  obtain ⟨n, hn⟩ : ∃ n, n = ps.length := ⟨_, rfl⟩
  rw [← hn] at ho hle ⊢
  have Hn := Lib.hid hn
  have Ho := Lib.hid ho
  clear ho hn ha
  go_enter Try.func83, Try.ntmps83
  go_wp2
  go_loop [3] (fun i => ∃ k : Nat, k ≤ n ∧ i = .int .i64 k ∧ Hid ((ps.take k).any badM = false)) (fun i => n - (intOf i).toNat)
  case atStart => exact ⟨0, Nat.zero_le _, rfl, by show ([] : List Int).any badM = false; rfl⟩
  case round =>
    obtain ⟨k, hk, rfl, hp⟩ := hrel
    by_cases hkn : k < n
    · obtain ⟨b, off, rfl, hlt, hc⟩ := Ho.out (by omega)
      obtain ⟨y, hy, hcy, by2⟩ := hc k hkn
      have Hy := Lib.hid hy
      clear hy hc
      go_wp2_with fail
      with_reducible refine (l00In_any y 0 5 _).mono ?_
      cases hq : decide (0 ≤ y ∧ y ≤ 5) with
      | false =>
        have Hq := Lib.hid hq
        clear hq
        rintro e w' ⟨rfl, rfl⟩
        go_wp2
        go_ret
        refine ⟨ret_bool ?_, rfl⟩
        have : ps.any badM = true := List.any_eq_true.2 ⟨y, List.mem_of_getElem? Hy.out, by unfold badM; rw [Hq.out]; rfl⟩
        unfold postsB
        rw [this]
        simp
      | true =>
        have Hq := Lib.hid hq
        clear hq
        rintro e w' ⟨rfl, rfl⟩
        go_wp2
        go_round
        case rel => exact ⟨k + 1, by omega, by go_num, by show _ = false; rw [take_snoc Hy.out, List.any_append, hp.out]; unfold badM; simp [Hq.out]; have := Hq.out; simpa using this⟩
        case measure => simp [intOf]; omega
    · go_wp2
      go_ret
      refine ⟨ret_bool ?_, rfl⟩
      have := hp.out
      rw [List.take_of_length_le (by have := Hn.out; omega)] at this
      unfold postsB
      rw [this, ← Hn.out]
      simp
      omega
theorem l22Code_c {xs : List OperatorT} {ps : List Int} {v u : Value} {w : World} {A B : Nat} (ha : RdOperatorS A w v xs) (hp : RdI B w u ps) :
    Calls Try.prog 63 #[v, u] w fun e w' => e = .returned (.int .i64 (PCode xs ps)) ∧ ∃ q, w' = w.drewN q := by
  have Ha := Lib.hid ha
  have Hp := Lib.hid hp
  clear ha hp
  cases hv : validOs xs with
  | false =>
    have e1 : PCode xs ps = 1 := by unfold PCode; rw [hv]; rfl
    rw [e1]
    have Hv := Lib.hid hv
    clear hv e1
    go_enter Try.func63, Try.ntmps63
    go_wp2_with fail
    with_reducible refine (l22Ok_c Ha.out).mono ?_
    rw [Hv.out]
    rintro e w1 ⟨rfl, q, rfl⟩
    go_wp2
    go_ret
    exact ⟨rfl, q, rfl⟩
  | true =>
    have e1 : PCode xs ps = if postsB ps = true then 0 else 2 := by unfold PCode; rw [hv, if_pos rfl]
    rw [e1]
    have Hv := Lib.hid hv
    clear hv e1
    cases hq : postsB ps with
    | true =>
      have Hq := Lib.hid hq
      clear hq
      go_enter Try.func63, Try.ntmps63
      go_wp2_with fail
      with_reducible refine (l22Ok_c Ha.out).mono ?_
      rw [Hv.out]
      rintro e w1 ⟨rfl, q, rfl⟩
      go_wp2_with fail
      with_reducible refine (l22Posts_c (Rds.drewN Hp.out q)).mono ?_
      rw [Hq.out]
      rintro e w' ⟨rfl, rfl⟩
      go_wp2
      go_ret
      exact ⟨rfl, q, rfl⟩
    | false =>
      have Hq := Lib.hid hq
      clear hq
      go_enter Try.func63, Try.ntmps63
      go_wp2_with fail
      with_reducible refine (l22Ok_c Ha.out).mono ?_
      rw [Hv.out]
      rintro e w1 ⟨rfl, q, rfl⟩
      go_wp2_with fail
      with_reducible refine (l22Posts_c (Rds.drewN Hp.out q)).mono ?_
      rw [Hq.out]
      rintro e w' ⟨rfl, rfl⟩
      go_wp2
      go_ret
      exact ⟨rfl, q, rfl⟩
end Go.Proofs.Ytfojfcmjoacbgaa
