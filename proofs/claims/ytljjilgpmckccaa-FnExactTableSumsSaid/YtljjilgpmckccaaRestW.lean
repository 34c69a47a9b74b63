/- Restarts, the walks: times of steps, checkpoints, losses. No condition. -/
import Derived.Test.YtljjilgpmckccaaRestM
import Derived.Test.YtljjilgpmckccaaInts
import Derived.Test.YtljjilgpmckccaaApp
namespace Go.Proofs.Ytljjilgpmckccaa
open Go.ChangeShapes Go.WideShapes Go.ChangeAt Go.RowKit
set_option linter.unusedVariables false
set_option maxRecDepth 100000

def badTime (x : Int) : Bool := !decide (0 ≤ x ∧ x ≤ 10000)
theorem clo_badTime (x : Int) (w : World) (_h : okInt64 x) : Calls Try.prog 102 #[.int .i64 x] w fun e w' => e = .returned (.bool (badTime x)) ∧ w = w' := by
  go_enter Try.func102, Try.ntmps102
  go_wp2_with fail
  refine (inside_any _ _ _ _).mono ?_
  rintro e w' ⟨rfl, rfl⟩
  go_wp2
  go_ret
  exact ⟨ret_bool (by unfold badTime; simp), rfl⟩
theorem indexFunc_badTime {xs : List Int} {v : Value} {w : World} {A : Nat} (ha : RdI A w v xs) :
    Calls Try.prog 105 #[v, .func (.func 102) #[] #[]] w fun e w' => (∃ r : Int, e = .returned (.int .i64 r) ∧ -1 ≤ r ∧ (0 ≤ r ↔ xs.any badTime = true)) ∧ w = w' := by
  have hle := ha.le
  obtain ⟨ao, cap, rfl, ho⟩ := ha.open
  obtain ⟨l, hl⟩ : ∃ l, l = xs.length := ⟨_, rfl⟩
  rw [← hl]
  have Hl := Lib.hid hl
  have Ho := Lib.hid ho
  have hl' : l ≤ 9223372036854775807 := by omega
  clear ho hl hle ha
  go_enter Try.func105, Try.ntmps105
  go_wp2
  go_loop [8] (fun i => ∃ k : Nat, k ≤ l ∧ i = .int .i64 k ∧ Hid ((xs.take k).any badTime = false)) (fun i => l - (intOf i).toNat)
  case atStart => exact ⟨0, Nat.zero_le _, rfl, rfl⟩
  case round =>
    obtain ⟨k, hk, rfl, hp⟩ := hrel
    by_cases hkn : k < l
    · obtain ⟨b, off, rfl, hlt, hc⟩ := Ho.out (by have := Hl.out; omega)
      obtain ⟨x, hx, hcx, bx⟩ := hc k (by have := Hl.out; omega)
      have Hx := Lib.hid hx
      have Hb := Lib.hid bx
      clear hx hc bx
      cases hq : badTime x with
      | true =>
        have Hq := Lib.hid hq
        clear hq
        go_wp2_with (go_at_call 102; refine (clo_badTime x _ Hb.out).mono ?_; rw [Hq.out]; rintro e w' ⟨rfl, rfl⟩)
        go_ret
        refine ⟨⟨_, rfl, by omega, ?_⟩, rfl⟩
        have : xs.any badTime = true := List.any_eq_true.2 ⟨x, List.mem_of_getElem? Hx.out, Hq.out⟩
        simp [this]
      | false =>
        have Hq := Lib.hid hq
        clear hq
        go_wp2_with (go_at_call 102; refine (clo_badTime x _ Hb.out).mono ?_; rw [Hq.out]; rintro e w' ⟨rfl, rfl⟩)
        go_round
        case rel => exact ⟨k + 1, by omega, by go_num, by show _ = false; rw [take_snoc Hx.out, List.any_append, hp.out]; simp [Hq.out]⟩
        case measure => simp [intOf]; omega
    · go_wp2
      go_ret
      refine ⟨⟨_, rfl, by omega, ?_⟩, rfl⟩
      have hq := hp.out
      rw [List.take_of_length_le (by have := Hl.out; omega)] at hq
      exact any_end hq
theorem any_badTime {xs : List Int} {v : Value} {w : World} {A : Nat} (ha : RdI A w v xs) :
    Calls Try.prog 101 #[v, .func (.func 102) #[] #[]] w fun e w' => e = .returned (.bool (xs.any badTime)) ∧ w = w' := by
  have Ha := Lib.hid ha
  obtain ⟨ao, cap, rfl⟩ := ha.shape
  clear ha
  go_enter Try.func101, Try.ntmps101
  go_wp2_with fail
  refine (indexFunc_badTime Ha.out).mono ?_
  rintro e w' ⟨⟨r, rfl, hr, hi⟩, rfl⟩
  have Hi := Lib.hid hi
  clear hi
  go_wp2
  go_ret
  refine ⟨ret_bool ?_, rfl⟩
  rw [Bool.eq_iff_iff, decide_eq_true_iff]
  exact Hi.out
theorem badTime_any {xs : List Int} : (xs.any badTime = false) ↔ ∀ x ∈ xs, 0 ≤ x ∧ x ≤ 10000 := by
  rw [List.any_eq_false]
  constructor
  · intro h x hx; have := h x hx; unfold badTime at this; simp at this; omega
  · intro h x hx; have := h x hx; unfold badTime; simp; omega

theorem areTimes_any {ms : List Int} {v : Value} {w : World} {A : Nat} (ha : RdI A w v ms) :
    Calls Try.prog 90 #[v] w fun e w' => (∃ b : Bool, e = .returned (.bool b) ∧ (b = true ↔ Times ms)) ∧ w = w' := by
  have Ha := Lib.hid ha
  obtain ⟨ao, cap, rfl⟩ := ha.shape
  clear ha
  go_enter Try.func90, Try.ntmps90
  go_wp2_with fail
  refine (size_any Ha.out).mono ?_
  rintro e w' ⟨rfl, rfl⟩
  by_cases hl : 1 ≤ ms.length ∧ ms.length ≤ 20
  · have Hl := Lib.hid hl
    go_wp2_with fail
    refine (inside_yes _ _ _ _ (by omega) (by omega)).mono ?_
    rintro e w' ⟨rfl, rfl⟩
    clear hl
    go_wp2_with fail
    refine (any_badTime Ha.out).mono ?_
    rintro e w' ⟨rfl, rfl⟩
    go_wp2
    go_ret
    refine ⟨⟨_, rfl, ?_⟩, rfl⟩
    unfold Times
    rw [← badTime_any]
    simp [Hl.out]
  · have hno : (ms.length : Int) < 1 ∨ 20 < (ms.length : Int) := by omega
    have Hl := Lib.hid hl
    clear hl
    go_wp2_with fail
    refine (inside_no _ _ _ _ hno).mono ?_
    rintro e w' ⟨rfl, rfl⟩
    clear hno
    go_wp2
    go_ret
    exact ⟨⟨false, rfl, by simp; intro h; exact Hl.out h.1⟩, rfl⟩

theorem sumOf_any {xs : List Int} {v : Value} {w : World} {A : Nat} (ha : RdI A w v xs) (hb : ∀ x ∈ xs, 0 ≤ x ∧ x ≤ 1000000000) (hl : xs.length ≤ 1000000) :
    Calls Try.prog 56 #[v] w fun e w' => e = .returned (.int .i64 (sumI xs)) ∧ w = w' := by
  obtain ⟨ao, cap, rfl, ho⟩ := ha.open
  obtain ⟨n, hn⟩ : ∃ n, n = xs.length := ⟨_, rfl⟩
  rw [← hn]
  have Hn := Lib.hid hn
  have Ho := Lib.hid ho
  have Hb := Lib.hid hb
  have hn' : n ≤ 1000000 := by omega
  clear ho hn hl ha hb
  go_enter Try.func56, Try.ntmps56
  go_wp2
  go_loop [3, 8] (fun s i => ∃ k : Nat, k ≤ n ∧ i = .int .i64 k ∧ ∃ t : Int, s = .int .i64 t ∧ Hid (t = sumI (xs.take k))) (fun _ i => n - (intOf i).toNat)
  case atStart => exact ⟨0, Nat.zero_le _, rfl, 0, rfl, rfl⟩
  case round =>
    obtain ⟨k, hk, rfl, t, rfl, ht⟩ := hrel
    by_cases hkn : k < n
    · obtain ⟨b, off, rfl, hlt, hc⟩ := Ho.out (by have := Hn.out; omega)
      obtain ⟨x, hx, hcx, bx⟩ := hc k (by have := Hn.out; omega)
      have hxb := Hb.out x (List.mem_of_getElem? hx)
      have ht0 : 0 ≤ t := by rw [ht.out]; exact sumI_nonneg fun y hy => (Hb.out y (List.mem_of_mem_take hy)).1
      have ht1 : t ≤ 1000000000000000 := by
        have h1 := sumI_le (xs := xs.take k) (M := 1000000000) (by omega) fun y hy => (Hb.out y (List.mem_of_mem_take hy)).2
        rw [← ht.out, List.length_take] at h1
        omega
      have Hx := Lib.hid hx
      clear hx hc bx
      go_wp2
      go_round
      case rel => exact ⟨k + 1, by omega, by go_num, t + x, by go_num, by show _ = _; rw [take_snoc Hx.out, sumI_snoc, ← ht.out]⟩
      case measure => simp [intOf]; omega
    · go_wp2
      go_ret
      refine ⟨ret_int ?_, rfl⟩
      rw [ht.out, List.take_of_length_le (by have := Hn.out; omega)]

open Classical in
/-- the code of times and checkpoints -/
noncomputable def codeF (ms cs : List Int) (b : Bool) : Int := if Times ms then (if Checks ms cs ∧ b = true then 0 else 2) else 1
theorem codeF_ok {ms cs : List Int} {b : Bool} (h1 : Times ms) (h2 : Checks ms cs) (h3 : b = true) : codeF ms cs b = 0 := by unfold codeF; rw [if_pos h1, if_pos ⟨h2, h3⟩]
theorem codeF_bad {ms cs : List Int} {b : Bool} (h1 : ¬ Times ms) : codeF ms cs b = 1 := by unfold codeF; rw [if_neg h1]
theorem codeF_no {ms cs : List Int} {b : Bool} (h1 : Times ms) (h2 : ¬ (Checks ms cs ∧ b = true)) : codeF ms cs b = 2 := by unfold codeF; rw [if_pos h1, if_neg h2]

theorem checkCode_any {ms cs : List Int} {v u : Value} {w : World} {A B : Nat} (b : Bool) (ha : RdI A w v ms) (hc : RdI B w u cs) :
    Calls Try.prog 52 #[v, u, .bool b] w fun e w' => e = .returned (.int .i64 (codeF ms cs b)) ∧ w = w' := by
  have Ha := Lib.hid ha
  have hle := hc.le
  obtain ⟨ao, cap, rfl⟩ := ha.shape
  obtain ⟨ao', cap', rfl, ho⟩ := hc.open
  obtain ⟨n, hn⟩ : ∃ n, n = cs.length := ⟨_, rfl⟩
  have hn' : n ≤ 9223372036854775807 := by omega
  rw [← hn]
  have Hn := Lib.hid hn
  have Ho := Lib.hid ho
  clear ho ha hc hn hle
  by_cases ht : Times ms
  · have hml : ms.length ≤ 20 := ht.1.2
    have hml1 : 1 ≤ ms.length := ht.1.1
    have Ht := Lib.hid ht
    clear ht
    go_enter Try.func52, Try.ntmps52
    go_wp2_with fail
    refine (areTimes_any Ha.out).mono ?_
    rintro e w' ⟨⟨b', rfl, hb'⟩, rfl⟩
    rw [hb'.2 Ht.out]
    clear hb'
    go_wp2_with fail
    go_loop [14] (fun i => ∃ k : Nat, k ≤ n ∧ i = .int .i64 k ∧ Rises cs 1 ((ms.length : Int) - 1) k) (fun i => n - (intOf i).toNat)
    case atStart => exact ⟨0, Nat.zero_le _, rfl, Rises.zero _ _ _⟩
    case round =>
      obtain ⟨k, hk, rfl, hp⟩ := hrel
      by_cases hkn : k < n
      · obtain ⟨bb, off, rfl, hlt, hc⟩ := Ho.out (by have := Hn.out; omega)
        obtain ⟨x, hx, hcx, bx⟩ := hc k (by have := Hn.out; omega)
        have Hx := Lib.hid hx
        clear hx
        by_cases hr : 1 ≤ x ∧ x ≤ (ms.length : Int) - 1
        · rcases k with _ | k
          · have hcx0 : w.cell? ⟨bb, off, none⟩ = some (.int .i64 x) := by simpa using hcx
            clear hc hcx
            go_wp2_with (first
              | (go_at_call 57; refine (size_any Ha.out).mono ?_; rintro e w' ⟨rfl, rfl⟩)
              | (go_at_call 55; refine (inside_yes _ _ _ _ (by omega) (by omega)).mono ?_; rintro e w' ⟨rfl, rfl⟩))
            go_round
            case rel => exact ⟨1, by omega, by go_num, Rises.first Hx.out hr⟩
            case measure => simp [intOf]; omega
          · obtain ⟨y, hy, hcy, by'⟩ := hc k (by have := Hn.out; omega)
            have Hy := Lib.hid hy
            clear hy hc
            by_cases hxy : y < x
            · have hd : decide (x ≤ y) = false := by simpa using hxy
              go_wp2_with (first
                | (go_at_call 57; refine (size_any Ha.out).mono ?_; rintro e w' ⟨rfl, rfl⟩)
                | (go_at_call 55; refine (inside_yes _ _ _ _ (by omega) (by omega)).mono ?_; rintro e w' ⟨rfl, rfl⟩))
              go_round
              case rel => exact ⟨k + 2, by omega, by go_num, Rises.succ hp Hy.out Hx.out hr hxy⟩
              case measure => simp [intOf]; omega
            · have hd : decide (x ≤ y) = true := by simp; omega
              go_wp2_with (first
                | (go_at_call 57; refine (size_any Ha.out).mono ?_; rintro e w' ⟨rfl, rfl⟩)
                | (go_at_call 55; refine (inside_yes _ _ _ _ (by omega) (by omega)).mono ?_; rintro e w' ⟨rfl, rfl⟩))
              go_ret
              refine ⟨ret_int ?_, rfl⟩
              rw [codeF_no Ht.out]
              intro h
              have := (h.1 (k + 1) x (by have := Hn.out; omega) Hx.out).2 k y rfl Hy.out
              omega
        · have hr' : x < 1 ∨ (ms.length : Int) - 1 < x := by omega
          have Hr := Lib.hid hr'
          clear hr' hr hc
          go_wp2_with (first
            | (go_at_call 57; refine (size_any Ha.out).mono ?_; rintro e w' ⟨rfl, rfl⟩)
            | (go_at_call 55; refine (inside_no _ _ _ _ Hr.out).mono ?_; rintro e w' ⟨rfl, rfl⟩))
          go_ret
          refine ⟨ret_int ?_, rfl⟩
          rw [codeF_no Ht.out]
          intro h
          have := (h.1 k x (by have := Hn.out; omega) Hx.out).1
          have := Hr.out
          omega
      · obtain rfl : k = n := by omega
        cases b with
        | true =>
          go_wp2
          go_ret
          exact ⟨ret_int (by rw [codeF_ok Ht.out (by unfold Checks; rw [← Hn.out]; exact hp) rfl]), rfl⟩
        | false =>
          go_wp2
          go_ret
          exact ⟨ret_int (by rw [codeF_no Ht.out (by simp)]), rfl⟩
  · have Ht := Lib.hid ht
    clear ht
    go_enter Try.func52, Try.ntmps52
    go_wp2_with fail
    refine (areTimes_any Ha.out).mono ?_
    rintro e w' ⟨⟨b', rfl, hb'⟩, rfl⟩
    obtain rfl : b' = false := by cases b'; rfl; exact absurd (hb'.1 rfl) Ht.out
    clear hb'
    go_wp2
    go_ret
    exact ⟨ret_int (by rw [codeF_bad Ht.out]), rfl⟩
theorem fromF_any {cs : List Int} {x : Int} {k : Nat} (h : cs[k]? = some x) (at_ : Int) : fromF (cs.take (k + 1)) at_ = if x ≤ at_ then x else fromF (cs.take k) at_ := by rw [take_snoc h, fromF_snoc]
theorem Checks.pos {ms cs : List Int} (h : Checks ms cs) {c : Int} (hc : c ∈ cs) : 1 ≤ c ∧ c ≤ (ms.length : Int) - 1 := by
  obtain ⟨i, hi, rfl⟩ := List.mem_iff_getElem.1 hc
  exact (h i cs[i] hi (by simp [hi])).1
theorem lossAt_any {ms cs : List Int} {v u : Value} {w : World} {A B : Nat} {at_ : Int} (ha : RdI A w v ms) (hc : RdI B w u cs) (ht : Times ms) (hk : Checks ms cs) (h0 : 0 ≤ at_) (h1 : at_ < ms.length) :
    Calls Try.prog 54 #[v, u, .int .i64 at_] w fun e w' => e = .returned (.int .i64 (lossF ms cs at_)) ∧ w = w' := by
  have Ha := Lib.hid ha
  have hml := ht.1.2
  obtain ⟨ao, cap, hv, hoa⟩ := ha.open
  obtain ⟨b, off, rfl, hlt, _⟩ := hoa (by omega)
  subst hv
  have hle := hc.le
  obtain ⟨ao', cap', rfl, ho⟩ := hc.open
  obtain ⟨n, hn⟩ : ∃ n, n = cs.length := ⟨_, rfl⟩
  have hn' : n ≤ 9223372036854775807 := by omega
  rw [← hn]
  have Hn := Lib.hid hn
  have Ho := Lib.hid ho
  have Ht := Lib.hid ht
  have Hk := Lib.hid hk
  obtain ⟨l, hl⟩ : ∃ l, l = ms.length := ⟨_, rfl⟩
  rw [← hl] at Ha h1 hml ⊢
  have Hl := Lib.hid hl
  clear ho ha hc hn hle hoa hlt ht hk hl
  go_enter Try.func54, Try.ntmps54
  go_wp2
  go_loop [7, 12] (fun f i => ∃ k : Nat, k ≤ n ∧ i = .int .i64 k ∧ ∃ t : Int, f = .int .i64 t ∧ Hid (t = fromF (cs.take k) at_)) (fun _ i => n - (intOf i).toNat)
  case atStart => exact ⟨0, Nat.zero_le _, rfl, 0, rfl, rfl⟩
  case round =>
    obtain ⟨k, hk, rfl, t, rfl, hft⟩ := hrel
    by_cases hkn : k < n
    · obtain ⟨bb, off', rfl, hlt, hc⟩ := Ho.out (by have := Hn.out; omega)
      obtain ⟨x, hx, hcx, bx⟩ := hc k (by have := Hn.out; omega)
      have Hx := Lib.hid hx
      clear hx hc
      by_cases hxa : x ≤ at_
      · go_wp2
        go_round
        case rel => exact ⟨k + 1, by omega, by go_num, x, rfl, by show _ = _; rw [fromF_any Hx.out, if_pos hxa]⟩
        case measure => simp [intOf]; omega
      · go_wp2
        go_round
        case rel => exact ⟨k + 1, by omega, by go_num, t, rfl, by show _ = _; rw [fromF_any Hx.out, if_neg (by omega), hft.out]⟩
        case measure => simp [intOf]; omega
    · have hb := fromF_bd (cs := cs) (at_ := at_) h0 (fun c hc => by have := Hk.out.pos hc; omega)
      have ht2 : t = fromF cs at_ := by rw [hft.out, List.take_of_length_le (by have := Hn.out; omega)]
      rw [← ht2] at hb
      have Hft := Lib.hid ht2
      clear hft ht2
      obtain ⟨f, rfl⟩ := Int.eq_ofNat_of_zero_le hb.1
      obtain ⟨a, rfl⟩ := Int.eq_ofNat_of_zero_le h0
      have hcap : l ≤ cap := Ha.out.cap.1
      go_wp2_with fail
      refine (sumOf_any (A := A) (xs := (ms.take (a + 1)).drop f) ?s1 ?s2 ?s3).mono ?_
      case s1 =>
        have := Rds.sub (lo := f) (hi := a + 1) (cap' := cap - f) Ha.out (by have := Hl.out; omega) (by omega) ⟨by omega, by have := Ha.out.cap.2.2 (by omega); omega⟩
        rw [show f * eI.sz = f from Nat.mul_one f] at this
        exact this
      case s2 =>
        intro x hx
        have := Ht.out.2 x (List.mem_of_mem_take (List.mem_of_mem_drop hx))
        omega
      case s3 =>
        rw [List.length_drop, List.length_take]; omega
      rintro e w' ⟨rfl, rfl⟩
      go_wp2
      go_ret
      refine ⟨ret_int ?_, rfl⟩
      unfold lossF
      rw [← Hft.out]
      simp

/-- the greatest, and what is so for each -/
def maxL : List Int → Int
  | [] => 0
  | x :: xs => xs.foldl maxI x
theorem maxL_take {xs : List Int} {k : Nat} {x : Int} (h : xs[k + 1]? = some x) : maxL (xs.take (k + 2)) = maxI (maxL (xs.take (k + 1))) x := by
  rw [take_snoc h]
  cases xs with
  | nil => simp at h
  | cons y ys => simp [maxL, List.foldl_append]
theorem maxL_all {xs : List Int} (hx : xs ≠ []) : (∀ x ∈ xs, x ≤ maxL xs) ∧ maxL xs ∈ xs := by
  cases xs with
  | nil => exact absurd rfl hx
  | cons y ys =>
    show (∀ x ∈ y :: ys, x ≤ ys.foldl maxI y) ∧ ys.foldl maxI y ∈ y :: ys
    clear hx
    induction ys generalizing y with
    | nil => simp
    | cons z zs ih =>
      rw [List.foldl_cons]
      have := ih (maxI y z)
      have hm : y ≤ maxI y z ∧ z ≤ maxI y z ∧ (maxI y z = y ∨ maxI y z = z) := by unfold maxI; split <;> omega
      refine ⟨fun x hx => ?_, ?_⟩
      · have h0 := this.1 (maxI y z) (List.mem_cons_self ..)
        rcases List.mem_cons.1 hx with rfl | hx
        · omega
        · rcases List.mem_cons.1 hx with rfl | hx
          · omega
          · exact this.1 x (List.mem_cons_of_mem _ hx)
      · rcases List.mem_cons.1 this.2 with h | h
        · rw [h]
          rcases hm.2.2 with e | e <;> rw [e] <;> simp
        · exact List.mem_cons_of_mem _ (List.mem_cons_of_mem _ h)

theorem Max_any {xs : List Int} {v : Value} {w : World} {A : Nat} (ha : RdI A w v xs) (h0 : 0 < xs.length) :
    Calls Try.prog 61 #[v] w fun e w' => e = .returned (.int .i64 (maxL xs)) ∧ w = w' := by
  have hle := ha.le
  obtain ⟨ao, cap, hv, hoa⟩ := ha.open
  obtain ⟨b, off, rfl, hlt, hc⟩ := hoa h0
  subst hv
  obtain ⟨n, hn⟩ : ∃ n, n = xs.length := ⟨_, rfl⟩
  rw [← hn] at h0 hle ⊢
  have Hn := Lib.hid hn
  have Hc := Lib.hid hc
  obtain ⟨y, hy, hcy, by'⟩ := hc 0 (by omega)
  have hcy0 : w.cell? ⟨b, off, none⟩ = some (.int .i64 y) := by simpa using hcy
  have Hy := Lib.hid hy
  have hn1 : ¬ ((n : Int) < 1) := by omega
  clear hn hc hoa ha hlt hy hcy
  go_enter Try.func61, Try.ntmps61
  go_wp2
  go_loop [3, 4] (fun m i => ∃ k : Nat, k + 1 ≤ n ∧ i = .int .i64 (k + 1 : Nat) ∧ ∃ t : Int, m = .int .i64 t ∧ Hid (t = maxL (xs.take (k + 1)))) (fun _ i => n - (intOf i).toNat)
  case atStart => exact ⟨0, by omega, rfl, y, rfl, by show _ = _; rw [take_snoc Hy.out]; rfl⟩
  case round =>
    obtain ⟨k, hk, rfl, t, rfl, ht⟩ := hrel
    by_cases hkn : k + 1 < n
    · obtain ⟨x, hx, hcx, bx⟩ := Hc.out (k + 1) (by have := Hn.out; omega)
      have Hx := Lib.hid hx
      clear hx
      by_cases hxt : t < x
      · go_wp2
        go_round
        case rel => exact ⟨k + 1, by omega, by go_num, x, rfl, by show _ = _; rw [maxL_take Hx.out, ← ht.out]; unfold maxI; split <;> omega⟩
        case measure => simp [intOf]; omega
      · go_wp2
        go_round
        case rel => exact ⟨k + 1, by omega, by go_num, t, rfl, by show _ = _; rw [maxL_take Hx.out, ← ht.out]; unfold maxI; split <;> omega⟩
        case measure => simp [intOf]; omega
    · go_wp2
      go_ret
      refine ⟨ret_int ?_, rfl⟩
      rw [ht.out, List.take_of_length_le (by have := Hn.out; omega)]
end Go.Proofs.Ytljjilgpmckccaa
