/- ClassOf: the program's and the reference's, each by its contract. No condition. -/
import Derived.Test.YtifcgamiimddeaaSmall
import Derived.Test.YtifcgamiimddeaaInts
namespace Go.Proofs.Ytifcgamiimddeaa
open Go.ChangeShapes Go.WideShapes Go.ChangeAt Go.RowKit
set_option linter.unusedVariables false

/-- limits of classes -/
def Limits (xs : List Int) : Prop := Rises xs (-999999999999) 999999999999 xs.length ∧ 1 ≤ xs.length ∧ xs.length ≤ 9
/-- how many are at most n -/
def upTo (n : Int) (xs : List Int) : Nat := (xs.filter (fun x => decide (x ≤ n))).length
theorem upTo_snoc (n : Int) (xs : List Int) (x : Int) : upTo n (xs ++ [x]) = upTo n xs + if x ≤ n then 1 else 0 := by
  unfold upTo; rw [List.filter_append, List.length_append]; by_cases h : x ≤ n <;> simp [h]
theorem upTo_le (n : Int) (xs : List Int) : upTo n xs ≤ xs.length := List.length_filter_le _ _
theorem Rises.lt {xs : List Int} {lo hi : Int} {k : Nat} (h : Rises xs lo hi k) : ∀ {j i : Nat} {x y : Int}, j < k → i < j → xs[i]? = some y → xs[j]? = some x → y < x := by
  intro j
  induction j with
  | zero => intro i x y _ hi; omega
  | succ j ih =>
    intro i x y hj hij hy hx
    have hjl : j < xs.length := by have := at_lt hx; omega
    have hz : xs[j]? = some xs[j] := by simp [hjl]
    have h1 := (h (j + 1) x hj hx).2 j xs[j] rfl hz
    by_cases e : i = j
    · subst e
      rw [hz] at hy
      obtain rfl := Option.some.inj hy
      exact h1
    · have := ih (by omega) (by omega) hy hz
      omega
/-- the first k are at most n, the next is not: k are -/
theorem upTo_first {xs : List Int} {n lo hi : Int} {k : Nat} (h : Rises xs lo hi xs.length) (hk : k ≤ xs.length) (h1 : ∀ j x, j < k → xs[j]? = some x → x ≤ n) (h2 : ∀ x, xs[k]? = some x → n < x) : upTo n xs = k := by
  have e : xs = xs.take k ++ xs.drop k := (List.take_append_drop k xs).symm
  have ha : (xs.take k).filter (fun x => decide (x ≤ n)) = xs.take k := by
    rw [List.filter_eq_self]
    intro x hx
    obtain ⟨j, hj, rfl⟩ := List.mem_iff_getElem.1 hx
    rw [List.length_take] at hj
    rw [List.getElem_take]
    simpa using h1 j _ (by omega) (List.getElem?_eq_getElem _)
  have hb : (xs.drop k).filter (fun x => decide (x ≤ n)) = [] := by
    rw [List.filter_eq_nil_iff]
    intro x hx
    obtain ⟨j, hj, rfl⟩ := List.mem_iff_getElem.1 hx
    rw [List.length_drop] at hj
    rw [List.getElem_drop]
    have hkl : k < xs.length := by omega
    have h0 := h2 xs[k] (by simp [hkl])
    by_cases ej : j = 0
    · subst ej
      simp; omega
    · have := h.lt (j := k + j) (i := k) (x := xs[k + j]) (y := xs[k]) (by omega) (by omega) (by simp [hkl]) (by simp)
      simp; omega
  unfold upTo
  rw [e, List.filter_append, ha, hb, List.append_nil, List.length_take, Nat.min_eq_left hk]

theorem classOf_any {xs : List Int} {v : Value} {w : World} {A : Nat} (n : Int) (ha : RdI A w v xs) :
    Calls Try.prog 38 #[v, .int .i64 n] w fun e w' => e = .returned (.int .i64 (upTo n xs)) ∧ w = w' := by
  have hle := ha.le
  obtain ⟨ao, cap, rfl, ho⟩ := ha.open
  obtain ⟨l, hl⟩ : ∃ l, l = xs.length := ⟨_, rfl⟩
  rw [← hl]
  have Hl := Lib.hid hl
  have Ho := Lib.hid ho
  have hl' : l ≤ 9223372036854775807 := by omega
  clear ho hl hle ha
  go_enter Try.func38, Try.ntmps38
  go_wp2
  go_loop [5, 10] (fun c i => ∃ k : Nat, k ≤ l ∧ i = .int .i64 k ∧ ∃ u : Nat, u ≤ k ∧ c = .int .i64 u ∧ Hid (u = upTo n (xs.take k))) (fun _ i => l - (intOf i).toNat)
  case atStart => exact ⟨0, Nat.zero_le _, rfl, 0, Nat.le_refl _, rfl, rfl⟩
  case round =>
    obtain ⟨k, hk, rfl, u, hu, rfl, hp⟩ := hrel
    by_cases hkn : k < l
    · obtain ⟨b, off, rfl, hlt, hc⟩ := Ho.out (by have := Hl.out; omega)
      obtain ⟨x, hx, hcx, bx⟩ := hc k (by have := Hl.out; omega)
      have Hx := Lib.hid hx
      clear hx hc
      by_cases hxn : x ≤ n
      · go_wp2
        go_round
        case rel => exact ⟨k + 1, by omega, by go_num, u + 1, by omega, by go_num, by show u + 1 = _; rw [take_snoc Hx.out, upTo_snoc, if_pos hxn, ← hp.out]⟩
        case measure => simp [intOf]; omega
      · go_wp2
        go_round
        case rel => exact ⟨k + 1, by omega, by go_num, u, by omega, rfl, by show u = _; rw [take_snoc Hx.out, upTo_snoc, if_neg (by omega), ← hp.out, Nat.add_zero]⟩
        case measure => simp [intOf]; omega
    · go_wp2
      go_ret
      refine ⟨ret_int ?_, rfl⟩
      rw [hp.out, List.take_of_length_le (by have := Hl.out; omega)]

theorem l24Class_any {xs : List Int} {v : Value} {w : World} {A : Nat} (n : Int) (ha : RdI A w v xs) (hr : Rises xs (-999999999999) 999999999999 xs.length) :
    Calls Try.prog 36 #[v, .int .i64 n] w fun e w' => e = .returned (.int .i64 (upTo n xs)) ∧ w = w' := by
  have hle := ha.le
  obtain ⟨ao, cap, rfl, ho⟩ := ha.open
  obtain ⟨l, hl⟩ : ∃ l, l = xs.length := ⟨_, rfl⟩
  rw [← hl]
  have Hl := Lib.hid hl
  have Ho := Lib.hid ho
  have Hr := Lib.hid hr
  have hl' : l ≤ 9223372036854775807 := by omega
  clear ho hl hle ha hr
  go_enter Try.func36, Try.ntmps36
  go_wp2
  go_loop [5] (fun i => ∃ k : Nat, k ≤ l ∧ i = .int .i64 k ∧ Hid (∀ j x, j < k → xs[j]? = some x → x ≤ n)) (fun i => l - (intOf i).toNat)
  case atStart => exact ⟨0, Nat.zero_le _, rfl, fun j x h => by omega⟩
  case round =>
    obtain ⟨k, hk, rfl, hp⟩ := hrel
    by_cases hkn : k < l
    · obtain ⟨b, off, rfl, hlt, hc⟩ := Ho.out (by have := Hl.out; omega)
      obtain ⟨x, hx, hcx, bx⟩ := hc k (by have := Hl.out; omega)
      have Hx := Lib.hid hx
      clear hx hc
      by_cases hxn : x ≤ n
      · go_wp2
        go_round
        case rel =>
          refine ⟨k + 1, by omega, by go_num, ?_⟩
          intro j y hj hy
          by_cases e : j < k
          · exact hp.out j y e hy
          · obtain rfl : j = k := by omega
            rw [Hx.out] at hy
            obtain rfl := Option.some.inj hy
            exact hxn
        case measure => simp [intOf]; omega
      · have hd : decide (x ≤ n) = false := by simpa using hxn
        go_wp2
        go_ret
        refine ⟨ret_int ?_, rfl⟩
        rw [upTo_first Hr.out (by have := Hl.out; omega) hp.out (fun y hy => by rw [Hx.out] at hy; obtain rfl := Option.some.inj hy; omega)]
    · go_wp2
      go_ret
      refine ⟨ret_int ?_, rfl⟩
      rw [upTo_first Hr.out (by have := Hl.out; omega) hp.out (fun y hy => by have := at_lt hy; have := Hl.out; omega)]
theorem isCard_yes (n : Int) (w : World) (h : -999999999999 ≤ n ∧ n ≤ 999999999999) : Calls Try.prog 49 #[.int .i64 n] w fun e w' => e = .returned (.bool true) ∧ w = w' := by
  go_enter Try.func49, Try.ntmps49
  go_wp2_with (go_at_call 34; refine (inside_yes _ _ _ _ (by omega) (by omega)).mono ?_; rintro e w' ⟨rfl, rfl⟩)
  go_ret
  exact ⟨rfl, rfl⟩
theorem isCard_no (n : Int) (w : World) (h : n < -999999999999 ∨ 999999999999 < n) : Calls Try.prog 49 #[.int .i64 n] w fun e w' => e = .returned (.bool false) ∧ w = w' := by
  have H := Lib.hid h
  clear h
  go_enter Try.func49, Try.ntmps49
  go_wp2_with (go_at_call 34; refine (inside_no _ _ _ _ H.out).mono ?_; rintro e w' ⟨rfl, rfl⟩)
  go_ret
  exact ⟨rfl, rfl⟩
theorem size_any {α : Type} {E : Elt α} {xs : List α} {v : Value} {w : World} {A : Nat} (ha : Rds E A w v xs) :
    Calls Try.prog 50 #[v] w fun e w' => e = .returned (.int .i64 xs.length) ∧ w = w' := by
  have hle := ha.le
  obtain ⟨ao, cap, rfl⟩ := ha.shape
  clear ha
  go_enter Try.func50, Try.ntmps50
  go_wp2
  go_ret
  exact ⟨rfl, rfl⟩

theorem areLimits_any {xs : List Int} {v : Value} {w : World} {A : Nat} (ha : RdI A w v xs) :
    Calls Try.prog 37 #[v] w fun e w' => (∃ b : Bool, e = .returned (.bool b) ∧ (b = true ↔ Limits xs)) ∧ w = w' := by
  have hle := ha.le
  have Ha := Lib.hid ha
  obtain ⟨ao, cap, rfl, ho⟩ := ha.open
  obtain ⟨n, hn⟩ : ∃ n, n = xs.length := ⟨_, rfl⟩
  rw [← hn] at Ha ⊢
  have Hn := Lib.hid hn
  have Ho := Lib.hid ho
  have hn' : n ≤ 9223372036854775807 := by omega
  clear ho hn hle ha
  go_enter Try.func37, Try.ntmps37
  go_wp2
  go_loop [7] (fun i => ∃ k : Nat, k ≤ n ∧ i = .int .i64 k ∧ Rises xs (-999999999999) 999999999999 k) (fun i => n - (intOf i).toNat)
  case atStart => exact ⟨0, Nat.zero_le _, rfl, Rises.zero _ _ _⟩
  case round =>
    obtain ⟨k, hk, rfl, hp⟩ := hrel
    by_cases hkn : k < n
    · obtain ⟨b, off, rfl, hlt, hc⟩ := Ho.out (by have := Hn.out; omega)
      obtain ⟨x, hx, hcx, bx⟩ := hc k (by have := Hn.out; omega)
      have Hx := Lib.hid hx
      clear hx
      by_cases hr : -999999999999 ≤ x ∧ x ≤ 999999999999
      · rcases k with _ | k
        · have hcx0 : w.cell? ⟨b, off, none⟩ = some (.int .i64 x) := by simpa using hcx
          clear hc hcx
          go_wp2_with (go_at_call 49; refine (isCard_yes _ _ (by omega)).mono ?_; rintro e w' ⟨rfl, rfl⟩)
          go_round
          case rel => exact ⟨1, by omega, by go_num, Rises.first Hx.out hr⟩
          case measure => simp [intOf]; omega
        · obtain ⟨y, hy, hcy, by'⟩ := hc k (by have := Hn.out; omega)
          have Hy := Lib.hid hy
          clear hy hc
          by_cases hxy : y < x
          · have hd : decide (x ≤ y) = false := by simpa using hxy
            go_wp2_with (go_at_call 49; refine (isCard_yes _ _ (by omega)).mono ?_; rintro e w' ⟨rfl, rfl⟩)
            go_round
            case rel => exact ⟨k + 2, by omega, by go_num, Rises.succ hp Hy.out Hx.out hr hxy⟩
            case measure => simp [intOf]; omega
          · have hd : decide (x ≤ y) = true := by simp; omega
            go_wp2_with (go_at_call 49; refine (isCard_yes _ _ (by omega)).mono ?_; rintro e w' ⟨rfl, rfl⟩)
            go_ret
            exact ⟨⟨false, rfl, by simp; intro h; have := (h.1 (k + 1) x (by have := Hn.out; omega) Hx.out).2 k y rfl Hy.out; omega⟩, rfl⟩
      · have hr' : x < -999999999999 ∨ 999999999999 < x := by omega
        have Hr := Lib.hid hr'
        clear hr' hr hc
        go_wp2_with (go_at_call 49; refine (isCard_no _ _ Hr.out).mono ?_; rintro e w' ⟨rfl, rfl⟩)
        go_ret
        exact ⟨⟨false, rfl, by simp; intro h; have := (h.1 k x (by have := Hn.out; omega) Hx.out).1; have := Hr.out; omega⟩, rfl⟩
    · obtain rfl : k = n := by omega
      go_wp2_with fail
      refine (size_any Ha.out).mono ?_
      rintro e w' ⟨rfl, rfl⟩
      rw [← Hn.out]
      go_wp2_with fail
      refine (inside_any _ _ _ _).mono ?_
      rintro e w' ⟨rfl, rfl⟩
      go_wp2
      go_ret
      refine ⟨⟨_, rfl, ?_⟩, rfl⟩
      have := Hn.out
      rw [Bool.and_eq_true, decide_eq_true_iff, decide_eq_true_iff]
      constructor
      · intro h; exact ⟨by rw [← this]; exact hp, by omega, by omega⟩
      · intro h; have := h.2; omega

theorem l24Limits_any {xs : List Int} {v : Value} {w : World} {A : Nat} (ha : RdI A w v xs) :
    Calls Try.prog 35 #[v] w fun e w' => (∃ b : Bool, e = .returned (.bool b) ∧ (b = true ↔ Limits xs)) ∧ ∃ m, w' = w.drewN m := by
  have hle := ha.le
  obtain ⟨ao, cap, rfl⟩ := ha.shape
  have Ha := Lib.hid ha
  clear ha
  go_enter Try.func35, Try.ntmps35
  go_wp2_with fail
  refine (l00Rises_any _ _ Ha.out).mono ?_
  rintro e w' ⟨⟨b, rfl, hb⟩, m, rfl⟩
  have Hb := Lib.hid hb
  clear hb
  cases b with
  | false =>
    go_wp2
    go_ret
    exact ⟨⟨false, rfl, by simp; intro h; exact absurd (Hb.out.2 h.1) (by simp)⟩, m, rfl⟩
  | true =>
    go_wp2_with fail
    refine (l00In_any _ _ _ _).mono ?_
    rintro e w' ⟨rfl, rfl⟩
    go_wp2
    go_ret
    refine ⟨⟨_, rfl, ?_⟩, m, rfl⟩
    rw [Bool.and_eq_true, decide_eq_true_iff, decide_eq_true_iff]
    constructor
    · intro h; exact ⟨Hb.out.1 (by simp), by omega, by omega⟩
    · intro h; have := h.2; omega

open Classical in
/-- the class, and the code -/
noncomputable def ClassR (xs : List Int) (n : Int) : Int := if Limits xs then upTo n xs else 0
open Classical in
noncomputable def ClassC (xs : List Int) : Int := if Limits xs then 0 else 1
theorem ClassOf_c {xs : List Int} (n : Int) (w : World) (A : Nat) (v : Value) (ha : RdI A w v xs) :
    Calls Try.prog 17 #[v, .int .i64 n] w fun e w' => e = .returned (.tuple #[.int .i64 (ClassR xs n), .int .i64 (ClassC xs)]) ∧ Below w.heap.size w w' := by
  have Ha := Lib.hid ha
  obtain ⟨ao, cap, rfl⟩ := ha.shape
  clear ha
  by_cases hlim : Limits xs
  · have e1 : ClassR xs n = upTo n xs := if_pos hlim
    have e2 : ClassC xs = 0 := if_pos hlim
    rw [e1, e2]
    have H := Lib.hid hlim
    clear hlim e1 e2
    go_enter Try.func17, Try.ntmps17
    go_wp2_with fail
    refine (areLimits_any Ha.out).mono ?_
    rintro e w' ⟨⟨b, rfl, hb⟩, rfl⟩
    rw [hb.2 H.out]
    clear hb
    go_wp2_with fail
    refine (classOf_any n Ha.out).mono ?_
    rintro e w' ⟨rfl, rfl⟩
    go_wp2
    go_ret2
    exact ⟨rfl, Below.refl _ _⟩
  · have e1 : ClassR xs n = 0 := if_neg hlim
    have e2 : ClassC xs = 1 := if_neg hlim
    rw [e1, e2]
    have H := Lib.hid hlim
    clear hlim e1 e2
    go_enter Try.func17, Try.ntmps17
    go_wp2_with fail
    refine (areLimits_any Ha.out).mono ?_
    rintro e w' ⟨⟨b, rfl, hb⟩, rfl⟩
    obtain rfl : b = false := by cases b; rfl; exact absurd (hb.1 rfl) H.out
    clear hb
    go_wp2
    go_ret2
    exact ⟨rfl, Below.refl _ _⟩
theorem sClassOf_c {xs : List Int} (n : Int) (w : World) (A : Nat) (v : Value) (ha : RdI A w v xs) :
    Calls Try.prog 15 #[v, .int .i64 n] w fun e w' => e = .returned (.tuple #[.int .i64 (ClassR xs n), .int .i64 (ClassC xs)]) ∧ Below w.heap.size w w' := by
  have Ha := Lib.hid ha
  obtain ⟨ao, cap, rfl⟩ := ha.shape
  clear ha
  by_cases hlim : Limits xs
  · have e1 : ClassR xs n = upTo n xs := if_pos hlim
    have e2 : ClassC xs = 0 := if_pos hlim
    rw [e1, e2]
    have H := Lib.hid hlim
    clear hlim e1 e2
    go_enter Try.func15, Try.ntmps15
    go_wp2_with fail
    refine (l24Limits_any Ha.out).mono ?_
    rintro e w' ⟨⟨b, rfl, hb⟩, m, rfl⟩
    rw [hb.2 H.out]
    clear hb
    go_wp2_with fail
    refine (l24Class_any n (Ha.out.drewN m) H.out.1).mono ?_
    rintro e w' ⟨rfl, rfl⟩
    go_wp2
    go_ret2
    exact ⟨rfl, below_drewN (Below.refl _ _) m⟩
  · have e1 : ClassR xs n = 0 := if_neg hlim
    have e2 : ClassC xs = 1 := if_neg hlim
    rw [e1, e2]
    have H := Lib.hid hlim
    clear hlim e1 e2
    go_enter Try.func15, Try.ntmps15
    go_wp2_with fail
    refine (l24Limits_any Ha.out).mono ?_
    rintro e w' ⟨⟨b, rfl, hb⟩, m, rfl⟩
    obtain rfl : b = false := by cases b; rfl; exact absurd (hb.1 rfl) H.out
    clear hb
    go_wp2
    go_ret2
    exact ⟨rfl, below_drewN (Below.refl _ _) m⟩
end Go.Proofs.Ytifcgamiimddeaa
