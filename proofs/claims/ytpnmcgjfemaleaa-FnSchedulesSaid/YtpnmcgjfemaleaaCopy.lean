/- Lists of numbers: copies, and whether a number is among them. No condition. -/
import Derived.Test.YtpnmcgjfemaleaaSmall
import Derived.Test.YtpnmcgjfemaleaaApp
import Derived.Test.YtpnmcgjfemaleaaInts
import Derived.Test.YtpnmcgjfemaleaaStr
namespace Go.Proofs.Ytpnmcgjfemaleaa
open Go.ChangeShapes Go.WideShapes Go.ChangeAt Go.RowKit
set_option linter.unusedVariables false
set_option maxRecDepth 100000
/-- the numbers below k that are chosen -/
def selI (p : Int → Bool) : Nat → List Int
  | 0 => []
  | k + 1 => selI p k ++ (if p (k : Int) = true then [(k : Int)] else [])
theorem selI_succ (p : Int → Bool) (k : Nat) : selI p (k + 1) = selI p k ++ (if p (k : Int) = true then [(k : Int)] else []) := rfl
theorem selI_len (p : Int → Bool) (k : Nat) : (selI p k).length ≤ k := by
  induction k with
  | zero => exact Nat.le_refl _
  | succ k ih => rw [selI_succ, List.length_append]; split <;> simp <;> omega
def atI (xs : List Int) (k : Nat) : Int := xs.getD k 0
theorem atI_of {xs : List Int} {k : Nat} {x : Int} (h : xs[k]? = some x) : atI xs k = x := by unfold atI; rw [List.getD_eq_getElem?_getD, h]; rfl
/-- the rest of a slice -/
theorem Rds.dropI {w : World} {B b off n cap k : Nat} {xs : List Int} (h : RdI B w (.slice (some ⟨b, off, none⟩) n cap) xs) (hk : k ≤ n) (hn : 0 < n) :
    RdI B w (.slice (some ⟨b, off + k, none⟩) (n - k) (cap - k)) (xs.drop k) := by
  have hc := Rds.cap h
  have hcap := hc.2.2 hn
  rcases Nat.lt_or_ge k n with hlt | hge
  · have h1 := Rds.sub (lo := k) (hi := n) (cap' := cap - k) h (by omega) hlt ⟨by omega, by omega⟩
    rw [show k * eI.sz = k from Nat.mul_one k] at h1
    rw [List.take_of_length_le (by omega)] at h1
    exact h1
  · have hd : xs.drop k = [] := List.drop_of_length_le (by omega)
    rw [hd]
    refine ⟨⟨by simp [Elt.all], by simp, .inl ⟨rfl, some ⟨b, off + k, none⟩, cap - k, ?_, fun hh => by cases hh⟩⟩, fun x hx => by cases hx⟩
    rw [show n - k = 0 by omega]
theorem Rds.drop0 {w : World} {B b off n cap k : Nat} {xs : List Int} (h : RdI B w (.slice (some ⟨b, off, none⟩) n cap) xs) (hk : n ≤ k) :
    RdI B w (.slice (some ⟨b, off, none⟩) (n - k) 0) (xs.drop k) := by
  have hc := Rds.cap h
  have hd : xs.drop k = [] := List.drop_of_length_le (by omega)
  rw [hd]
  refine ⟨⟨by simp [Elt.all], by simp, .inl ⟨rfl, some ⟨b, off, none⟩, 0, ?_, fun hh => by cases hh⟩⟩, fun x hx => by cases hx⟩
  rw [show n - k = 0 by omega]
def hasI (xs : List Int) (x : Int) : Bool := xs.contains x
theorem hasI_take {xs : List Int} {k : Nat} {x y : Int} (hx : xs[k]? = some x) (h : hasI (xs.take k) y = false) : hasI (xs.take (k + 1)) y = (x == y) := by
  unfold hasI at *
  rw [take_snoc hx, List.contains_eq_any_beq, List.any_append, ← List.contains_eq_any_beq, h]
  simp
  rw [Bool.eq_iff_iff, beq_iff_eq, beq_iff_eq]
  exact eq_comm
theorem hasI_mem {xs : List Int} {k : Nat} {x : Int} (hx : xs[k]? = some x) : hasI xs x = true := by
  unfold hasI
  have := List.mem_of_getElem? hx
  simpa using this
theorem copyInts_c {xs : List Int} {v : Value} {w : World} {A : Nat} (ha : RdI A w v xs) (hl : xs.length ≤ 2097152) :
    Calls Try.prog 59 #[v] w fun e w' => ∃ u, e = .returned u ∧ OwnInt64S w.heap.size w' u xs ∧ Below w.heap.size w w' := by
  obtain ⟨i0, hi, hz0, hz1, hz2⟩ := info_parts Try.infoInt64
  have h0 : OwnInt64S w.heap.size (w.alloc (.cells #[] 2)) (.slice (some ⟨w.heap.size, 0, none⟩) 0 0) [] := Own.lit (E := eI) (xs := []) (cs := #[]) (Nat.le_refl _) rfl rfl (by decide) (fun x hx => by cases hx)
  have hb0 : Below w.heap.size w (w.alloc (.cells #[] 2)) := (Below.refl _ _).alloc (Nat.le_refl _) _
  have hr : RdI (w.heap.size + 1) (w.alloc (.cells #[] 2)) v xs := by have := Rds.onn ha hb0; simpa using this
  have H0 := Lib.hid h0
  have Hb0 := Lib.hid hb0
  have Hr := Lib.hid hr
  have Hl := Lib.hid hl
  clear h0 hb0 hr ha hl
  go_enter Try.func59, Try.ntmps59
  go_wp2_with (first | (at_builtin; refine wpList_appS (E := eI) rfl _ _ 29 rfl Try.underlying29 hi hz0 hz1 hz2 rfl (by decide) rfl rfl H0.out Hr.out ?b1 ?b2 ?b3 ?_))
  case b1 => have := Hl.out; unfold maxLen; simp; omega
  case b2 => have := Hl.out; simp; omega
  case b3 => simp
  intro v' w2 hR2 hg
  have hb2 := hg.below Hb0.out (by simp) (fun q hq => (H0.out.lt q hq).1)
  clear hg
  have hR3 : OwnInt64S w.heap.size w2 v' xs := hR2
  clear hR2
  have HR3 := Lib.hid hR3
  clear hR3
  go_wp2
  go_ret
  exact ⟨_, rfl, HR3.out, hb2⟩
theorem l00Own_c {xs : List Int} {v : Value} {w : World} {A : Nat} (ha : RdI A w v xs) (hl : xs.length ≤ 2097152) :
    Calls Try.prog 62 #[v] w fun e w' => ∃ u, e = .returned u ∧ OwnInt64S w.heap.size w' u xs ∧ Below w.heap.size w w' := by
  obtain ⟨i0, hi, hz0, hz1, hz2⟩ := info_parts Try.infoInt64
  have h0 : OwnInt64S w.heap.size (w.alloc (.cells #[] 2)) (.slice (some ⟨w.heap.size, 0, none⟩) 0 0) [] := Own.lit (E := eI) (xs := []) (cs := #[]) (Nat.le_refl _) rfl rfl (by decide) (fun x hx => by cases hx)
  have hb0 : Below w.heap.size w (w.alloc (.cells #[] 2)) := (Below.refl _ _).alloc (Nat.le_refl _) _
  have hr : RdI (w.heap.size + 1) (w.alloc (.cells #[] 2)) v xs := by have := Rds.onn ha hb0; simpa using this
  have H0 := Lib.hid h0
  have Hb0 := Lib.hid hb0
  have Hr := Lib.hid hr
  have Hl := Lib.hid hl
  clear h0 hb0 hr ha hl
  go_enter Try.func62, Try.ntmps62
  go_wp2_with (first | (at_builtin; refine wpList_appS (E := eI) rfl _ _ 29 rfl Try.underlying29 hi hz0 hz1 hz2 rfl (by decide) rfl rfl H0.out Hr.out ?b1 ?b2 ?b3 ?_))
  case b1 => have := Hl.out; unfold maxLen; simp; omega
  case b2 => have := Hl.out; simp; omega
  case b3 => simp
  intro v' w2 hR2 hg
  have hb2 := hg.below Hb0.out (by simp) (fun q hq => (H0.out.lt q hq).1)
  clear hg
  have hR3 : OwnInt64S w.heap.size w2 v' xs := hR2
  clear hR2
  have HR3 := Lib.hid hR3
  clear hR3
  go_wp2
  go_ret
  exact ⟨_, rfl, HR3.out, hb2⟩
theorem l00Has_c {xs : List Int} {v : Value} {w : World} {A : Nat} (x : Int) (ha : RdI A w v xs) :
    Calls Try.prog 87 #[v, .int .i64 x] w fun e w' => e = .returned (.bool (hasI xs x)) ∧ w = w' := by
  have hle := ha.le
  obtain ⟨ao, cap, rfl, ho⟩ := RdI.open ha
  obtain ⟨n, hn⟩ : ∃ n, n = xs.length := ⟨_, rfl⟩
  rw [← hn] at ho hle ⊢
  have Hn := Lib.hid hn
  have Ho := Lib.hid ho
  clear ho hn ha
  go_enter Try.func87, Try.ntmps87
  go_wp2
  go_loop [5] (fun i => ∃ k : Nat, k ≤ n ∧ i = .int .i64 k ∧ Hid (hasI (xs.take k) x = false)) (fun i => n - (intOf i).toNat)
  case atStart => exact ⟨0, Nat.zero_le _, rfl, by show hasI [] x = false; rfl⟩
  case round =>
    obtain ⟨k, hk, rfl, hp⟩ := hrel
    by_cases hkn : k < n
    · obtain ⟨b, off, rfl, hlt, hc⟩ := Ho.out (by omega)
      obtain ⟨y, hy, hcy, by2⟩ := hc k hkn
      have hs := hasI_take hy hp.out
      have Hs := Lib.hid hs
      have Hy := Lib.hid hy
      clear hs hy hc
      cases hq : (y == x) with
      | true =>
        go_wp2
        go_ret
        refine ⟨ret_bool ?_, rfl⟩
        rw [← beq_iff_eq.1 hq, hasI_mem Hy.out]
      | false =>
        go_wp2
        go_round
        case rel => exact ⟨k + 1, by omega, by go_num, by show _ = false; rw [Hs.out, hq]⟩
        case measure => simp [intOf]; omega
    · go_wp2
      go_ret
      have := hp.out
      rw [List.take_of_length_le (by have := Hn.out; omega)] at this
      exact ⟨ret_bool this.symm, rfl⟩
theorem indexI_c {xs : List Int} {v : Value} {w : World} {A : Nat} (x : Int) (ha : RdI A w v xs) :
    Calls Try.prog 88 #[v, .int .i64 x] w fun e w' => (∃ r : Int, e = .returned (.int .i64 r) ∧ -1 ≤ r ∧ r ≤ 9223372036854775807 ∧ (0 ≤ r ↔ hasI xs x = true)) ∧ w = w' := by
  have hle := ha.le
  obtain ⟨ao, cap, rfl, ho⟩ := RdI.open ha
  obtain ⟨n, hn⟩ : ∃ n, n = xs.length := ⟨_, rfl⟩
  rw [← hn] at ho hle ⊢
  have Hn := Lib.hid hn
  have Ho := Lib.hid ho
  clear ho hn ha
  go_enter Try.func88, Try.ntmps88
  go_wp2
  go_loop [8] (fun i => ∃ k : Nat, k ≤ n ∧ i = .int .i64 k ∧ Hid (hasI (xs.take k) x = false)) (fun i => n - (intOf i).toNat)
  case atStart => exact ⟨0, Nat.zero_le _, rfl, by show hasI [] x = false; rfl⟩
  case round =>
    obtain ⟨k, hk, rfl, hp⟩ := hrel
    by_cases hkn : k < n
    · obtain ⟨b, off, rfl, hlt, hc⟩ := Ho.out (by omega)
      obtain ⟨y, hy, hcy, by2⟩ := hc k hkn
      have hs := hasI_take hy hp.out
      have Hs := Lib.hid hs
      have Hy := Lib.hid hy
      clear hs hy hc
      cases hq : (x == y) with
      | true =>
        go_wp2
        go_ret
        refine ⟨⟨_, rfl, by omega, by omega, ?_⟩, rfl⟩
        rw [beq_iff_eq.1 hq, hasI_mem Hy.out]
        simp
      | false =>
        go_wp2
        go_round
        case rel => exact ⟨k + 1, by omega, by go_num, by show _ = false; rw [Hs.out]; rw [Bool.eq_false_iff] at hq ⊢; intro h; exact hq (by rw [beq_iff_eq] at h ⊢; exact h.symm)⟩
        case measure => simp [intOf]; omega
    · go_wp2
      go_ret
      have := hp.out
      rw [List.take_of_length_le (by have := Hn.out; omega)] at this
      exact ⟨⟨_, rfl, by omega, by omega, by rw [this]; simp⟩, rfl⟩
theorem containsI_c {xs : List Int} {v : Value} {w : World} {A : Nat} (x : Int) (ha : RdI A w v xs) :
    Calls Try.prog 58 #[v, .int .i64 x] w fun e w' => e = .returned (.bool (hasI xs x)) ∧ w = w' := by
  have Ha := Lib.hid ha
  obtain ⟨ao, cap, rfl⟩ := ha.shape
  clear ha
  go_enter Try.func58, Try.ntmps58
  go_wp2_with fail
  with_reducible refine (indexI_c x Ha.out).mono ?_
  rintro e w' ⟨⟨r, rfl, hr, hr2, hi⟩, rfl⟩
  have Hi := Lib.hid hi
  clear hi
  go_wp2
  go_ret
  refine ⟨ret_bool ?_, rfl⟩
  rw [Bool.eq_iff_iff, decide_eq_true_iff]
  exact Hi.out
theorem equalI_some {xs ys : List Int} {b off cap b' off' cap' : Nat} {w : World} (hlen : xs.length = ys.length) (hle : xs.length ≤ 9223372036854775807)
    (hc : ∀ k, k < xs.length → ∃ x, xs[k]? = some x ∧ w.cell? ⟨b, off + k, none⟩ = some (.int .i64 x) ∧ -9223372036854775808 ≤ x ∧ x ≤ 9223372036854775807)
    (hc' : ∀ k, k < ys.length → ∃ x, ys[k]? = some x ∧ w.cell? ⟨b', off' + k, none⟩ = some (.int .i64 x) ∧ -9223372036854775808 ≤ x ∧ x ≤ 9223372036854775807) :
    Calls Try.prog 96 #[.slice (some ⟨b, off, none⟩) xs.length cap, .slice (some ⟨b', off', none⟩) ys.length cap'] w fun e w' => e = .returned (.bool (decide (xs = ys))) ∧ ∃ m, w' = w.drewN m := by
  have Hc := Lib.hid hc
  have Hc' := Lib.hid hc'
  have Hl := Lib.hid hlen
  obtain ⟨n, hn⟩ : ∃ n, n = xs.length := ⟨_, rfl⟩
  rw [← hn, ← (hn.trans hlen)]
  have Hn := Lib.hid hn
  have hn' : n ≤ 9223372036854775807 := by omega
  clear hc hc' hlen hn hle
  go_enter Try.func96, Try.ntmps96
  go_wp2
  go_loopw [13] (fun i wr => ∃ k : Nat, k ≤ n ∧ i = .int .i64 k ∧ Pre xs ys k ∧ ∃ m, wr = w.drewN m) (fun i _ => n - (intOf i).toNat)
  case atStart => exact ⟨0, Nat.zero_le _, rfl, by simp [Pre], 0, rfl⟩
  case round =>
    obtain ⟨k, hk, rfl, hp, m, rfl⟩ := hrel
    by_cases hkn : k < n
    · obtain ⟨x, hx, hcx, bx⟩ := Hc.out k (by have := Hn.out; omega)
      obtain ⟨y, hy, hcy, by'⟩ := Hc'.out k (by have := Hn.out; have := Hl.out; omega)
      have Hx := Lib.hid hx
      have Hy := Lib.hid hy
      clear hx hy
      by_cases hxy : x = y
      · subst hxy
        have hf : (x != x) = false := by simp
        go_wp2
        go_quiet (fail)
        go_wp2
        go_roundw
        case rel => exact ⟨k + 1, by omega, by go_num, take_eq_succ hp Hx.out Hy.out rfl, _, rfl⟩
        case measure => simp [intOf]; omega
      · have hf : (x != y) = true := by simpa using hxy
        clear hxy
        go_wp2
        go_quiet (fail)
        go_wp2
        go_ret
        exact ⟨ret_bool (by have := ne_of_at Hx.out Hy.out (by simpa using hf); simp [this]), _, World.drewN_drewN _ _ _⟩
    · go_wp2
      go_ret
      exact ⟨ret_bool (by have := eq_of_take hp Hn.out Hl.out hk hkn; simp [this]), m, rfl⟩

theorem equalI_c {xs ys : List Int} {va vb : Value} {w : World} {A B : Nat} (ha : RdI A w va xs) (hb : RdI B w vb ys) :
    Calls Try.prog 96 #[va, vb] w fun e w' => e = .returned (.bool (decide (xs = ys))) ∧ ∃ m, w' = w.drewN m := by
  by_cases hlen : xs.length = ys.length
  · have hle := ha.le
    rcases ha.cases with ⟨rfl, ao, cap, rfl, _⟩ | ⟨b, off, cap, rfl, hlt, hc⟩
    · obtain rfl : ys = [] := List.eq_nil_of_length_eq_zero (by simpa using hlen.symm)
      obtain ⟨ao', cap', rfl⟩ := hb.shape
      clear hlen ha hb hle
      go_enter Try.func96, Try.ntmps96
      go_wp2
      go_rounds 1
      go_ret
      exact ⟨rfl, 0, rfl⟩
    · rcases hb.cases with ⟨rfl, ao', cap', rfl, _⟩ | ⟨b', off', cap', rfl, hlt', hc'⟩
      · obtain rfl : xs = [] := List.eq_nil_of_length_eq_zero (by simpa using hlen)
        clear hlen ha hb hc hle
        go_enter Try.func96, Try.ntmps96
        go_wp2
        go_rounds 1
        go_ret
        exact ⟨rfl, 0, rfl⟩
      · exact equalI_some hlen hle hc hc'
  · obtain ⟨ao, cap, rfl⟩ := ha.shape
    obtain ⟨ao', cap', rfl⟩ := hb.shape
    have hf : ((xs.length : Int) != (ys.length : Int)) = true := by simpa using fun h : (xs.length : Int) = ys.length => hlen (by omega)
    have Hl := Lib.hid hlen
    clear hlen ha hb
    go_enter Try.func96, Try.ntmps96
    go_wp2
    go_ret
    exact ⟨ret_bool (by have := ne_of_length Hl.out; simp [this]), 0, rfl⟩
end Go.Proofs.Ytpnmcgjfemaleaa
