/- Lists of numbers: copies, and whether a number is among them. No condition. -/
import Derived.Test.YtjmiecjlpndfbaaSmall
import Derived.Test.YtjmiecjlpndfbaaApp
import Derived.Test.YtjmiecjlpndfbaaInts
import Derived.Test.YtjmiecjlpndfbaaStr
namespace Go.Proofs.Ytjmiecjlpndfbaa
open Go.ChangeShapes Go.WideShapes Go.ChangeAt Go.RowKit
set_option linter.unusedVariables false
set_option maxRecDepth 100000
/-- the numbers below k that are chosen -/
def selI (p : Int → Bool) : Nat → List Int
  | 0 => []
  | k + 1 => selI p k ++ (if p (k : Int) = true then [(k : Int)] else [])
theorem selI_succ (p : Int → Bool) (k : Nat) : selI p (k + 1) = selI p k ++ (if p (k : Int) = true then [(k : Int)] else []) := rfl
theorem selI_len (p : Int → Bool) (k : Nat) : (selI p k).length ≤ k := by
  induction k with
  | zero => exact Nat.le_refl _
  | succ k ih => rw [selI_succ, List.length_append]; split <;> simp <;> omega
def atI (xs : List Int) (k : Nat) : Int := xs.getD k 0
theorem atI_of {xs : List Int} {k : Nat} {x : Int} (h : xs[k]? = some x) : atI xs k = x := by unfold atI; rw [List.getD_eq_getElem?_getD, h]; rfl
/-- the rest of a slice -/
theorem Rds.dropI {w : World} {B b off n cap k : Nat} {xs : List Int} (h : RdI B w (.slice (some ⟨b, off, none⟩) n cap) xs) (hk : k ≤ n) (hn : 0 < n) :
    RdI B w (.slice (some ⟨b, off + k, none⟩) (n - k) (cap - k)) (xs.drop k) := by
  have hc := Rds.cap h
  have hcap := hc.2.2 hn
  rcases Nat.lt_or_ge k n with hlt | hge
  · have h1 := Rds.sub (lo := k) (hi := n) (cap' := cap - k) h (by omega) hlt ⟨by omega, by omega⟩
    rw [show k * eI.sz = k from Nat.mul_one k] at h1
    rw [List.take_of_length_le (by omega)] at h1
    exact h1
  · have hd : xs.drop k = [] := List.drop_of_length_le (by omega)
    rw [hd]
    refine ⟨⟨by simp [Elt.all], by simp, .inl ⟨rfl, some ⟨b, off + k, none⟩, cap - k, ?_, fun hh => by cases hh⟩⟩, fun x hx => by cases hx⟩
    rw [show n - k = 0 by omega]
theorem Rds.drop0 {w : World} {B b off n cap k : Nat} {xs : List Int} (h : RdI B w (.slice (some ⟨b, off, none⟩) n cap) xs) (hk : n ≤ k) :
    RdI B w (.slice (some ⟨b, off, none⟩) (n - k) 0) (xs.drop k) := by
  have hc := Rds.cap h
  have hd : xs.drop k = [] := List.drop_of_length_le (by omega)
  rw [hd]
  refine ⟨⟨by simp [Elt.all], by simp, .inl ⟨rfl, some ⟨b, off, none⟩, 0, ?_, fun hh => by cases hh⟩⟩, fun x hx => by cases hx⟩
  rw [show n - k = 0 by omega]
def hasI (xs : List Int) (x : Int) : Bool := xs.contains x
theorem hasI_take {xs : List Int} {k : Nat} {x y : Int} (hx : xs[k]? = some x) (h : hasI (xs.take k) y = false) : hasI (xs.take (k + 1)) y = (x == y) := by
  unfold hasI at *
  rw [take_snoc hx, List.contains_eq_any_beq, List.any_append, ← List.contains_eq_any_beq, h]
  simp
  rw [Bool.eq_iff_iff, beq_iff_eq, beq_iff_eq]
  exact eq_comm
theorem hasI_mem {xs : List Int} {k : Nat} {x : Int} (hx : xs[k]? = some x) : hasI xs x = true := by
  unfold hasI
  have := List.mem_of_getElem? hx
  simpa using this
theorem equalI_some {xs ys : List Int} {b off cap b' off' cap' : Nat} {w : World} (hlen : xs.length = ys.length) (hle : xs.length ≤ 9223372036854775807)
    (hc : ∀ k, k < xs.length → ∃ x, xs[k]? = some x ∧ w.cell? ⟨b, off + k, none⟩ = some (.int .i64 x) ∧ -9223372036854775808 ≤ x ∧ x ≤ 9223372036854775807)
    (hc' : ∀ k, k < ys.length → ∃ x, ys[k]? = some x ∧ w.cell? ⟨b', off' + k, none⟩ = some (.int .i64 x) ∧ -9223372036854775808 ≤ x ∧ x ≤ 9223372036854775807) :
    Calls Try.prog 31 #[.slice (some ⟨b, off, none⟩) xs.length cap, .slice (some ⟨b', off', none⟩) ys.length cap'] w fun e w' => e = .returned (.bool (decide (xs = ys))) ∧ ∃ m, w' = w.drewN m := by
  have Hc := Lib.hid hc
  have Hc' := Lib.hid hc'
  have Hl := Lib.hid hlen
  obtain ⟨n, hn⟩ : ∃ n, n = xs.length := ⟨_, rfl⟩
  rw [← hn, ← (hn.trans hlen)]
  have Hn := Lib.hid hn
  have hn' : n ≤ 9223372036854775807 := by omega
  clear hc hc' hlen hn hle
  go_enter Try.func31, Try.ntmps31
  go_wp2
  go_loopw [13] (fun i wr => ∃ k : Nat, k ≤ n ∧ i = .int .i64 k ∧ Pre xs ys k ∧ ∃ m, wr = w.drewN m) (fun i _ => n - (intOf i).toNat)
  case atStart => exact ⟨0, Nat.zero_le _, rfl, by simp [Pre], 0, rfl⟩
  case round =>
    obtain ⟨k, hk, rfl, hp, m, rfl⟩ := hrel
    by_cases hkn : k < n
    · obtain ⟨x, hx, hcx, bx⟩ := Hc.out k (by have := Hn.out; omega)
      obtain ⟨y, hy, hcy, by'⟩ := Hc'.out k (by have := Hn.out; have := Hl.out; omega)
      have Hx := Lib.hid hx
      have Hy := Lib.hid hy
      clear hx hy
      by_cases hxy : x = y
      · subst hxy
        have hf : (x != x) = false := by simp
        go_wp2
        go_quiet (fail)
        go_wp2
        go_roundw
        case rel => exact ⟨k + 1, by omega, by go_num, take_eq_succ hp Hx.out Hy.out rfl, _, rfl⟩
        case measure => simp [intOf]; omega
      · have hf : (x != y) = true := by simpa using hxy
        clear hxy
        go_wp2
        go_quiet (fail)
        go_wp2
        go_ret
        exact ⟨ret_bool (by have := ne_of_at Hx.out Hy.out (by simpa using hf); simp [this]), _, World.drewN_drewN _ _ _⟩
    · go_wp2
      go_ret
      exact ⟨ret_bool (by have := eq_of_take hp Hn.out Hl.out hk hkn; simp [this]), m, rfl⟩

theorem equalI_c {xs ys : List Int} {va vb : Value} {w : World} {A B : Nat} (ha : RdI A w va xs) (hb : RdI B w vb ys) :
    Calls Try.prog 31 #[va, vb] w fun e w' => e = .returned (.bool (decide (xs = ys))) ∧ ∃ m, w' = w.drewN m := by
  by_cases hlen : xs.length = ys.length
  · have hle := ha.le
    rcases ha.cases with ⟨rfl, ao, cap, rfl, _⟩ | ⟨b, off, cap, rfl, hlt, hc⟩
    · obtain rfl : ys = [] := List.eq_nil_of_length_eq_zero (by simpa using hlen.symm)
      obtain ⟨ao', cap', rfl⟩ := hb.shape
      clear hlen ha hb hle
      go_enter Try.func31, Try.ntmps31
      go_wp2
      go_rounds 1
      go_ret
      exact ⟨rfl, 0, rfl⟩
    · rcases hb.cases with ⟨rfl, ao', cap', rfl, _⟩ | ⟨b', off', cap', rfl, hlt', hc'⟩
      · obtain rfl : xs = [] := List.eq_nil_of_length_eq_zero (by simpa using hlen)
        clear hlen ha hb hc hle
        go_enter Try.func31, Try.ntmps31
        go_wp2
        go_rounds 1
        go_ret
        exact ⟨rfl, 0, rfl⟩
      · exact equalI_some hlen hle hc hc'
  · obtain ⟨ao, cap, rfl⟩ := ha.shape
    obtain ⟨ao', cap', rfl⟩ := hb.shape
    have hf : ((xs.length : Int) != (ys.length : Int)) = true := by simpa using fun h : (xs.length : Int) = ys.length => hlen (by omega)
    have Hl := Lib.hid hlen
    clear hlen ha hb
    go_enter Try.func31, Try.ntmps31
    go_wp2
    go_ret
    exact ⟨ret_bool (by have := ne_of_length Hl.out; simp [this]), 0, rfl⟩
end Go.Proofs.Ytjmiecjlpndfbaa
