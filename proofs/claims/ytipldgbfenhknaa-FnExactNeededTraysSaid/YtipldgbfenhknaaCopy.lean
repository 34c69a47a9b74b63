/- Lists of numbers: copies, and whether a number is among them. No condition. -/
import Derived.Test.YtipldgbfenhknaaSmall
import Derived.Test.YtipldgbfenhknaaApp
import Derived.Test.YtipldgbfenhknaaInts
import Derived.Test.YtipldgbfenhknaaStr
namespace Go.Proofs.Ytipldgbfenhknaa
open Go.ChangeShapes Go.WideShapes Go.ChangeAt Go.RowKit
set_option linter.unusedVariables false
set_option maxRecDepth 100000
/-- the numbers below k that are chosen -/
def selI (p : Int → Bool) : Nat → List Int
  | 0 => []
  | k + 1 => selI p k ++ (if p (k : Int) = true then [(k : Int)] else [])
theorem selI_succ (p : Int → Bool) (k : Nat) : selI p (k + 1) = selI p k ++ (if p (k : Int) = true then [(k : Int)] else []) := rfl
theorem selI_len (p : Int → Bool) (k : Nat) : (selI p k).length ≤ k := by
  induction k with
  | zero => exact Nat.le_refl _
  | succ k ih => rw [selI_succ, List.length_append]; split <;> simp <;> omega
def atI (xs : List Int) (k : Nat) : Int := xs.getD k 0
theorem atI_of {xs : List Int} {k : Nat} {x : Int} (h : xs[k]? = some x) : atI xs k = x := by unfold atI; rw [List.getD_eq_getElem?_getD, h]; rfl
/-- the rest of a slice -/
theorem Rds.dropI {w : World} {B b off n cap k : Nat} {xs : List Int} (h : RdI B w (.slice (some ⟨b, off, none⟩) n cap) xs) (hk : k ≤ n) (hn : 0 < n) :
    RdI B w (.slice (some ⟨b, off + k, none⟩) (n - k) (cap - k)) (xs.drop k) := by
  have hc := Rds.cap h
  have hcap := hc.2.2 hn
  rcases Nat.lt_or_ge k n with hlt | hge
  · have h1 := Rds.sub (lo := k) (hi := n) (cap' := cap - k) h (by omega) hlt ⟨by omega, by omega⟩
    rw [show k * eI.sz = k from Nat.mul_one k] at h1
    rw [List.take_of_length_le (by omega)] at h1
    exact h1
  · have hd : xs.drop k = [] := List.drop_of_length_le (by omega)
    rw [hd]
    refine ⟨⟨by simp [Elt.all], by simp, .inl ⟨rfl, some ⟨b, off + k, none⟩, cap - k, ?_, fun hh => by cases hh⟩⟩, fun x hx => by cases hx⟩
    rw [show n - k = 0 by omega]
theorem Rds.drop0 {w : World} {B b off n cap k : Nat} {xs : List Int} (h : RdI B w (.slice (some ⟨b, off, none⟩) n cap) xs) (hk : n ≤ k) :
    RdI B w (.slice (some ⟨b, off, none⟩) (n - k) 0) (xs.drop k) := by
  have hc := Rds.cap h
  have hd : xs.drop k = [] := List.drop_of_length_le (by omega)
  rw [hd]
  refine ⟨⟨by simp [Elt.all], by simp, .inl ⟨rfl, some ⟨b, off, none⟩, 0, ?_, fun hh => by cases hh⟩⟩, fun x hx => by cases hx⟩
  rw [show n - k = 0 by omega]
def hasI (xs : List Int) (x : Int) : Bool := xs.contains x
theorem hasI_take {xs : List Int} {k : Nat} {x y : Int} (hx : xs[k]? = some x) (h : hasI (xs.take k) y = false) : hasI (xs.take (k + 1)) y = (x == y) := by
  unfold hasI at *
  rw [take_snoc hx, List.contains_eq_any_beq, List.any_append, ← List.contains_eq_any_beq, h]
  simp
  rw [Bool.eq_iff_iff, beq_iff_eq, beq_iff_eq]
  exact eq_comm
theorem hasI_mem {xs : List Int} {k : Nat} {x : Int} (hx : xs[k]? = some x) : hasI xs x = true := by
  unfold hasI
  have := List.mem_of_getElem? hx
  simpa using this
theorem l00Has_c {xs : List Int} {v : Value} {w : World} {A : Nat} (x : Int) (ha : RdI A w v xs) :
    Calls Try.prog 25 #[v, .int .i64 x] w fun e w' => e = .returned (.bool (hasI xs x)) ∧ w = w' := by
  have hle := ha.le
  obtain ⟨ao, cap, rfl, ho⟩ := RdI.open ha
  obtain ⟨n, hn⟩ : ∃ n, n = xs.length := ⟨_, rfl⟩
  rw [← hn] at ho hle ⊢
  have Hn := Lib.hid hn
  have Ho := Lib.hid ho
  clear ho hn ha
  go_enter Try.func25, Try.ntmps25
  go_wp2
  go_loop [5] (fun i => ∃ k : Nat, k ≤ n ∧ i = .int .i64 k ∧ Hid (hasI (xs.take k) x = false)) (fun i => n - (intOf i).toNat)
  case atStart => exact ⟨0, Nat.zero_le _, rfl, by show hasI [] x = false; rfl⟩
  case round =>
    obtain ⟨k, hk, rfl, hp⟩ := hrel
    by_cases hkn : k < n
    · obtain ⟨b, off, rfl, hlt, hc⟩ := Ho.out (by omega)
      obtain ⟨y, hy, hcy, by2⟩ := hc k hkn
      have hs := hasI_take hy hp.out
      have Hs := Lib.hid hs
      have Hy := Lib.hid hy
      clear hs hy hc
      cases hq : (y == x) with
      | true =>
        go_wp2
        go_ret
        refine ⟨ret_bool ?_, rfl⟩
        rw [← beq_iff_eq.1 hq, hasI_mem Hy.out]
      | false =>
        go_wp2
        go_round
        case rel => exact ⟨k + 1, by omega, by go_num, by show _ = false; rw [Hs.out, hq]⟩
        case measure => simp [intOf]; omega
    · go_wp2
      go_ret
      have := hp.out
      rw [List.take_of_length_le (by have := Hn.out; omega)] at this
      exact ⟨ret_bool this.symm, rfl⟩
end Go.Proofs.Ytipldgbfenhknaa
