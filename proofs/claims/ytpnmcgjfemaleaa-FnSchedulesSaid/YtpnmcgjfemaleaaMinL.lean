/- The least and the greatest of numbers. No condition. -/
import Derived.Test.YtpnmcgjfemaleaaCopy
import Derived.Test.YtpnmcgjfemaleaaSumI
import Derived.Test.YtpnmcgjfemaleaaInts
namespace Go.Proofs.Ytpnmcgjfemaleaa
open Go.ChangeShapes Go.WideShapes Go.ChangeAt Go.RowKit
set_option linter.unusedVariables false
set_option maxRecDepth 100000
/-- the least of f 0 .. f (k-1), from f 0 -/
def mn (f : Nat → Int) : Nat → Int
  | 0 => f 0
  | k + 1 => min (mn f k) (f k)
theorem mn_one (f : Nat → Int) : mn f 1 = f 0 := by show min (f 0) (f 0) = f 0; omega
theorem mn_congr {f g : Nat → Int} : ∀ {n : Nat}, 0 < n → (∀ k, k < n → f k = g k) → mn f n = mn g n := by
  intro n
  induction n with
  | zero => intro h; omega
  | succ n ih =>
    intro _ h
    rcases Nat.eq_zero_or_pos n with h0 | h0
    · subst h0; rw [mn_one, mn_one]; exact h 0 (by omega)
    · show min _ _ = min _ _
      rw [ih h0 (fun k hk => h k (by omega)), h n (by omega)]
theorem mn_bound {f : Nat → Int} {lo hi : Int} : ∀ {n : Nat}, 0 < n → (∀ k, k < n → lo ≤ f k ∧ f k ≤ hi) → lo ≤ mn f n ∧ mn f n ≤ hi := by
  intro n
  induction n with
  | zero => intro h; omega
  | succ n ih =>
    intro _ h
    rcases Nat.eq_zero_or_pos n with h0 | h0
    · subst h0; rw [mn_one]; exact h 0 (by omega)
    · have h1 := ih h0 (fun k hk => h k (by omega))
      have h2 := h n (by omega)
      show lo ≤ min _ _ ∧ min _ _ ≤ hi
      omega
theorem minI_eq (a b : Int) : minI a b = min a b := by unfold minI; split <;> omega
theorem maxI_eq (a b : Int) : maxI a b = max a b := by unfold maxI; split <;> omega
theorem minS_c {xs : List Int} {v : Value} {w : World} {A : Nat} (ha : RdI A w v xs) (h0 : 0 < xs.length) :
    Calls Try.prog 55 #[v] w fun e w' => e = .returned (.int .i64 (mn (atI xs) xs.length)) ∧ w = w' := by
  have hle := ha.le
  obtain ⟨ao, cap, rfl, ho⟩ := RdI.open ha
  obtain ⟨b, off, rfl, hlt, hc⟩ := ho h0
  obtain ⟨x0, hx0, hcx0, bx0⟩ := hc 0 h0
  obtain ⟨n, hn⟩ : ∃ n, n = xs.length := ⟨_, rfl⟩
  rw [← hn] at h0 hle ⊢
  have Hn := Lib.hid hn
  have Hc := Lib.hid hc
  have Hx0 := Lib.hid hx0
  have hcx0' : w.cell? ⟨b, off, none⟩ = some (.int .i64 x0) := by simpa using hcx0
  clear ho hc hn hcx0 hx0 ha
  go_enter Try.func55, Try.ntmps55
  go_wp2
  go_loop [3, 4] (fun s i => ∃ k : Nat, 1 ≤ k ∧ k ≤ n ∧ i = .int .i64 k ∧ ∃ t : Int, s = .int .i64 t ∧ Hid (t = mn (atI xs) k)) (fun _ i => n - (intOf i).toNat)
  case atStart => exact ⟨1, by omega, by omega, rfl, x0, rfl, by show x0 = _; rw [mn_one, atI_of Hx0.out]⟩
  case round =>
    obtain ⟨k, hk1, hk, rfl, t, rfl, ht⟩ := hrel
    by_cases hkn : k < n
    · obtain ⟨x, hx, hcx, bx⟩ := Hc.out k (by have := Hn.out; omega)
      have Hx := Lib.hid hx
      clear hx
      go_wp2
      go_round
      case rel => exact ⟨k + 1, by omega, by omega, by go_num, _, rfl, by show _ = min _ _; rw [atI_of Hx.out, ← ht.out]; first | rfl | omega | (split <;> omega)⟩
      case measure => simp [intOf]; omega
    · go_wp2
      go_ret
      obtain rfl : k = n := by omega
      exact ⟨ret_int ht.out, rfl⟩
end Go.Proofs.Ytpnmcgjfemaleaa
