/- The sum of numbers. No condition. -/
import Derived.Test.YtpnmcgjfemaleaaSmall
import Derived.Test.YtpnmcgjfemaleaaBase
namespace Go.Proofs.Ytpnmcgjfemaleaa
open Go.ChangeShapes Go.WideShapes Go.ChangeAt Go.RowKit
set_option linter.unusedVariables false
set_option maxRecDepth 100000
def sumI (xs : List Int) : Int := xs.foldr (fun x s => x + s) 0
theorem sumI_nil : sumI [] = 0 := rfl
theorem sumI_cons (x : Int) (xs : List Int) : sumI (x :: xs) = x + sumI xs := rfl
theorem sumI_append (xs ys : List Int) : sumI (xs ++ ys) = sumI xs + sumI ys := by
  induction xs with
  | nil => simp [sumI_nil]
  | cons x xs ih => rw [List.cons_append, sumI_cons, sumI_cons, ih]; omega
theorem sumI_snoc (xs : List Int) (x : Int) : sumI (xs ++ [x]) = sumI xs + x := by rw [sumI_append, sumI_cons, sumI_nil]; omega
theorem sumI_nonneg {xs : List Int} (h : ∀ x ∈ xs, 0 ≤ x) : 0 ≤ sumI xs := by
  induction xs with
  | nil => simp [sumI_nil]
  | cons x xs ih =>
    rw [sumI_cons]
    have := h x (List.mem_cons_self ..)
    have := ih fun y hy => h y (List.mem_cons_of_mem _ hy)
    omega
theorem sumI_le {xs : List Int} {M : Int} (hM : 0 ≤ M) (h : ∀ x ∈ xs, x ≤ M) : sumI xs ≤ xs.length * M := by
  induction xs with
  | nil => simp [sumI_nil]
  | cons x xs ih =>
    rw [sumI_cons, List.length_cons]
    have := h x (List.mem_cons_self ..)
    have := ih fun y hy => h y (List.mem_cons_of_mem _ hy)
    have e : ((xs.length + 1 : Nat) : Int) * M = xs.length * M + M := by rw [Int.natCast_add, Int.add_mul]; simp
    omega
theorem sumOf_any {xs : List Int} {v : Value} {w : World} {A : Nat} (ha : RdI A w v xs) (hb : ∀ x ∈ xs, 0 ≤ x ∧ x ≤ 1000000000) (hl : xs.length ≤ 1000000) :
    Calls Try.prog 54 #[v] w fun e w' => e = .returned (.int .i64 (sumI xs)) ∧ w = w' := by
  obtain ⟨ao, cap, rfl, ho⟩ := ha.open
  obtain ⟨n, hn⟩ : ∃ n, n = xs.length := ⟨_, rfl⟩
  rw [← hn]
  have Hn := Lib.hid hn
  have Ho := Lib.hid ho
  have Hb := Lib.hid hb
  have hn' : n ≤ 1000000 := by omega
  clear ho hn hl ha hb
  go_enter Try.func54, Try.ntmps54
  go_wp2
  go_loop [3, 8] (fun s i => ∃ k : Nat, k ≤ n ∧ i = .int .i64 k ∧ ∃ t : Int, s = .int .i64 t ∧ Hid (t = sumI (xs.take k))) (fun _ i => n - (intOf i).toNat)
  case atStart => exact ⟨0, Nat.zero_le _, rfl, 0, rfl, rfl⟩
  case round =>
    obtain ⟨k, hk, rfl, t, rfl, ht⟩ := hrel
    by_cases hkn : k < n
    · obtain ⟨b, off, rfl, hlt, hc⟩ := Ho.out (by have := Hn.out; omega)
      obtain ⟨x, hx, hcx, bx⟩ := hc k (by have := Hn.out; omega)
      have hxb := Hb.out x (List.mem_of_getElem? hx)
      have ht0 : 0 ≤ t := by rw [ht.out]; exact sumI_nonneg fun y hy => (Hb.out y (List.mem_of_mem_take hy)).1
      have ht1 : t ≤ 1000000000000000 := by
        have h1 := sumI_le (xs := xs.take k) (M := 1000000000) (by omega) fun y hy => (Hb.out y (List.mem_of_mem_take hy)).2
        rw [← ht.out, List.length_take] at h1
        omega
      have Hx := Lib.hid hx
      clear hx hc bx
      go_wp2
      go_round
      case rel => exact ⟨k + 1, by omega, by go_num, t + x, by go_num, by show _ = _; rw [take_snoc Hx.out, sumI_snoc, ← ht.out]⟩
      case measure => simp [intOf]; omega
    · go_wp2
      go_ret
      refine ⟨ret_int ?_, rfl⟩
      rw [ht.out, List.take_of_length_le (by have := Hn.out; omega)]

theorem l21Sum_any {xs : List Int} {v : Value} {w : World} {A : Nat} (ha : RdI A w v xs) (hb : ∀ x ∈ xs, 0 ≤ x ∧ x ≤ 1000000000) (hl : xs.length ≤ 1000000) :
    Calls Try.prog 51 #[v] w fun e w' => e = .returned (.int .i64 (sumI xs)) ∧ w = w' := by
  obtain ⟨ao, cap, rfl, ho⟩ := ha.open
  obtain ⟨n, hn⟩ : ∃ n, n = xs.length := ⟨_, rfl⟩
  rw [← hn]
  have Hn := Lib.hid hn
  have Ho := Lib.hid ho
  have Hb := Lib.hid hb
  have hn' : n ≤ 1000000 := by omega
  clear ho hn hl ha hb
  go_enter Try.func51, Try.ntmps51
  go_wp2
  go_loop [3, 4] (fun s i => ∃ k : Nat, k ≤ n ∧ i = .int .i64 k ∧ ∃ t : Int, s = .int .i64 t ∧ Hid (t = sumI (xs.take k))) (fun _ i => n - (intOf i).toNat)
  case atStart => exact ⟨0, Nat.zero_le _, rfl, 0, rfl, rfl⟩
  case round =>
    obtain ⟨k, hk, rfl, t, rfl, ht⟩ := hrel
    by_cases hkn : k < n
    · obtain ⟨b, off, rfl, hlt, hc⟩ := Ho.out (by have := Hn.out; omega)
      obtain ⟨x, hx, hcx, bx⟩ := hc k (by have := Hn.out; omega)
      have hxb := Hb.out x (List.mem_of_getElem? hx)
      have ht0 : 0 ≤ t := by rw [ht.out]; exact sumI_nonneg fun y hy => (Hb.out y (List.mem_of_mem_take hy)).1
      have ht1 : t ≤ 1000000000000000 := by
        have h1 := sumI_le (xs := xs.take k) (M := 1000000000) (by omega) fun y hy => (Hb.out y (List.mem_of_mem_take hy)).2
        rw [← ht.out, List.length_take] at h1
        omega
      have Hx := Lib.hid hx
      clear hx hc bx
      go_wp2
      go_round
      case rel => exact ⟨k + 1, by omega, by go_num, t + x, by go_num, by show _ = _; rw [take_snoc Hx.out, sumI_snoc, ← ht.out]⟩
      case measure => simp [intOf]; omega
    · go_wp2
      go_ret
      refine ⟨ret_int ?_, rfl⟩
      rw [ht.out, List.take_of_length_le (by have := Hn.out; omega)]
end Go.Proofs.Ytpnmcgjfemaleaa
