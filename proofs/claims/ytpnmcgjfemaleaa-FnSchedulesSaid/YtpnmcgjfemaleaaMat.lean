/- Slices of slices of numbers in the laws' helpers. No condition. -/
import Derived.Test.YtpnmcgjfemaleaaStr
import Derived.Test.YtpnmcgjfemaleaaInts
import Derived.Deep.Matrix
namespace Go.Proofs.Ytpnmcgjfemaleaa
open Go.ChangeShapes Go.WideShapes Go.ChangeAt Go.RowKit
set_option linter.unusedVariables false
set_option maxRecDepth 100000
/-- a row's header -/
structure SlV where
  ao : Option Addr
  n : Nat
  cap : Nat
def SlV.val (h : SlV) : Value := .slice h.ao h.n h.cap
def eS : Elt SlV := { sz := 1, cells := fun h => [h.val], ok := fun _ => True, len := fun _ => rfl, one := fun x u hu => by simp at hu; subst hu; rfl }
/-- A [][]int64 that reads as xss. -/
def RdInt64SS (B : Nat) (w : World) (v : Value) (xss : List (List Int)) : Prop :=
  ∃ hs, Rds eS B w v hs ∧ hs.length = xss.length ∧ ∀ (i : Nat) (h : SlV) (xs : List Int), hs[i]? = some h → xss[i]? = some xs → RdI B w h.val xs
theorem RdInt64SS.below {B B' : Nat} {w w' : World} {v : Value} {xss : List (List Int)} (h : RdInt64SS B w v xss) (hb : Below B' w w') (hB : B ≤ B') : RdInt64SS B w' v xss := by
  obtain ⟨hs, h1, h2, h3⟩ := h
  exact ⟨hs, h1.below hb hB, h2, fun i h xs e1 e2 => (h3 i h xs e1 e2).below hb hB⟩
theorem RdInt64SS.mono {B B' : Nat} {w : World} {v : Value} {xss : List (List Int)} (h : RdInt64SS B w v xss) (hB : B ≤ B') : RdInt64SS B' w v xss := by
  obtain ⟨hs, h1, h2, h3⟩ := h
  exact ⟨hs, h1.mono hB, h2, fun i h xs e1 e2 => (h3 i h xs e1 e2).mono hB⟩
theorem RdInt64SS.tight {B : Nat} {w : World} {v : Value} {xss : List (List Int)} (h : RdInt64SS B w v xss) : RdInt64SS w.heap.size w v xss := by
  obtain ⟨hs, h1, h2, h3⟩ := h
  exact ⟨hs, h1.tight, h2, fun i h xs e1 e2 => (h3 i h xs e1 e2).tight⟩
theorem RdInt64SS.onn {B : Nat} {w w' : World} {v : Value} {xss : List (List Int)} (h : RdInt64SS B w v xss) (hb : Below w.heap.size w w') : RdInt64SS w'.heap.size w' v xss := (h.tight.below hb (Nat.le_refl _)).mono hb.size
theorem RdInt64SS.le {B : Nat} {w : World} {v : Value} {xss : List (List Int)} (h : RdInt64SS B w v xss) : xss.length ≤ 9223372036854775807 := by
  obtain ⟨hs, h1, h2, _⟩ := h
  rw [← h2]; exact h1.le
theorem RdInt64SS.shape {B : Nat} {w : World} {v : Value} {xss : List (List Int)} (h : RdInt64SS B w v xss) : ∃ ao cap, v = .slice ao xss.length cap := by
  obtain ⟨hs, h1, h2, _⟩ := h
  rw [← h2]; exact h1.shape
theorem RdInt64SS.open {B : Nat} {w : World} {v : Value} {xss : List (List Int)} (h : RdInt64SS B w v xss) : ∃ ao cap, v = .slice ao xss.length cap ∧
    (0 < xss.length → ∃ b off, ao = some ⟨b, off, none⟩ ∧ (b < B ∧ b < w.heap.size) ∧ ∀ k, k < xss.length → ∃ xs ro rc, xss[k]? = some xs ∧ w.cell? ⟨b, off + k, none⟩ = some (.slice ro xs.length rc) ∧ RdI B w (.slice ro xs.length rc) xs) := by
  obtain ⟨hs, h1, h2, h3⟩ := h
  rcases Rds.cases h1 with ⟨h0, ao, cap, rfl, _⟩ | ⟨b, off, cap, rfl, hlt, hc⟩
  · have : xss.length = 0 := by rw [← h2, h0]; rfl
    exact ⟨ao, cap, by rw [this], fun h => by omega⟩
  · refine ⟨_, cap, by rw [h2], fun _ => ⟨b, off, rfl, hlt, fun k hk => ?_⟩⟩
    have e1 : hs[k]? = some (hs[k]'(by omega)) := List.getElem?_eq_getElem (by omega)
    have e2 : xss[k]? = some xss[k] := List.getElem?_eq_getElem hk
    generalize hs[k]'(by omega) = h at e1
    generalize xss[k] = xs at e2
    have h4 := h3 k h xs e1 e2
    obtain ⟨ao, cp, hs4⟩ := h4.shape
    have h5 := (hc k h e1).2 0 (by decide)
    refine ⟨xs, ao, cp, e2, ?_, by rw [← hs4]; exact h4⟩
    have h6 : w.cell? ⟨b, off + (k * 1 + 0), none⟩ = some h.val := h5
    rw [Nat.mul_one, Nat.add_zero, hs4] at h6
    exact h6
def szInt64SS (x : List (List Int)) : Int := x.length + sumBy (fun r => (r.length : Int)) x
theorem szInt64SS_nonneg (x : List (List Int)) : 0 ≤ szInt64SS x := by unfold szInt64SS; have := sumBy_nonneg (f := fun r : List Int => (r.length : Int)) (fun r => by omega) x; omega
theorem szInt64SS_len (x : List (List Int)) : (x.length : Int) ≤ szInt64SS x := by unfold szInt64SS; have := sumBy_nonneg (f := fun r : List Int => (r.length : Int)) (fun r => by omega) x; omega
def cntInt64SS (x : List (List Int)) : Nat := (sumBy (fun r => (r.length : Int)) x).toNat
theorem cntInt64SS_le (x : List (List Int)) : (cntInt64SS x : Int) ≤ 16 * szInt64SS x := by unfold szInt64SS cntInt64SS; have := sumBy_nonneg (f := fun r : List Int => (r.length : Int)) (fun r => by omega) x; omega
theorem szInt64SS_c {xss : List (List Int)} {v : Value} {w : World} {A : Nat} {left : Int} (ha : RdInt64SS A w v xss) (h1 : left ≤ 1048576) (h2 : szInt64SS xss ≤ left) :
    Calls Try.prog 14 #[v, .int .i64 left] w fun e w' => e = .returned (.int .i64 (left - szInt64SS xss)) ∧ Below w.heap.size w w' := by
  have hle := ha.le
  obtain ⟨ao, cap, rfl, ho⟩ := ha.open
  obtain ⟨n, hn⟩ : ∃ n, n = xss.length := ⟨_, rfl⟩
  rw [← hn]
  have Hn := Lib.hid hn
  have Ho := Lib.hid ho
  have hle' : n ≤ 9223372036854775807 := by omega
  have h2' : n + sumBy (fun r => (r.length : Int)) xss ≤ left := by unfold szInt64SS at h2; omega
  have h3 := sumBy_nonneg (f := fun r : List Int => (r.length : Int)) (fun r => by omega) xss
  have H2 := Lib.hid h2'
  have h4 : (n : Int) ≤ left := by omega
  clear ho hn hle ha h2 h2' h3
  go_enter Try.func14, Try.ntmps14
  go_wp2
  go_loopw [1, 5] (fun l i wr => ∃ k : Nat, k ≤ n ∧ i = .int .i64 k ∧ ∃ lf : Int, l = .int .i64 lf ∧ (lf ≤ 1048576 ∧ 0 ≤ lf) ∧ Hid (lf = left - n - sumBy (fun r => (r.length : Int)) (xss.take k)) ∧ wr = w) (fun _ i _ => n - (intOf i).toNat)
  case atStart => exact ⟨0, Nat.zero_le _, rfl, left - n, rfl, by omega, by show left - n = _; simp [sumBy], rfl⟩
  case round =>
    obtain ⟨k, hk, rfl, lf, rfl, ⟨hl1, hl2⟩, hlf, rfl⟩ := hrel
    by_cases hkn : k < n
    · obtain ⟨b, off, rfl, hlt, hc⟩ := Ho.out (by have := Hn.out; omega)
      obtain ⟨x, ro, rc, hx, hcell, hrd⟩ := hc k (by have := Hn.out; omega)
      have Hx := Lib.hid hx
      have Hrd := Lib.hid hrd
      have hf : (x.length : Int) ≤ lf := by
        rw [hlf.out]
        have h4 := sumBy_snoc (fun r : List Int => (r.length : Int)) hx
        have h5 := sumBy_take_le (f := fun r : List Int => (r.length : Int)) (fun r => by omega) xss (k + 1)
        have := H2.out
        omega
      clear hx hc hrd
      go_wp2_with fail
      with_reducible refine (szI lf Hrd.out hl2 hl1).mono ?_
      rw [if_neg (by omega)]
      rintro e w1 ⟨rfl, rfl⟩
      go_wp2
      go_roundw
      case rel => exact ⟨k + 1, by omega, by go_num, lf - x.length, rfl, by omega, by show lf - x.length = _; rw [sumBy_snoc (fun r : List Int => (r.length : Int)) Hx.out, hlf.out]; omega, by first | rfl | trivial⟩
      case measure => simp [intOf]; omega
    · go_wp2
      go_ret
      refine ⟨ret_int ?_, Below.refl _ _⟩
      rw [hlf.out, List.take_of_length_le (by have := Hn.out; omega)]; unfold szInt64SS; have := Hn.out; omega
theorem szInt64SS_no {xss : List (List Int)} {v : Value} {w : World} {A : Nat} {left : Int} (ha : RdInt64SS A w v xss) (h0 : 0 ≤ left ∧ left ≤ 1048576) (h2 : ¬ szInt64SS xss ≤ left) :
    Calls Try.prog 14 #[v, .int .i64 left] w fun e w' => e = .returned (.int .i64 (-1)) ∧ Below w.heap.size w w' := by
  have h1 := h0.2
  have h00 := h0.1
  have hle := ha.le
  obtain ⟨ao, cap, rfl, ho⟩ := ha.open
  obtain ⟨n, hn⟩ : ∃ n, n = xss.length := ⟨_, rfl⟩
  rw [← hn]
  have Hn := Lib.hid hn
  have Ho := Lib.hid ho
  have hle' : n ≤ 9223372036854775807 := by omega
  have h2' : ¬ n + sumBy (fun r => (r.length : Int)) xss ≤ left := by unfold szInt64SS at h2; omega
  have H2 := Lib.hid h2'
  clear ho hn hle ha h2 h0 h2'
  by_cases hb : left < n
  · clear H2
    go_enter Try.func14, Try.ntmps14
    go_wp2
    go_ret
    exact ⟨rfl, Below.refl _ _⟩
  go_enter Try.func14, Try.ntmps14
  go_wp2
  go_loopw [1, 5] (fun l i wr => ∃ k : Nat, k ≤ n ∧ i = .int .i64 k ∧ ∃ lf : Int, l = .int .i64 lf ∧ (lf ≤ 1048576 ∧ 0 ≤ lf) ∧ Hid (lf = left - n - sumBy (fun r => (r.length : Int)) (xss.take k)) ∧ wr = w) (fun _ i _ => n - (intOf i).toNat)
  case atStart => exact ⟨0, Nat.zero_le _, rfl, left - n, rfl, by omega, by show left - n = _; simp [sumBy], rfl⟩
  case round =>
    obtain ⟨k, hk, rfl, lf, rfl, ⟨hl1, hl2⟩, hlf, rfl⟩ := hrel
    by_cases hkn : k < n
    · obtain ⟨b, off, rfl, hlt, hc⟩ := Ho.out (by have := Hn.out; omega)
      obtain ⟨x, ro, rc, hx, hcell, hrd⟩ := hc k (by have := Hn.out; omega)
      have Hx := Lib.hid hx
      have Hrd := Lib.hid hrd
      clear hx hc hrd
      by_cases hf : lf < x.length
      · go_wp2_with fail
        with_reducible refine (szI lf Hrd.out hl2 hl1).mono ?_
        rw [if_pos hf]
        rintro e w1 ⟨rfl, rfl⟩
        go_wp2
        go_ret
        exact ⟨rfl, Below.refl _ _⟩
      · go_wp2_with fail
        with_reducible refine (szI lf Hrd.out hl2 hl1).mono ?_
        rw [if_neg (by omega)]
        rintro e w1 ⟨rfl, rfl⟩
        go_wp2
        go_roundw
        case rel => exact ⟨k + 1, by omega, by go_num, lf - x.length, rfl, by omega, by show lf - x.length = _; rw [sumBy_snoc (fun r : List Int => (r.length : Int)) Hx.out, hlf.out]; omega, by first | rfl | trivial⟩
        case measure => simp [intOf]; omega
    · exfalso
      have h6 := hlf.out
      rw [List.take_of_length_le (by have := Hn.out; omega)] at h6
      have := H2.out
      omega
theorem eqInt64SS_c {xss : List (List Int)} {va vb : Value} {w : World} {A B : Nat} (ha : RdInt64SS A w va xss) (hb : RdInt64SS B w vb xss) :
    Calls Try.prog 18 #[va, vb] w fun e w' => e = .returned (.bool true) ∧ Below w.heap.size w w' := by
  obtain ⟨bo, bcap, rfl, hob⟩ := hb.open
  have Hob := Lib.hid hob
  clear hob hb
  have hle := ha.le
  obtain ⟨ao, cap, rfl, ho⟩ := ha.open
  obtain ⟨n, hn⟩ : ∃ n, n = xss.length := ⟨_, rfl⟩
  rw [← hn]
  have Hn := Lib.hid hn
  have Ho := Lib.hid ho
  have hle' : n ≤ 9223372036854775807 := by omega
  clear ho hn hle ha
  go_enter Try.func18, Try.ntmps18
  go_wp2
  go_loopw [5] (fun i wr => ∃ k : Nat, k ≤ n ∧ i = .int .i64 k ∧ ∃ m, wr = w.drewN m) (fun i _ => n - (intOf i).toNat)
  case atStart => exact ⟨0, Nat.zero_le _, rfl, 0, rfl⟩
  case round =>
    obtain ⟨k, hk, rfl, m, rfl⟩ := hrel
    by_cases hkn : k < n
    · obtain ⟨b, off, rfl, hlt, hc⟩ := Ho.out (by have := Hn.out; omega)
      obtain ⟨x, ro, rc, hx, hcell, hrd⟩ := hc k (by have := Hn.out; omega)
      have Hx := Lib.hid hx
      have Hrd := Lib.hid (fun q => hrd.drewN q)
      obtain ⟨b2, off2, rfl, hlt2, hc2⟩ := Hob.out (by have := Hn.out; omega)
      obtain ⟨x2, ro2, rc2, hx2, hcell2, hrd2⟩ := hc2 k (by have := Hn.out; omega)
      obtain rfl : x = x2 := Option.some.inj (Hx.out.symm.trans hx2)
      have Hrd2 := Lib.hid (fun q => hrd2.drewN q)
      clear hx hc hrd hx2 hc2 hrd2
      go_wp2
      go_quiet ((go_at_call 23; exact quiet_atN (eqI_same (Hrd.out _) (Hrd2.out _))))
      go_wp2
      go_roundw
      case rel => exact ⟨k + 1, by omega, by go_num, _, rfl⟩
      case measure => simp [intOf]; omega
    · go_wp2
      go_ret
      exact ⟨rfl, (Below.refl _ _).drewNy _⟩
end Go.Proofs.Ytpnmcgjfemaleaa
