/- Pays in the laws' helpers. No condition. -/
import Derived.Test.YtfhlmkeklmaedaaDoorStr
namespace Go.Proofs.YtfhlmkeklmaedaaDoor
open Go.ChangeShapes Go.WideShapes Go.ChangeAt Go.RowKit
set_option linter.unusedVariables false
set_option maxRecDepth 100000
structure PayT where
  hours : Int
  gross : Int
  tax : Int
  net : Int
abbrev vPay (x : PayT) : Value := .agg #[.int .i64 x.hours, .int .i64 x.gross, .int .i64 x.tax, .int .i64 x.net]
abbrev lPay (x : PayT) : Value := .agg #[.int .i64 x.hours, .int .i64 x.gross, .int .i64 x.tax, .int .i64 x.net]
def okPay (x : PayT) : Prop := (-9223372036854775808 ≤ x.hours ∧ x.hours ≤ 9223372036854775807) ∧ (-9223372036854775808 ≤ x.gross ∧ x.gross ≤ 9223372036854775807) ∧ (-9223372036854775808 ≤ x.tax ∧ x.tax ≤ 9223372036854775807) ∧ (-9223372036854775808 ≤ x.net ∧ x.net ≤ 9223372036854775807)
def ePay : Elt PayT := { sz := 4, cells := fun x => [.int .i64 x.hours, .int .i64 x.gross, .int .i64 x.tax, .int .i64 x.net], ok := okPay, len := fun _ => rfl, one := fun x u hu => by simp at hu; rcases hu with rfl | rfl | rfl | rfl <;> rfl }
def zPay : PayT := ⟨0, 0, 0, 0⟩
theorem ok_zPay : okPay zPay := by unfold okPay zPay; exact ⟨⟨by decide, by decide⟩, ⟨by decide, by decide⟩, ⟨by decide, by decide⟩, ⟨by decide, by decide⟩⟩
abbrev RdPayS (B : Nat) (w : World) (v : Value) (x : List PayT) : Prop := Rds ePay B w v x
abbrev OwnPayS (base : Nat) (w : World) (v : Value) (x : List PayT) : Prop := Own ePay 31 base w v x
abbrev OwnTPayS (base top : Nat) (w : World) (v : Value) (x : List PayT) : Prop := OwnT ePay 31 base top w v x
def szPay (x : PayT) : Int := 0
theorem szPay_nonneg (x : PayT) : 0 ≤ szPay x := by unfold szPay; omega
def szPayS (x : List PayT) : Int := x.length + sumBy szPay x
theorem szPayS_nonneg (x : List PayT) : 0 ≤ szPayS x := by unfold szPayS; have := sumBy_nonneg szPay_nonneg x; omega
def cntPayS (x : List PayT) : Nat := 4 * x.length
theorem cntPayS_le (x : List PayT) : (cntPayS x : Int) ≤ 16 * szPayS x := by unfold szPayS cntPayS; have := sumBy_nonneg szPay_nonneg x; omega
theorem szPayS_len (x : List PayT) : (x.length : Int) ≤ szPayS x := by unfold szPayS; have := sumBy_nonneg szPay_nonneg x; omega
theorem ePay_open {w : World} {B : Nat} {v : Value} {xs : List PayT} (h : Rds ePay B w v xs) : ∃ ao cap, v = .slice ao xs.length cap ∧
    (0 < xs.length → ∃ b off, ao = some ⟨b, off, none⟩ ∧ (b < B ∧ b < w.heap.size) ∧ ∀ k, k < xs.length → ∃ x, xs[k]? = some x ∧ (w.cell? ⟨b, off + k * 4, none⟩ = some (.int .i64 x.hours) ∧ w.cell? ⟨b, off + k * 4 + 1, none⟩ = some (.int .i64 x.gross) ∧ w.cell? ⟨b, off + k * 4 + 2, none⟩ = some (.int .i64 x.tax) ∧ w.cell? ⟨b, off + k * 4 + 3, none⟩ = some (.int .i64 x.net)) ∧ okPay x) := by
  rcases Rds.cases h with ⟨rfl, ao, cap, rfl, _⟩ | ⟨b, off, cap, rfl, hlt, hc⟩
  · exact ⟨ao, cap, rfl, fun h => absurd h (by simp)⟩
  · refine ⟨_, cap, rfl, fun _ => ⟨b, off, rfl, hlt, fun k hk => ?_⟩⟩
    obtain ⟨h1, h2⟩ := hc k xs[k] (by simp [hk])
    refine ⟨xs[k], by simp [hk], ⟨?_, ?_, ?_, ?_⟩, h1⟩
    · exact h2 0 (by decide)
    · have := h2 1 (by decide); rw [← Nat.add_assoc] at this; exact this
    · have := h2 2 (by decide); rw [← Nat.add_assoc] at this; exact this
    · have := h2 3 (by decide); rw [← Nat.add_assoc] at this; exact this
theorem toPay_c (w : World) {x : PayT} (a : okPay x) :
    Calls Tryd.prog 8 #[lPay x] w fun e w' => e = .returned (vPay x) ∧ Below w.heap.size w w' := by
  clear a
  go_enter Tryd.func8, Tryd.ntmps8
  go_wp2
  exact bodyPost_ret (v := vPay x) (by simp [results, Tryd.results8, go_sem]) rfl ⟨rfl, (((Below.refl _ _).alloc (Nat.le_refl _) _).alloc (by simp) _).alloc (by simp; omega) _⟩
theorem openPay {H : Type} {enc : TypeId × Value → H} {w : World} {r : Reach} {b0 : Nat} {v : Value} {d : DataW H} {ps : List MemPlace} (hok : Value.okWide Tryd.prog w r b0 25 v)
    (h : DataW.Trod enc Tryd.prog w 0 (fun _ => true) true 25 v d ps) : ∃ x, v = lPay x ∧ okPay x := by
  obtain ⟨v0, v1, v2, v3, y0, y1, y2, y3, n, rfl, _, _, ht0, ht1, ht2, ht3⟩ := Go.Joins.open_agg4 Tryd.underlying25 (by kernel_rfl) (by kernel_rfl) hok h
  obtain ⟨a0, rfl, b0⟩ := trodI Tryd.underlying2 ht0
  obtain ⟨a1, rfl, b1⟩ := trodI Tryd.underlying2 ht1
  obtain ⟨a2, rfl, b2⟩ := trodI Tryd.underlying2 ht2
  obtain ⟨a3, rfl, b3⟩ := trodI Tryd.underlying2 ht3
  exact ⟨⟨a0, a1, a2, a3⟩, rfl, b0, b1, b2, b3⟩
end Go.Proofs.YtfhlmkeklmaedaaDoor
