/- Workers in the laws' helpers. No condition. -/
import Derived.Test.YtfhlmkeklmaedaaDoorStr
namespace Go.Proofs.YtfhlmkeklmaedaaDoor
open Go.ChangeShapes Go.WideShapes Go.ChangeAt Go.RowKit
set_option linter.unusedVariables false
set_option maxRecDepth 100000
structure WorkerT where
  nm : ByteArray
  rate : Int
  tax : Int
abbrev vWorker (x : WorkerT) : Value := .agg #[.string x.nm, .int .i64 x.rate, .int .i64 x.tax]
abbrev lWorker (x : WorkerT) : Value := .agg #[.string x.nm, .int .i64 x.rate, .int .i64 x.tax]
def okWorker (x : WorkerT) : Prop := x.nm.size ≤ 9223372036854775807 ∧ (-9223372036854775808 ≤ x.rate ∧ x.rate ≤ 9223372036854775807) ∧ (-9223372036854775808 ≤ x.tax ∧ x.tax ≤ 9223372036854775807)
def eWorker : Elt WorkerT := { sz := 3, cells := fun x => [.string x.nm, .int .i64 x.rate, .int .i64 x.tax], ok := okWorker, len := fun _ => rfl, one := fun x u hu => by simp at hu; rcases hu with rfl | rfl | rfl <;> rfl }
def zWorker : WorkerT := ⟨⟨#[]⟩, 0, 0⟩
theorem ok_zWorker : okWorker zWorker := by unfold okWorker zWorker; exact ⟨Nat.zero_le _, ⟨by decide, by decide⟩, ⟨by decide, by decide⟩⟩
abbrev RdWorkerS (B : Nat) (w : World) (v : Value) (x : List WorkerT) : Prop := Rds eWorker B w v x
abbrev OwnWorkerS (base : Nat) (w : World) (v : Value) (x : List WorkerT) : Prop := Own eWorker 29 base w v x
abbrev OwnTWorkerS (base top : Nat) (w : World) (v : Value) (x : List WorkerT) : Prop := OwnT eWorker 29 base top w v x
def szWorker (x : WorkerT) : Int := (x.nm.size : Int)
theorem szWorker_nonneg (x : WorkerT) : 0 ≤ szWorker x := by unfold szWorker; omega
def szWorkerS (x : List WorkerT) : Int := x.length + sumBy szWorker x
theorem szWorkerS_nonneg (x : List WorkerT) : 0 ≤ szWorkerS x := by unfold szWorkerS; have := sumBy_nonneg szWorker_nonneg x; omega
def cntWorkerS (x : List WorkerT) : Nat := 3 * x.length
theorem cntWorkerS_le (x : List WorkerT) : (cntWorkerS x : Int) ≤ 16 * szWorkerS x := by unfold szWorkerS cntWorkerS; have := sumBy_nonneg szWorker_nonneg x; omega
theorem szWorkerS_len (x : List WorkerT) : (x.length : Int) ≤ szWorkerS x := by unfold szWorkerS; have := sumBy_nonneg szWorker_nonneg x; omega
theorem eWorker_open {w : World} {B : Nat} {v : Value} {xs : List WorkerT} (h : Rds eWorker B w v xs) : ∃ ao cap, v = .slice ao xs.length cap ∧
    (0 < xs.length → ∃ b off, ao = some ⟨b, off, none⟩ ∧ (b < B ∧ b < w.heap.size) ∧ ∀ k, k < xs.length → ∃ x, xs[k]? = some x ∧ (w.cell? ⟨b, off + k * 3, none⟩ = some (.string x.nm) ∧ w.cell? ⟨b, off + k * 3 + 1, none⟩ = some (.int .i64 x.rate) ∧ w.cell? ⟨b, off + k * 3 + 2, none⟩ = some (.int .i64 x.tax)) ∧ okWorker x) := by
  rcases Rds.cases h with ⟨rfl, ao, cap, rfl, _⟩ | ⟨b, off, cap, rfl, hlt, hc⟩
  · exact ⟨ao, cap, rfl, fun h => absurd h (by simp)⟩
  · refine ⟨_, cap, rfl, fun _ => ⟨b, off, rfl, hlt, fun k hk => ?_⟩⟩
    obtain ⟨h1, h2⟩ := hc k xs[k] (by simp [hk])
    refine ⟨xs[k], by simp [hk], ⟨?_, ?_, ?_⟩, h1⟩
    · exact h2 0 (by decide)
    · have := h2 1 (by decide); rw [← Nat.add_assoc] at this; exact this
    · have := h2 2 (by decide); rw [← Nat.add_assoc] at this; exact this
theorem toWorker_c (w : World) {x : WorkerT} (a : okWorker x) :
    Calls Tryd.prog 7 #[lWorker x] w fun e w' => e = .returned (vWorker x) ∧ Below w.heap.size w w' := by
  clear a
  go_enter Tryd.func7, Tryd.ntmps7
  go_wp2
  exact bodyPost_ret (v := vWorker x) (by simp [results, Tryd.results7, go_sem]) rfl ⟨rfl, (((Below.refl _ _).alloc (Nat.le_refl _) _).alloc (by simp) _).alloc (by simp; omega) _⟩
theorem szWorker_c (w : World) {x : WorkerT} {left : Int} (a : okWorker x) (h1 : left ≤ 1048576) (h2 : szWorker x ≤ left) :
    Calls Tryd.prog 5 #[lWorker x, .int .i64 left] w fun e w' => e = .returned (.int .i64 (left - szWorker x)) ∧ Below w.heap.size w w' := by
  unfold szWorker at *
  clear a
  go_enter Tryd.func5, Tryd.ntmps5
  go_wp2
  go_ret
  exact ⟨rfl, (Below.refl _ _).alloc (Nat.le_refl _) _⟩
theorem szWorker_no (w : World) {x : WorkerT} {left : Int} (a : okWorker x) (h0 : 0 ≤ left ∧ left ≤ 1048576) (h2 : ¬ szWorker x ≤ left) :
    Calls Tryd.prog 5 #[lWorker x, .int .i64 left] w fun e w' => e = .returned (.int .i64 (-1)) ∧ Below w.heap.size w w' := by
  unfold szWorker at *
  have hs : (x.nm.size : Int) ≤ 9223372036854775807 := by have := a.1; omega
  clear a
  go_enter Tryd.func5, Tryd.ntmps5
  go_wp2
  go_ret
  exact ⟨rfl, (Below.refl _ _).alloc (Nat.le_refl _) _⟩
theorem openWorker {H : Type} {enc : TypeId × Value → H} {w : World} {r : Reach} {b0 : Nat} {v : Value} {d : DataW H} {ps : List MemPlace} (hok : Value.okWide Tryd.prog w r b0 23 v)
    (h : DataW.Trod enc Tryd.prog w 0 (fun _ => true) true 23 v d ps) : ∃ x, v = lWorker x ∧ okWorker x := by
  obtain ⟨v0, v1, v2, y0, y1, y2, n, rfl, _, _, ht0, ht1, ht2⟩ := Go.Joins.open_agg3 Tryd.underlying23 (by kernel_rfl) (by kernel_rfl) hok h
  obtain ⟨a0, rfl, b0⟩ := trodS Tryd.underlying9 ht0
  obtain ⟨a1, rfl, b1⟩ := trodI Tryd.underlying2 ht1
  obtain ⟨a2, rfl, b2⟩ := trodI Tryd.underlying2 ht2
  exact ⟨⟨a0, a1, a2⟩, rfl, b0, b1, b2⟩
end Go.Proofs.YtfhlmkeklmaedaaDoor
