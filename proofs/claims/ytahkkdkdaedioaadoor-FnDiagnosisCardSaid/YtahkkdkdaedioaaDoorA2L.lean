/- The test of the length of two inputs. No condition. -/
import Derived.Test.YtahkkdkdaedioaaDoorLawB
namespace Go.Proofs.YtahkkdkdaedioaaDoor
open Go.ChangeShapes Go.WideShapes Go.ChangeAt Go.RowKit
set_option linter.unusedVariables false
set_option maxRecDepth 100000
theorem a2Long_any {w : World} {A B : Nat} {u v : Value} {xs ys : List Int} (ha : Rds eB A w u xs) (hb : Rds eB B w v ys) :
    Calls Tryd.prog 7 #[u, v] w fun e w' => e = .returned (.bool (decide ((3000 : Int) < xs.length ∨ (3000 : Int) < ys.length))) ∧ w = w' := by
  have hle := ha.le
  have hle2 := hb.le
  obtain ⟨ao, cap, rfl⟩ := ha.shape
  obtain ⟨bo, bcap, rfl⟩ := hb.shape
  obtain ⟨n, hn⟩ : ∃ n, n = xs.length := ⟨_, rfl⟩
  obtain ⟨m, hm⟩ : ∃ m, m = ys.length := ⟨_, rfl⟩
  rw [← hn] at hle ⊢
  rw [← hm] at hle2 ⊢
  clear ha hb hn hm
  by_cases h : (3000 : Int) < (n : Int)
  · have e : decide ((3000 : Int) < (n : Int) ∨ (3000 : Int) < (m : Int)) = true := decide_eq_true (.inl h)
    rw [e]
    clear e
    go_enter Tryd.func7, Tryd.ntmps7
    go_wp2
    go_ret
    exact ⟨by first | rfl | simp [h], rfl⟩
  · have e : decide ((3000 : Int) < (n : Int) ∨ (3000 : Int) < (m : Int)) = decide ((3000 : Int) < (m : Int)) := by simp [h]
    rw [e]
    clear e
    have hf : decide ((3000 : Int) < (n : Int)) = false := decide_eq_false h
    go_enter Tryd.func7, Tryd.ntmps7
    go_wp2
    go_ret
    exact ⟨by first | rfl | simp [h], rfl⟩
end Go.Proofs.YtahkkdkdaedioaaDoor
