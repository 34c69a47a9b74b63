/- What trays a flow uses: in plain words. No condition. -/
import Derived.Test.YtipldgbfenhknaaStpF
import Derived.Test.YtipldgbfenhknaaPutT
namespace Go.Proofs.Ytipldgbfenhknaa
open Go.ChangeShapes Go.WideShapes Go.ChangeAt Go.RowKit
set_option linter.unusedVariables false
set_option maxRecDepth 100000
/-- the trays that are used, and those that are made -/
abbrev UM := (Int → Bool) × (Int → Bool)
def addT (U : Int → Bool) (t : Int) (b : Bool) : Int → Bool := fun n => U n || (b && n == t)
def step1 (s : UM) (x : StepT) : UM := (addT s.1 x.ta (!s.2 x.ta), s.2)
def step2 (s : UM) (x : StepT) : UM := if twoP x.kd then (addT s.1 x.tb (!s.2 x.tb), s.2) else s
def step3 (s : UM) (x : StepT) : UM := if x.kd = 7 then s else (s.1, addT s.2 x.tc true)
def stepU (s : UM) (x : StepT) : UM := step3 (step2 (step1 s x) x) x
def usesF (xs : List StepT) : UM := xs.foldl stepU (fun _ => false, fun _ => false)
theorem usesF_snoc {xs : List StepT} {k : Nat} {x : StepT} (h : xs[k]? = some x) : usesF (xs.take (k + 1)) = stepU (usesF (xs.take k)) x := by
  unfold usesF
  rw [take_snoc h, List.foldl_append]; rfl
theorem addT_self (U : Int → Bool) (t : Int) (b : Bool) : addT U t b t = (U t || b) := by unfold addT; simp
theorem addT_ne (U : Int → Bool) {t n : Int} (b : Bool) (h : n ≠ t) : addT U t b n = U n := by
  unfold addT
  have : (n == t) = false := by simpa using h
  rw [this, Bool.and_false, Bool.or_false]
/-- the six trays as values -/
def tray6 (U : Int → Bool) : List Value := [.bool (U 0), .bool (U 1), .bool (U 2), .bool (U 3), .bool (U 4), .bool (U 5)]
theorem tray6_at (U : Int → Bool) {t : Int} (h : trayP t) : (tray6 U)[t.toNat]? = some (.bool (U t)) := by
  have hh : t = 0 ∨ t = 1 ∨ t = 2 ∨ t = 3 ∨ t = 4 ∨ t = 5 := by unfold trayP at h; omega
  rcases hh with rfl | rfl | rfl | rfl | rfl | rfl <;> rfl
theorem tray6_set (U : Int → Bool) {t : Int} (b : Bool) (h : trayP t) : (tray6 U).set t.toNat (.bool (U t || b)) = tray6 (addT U t b) := by
  have hh : t = 0 ∨ t = 1 ∨ t = 2 ∨ t = 3 ∨ t = 4 ∨ t = 5 := by unfold trayP at h; omega
  rcases hh with rfl | rfl | rfl | rfl | rfl | rfl <;> simp [tray6, addT]
/-- the reference's lists -/
def tab6 (b0 b1 b2 b3 b4 b5 : Bool) : Int → Bool := fun n => if n = 0 then b0 else if n = 1 then b1 else if n = 2 then b2 else if n = 3 then b3 else if n = 4 then b4 else if n = 5 then b5 else false
theorem selI_congr {p q : Int → Bool} : ∀ {k : Nat}, (∀ i : Nat, i < k → p (i : Int) = q (i : Int)) → selI p k = selI q k := by
  intro k
  induction k with
  | zero => intro _; rfl
  | succ k ih => intro h; rw [selI_succ, selI_succ, ih (fun i hi => h i (by omega)), h k (by omega)]
theorem sel6 (U : Int → Bool) : selI U 6 = selI (tab6 (U 0) (U 1) (U 2) (U 3) (U 4) (U 5)) 6 := by
  refine selI_congr fun i hi => ?_
  have hh : i = 0 ∨ i = 1 ∨ i = 2 ∨ i = 3 ∨ i = 4 ∨ i = 5 := by omega
  rcases hh with rfl | rfl | rfl | rfl | rfl | rfl <;> rfl
theorem put_tab : ∀ (b0 b1 b2 b3 b4 b5 : Bool) (a : Fin 6), putL (selI (tab6 b0 b1 b2 b3 b4 b5) 6) (a.val : Int) = selI (addT (tab6 b0 b1 b2 b3 b4 b5) (a.val : Int) true) 6 := by decide +kernel
theorem put_sel (U : Int → Bool) {t : Int} (h : trayP t) : putL (selI U 6) t = selI (addT U t true) 6 := by
  obtain ⟨n, rfl⟩ := Int.eq_ofNat_of_zero_le h.1
  have hn : n < 6 := by have := h.2; omega
  rw [sel6 U, put_tab _ _ _ _ _ _ ⟨n, hn⟩]
  refine selI_congr fun i hi => ?_
  unfold addT
  have hh : i = 0 ∨ i = 1 ∨ i = 2 ∨ i = 3 ∨ i = 4 ∨ i = 5 := by omega
  rcases hh with rfl | rfl | rfl | rfl | rfl | rfl <;> rfl
theorem add_false (U : Int → Bool) (t : Int) : addT U t false = U := by funext n; unfold addT; simp
theorem has_snoc (xs : List Int) (t n : Int) : hasI (xs ++ [t]) n = (hasI xs n || n == t) := by
  unfold hasI
  rw [List.contains_eq_any_beq, List.any_append, ← List.contains_eq_any_beq]
  simp
theorem stepU_eq (s : UM) (x : StepT) : stepU s x = (if x.kd = 7 then step2 (step1 s x) x else ((step2 (step1 s x) x).1, addT (step2 (step1 s x) x).2 x.tc true)) := rfl
theorem step2_two {s : UM} {x : StepT} (h : twoP x.kd) : step2 s x = (addT s.1 x.tb (!s.2 x.tb), s.2) := if_pos h
theorem step2_one {s : UM} {x : StepT} (h : ¬ twoP x.kd) : step2 s x = s := if_neg h
end Go.Proofs.Ytipldgbfenhknaa
