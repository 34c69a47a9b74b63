/- Valid workers: the program's and the reference's, each by its contract. No condition. -/
import Derived.Test.YtfhlmkeklmaedaaDoorStrW
import Derived.Test.YtfhlmkeklmaedaaDoorName
namespace Go.Proofs.YtfhlmkeklmaedaaDoor
open Go.ChangeShapes Go.WideShapes Go.ChangeAt Go.RowKit
set_option linter.unusedVariables false
set_option maxRecDepth 100000
def validW (x : WorkerT) : Bool := nameB x.nm && (decide (1 ≤ x.rate ∧ x.rate ≤ 10000) && decide (0 ≤ x.tax ∧ x.tax ≤ 60))
def eqNm (x : WorkerT) (y : WorkerT) : Bool := y.nm.toList == x.nm.toList
def goodAt (xs : List WorkerT) (j : Nat) : Bool := match xs[j]? with
  | some x => validW x && !((xs.take j).any (eqNm x))
  | none => true
def validWs (xs : List WorkerT) : Bool := (List.range xs.length).all (goodAt xs) && decide (xs.length ≤ 30)
theorem goodAt_of {xs : List WorkerT} {j : Nat} {x : WorkerT} (h : xs[j]? = some x) : goodAt xs j = (validW x && !((xs.take j).any (eqNm x))) := by unfold goodAt; rw [h]
theorem validWs_no {xs : List WorkerT} {j : Nat} (hj : j < xs.length) (h : goodAt xs j = false) : validWs xs = false := by
  unfold validWs
  have : (List.range xs.length).all (goodAt xs) = false := by
    rw [List.all_eq_false]; exact ⟨j, List.mem_range.2 hj, by rw [h]; decide⟩
  rw [this]; rfl
theorem validWs_end {xs : List WorkerT} (h : ∀ j, j < xs.length → goodAt xs j = true) : validWs xs = decide (xs.length ≤ 30) := by
  unfold validWs
  have : (List.range xs.length).all (goodAt xs) = true := by
    rw [List.all_eq_true]; exact fun j hj => h j (List.mem_range.1 hj)
  rw [this]; rfl
theorem isRate_any (n : Int) (w : World) : Calls Tryd.prog 44 #[.int .i64 n] w fun e w' => e = .returned (.bool (decide (1 ≤ n ∧ n ≤ 10000))) ∧ w = w' := by
  go_enter Tryd.func44, Tryd.ntmps44
  go_wp2_with fail
  with_reducible refine (inside_any n 1 10000 w).mono ?_
  rintro e w' ⟨rfl, rfl⟩
  go_wp2
  go_ret
  exact ⟨ret_bool (by simp), rfl⟩
theorem isWorker_c (x : WorkerT) (w : World) (a : okWorker x) : Calls Tryd.prog 29 #[vWorker x] w fun e w' => e = .returned (.bool (validW x)) ∧ Below w.heap.size w w' := by
  have hs : x.nm.size ≤ 9223372036854775807 := a.1
  cases h1 : nameB x.nm with
  | false =>
    have H : validW x = false := by unfold validW; rw [h1]; rfl
    rw [H]
    have H1 := Lib.hid h1
    clear a h1 H
    go_enter Tryd.func29, Tryd.ntmps29
    go_wp2_with fail
    with_reducible refine (IsName_c x.nm _ hs).mono ?_
    rw [H1.out]
    rintro e w' ⟨rfl, rfl⟩
    go_wp2
    go_ret
    exact ⟨rfl, (Below.refl _ _).alloc (Nat.le_refl _) _⟩
  | true =>
    have H : validW x = (decide (1 ≤ x.rate ∧ x.rate ≤ 10000) && decide (0 ≤ x.tax ∧ x.tax ≤ 60)) := by unfold validW; rw [h1]; rfl
    rw [H]
    have H1 := Lib.hid h1
    clear a h1 H
    by_cases h2 : 1 ≤ x.rate ∧ x.rate ≤ 10000
    · rw [decide_eq_true h2]
      have H2 := Lib.hid h2
      clear h2
      go_enter Tryd.func29, Tryd.ntmps29
      go_wp2_with fail
      with_reducible refine (IsName_c x.nm _ hs).mono ?_
      rw [H1.out]
      rintro e w' ⟨rfl, rfl⟩
      go_wp2_with fail
      with_reducible refine (isRate_any x.rate _).mono ?_
      rw [decide_eq_true H2.out]
      rintro e w' ⟨rfl, rfl⟩
      go_wp2_with fail
      with_reducible refine (inside_any x.tax 0 60 _).mono ?_
      rintro e w' ⟨rfl, rfl⟩
      go_wp2
      go_ret
      exact ⟨ret_bool (by simp), (Below.refl _ _).alloc (Nat.le_refl _) _⟩
    · rw [decide_eq_false h2]
      have H2 := Lib.hid h2
      clear h2
      go_enter Tryd.func29, Tryd.ntmps29
      go_wp2_with fail
      with_reducible refine (IsName_c x.nm _ hs).mono ?_
      rw [H1.out]
      rintro e w' ⟨rfl, rfl⟩
      go_wp2_with fail
      with_reducible refine (isRate_any x.rate _).mono ?_
      rw [decide_eq_false H2.out]
      rintro e w' ⟨rfl, rfl⟩
      go_wp2
      go_ret
      exact ⟨rfl, (Below.refl _ _).alloc (Nat.le_refl _) _⟩
/-- the reference's, at a worker in memory -/
theorem l23One_c (x : WorkerT) (w : World) (a : okWorker x) {b off : Nat} (c0 : w.cell? ⟨b, off, none⟩ = some (.string x.nm)) (c1 : w.cell? ⟨b, off + 1, none⟩ = some (.int .i64 x.rate)) (c2 : w.cell? ⟨b, off + 2, none⟩ = some (.int .i64 x.tax)) :
    Calls Tryd.prog 25 #[.pointer (some ⟨b, off, none⟩)] w fun e w' => e = .returned (.bool (validW x)) ∧ w = w' := by
  have hs : x.nm.size ≤ 9223372036854775807 := a.1
  cases h1 : nameB x.nm with
  | false =>
    have H : validW x = false := by unfold validW; rw [h1]; rfl
    rw [H]
    have H1 := Lib.hid h1
    clear a h1 H
    go_enter Tryd.func25, Tryd.ntmps25
    go_wp2_with fail
    with_reducible refine (sIsName_c x.nm _ hs).mono ?_
    rw [H1.out]
    rintro e w' ⟨rfl, rfl⟩
    go_wp2
    go_ret
    exact ⟨rfl, rfl⟩
  | true =>
    have H : validW x = (decide (1 ≤ x.rate ∧ x.rate ≤ 10000) && decide (0 ≤ x.tax ∧ x.tax ≤ 60)) := by unfold validW; rw [h1]; rfl
    rw [H]
    have H1 := Lib.hid h1
    clear a h1 H
    by_cases h2 : 1 ≤ x.rate ∧ x.rate ≤ 10000
    · rw [decide_eq_true h2]
      have H2 := Lib.hid h2
      clear h2
      go_enter Tryd.func25, Tryd.ntmps25
      go_wp2_with fail
      with_reducible refine (sIsName_c x.nm _ hs).mono ?_
      rw [H1.out]
      rintro e w' ⟨rfl, rfl⟩
      go_wp2_with fail
      with_reducible refine (l00In_any x.rate 1 10000 _).mono ?_
      rw [decide_eq_true H2.out]
      rintro e w' ⟨rfl, rfl⟩
      go_wp2_with fail
      with_reducible refine (l00In_any x.tax 0 60 _).mono ?_
      rintro e w' ⟨rfl, rfl⟩
      go_wp2
      go_ret
      exact ⟨ret_bool (by simp), rfl⟩
    · rw [decide_eq_false h2]
      have H2 := Lib.hid h2
      clear h2
      go_enter Tryd.func25, Tryd.ntmps25
      go_wp2_with fail
      with_reducible refine (sIsName_c x.nm _ hs).mono ?_
      rw [H1.out]
      rintro e w' ⟨rfl, rfl⟩
      go_wp2_with fail
      with_reducible refine (l00In_any x.rate 1 10000 _).mono ?_
      rw [decide_eq_false H2.out]
      rintro e w' ⟨rfl, rfl⟩
      go_wp2
      go_ret
      exact ⟨rfl, rfl⟩
end Go.Proofs.YtfhlmkeklmaedaaDoor
