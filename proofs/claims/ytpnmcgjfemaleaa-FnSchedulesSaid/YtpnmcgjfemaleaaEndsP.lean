/- Ends of jobs: the plain law of the chapter. No condition. -/
import Derived.Test.YtpnmcgjfemaleaaIdle2
import Derived.Test.YtpnmcgjfemaleaaLate2
namespace Go.Proofs.Ytpnmcgjfemaleaa
open Go.ChangeShapes Go.WideShapes Go.ChangeAt Go.RowKit
set_option linter.unusedVariables false
set_option maxRecDepth 100000
section
variable {xss : List (List Int)} {o : List Int}
theorem free_take {i : Nat} {x : Int} (h : o[i]? = some x) : freeJ xss (o.take (i + 1)) = endF (freeJ xss (o.take i)) (jobF xss x) := by
  rw [take_snoc h, freeJ_snoc]
theorem rows_ok (hv : validJ xss = true) : ∀ r ∈ xss, ∀ x ∈ r, 0 ≤ x ∧ x ≤ 1000 := fun r hr => ((validJ_parts hv).2.2 r hr).2
/-- when a job begins on a machine -/
theorem start_at (hv : validJ xss = true) {i k : Nat} {x : Int} (h : o[i]? = some x) (hk : k < 4) :
    0 ≤ freeJ xss (o.take (i + 1)) k - jobF xss x k ∧ (∀ i', i = i' + 1 → freeJ xss (o.take (i' + 1)) k ≤ freeJ xss (o.take (i + 1)) k - jobF xss x k) ∧ ∀ k', k = k' + 1 → freeJ xss (o.take (i + 1)) k' ≤ freeJ xss (o.take (i + 1)) k - jobF xss x k := by
  have hb := (freeJ_bound (rows_ok hv) (o.take i) hk).1
  have e := endF_eq (freeJ xss (o.take i)) (jobF xss x) k
  rw [← free_take h] at e
  refine ⟨by omega, fun i' hi' => ?_, fun k' hk' => ?_⟩
  · subst hi'; omega
  · subst hk'
    have e2 : prevF (freeJ xss (o.take (i + 1))) (k' + 1) = freeJ xss (o.take (i + 1)) k' := rfl
    omega
theorem free_up (hv : validJ xss = true) (k : Nat) : ∀ (d i : Nat), i + d ≤ o.length → freeJ xss (o.take i) k ≤ freeJ xss (o.take (i + d)) k := by
  intro d
  induction d with
  | zero => intro i _; exact Int.le_refl _
  | succ d ih =>
    intro i hi
    have h1 := ih i (by omega)
    obtain ⟨x, hx⟩ : ∃ x, o[i + d]? = some x := ⟨_, List.getElem?_eq_getElem (by omega)⟩
    have h2 := (endF_mono (g := freeJ xss (o.take (i + d))) (x := jobF xss x) (fun k => (jobF_bound (rows_ok hv) x k).1) k).1
    rw [← free_take hx] at h2
    exact Int.le_trans h1 h2
theorem free_all (hv : validJ xss = true) (k i : Nat) (hi : i ≤ o.length) : freeJ xss (o.take i) k ≤ freeJ xss o k := by
  have := free_up (o := o) hv k (o.length - i) i (by omega)
  rw [show i + (o.length - i) = o.length by omega, List.take_length] at this
  exact this
theorem OCode_zero (hv : validJ xss = true) (ho : orderP xss.length o) : OCode xss o = 0 := by unfold OCode; rw [if_pos hv, if_pos ho]
theorem idle_ok (hv : validJ xss = true) (ho : orderP xss.length o) : IMC xss o ((colsJ xss : Int) - 1) = 0 ∧ 0 ≤ IMV xss o ((colsJ xss : Int) - 1) := by
  obtain ⟨hn, hm, hr⟩ := validJ_parts hv
  have hin : inMc xss ((colsJ xss : Int) - 1) = true := by unfold inMc; rw [decide_eq_true_iff]; omega
  have h1 : IMC xss o ((colsJ xss : Int) - 1) = 0 := by unfold IMC OCodeIn; rw [if_pos hv, if_pos ⟨ho, hin⟩]
  refine ⟨h1, ?_⟩
  unfold IMV
  rw [if_pos h1]
  obtain ⟨mc, hmc⟩ : ∃ mc : Nat, mc = (((colsJ xss : Int) - 1)).toNat := ⟨_, rfl⟩
  rw [← hmc, colT_sum, ← sumO_perm (orderP_perm.1 ho)]
  have hlen := ho.1
  cases o with
  | nil => simp at hlen; omega
  | cons x t =>
    have h2 := FJ_low (job := jobF xss) mc t (freeJ xss [x]) (fun i k => (jobF_bound (rows_ok hv) i k).1)
    have h3 : FJ (jobF xss) (freeJ xss [x]) t mc = freeJ xss (x :: t) mc := rfl
    have h4 : sumO (fun i => jobF xss i mc) (x :: t) = jobF xss x mc + sumO (fun i => jobF xss i mc) t := by unfold sumO; rw [List.map_cons, sumI_cons]
    have h5 : (x :: t).take 1 = [x] := by simp
    have h6 : (x :: t).headD 0 = x := rfl
    rw [h4, h5, h6]
    omega
theorem late_ok (hv : validJ xss = true) (ho : orderP xss.length o) {dl : List Int} (hl : dl.length = xss.length) (hd : ∀ x ∈ dl, x = freeJ xss o (colsJ xss - 1)) : LTC xss o dl = 0 ∧ LTV xss o dl = [] := by
  obtain ⟨hn, hm, hr⟩ := validJ_parts hv
  have hb := freeJ_bound (rows_ok hv) o (k := colsJ xss - 1) (by omega)
  have hlen := ho.1
  have hin : inD xss dl = true := by
    unfold inD
    rw [decide_eq_true hl, Bool.true_and, Bool.not_eq_true', List.any_eq_false]
    intro x hx
    rw [hd x hx]
    unfold badD
    have : 0 ≤ freeJ xss o (colsJ xss - 1) ∧ freeJ xss o (colsJ xss - 1) ≤ 1000000 := by
      have h8 : (o.length : Int) ≤ 8 := by omega
      omega
    simp [this]
  have h1 : LTC xss o dl = 0 := by unfold LTC OCodeIn; rw [if_pos hv, if_pos ⟨ho, hin⟩]
  refine ⟨h1, ?_⟩
  unfold LTV
  rw [if_pos h1]
  have key : ∀ k, k ≤ o.length → lateL xss o dl k = [] := by
    intro k
    induction k with
    | zero => intro _; rfl
    | succ k ih =>
      intro hk
      unfold lateL
      rw [ih (by omega)]
      obtain ⟨x, hx⟩ : ∃ x, o[k]? = some x := ⟨_, List.getElem?_eq_getElem (by omega)⟩
      have hxr := ho.2.1 x (List.mem_of_getElem? hx)
      have hf : lateB xss o dl k = false := by
        unfold lateB
        rw [atI_of hx, decide_eq_false_iff_not]
        have h2 := free_all (o := o) hv (colsJ xss - 1) (k + 1) (by omega)
        have h3 : atI dl x.toNat = freeJ xss o (colsJ xss - 1) := by
          have hlt : x.toNat < dl.length := by omega
          rw [atI_of (List.getElem?_eq_getElem hlt)]
          exact hd _ (List.getElem_mem hlt)
        omega
      rw [hf]
      rfl
  rw [key o.length (Nat.le_refl _)]
  exact List.eq_nil_of_length_eq_zero (by rw [sortL_len]; rfl)
end
theorem matAt {xss : List (List Int)} {A n m b off cap i k : Nat} {W : World} (ha : RdInt64SS A W (.slice (some ⟨b, off, none⟩) n cap) xss)
    (hrows : ∀ r ∈ xss, r.length = m) (hi : i < n) (hk : k < m) :
    ∃ (b2 off2 rc : Nat) (y : Int) (row : List Int), W.cell? ⟨b, off + i, none⟩ = some (.slice (some ⟨b2, off2, none⟩) m rc) ∧ W.cell? ⟨b2, off2 + k, none⟩ = some (.int .i64 y) ∧ xss[i]? = some row ∧ row[k]? = some y := by
  obtain ⟨ao', cap', hs, ho⟩ := ha.open
  injection hs with h1 h2 h3
  obtain ⟨b', off', hbo, _, hc⟩ := ho (by omega)
  rw [← h1] at hbo
  cases hbo
  obtain ⟨x, ro, rc, hx, hcell, hrd⟩ := hc i (by omega)
  have hxm := hrows x (List.mem_of_getElem? hx)
  rw [hxm] at hcell hrd
  obtain ⟨ro', rc', hsh, hin⟩ := RdI.open hrd
  injection hsh with q1 q2 q3
  subst q1
  obtain ⟨b2, off2, rfl, _, hcc⟩ := hin (by omega)
  obtain ⟨y, hy, hcy, _⟩ := hcc k (by omega)
  exact ⟨b2, off2, rc, y, x, hcell, hcy, hx, hy⟩
theorem ends_get {xss : List (List Int)} {o : List Int} {i k : Nat} {row : List Int} {y : Int} (hi : i < o.length) (hk : k < colsJ xss) (h1 : (endsJ xss o)[i]? = some row) (h2 : row[k]? = some y) : y = freeJ xss (o.take (i + 1)) k := by
  unfold endsJ at h1
  rw [rowsJ_get hi] at h1
  cases h1
  rw [cf_get hk] at h2
  exact (Option.some.inj h2).symm
theorem ends_rows (xss : List (List Int)) (o : List Int) : (∀ r ∈ endsJ xss o, r.length = colsJ xss) ∧ (endsJ xss o).length = o.length := by
  refine ⟨fun r hr => ?_, rowsJ_length _ _ _ _⟩
  unfold endsJ rowsJ at hr
  obtain ⟨j, _, rfl⟩ := List.mem_map.1 hr
  exact cf_length _ _
end Go.Proofs.Ytpnmcgjfemaleaa
