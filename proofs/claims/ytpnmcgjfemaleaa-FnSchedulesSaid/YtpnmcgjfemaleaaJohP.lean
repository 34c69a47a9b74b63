/- Johnson's order: the plain law. No condition. -/
import Derived.Test.YtpnmcgjfemaleaaSrtC
import Derived.Test.YtpnmcgjfemaleaaCmp
namespace Go.Proofs.Ytpnmcgjfemaleaa
open Go.ChangeShapes Go.WideShapes Go.ChangeAt Go.RowKit
set_option linter.unusedVariables false
set_option maxRecDepth 100000
theorem cmpZ_neg (a b : Int) : decide (cmpZ a b < 0) = decide (a < b) := by
  unfold cmpZ
  by_cases h : a < b
  · rw [if_pos h]; simp [h]
  · rw [if_neg h]
    split <;> simp [h]
theorem selI_filter (p : Int → Bool) (n : Nat) : selI p n = (rangeI n).filter p := by
  induction n with
  | zero => rfl
  | succ n ih =>
    have h : rangeI (n + 1) = rangeI n ++ [(n : Int)] := by unfold rangeI; rw [List.range_succ, List.map_append]; rfl
    rw [selI_succ, ih, h, List.filter_append]
    congr 1
    cases hp : p (n : Int) <;> simp [hp]
def johX (xss : List (List Int)) : Int → Int → Bool := johB (fun i => jobF xss i 0) (fun i => jobF xss i 1)
def joh1 (xss : List (List Int)) (i : Int) : Bool := decide (jobF xss i 0 < jobF xss i 1)
def JC (xss : List (List Int)) : Int := if validJ xss = true then (if colsJ xss = 2 then 0 else 6) else 1
def JohP (xss : List (List Int)) (r : List Int) : Prop := r.Pairwise (ltB (johX xss)) ∧ r.Perm (rangeI xss.length)
open Classical in
noncomputable def JR (xss : List (List Int)) : List Int := if JC xss = 0 then (if h : ∃ r, JohP xss r then h.choose else []) else []
theorem JR_eq {xss : List (List Int)} {r : List Int} (hc : JC xss = 0) (h : JohP xss r) : r = JR xss := by
  have he : ∃ r, JohP xss r := ⟨r, h⟩
  unfold JR
  rw [if_pos hc, dif_pos he]
  have h2 := he.choose_spec
  exact sorted_unique (johB_weak _ _) h.1 h2.1 (h.2.trans h2.2.symm)
theorem JR_no {xss : List (List Int)} (hc : JC xss ≠ 0) : JR xss = [] := by unfold JR; rw [if_neg hc]
theorem range_lt (n : Nat) : (rangeI n).Pairwise (· < ·) := by
  have h1 := rangeI_sorted n
  have h2 := rangeI_nodup n
  exact (List.pairwise_and_iff.2 ⟨h1, h2⟩).imp fun {a b} h => by have := h.2; omega
/-- the reference's: each job put to its place -/
theorem joh_ins {xss : List (List Int)} {r : List Int} (h : InsAll (johX xss) (rangeI xss.length) [] r) : JohP xss r := by
  refine ⟨h.sorted (johB_weak _ _) List.Pairwise.nil (fun y hy => by cases hy) (range_lt _), ?_⟩
  have := h.perm
  rwa [List.append_nil] at this
/-- the program's: two parts -/
theorem joh_parts {xss : List (List Int)} {r1 r2 : List Int} (h1 : InsAll (ltC fun x y => cmpZ (jobF xss x 0) (jobF xss y 0)) (selI (joh1 xss) xss.length) [] r1)
    (h2 : InsAll (ltC fun x y => cmpZ (jobF xss y 1) (jobF xss x 1)) (selI (fun i => !joh1 xss i) xss.length) [] r2) : JohP xss (r1 ++ r2) := by
  rw [selI_filter] at h1 h2
  refine two_parts (b := johX xss) (u := joh1 xss) ⟨?_, ?_⟩ ⟨?_, ?_⟩ (range_lt _) ?_ ?_ ?_ h1 h2
  · intro x y; unfold ltC; rw [cmpZ_neg, cmpZ_neg]; simp; omega
  · intro x y z; unfold ltC; rw [cmpZ_neg, cmpZ_neg, cmpZ_neg]; simp; omega
  · intro x y; unfold ltC; rw [cmpZ_neg, cmpZ_neg]; simp; omega
  · intro x y z; unfold ltC; rw [cmpZ_neg, cmpZ_neg, cmpZ_neg]; simp; omega
  · intro x y hx hy
    unfold joh1 at hx hy
    unfold johX johB ltC
    rw [cmpZ_neg, hx, hy]
    simp at hx
    simp [hx]
  · intro x y hx hy
    unfold joh1 at hx hy
    unfold johX johB ltC
    rw [cmpZ_neg, hx, hy]
    simp at hx
    have : ¬ jobF xss x 0 < jobF xss x 1 := by omega
    simp [this]
  · intro x y hx hy
    unfold joh1 at hx hy
    unfold johX johB
    rw [hx, hy]
    simp
end Go.Proofs.Ytpnmcgjfemaleaa
