/- Inserting jobs, the plain law; the closure that sorts. No condition. -/
import Derived.Test.YtpnmcgjfemaleaaJohP
import Derived.Test.YtpnmcgjfemaleaaJohI
import Derived.Test.YtpnmcgjfemaleaaInsT3
namespace Go.Proofs.Ytpnmcgjfemaleaa
open Go.ChangeShapes Go.WideShapes Go.ChangeAt Go.RowKit
set_option linter.unusedVariables false
set_option maxRecDepth 100000
def sumF (xss : List (List Int)) (i : Int) : Int := sumI (jobI xss i)
def insX (xss : List (List Int)) (x y : Int) : Bool := decide (sumF xss y < sumF xss x)
def IOC (xss : List (List Int)) : Int := if validJ xss = true then 0 else 1
open Classical in
noncomputable def IOS (xss : List (List Int)) : List Int := if h : ∃ r, InsAll (insX xss) (rangeI xss.length) [] r then h.choose else []
noncomputable def IOR (xss : List (List Int)) : List Int := if IOC xss = 0 then insO xss [] (IOS xss) else []
theorem IOS_eq {xss : List (List Int)} {r : List Int} (h : InsAll (insX xss) (rangeI xss.length) [] r) : r = IOS xss := by
  have he : ∃ r, InsAll (insX xss) (rangeI xss.length) [] r := ⟨r, h⟩
  unfold IOS
  rw [dif_pos he]
  exact h.unique he.choose_spec
theorem IOS_cmp {xss : List (List Int)} {r : List Int} (h : InsAll (ltC fun x y => cmpZ (sumF xss y) (sumF xss x)) (rangeI xss.length) [] r) : r = IOS xss := by
  refine IOS_eq ?_
  have e : (ltC fun x y => cmpZ (sumF xss y) (sumF xss x)) = insX xss := by
    funext x y
    unfold ltC insX
    exact cmpZ_neg _ _
  rwa [e] at h
theorem IOR_yes {xss : List (List Int)} (h : validJ xss = true) : IOR xss = insO xss [] (IOS xss) := by
  have e : IOC xss = 0 := by unfold IOC; rw [if_pos h]
  unfold IOR
  rw [if_pos e]
theorem IOR_no {xss : List (List Int)} (h : IOC xss ≠ 0) : IOR xss = [] := by unfold IOR; rw [if_neg h]
/-- a job's row -/
theorem jobRow {xss : List (List Int)} {A n b off cap i : Nat} {W : World} (ha : RdInt64SS A W (.slice (some ⟨b, off, none⟩) n cap) xss) (hi : i < n) :
    ∃ (x : List Int) (ro : Option Addr) (rc : Nat), xss[i]? = some x ∧ W.cell? ⟨b, off + i, none⟩ = some (.slice ro x.length rc) ∧ RdI A W (.slice ro x.length rc) x ∧ sumF xss (i : Int) = sumI x := by
  obtain ⟨ao', cap', hs, ho⟩ := ha.open
  injection hs with h1 h2 h3
  obtain ⟨b', off', hbo, _, hc⟩ := ho (by omega)
  rw [← h1] at hbo
  cases hbo
  obtain ⟨x, ao, rc, hx, hcell, hrd⟩ := hc i (by omega)
  refine ⟨x, ao, rc, hx, hcell, hrd, ?_⟩
  unfold sumF jobI
  rw [List.getD_eq_getElem?_getD, Int.toNat_natCast, hx]
  rfl
theorem cmpSum {xss : List (List Int)} {A n b off cap B i j m : Nat} {W : World} (hB : W.cell? ⟨B, 0, none⟩ = some (.slice (some ⟨b, off, none⟩) n cap)) (ha : RdInt64SS A W (.slice (some ⟨b, off, none⟩) n cap) xss)
    (hrows : ∀ r ∈ xss, r.length = m ∧ ∀ x ∈ r, 0 ≤ x ∧ x ≤ 1000) (hm : m ≤ 4) (hi : i < n) (hj : j < n) :
    Calls Try.prog 72 #[.int .i64 (i : Int), .int .i64 (j : Int), .pointer (some ⟨B, 0, none⟩)] W fun e w' => e = .returned (.int .i64 (cmpZ (sumF xss j) (sumF xss i))) ∧ ∃ q, w' = W.drewN q := by
  obtain ⟨x, rx, cx, hx, c1, r1, e1⟩ := jobRow ha hi
  obtain ⟨y, ry, cy, hy, c2, r2, e2⟩ := jobRow ha hj
  have hxr := hrows x (List.mem_of_getElem? hx)
  have hyr := hrows y (List.mem_of_getElem? hy)
  have bx : Hid ((∀ z ∈ x, 0 ≤ z ∧ z ≤ 1000000000) ∧ x.length ≤ 1000000) := Lib.hid ⟨fun z hz => by have := hxr.2 z hz; omega, by omega⟩
  have bY : Hid ((∀ z ∈ y, 0 ≤ z ∧ z ≤ 1000000000) ∧ y.length ≤ 1000000) := Lib.hid ⟨fun z hz => by have := hyr.2 z hz; omega, by omega⟩
  have R1 := Lib.hid r1
  have R2 := Lib.hid r2
  rw [e1, e2]
  clear ha hrows e1 e2 hxr hyr hx hy r1 r2
  go_enter Try.func72, Try.ntmps72
  go_wp2
  go_quiet (first
    | (go_at_call 68; first | exact quiet_at0 (compare_c _ _ _) | exact quiet_at (compare_c _ _ _))
    | (go_at_call 54; first | exact quiet_at0 (sumOf_any R1.out bx.out.1 bx.out.2) | exact quiet_at (sumOf_any R1.out bx.out.1 bx.out.2) | exact quiet_at0 (sumOf_any R2.out bY.out.1 bY.out.2) | exact quiet_at (sumOf_any R2.out bY.out.1 bY.out.2) | exact quiet_at (sumOf_any (R1.out.drewN _) bx.out.1 bx.out.2) | exact quiet_at (sumOf_any (R2.out.drewN _) bY.out.1 bY.out.2)))
  go_wp2
  go_ret
  exact ⟨rfl, _, rfl⟩
end Go.Proofs.Ytpnmcgjfemaleaa
