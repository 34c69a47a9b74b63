/- The plain law of schedules: no order ends before the bound, none before the best, and for two machines the rule is best. No condition. -/
import Derived.Test.YtpnmcgjfemaleaaJohP
import Derived.Test.YtpnmcgjfemaleaaInsO
import Derived.Test.YtpnmcgjfemaleaaEndsP
import Derived.Test.YtpnmcgjfemaleaaBesI2
import Derived.Test.YtpnmcgjfemaleaaBound2
namespace Go.Proofs.Ytpnmcgjfemaleaa
open Go.ChangeShapes Go.WideShapes Go.ChangeAt Go.RowKit
set_option linter.unusedVariables false
set_option maxRecDepth 100000
theorem Ins.ex (b : Int → Int → Bool) (x : Int) (l : List Int) : ∃ l', Ins b x l l' := by
  obtain ⟨n, hn⟩ : ∃ n, n = l.length := ⟨_, rfl⟩
  induction n generalizing l with
  | zero =>
    obtain rfl : l = [] := List.eq_nil_of_length_eq_zero hn.symm
    exact ⟨[x], [], [], rfl, rfl, (fun y h => by cases h), (fun p' y h => by simp at h)⟩
  | succ n ih =>
    obtain ⟨l0, y, rfl⟩ : ∃ l0 y, l = l0 ++ [y] := ⟨l.dropLast, l.getLast (by intro h; rw [h] at hn; cases hn), (List.dropLast_concat_getLast _).symm⟩
    cases hb : b x y with
    | true =>
      obtain ⟨l', p, q, h1, h2, h3, h4⟩ := ih l0 (by simpa using hn)
      refine ⟨p ++ x :: (q ++ [y]), p, q ++ [y], by rw [h1, List.append_assoc], rfl, ?_, h4⟩
      intro z hz
      rcases List.mem_append.1 hz with hz | hz
      · exact h3 z hz
      · rw [List.mem_singleton] at hz; rw [hz]; exact hb
    | false =>
      refine ⟨(l0 ++ [y]) ++ [x], l0 ++ [y], [], by simp, rfl, (fun z h => by cases h), fun p' z h => ?_⟩
      have h2 := List.append_inj_right' h rfl
      have h3 : y = z := by simpa using h2
      rw [← h3]; exact hb
theorem InsAll.ex (b : Int → Int → Bool) : ∀ (xs l : List Int), ∃ r, InsAll b xs l r
  | [], l => ⟨l, rfl⟩
  | x :: xs, l => by
    obtain ⟨l', h⟩ := Ins.ex b x l
    obtain ⟨r, h2⟩ := InsAll.ex b xs l'
    exact ⟨r, l', h, h2⟩
section
variable {xss : List (List Int)} {o : List Int}
theorem sov_ok (hv : validJ xss = true) (ho : orderP xss.length o) : SOV xss o = spanJ xss o := by unfold SOV; rw [if_pos (OCode_zero hv ho)]
theorem sbv_ok (hv : validJ xss = true) (ho : orderP xss.length o) : ¬ SOV xss o < SBV xss := by
  obtain ⟨hn, hm, hr⟩ := validJ_parts hv
  rw [sov_ok hv ho]
  unfold SBV
  rw [if_pos hv]
  have := bound_le hm hn.1 hr ho
  omega
theorem boc_ok (hv : validJ xss = true) (h4 : xss.length ≤ 4) : BOC xss = 0 := by unfold BOC; rw [if_pos hv, if_pos (by omega)]
theorem bor_ok (hv : validJ xss = true) (h4 : xss.length ≤ 4) : orderP xss.length (BOR xss) ∧ ∀ o, orderP xss.length o → ¬ SOV xss o < SOV xss (BOR xss) := by
  have hn := (validJ_parts hv).1
  have e : BOR xss = visitB xss xss.length xss.length [] [] := by unfold BOR; rw [if_pos (boc_ok hv h4)]
  obtain ⟨h1, h2⟩ := visit_best xss (n := xss.length) (by omega)
  rw [← e] at h1 h2
  refine ⟨h1, fun o ho => ?_⟩
  rw [sov_ok hv ho, sov_ok hv h1]
  have := h2 o ho
  omega
theorem ior_ok (hv : validJ xss = true) : IOC xss = 0 ∧ orderP xss.length (IOR xss) := by
  refine ⟨by unfold IOC; rw [if_pos hv], ?_⟩
  rw [IOR_yes hv]
  obtain ⟨r, hr⟩ := InsAll.ex (insX xss) (rangeI xss.length) []
  have hp := hr.perm
  rw [IOS_eq hr, List.append_nil] at hp
  have h := insO_perm xss (IOS xss) []
  rw [List.append_nil] at h
  exact orderP_perm.2 (h.trans hp)
theorem jr_ok (hv : validJ xss = true) (h4 : xss.length ≤ 4) (hc : colsJ xss = 2) : JC xss = 0 ∧ orderP xss.length (JR xss) ∧ SOV xss (JR xss) = SOV xss (BOR xss) := by
  obtain ⟨hn, hm, hr⟩ := validJ_parts hv
  have hj : JC xss = 0 := by unfold JC; rw [if_pos hv, if_pos hc]
  obtain ⟨r, hi⟩ := InsAll.ex (johX xss) (rangeI xss.length) []
  have hP := joh_ins hi
  have e := JR_eq hj hP
  rw [← e]
  have ho : orderP xss.length r := orderP_perm.2 hP.2
  refine ⟨hj, ho, ?_⟩
  obtain ⟨hb, hb2⟩ := bor_ok hv h4
  have h1 := hb2 r ho
  have h2 := joh_best (fun r h => (hr r h).2) hc (l := r) (o := BOR xss) (hP.2.trans (orderP_perm.1 hb).symm) hP.1
  rw [sov_ok hv ho, sov_ok hv hb] at *
  omega
theorem jr_no (hv : validJ xss = true) (hc : colsJ xss ≠ 2) : JC xss = 6 := by unfold JC; rw [if_pos hv, if_neg hc]
end
end Go.Proofs.Ytpnmcgjfemaleaa
