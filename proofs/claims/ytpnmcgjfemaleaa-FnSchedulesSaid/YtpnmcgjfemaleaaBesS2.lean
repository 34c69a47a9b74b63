/- Best orders: the reference's. No condition. -/
import Derived.Test.YtpnmcgjfemaleaaBesS
namespace Go.Proofs.Ytpnmcgjfemaleaa
open Go.ChangeShapes Go.WideShapes Go.ChangeAt Go.RowKit Go.Sort
set_option linter.unusedVariables false
set_option maxRecDepth 100000
def BOC (xss : List (List Int)) : Int := if validJ xss = true then (if xss.length ≤ 6 then 0 else 5) else 1
def BOR (xss : List (List Int)) : List Int := if BOC xss = 0 then visitB xss xss.length xss.length [] [] else []
theorem BOC_ok {xss : List (List Int)} (h : BOC xss = 0) : validJ xss = true ∧ xss.length ≤ 6 := by
  unfold BOC at h
  split at h
  · rename_i h1
    split at h
    · rename_i h2; exact ⟨h1, h2⟩
    · cases h
  · cases h
theorem BOR_no {xss : List (List Int)} (h : BOC xss ≠ 0) : BOR xss = [] := by unfold BOR; rw [if_neg h]
theorem BOR_len (xss : List (List Int)) : (BOR xss).length ≤ 8 := by
  by_cases h : BOC xss = 0
  · obtain ⟨hv, hl⟩ := BOC_ok h
    have hn := (validJ_parts hv).1
    unfold BOR
    rw [if_pos h]
    have := (visit_best xss (n := xss.length) (by omega)).1.1
    omega
  · rw [BOR_no h]; decide
theorem sBestOrder_c {xss : List (List Int)} {v : Value} {w : World} {A : Nat} (ha : RdInt64SS A w v xss) :
    Calls Try.prog 21 #[v] w fun e w' => ∃ u0, e = .returned (.tuple #[u0, .int .i64 (BOC xss)]) ∧ OwnInt64S w.heap.size w' u0 (BOR xss) ∧ Below w.heap.size w w' := by
  have ha1 := ha.tight
  have hxle := ha.le
  obtain ⟨ao, cap, hsh⟩ := ha.shape
  obtain ⟨n, hn⟩ : ∃ n, n = xss.length := ⟨_, rfl⟩
  rw [← hn] at hsh hxle
  subst hsh
  have Ha := Lib.hid ha1
  have Hn := Lib.hid hn
  clear ha ha1 hn
  cases hv : validJ xss with
  | false =>
    have e1 : BOC xss = 1 := by unfold BOC; rw [hv]; rfl
    rw [BOR_no (by rw [e1]; decide), e1]
    have Hv := Lib.hid hv
    clear hv e1
    go_enter Try.func21, Try.ntmps21
    go_wp2_with fail
    with_reducible refine (l21Ok_c Ha.out).mono ?_
    rw [Hv.out]
    rintro e w1 ⟨rfl, q, rfl⟩
    go_wp2
    go_ret2
    exact ⟨_, rfl, Own.nil _ _ _ _, (Below.refl _ _).drewNy _⟩
  | true =>
    by_cases h6 : n ≤ 6
    · have e1 : BOC xss = 0 := by unfold BOC; rw [hv, if_pos rfl, if_pos (by have := Hn.out; omega)]
      have e2 : BOR xss = visitB xss xss.length xss.length [] [] := by unfold BOR; rw [if_pos e1]
      have hn8 := (validJ_parts hv).1
      rw [e1, e2]
      have Hv := Lib.hid hv
      have h6' : ¬ (6 : Int) < (n : Int) := by omega
      clear hv e1 e2
      go_enter Try.func21, Try.ntmps21
      go_wp2_with fail
      with_reducible refine (l21Ok_c Ha.out).mono ?_
      rw [Hv.out]
      rintro e w1 ⟨rfl, q, rfl⟩
      have hb1 : Below w.heap.size w (w.drewN q) := (Below.refl _ _).drewNy _
      have hl1 := Ha.out.below hb1 (Nat.le_refl _)
      have hsz1 : w.heap.size ≤ (w.drewN q).heap.size := Nat.le_refl _
      generalize w.drewN q = w1 at hb1 hl1 hsz1 ⊢
      have hbx := Box.new w1 [.slice ao n cap, .slice none 0 0, .slice none 0 0, .int .i64 0] 55
      have hb2 := hb1.alloc hb1.size (.cells [.slice ao n cap, .slice none 0 0, .slice none 0 0, .int .i64 0].toArray 55)
      have hst : BesSt w.heap.size w1.heap.size xss (.slice ao n cap) (w1.alloc (.cells [.slice ao n cap, .slice none 0 0, .slice none 0 0, .int .i64 0].toArray 55)) [] [] :=
        ⟨_, _, 0, hbx, Own.nil _ _ _ _, Own.nil _ _ _ _, .inl rfl, .inl rfl, by simp [Value.ownBlock], by simp [Value.ownBlock], .inl rfl⟩
      have hcall := bwalk_c (FB := w1.heap.size) Hv.out (Nat.le_refl w.heap.size) (by omega) xss.length _ [] [] (hl1.below ((Below.refl w1.heap.size w1).alloc (Nat.le_refl _) _) hsz1) hst (by simp) (fun i hi => by cases hi)
      simp only [List.toArray] at hcall hb2
      have Hcall := Lib.hid hcall
      have Hb2 := Lib.hid hb2
      clear hcall hst hbx hb1 hb2 hl1
      go_wp2_with fail
      with_reducible refine Hcall.out.mono ?_
      rintro e w3 ⟨rfl, ⟨wv, fv, ls, hbox, hw, hf, _⟩, hb3⟩
      have g2 := hbox.cell 2 _ rfl
      have hbf := Hb2.out.trans hb3
      have Hf := Lib.hid hf
      clear hbox hw hf hb3
      go_wp2
      go_ret2
      exact ⟨_, rfl, Hf.out, hbf⟩
    · have e1 : BOC xss = 5 := by unfold BOC; rw [hv, if_pos rfl, if_neg (by have := Hn.out; omega)]
      rw [BOR_no (by rw [e1]; decide), e1]
      have Hv := Lib.hid hv
      have h6' : (6 : Int) < (n : Int) := by omega
      clear hv e1 h6
      go_enter Try.func21, Try.ntmps21
      go_wp2_with fail
      with_reducible refine (l21Ok_c Ha.out).mono ?_
      rw [Hv.out]
      rintro e w1 ⟨rfl, q, rfl⟩
      go_wp2
      go_ret2
      exact ⟨_, rfl, Own.nil _ _ _ _, (Below.refl _ _).drewNy _⟩
end Go.Proofs.Ytpnmcgjfemaleaa
