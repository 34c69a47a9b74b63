/- Best orders: the program's. No condition. -/
import Derived.Test.YtpnmcgjfemaleaaBesI
import Derived.Laws.EntriesVeiled
namespace Go.Proofs.Ytpnmcgjfemaleaa
open Go.ChangeShapes Go.WideShapes Go.ChangeAt Go.RowKit Go.Sort
set_option linter.unusedVariables false
set_option maxRecDepth 100000
theorem newFour (W : World) (F : Value) (E1 T U : TypeId) :
    let X := (((W.alloc (.cells #[] E1)).alloc (.cells #[.slice (some ⟨W.heap.size, 0, none⟩) 0 0] T)).alloc (.cells #[F] U)).alloc (.cells #[] E1)
    Box X (W.heap.size + 1 + 1) [F] ∧ Box X (W.heap.size + 1) [.slice (some ⟨W.heap.size, 0, none⟩) 0 0] ∧ Own eI E1 (W.heap.size + 1 + 1 + 1) X (.slice (some ⟨W.heap.size + 1 + 1 + 1, 0, none⟩) 0 0) [] ∧ Own eI E1 W.heap.size X (.slice (some ⟨W.heap.size, 0, none⟩) 0 0) [] ∧ Below W.heap.size W X := by
  intro X
  have e2 : (W.alloc (.cells #[] E1)).heap.size = W.heap.size + 1 := by simp
  have e3 : ((W.alloc (.cells #[] E1)).alloc (.cells #[.slice (some ⟨W.heap.size, 0, none⟩) 0 0] T)).heap.size = W.heap.size + 1 + 1 := by simp
  have e4 : (((W.alloc (.cells #[] E1)).alloc (.cells #[.slice (some ⟨W.heap.size, 0, none⟩) 0 0] T)).alloc (.cells #[F] U)).heap.size = W.heap.size + 1 + 1 + 1 := by simp
  have h1 := (Box.new ((W.alloc (.cells #[] E1)).alloc (.cells #[.slice (some ⟨W.heap.size, 0, none⟩) 0 0] T)) [F] U).alloc (.cells #[] E1)
  have h2 := ((Box.new (W.alloc (.cells #[] E1)) [.slice (some ⟨W.heap.size, 0, none⟩) 0 0] T).alloc (.cells #[F] U)).alloc (.cells #[] E1)
  have h3 := Own.lit (E := eI) (e := E1) (base := W.heap.size + 1 + 1 + 1) (w := ((W.alloc (.cells #[] E1)).alloc (.cells #[.slice (some ⟨W.heap.size, 0, none⟩) 0 0] T)).alloc (.cells #[F] U)) (xs := []) (cs := #[]) (n := 0) (by rw [e4]; exact Nat.le_refl _) rfl rfl (by decide) (fun x hx => by cases hx)
  have h4 := (((Own.lit (E := eI) (e := E1) (base := W.heap.size) (w := W) (xs := []) (cs := #[]) (n := 0) (Nat.le_refl _) rfl rfl (by decide) (fun x hx => by cases hx)).alloc (.cells #[.slice (some ⟨W.heap.size, 0, none⟩) 0 0] T)).alloc (.cells #[F] U)).alloc (.cells #[] E1)
  rw [e3] at h1
  rw [e2] at h2
  rw [e4] at h3
  exact ⟨h1, h2, h3, h4, ((((Below.refl _ _).alloc (Nat.le_refl _) _).alloc (by rw [e2]; omega) _).alloc (by rw [e3]; omega) _).alloc (by rw [e4]; omega) _⟩
theorem BestOrder_c {xss : List (List Int)} {v : Value} {w : World} {A : Nat} (ha : RdInt64SS A w v xss) :
    Calls Try.prog 22 #[v] w fun e w' => ∃ u0, e = .returned (.tuple #[u0, .int .i64 (BOC xss)]) ∧ OwnInt64S w.heap.size w' u0 (BOR xss) ∧ Below w.heap.size w w' := by
  have ha1 := ha.tight
  have hxle := ha.le
  obtain ⟨ao, cap, hsh⟩ := ha.shape
  obtain ⟨n, hn⟩ : ∃ n, n = xss.length := ⟨_, rfl⟩
  rw [← hn] at hsh hxle
  subst hsh
  obtain ⟨W0, hW0⟩ : ∃ W0, W0 = w.alloc (.cells #[.slice ao n cap] 22) := ⟨_, rfl⟩
  have hb0 : Below w.heap.size w W0 := by rw [hW0]; exact (Below.refl _ _).alloc (Nat.le_refl _) _
  have hB0 : Box W0 w.heap.size [.slice ao n cap] := by rw [hW0]; exact Box.new w [.slice ao n cap] _
  have hz0 : W0.heap.size = w.heap.size + 1 := by rw [hW0]; simp
  have ha0 := ha1.below hb0 (Nat.le_refl _)
  have c0 := hB0.cell 0 _ rfl
  have HW0 := Lib.hid hW0
  have Ha0 := Lib.hid ha0
  have Hb0 := Lib.hid hb0
  have HB0 := Lib.hid hB0
  have Hn := Lib.hid hn
  have Hz0 := Lib.hid hz0
  clear ha ha1 hn hW0 hb0 hB0 ha0 hz0
  cases hv : validJ xss with
  | false =>
    have e1 : BOC xss = 1 := by unfold BOC; rw [hv]; rfl
    rw [BOR_no (by rw [e1]; decide), e1]
    have Hv := Lib.hid hv
    clear hv e1
    go_enter Try.func22, Try.ntmps22
    go_wp2_with fail
    rw [← HW0.out]
    with_reducible refine (ValidJobs_c Ha0.out).mono ?_
    rw [Hv.out]
    rintro e w1 ⟨rfl, rfl⟩
    go_wp2
    go_ret2
    exact ⟨_, rfl, Own.nil _ _ _ _, Hb0.out⟩
  | true =>
    by_cases h6 : n ≤ 6
    · have e1 : BOC xss = 0 := by unfold BOC; rw [hv, if_pos rfl, if_pos (by have := Hn.out; omega)]
      have e2 : BOR xss = visitB xss xss.length xss.length [] [] := by unfold BOR; rw [if_pos e1]
      rw [e1, e2]
      have Hv := Lib.hid hv
      have h6' : ¬ (6 : Int) < (n : Int) := by omega
      have hn8 := (validJ_parts hv).1
      obtain ⟨k1, k2, k3, k4, k5⟩ := newFour W0 (.func (.func 57) #[] #[.pointer (some ⟨w.heap.size, 0, none⟩), .pointer (some ⟨W0.heap.size + 1 + 1, 0, none⟩), .pointer (some ⟨W0.heap.size + 1, 0, none⟩)]) 2 29 56
      have hcall := bvisit_c (A := w.heap.size) (J := w.heap.size) (BB := W0.heap.size + 1) (VB := W0.heap.size + 1 + 1) (OB := w.heap.size) Hv.out (by have := Hz0.out; omega) (by have := Hz0.out; omega) (by omega) (by have := Hz0.out; omega) xss.length _ _ [] [] ⟨Ha0.out.below k5 (by have := Hz0.out; omega), HB0.out.below k5 (by have := Hz0.out; omega), k1⟩
        ⟨_, k2, k4.mono (by have := Hz0.out; omega), by intro h; have h2 : W0.heap.size = W0.heap.size + 1 := Option.some.inj h; omega, .inl rfl⟩ k3 (by simp) (fun i hi => by cases hi) List.nodup_nil
      have Hcall := Lib.hid hcall
      have Hk5 := Lib.hid k5
      clear hv e1 e2 hcall k1 k2 k3 k4 k5
      go_enter Try.func22, Try.ntmps22
      go_wp2_with fail
      rw [← HW0.out]
      with_reducible refine (ValidJobs_c Ha0.out).mono ?_
      rw [Hv.out]
      rintro e w1 ⟨rfl, rfl⟩
      go_wp2_with fail
      with_reducible refine Hcall.out.mono ?_
      rintro e w3 ⟨rfl, ⟨fv, hbox, hf, _⟩, hwi⟩
      have g2 := hbox.cell 0 _ rfl
      have hbf := Hb0.out.trans ((Hk5.out.mono (show w.heap.size ≤ W0.heap.size by have := Hz0.out; omega)).trans ((hwi.below (by simp)).mono (by have := Hz0.out; omega)))
      have Hf := Lib.hid hf
      clear hbox hf hwi
      go_wp2
      go_ret2
      exact ⟨_, rfl, Hf.out, hbf⟩
    · have e1 : BOC xss = 5 := by unfold BOC; rw [hv, if_pos rfl, if_neg (by have := Hn.out; omega)]
      rw [BOR_no (by rw [e1]; decide), e1]
      have Hv := Lib.hid hv
      have h6' : (6 : Int) < (n : Int) := by omega
      clear hv e1 h6
      go_enter Try.func22, Try.ntmps22
      go_wp2_with fail
      rw [← HW0.out]
      with_reducible refine (ValidJobs_c Ha0.out).mono ?_
      rw [Hv.out]
      rintro e w1 ⟨rfl, rfl⟩
      go_wp2
      go_ret2
      exact ⟨_, rfl, Own.nil _ _ _ _, Hb0.out⟩
end Go.Proofs.Ytpnmcgjfemaleaa
