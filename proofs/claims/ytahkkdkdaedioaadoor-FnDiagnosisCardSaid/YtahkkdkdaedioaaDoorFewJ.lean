/- The fewest faults and a diagnosis: the program's. The condition: the library's table of powers of ten lies as its text lays it. -/
import Derived.Test.YtahkkdkdaedioaaDoorFewI
namespace Go.Proofs.YtahkkdkdaedioaaDoor
open Go.ChangeShapes Go.WideShapes Go.ChangeAt Go.RowKit Go.Sort
set_option linter.unusedVariables false
set_option maxRecDepth 100000
theorem few_at {xs : List Int} {r : ReportT} {c : Nat} (h : isRep r = true) (hc : c < 3) (h0 : ∀ j : Nat, j < c → explF xs r (j : Int) = []) (hn : explF xs r (c : Int) ≠ []) : fewF xs r = (explF xs r (c : Int), (c : Int)) := by
  unfold fewF
  rw [if_neg (by rw [h]; simp)]
  have e0 : 0 < c → explF xs r 0 = [] := fun hj => h0 0 hj
  have e1 : 1 < c → explF xs r 1 = [] := fun hj => h0 1 hj
  have : c = 0 ∨ c = 1 ∨ c = 2 := by omega
  rcases this with rfl | rfl | rfl
  · rw [if_pos (show explF xs r 0 ≠ [] from hn)]; rfl
  · rw [if_neg (by rw [e0 (by decide)]; simp), if_pos (show explF xs r 1 ≠ [] from hn)]; rfl
  · rw [if_neg (by rw [e0 (by decide)]; simp), if_neg (by rw [e1 (by decide)]; simp), if_pos (show explF xs r 2 ≠ [] from hn)]; rfl
theorem few_none {xs : List Int} {r : ReportT} (h0 : ∀ j : Nat, j < 3 → explF xs r (j : Int) = []) : fewF xs r = ([], 0) := by
  unfold fewF
  have e0 : explF xs r 0 = [] := h0 0 (by decide)
  have e1 : explF xs r 1 = [] := h0 1 (by decide)
  have e2 : explF xs r 2 = [] := h0 2 (by decide)
  rw [e0, e1, e2]
  simp
theorem expl_len {xs : List Int} (h : amtOk xs = true) (r : ReportT) (c : Nat) (hc : c < 3) : (explF xs r (c : Int)).length ≤ 300000 := by
  have h2 := allK_len xs xs.length
  have h3 := (amtOk_parts h).1
  have hm : (allF xs).length ≤ 504 := by unfold allF; omega
  have : c = 0 ∨ c = 1 ∨ c = 2 := by omega
  rcases this with rfl | rfl | rfl
  · show (explF xs r 0).length ≤ _
    rw [expl0]; split <;> simp
  · show (explF xs r 1).length ≤ _
    rw [expl1, List.length_map]; have := sglF_len h r; omega
  · show (explF xs r 2).length ≤ _
    rw [expl2]; unfold pairsF
    have h4 := pairsK_len xs r (allF xs).length
    have h5 : (allF xs).length * (allF xs).length ≤ 504 * 504 := Nat.mul_le_mul hm hm
    omega
theorem explan_c {xs : List Int} {r : ReportT} {v : Value} {w : World} {A : Nat} (c : Nat) (hc : c < 3) (ha : RdI A w v xs) (hx : amtOk xs = true) (hr : okReport r) (ht : PowAt w) :
    Calls Tryd.prog 37 #[v, vReport r, .int .i64 (c : Int)] w fun e w' => ∃ u, e = .returned u ∧ BldG eFault 40 25 w.heap.size w.heap.size w'.heap.size w' u (explF xs r (c : Int)) ∧ Below w.heap.size w w' := by
  have : c = 0 ∨ c = 1 ∨ c = 2 := by omega
  rcases this with rfl | rfl | rfl
  · exact explan0_c ha hx hr ht
  · exact explan1_c ha hx hr ht
  · exact explan2_c ha hx hr ht
set_option maxHeartbeats 1000000 in
theorem fewest_c {xs : List Int} {r : ReportT} {v : Value} {w : World} {A : Nat} (ha : RdI A w v xs) (hx : amtOk xs = true) (hr : okReport r) (ht : PowAt w) :
    Calls Tryd.prog 35 #[v, vReport r] w fun e w' => ∃ u, e = .returned (.tuple #[u, .int .i64 (fewF xs r).2]) ∧ BldG eFault 40 25 w.heap.size w.heap.size w'.heap.size w' u (fewF xs r).1 ∧ Below w.heap.size w w' := by
  have hb0 : Below w.heap.size w (w.alloc (.cells #[.int .i64 r.count, .int .i64 r.sum, .int .i64 r.digits] 29)) := (Below.refl _ _).alloc (Nat.le_refl _) _
  have hB0 : Box (w.alloc (.cells #[.int .i64 r.count, .int .i64 r.sum, .int .i64 r.digits] 29)) w.heap.size [.int .i64 r.count, .int .i64 r.sum, .int .i64 r.digits] := Box.new w [.int .i64 r.count, .int .i64 r.sum, .int .i64 r.digits] 29
  have ha0 := Rds.onn ha hb0
  have ht0 := ht.below hb0
  obtain ⟨ao, cap, rfl⟩ := ha.shape
  have Ha0 := Lib.hid ha0
  have Ht0 := Lib.hid ht0
  have Hb0 := Lib.hid hb0
  have HB0 := Lib.hid hB0
  have Hr := Lib.hid hr
  have Hx := Lib.hid hx
  obtain ⟨W0, hW0⟩ : ∃ W0, W0 = w.alloc (.cells #[.int .i64 r.count, .int .i64 r.sum, .int .i64 r.digits] 29) := ⟨_, rfl⟩
  rw [← hW0] at Ha0 Ht0 Hb0 HB0
  have HW0 := Lib.hid hW0
  clear ha ha0 ht ht0 hb0 hr hB0 hW0 hx
  go_enter Tryd.func35, Tryd.ntmps35
  go_wp2_with fail
  rw [← HW0.out]
  with_reducible refine (isReport_c r _).mono ?_
  rintro e w1 ⟨rfl, hb1⟩
  have HB1 := Lib.hid (HB0.out.on hb1)
  have Ha1 := Lib.hid (Ha0.out.onn hb1)
  have Ht1 := Lib.hid (Ht0.out.below hb1)
  have Hb1 := Lib.hid (Hb0.out.trans (hb1.mono Hb0.out.size))
  clear hb1 HB0 Ha0 Ht0 Hb0 HW0
  cases hir : isRep r with
  | false =>
    have E := Lib.hid (few_big (xs := xs) hir)
    clear hir
    go_wp2
    go_ret2
    rw [E.out]
    exact ⟨_, rfl, BldG.nil _ _ _ _ _ _ _, Hb1.out⟩
  | true =>
    have Hir := Lib.hid hir
    clear hir
    go_wp2
    go_loopw [11] (fun cv wr => ∃ c : Nat, c ≤ 3 ∧ cv = .int .i64 c ∧ Hid (∀ j : Nat, j < c → explF xs r (j : Int) = []) ∧ Below w1.heap.size w1 wr) (fun cv _ => 3 - (intOf cv).toNat)
    case atStart => exact ⟨0, by decide, rfl, Lib.hid (fun j hj => absurd hj (by omega)), Below.refl _ _⟩
    case round =>
      obtain ⟨c, hc, rfl, hno, hb⟩ := hrel
      by_cases hc3 : c < 3
      · have HBr := HB1.out.on hb
        have q0 := HBr.cell 0 _ rfl
        have q1 := HBr.cell 1 _ rfl
        have q2 := HBr.cell 2 _ rfl
        have hcon := explan_c c hc3 (Rds.onn Ha1.out hb) Hx.out Hr.out (Ht1.out.below hb)
        have hel := expl_len Hx.out r c hc3
        have hfa := fun h => few_at (xs := xs) (r := r) Hir.out hc3 hno.out h
        have hnx : explF xs r (c : Int) = [] → ∀ j : Nat, j < c + 1 → explF xs r (j : Int) = [] := fun h j hj => by
          by_cases e : j < c
          · exact hno.out j e
          · obtain rfl : j = c := by omega
            exact h
        have hci : (c : Int) < 3 := by omega
        generalize explF xs r (c : Int) = X at hcon hel hfa hnx
        have Hcon := Lib.hid hcon
        have Hfa := Lib.hid hfa
        have Hnx := Lib.hid hnx
        have Hel := Lib.hid hel
        have Hb := Lib.hid hb
        clear HBr hcon hfa hnx hb hel
        go_wp2_with fail
        with_reducible refine Hcon.out.mono ?_
        rintro e w2 ⟨u, rfl, hu, hb2⟩
        clear q0 q1 q2 Hcon
        obtain ⟨uo, uc, hue⟩ := hu.shape
        obtain ⟨L, hL⟩ : ∃ L, L = X.length := ⟨_, rfl⟩
        rw [← hL] at hue
        have hL3 : L ≤ 300000 := by rw [hL]; exact Hel.out
        subst hue
        have Hu := Lib.hid hu
        have Hb2 := Lib.hid (Hb.out.trans (hb2.mono Hb.out.size))
        have HL := Lib.hid hL
        have hwr := Hb.out.size
        have hw1 := Hb1.out.size
        clear hu hb2 hL
        by_cases h0 : L = 0
        · have hX : X = [] := List.eq_nil_of_length_eq_zero (by have := HL.out; omega)
          have HX := Lib.hid hX
          clear hX
          go_wp2
          go_roundw
          case rel => exact ⟨c + 1, by omega, by go_num, Lib.hid (Hnx.out HX.out), Hb2.out⟩
          case measure => simp [intOf]; omega
        · have hX : X ≠ [] := by intro h; rw [h] at HL; have := HL.out; simp at this; omega
          have hLi : (0 : Int) < (L : Int) := by omega
          have E := Lib.hid (Hfa.out hX)
          clear hX
          go_wp2
          go_ret2
          rw [E.out]
          exact ⟨_, rfl, by obtain ⟨hs, h1, h2, h3, h4⟩ := Hu.out; exact ⟨hs, ⟨h1.1.mono (by omega), h1.2⟩, h2, fun i x xs e1 e2 => ⟨(h3 i x xs e1 e2).1.mono (by omega), (h3 i x xs e1 e2).2⟩, h4⟩, Hb1.out.trans (Hb2.out.mono hw1)⟩
      · obtain rfl : c = 3 := by omega
        have E := Lib.hid (few_none hno.out)
        go_wp2
        go_ret2
        rw [E.out]
        exact ⟨_, rfl, BldG.nil _ _ _ _ _ _ _, Hb1.out.trans (hb.mono Hb1.out.size)⟩
end Go.Proofs.YtahkkdkdaedioaaDoor
