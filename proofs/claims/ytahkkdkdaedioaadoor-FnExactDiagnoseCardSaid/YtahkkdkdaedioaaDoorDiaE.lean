/- Changes and small reports: the reference's. No condition. -/
import Derived.Test.YtahkkdkdaedioaaDoorRepS
import Derived.Test.YtahkkdkdaedioaaDoorAftS
import Derived.Test.YtahkkdkdaedioaaDoorFewP
namespace Go.Proofs.YtahkkdkdaedioaaDoor
open Go.ChangeShapes Go.WideShapes Go.ChangeAt Go.RowKit
set_option linter.unusedVariables false
set_option maxRecDepth 100000
theorem chg_lost {xs : List Int} {f : FaultT} {n : Int} (h : f.kind = 1) (hn : atN xs f.card = n) : chgF xs f = ⟨-1, -n, -(dsum n)⟩ := by
  unfold chgF afterF
  rw [if_neg (by omega), if_neg (by omega), hn]
  simp [repOf, subR, sumI]
theorem chg_dbl {xs : List Int} {f : FaultT} {n : Int} (h : f.kind = 2) (hn : atN xs f.card = n) : chgF xs f = ⟨1, n, dsum n⟩ := by
  unfold chgF afterF
  rw [if_pos h, hn]
  simp [repOf, subR, sumI]
theorem chg_dig {xs : List Int} {f : FaultT} {n : Int} (h : f.kind = 3) (hn : atN xs f.card = n) : chgF xs f = ⟨0, readF n f - n, dsum (readF n f) - dsum n⟩ := by
  unfold chgF afterF
  rw [if_neg (by omega), if_pos h, hn]
  simp [repOf, subR, sumI]
theorem l19Small_c (r : ReportT) (w : World) :
    Calls Tryd.prog 70 #[vReport r] w fun e w' => e = .returned (.bool (isRep r)) ∧ Below w.heap.size w w' := by
  unfold isRep
  by_cases h1 : -1000000000 ≤ r.count ∧ r.count ≤ 1000000000
  · by_cases h2 : -1000000000 ≤ r.sum ∧ r.sum ≤ 1000000000
    · rw [decide_eq_true h1, decide_eq_true h2]
      have H1 := Lib.hid h1
      have H2 := Lib.hid h2
      clear h1 h2
      go_enter Tryd.func70, Tryd.ntmps70
      go_wp2_with fail
      with_reducible refine (l00In_any _ _ _ _).mono ?_
      rw [decide_eq_true H1.out]
      rintro e w' ⟨rfl, rfl⟩
      go_wp2_with fail
      with_reducible refine (l00In_any _ _ _ _).mono ?_
      rw [decide_eq_true H2.out]
      rintro e w' ⟨rfl, rfl⟩
      go_wp2_with fail
      with_reducible refine (l00In_any _ _ _ _).mono ?_
      rintro e w' ⟨rfl, rfl⟩
      go_wp2
      go_ret
      exact ⟨ret_bool (by simp), (Below.refl _ _).alloc (Nat.le_refl _) _⟩
    · rw [decide_eq_true h1, decide_eq_false h2]
      have H1 := Lib.hid h1
      have H2 := Lib.hid h2
      clear h1 h2
      go_enter Tryd.func70, Tryd.ntmps70
      go_wp2_with fail
      with_reducible refine (l00In_any _ _ _ _).mono ?_
      rw [decide_eq_true H1.out]
      rintro e w' ⟨rfl, rfl⟩
      go_wp2_with fail
      with_reducible refine (l00In_any _ _ _ _).mono ?_
      rw [decide_eq_false H2.out]
      rintro e w' ⟨rfl, rfl⟩
      go_wp2
      go_ret
      exact ⟨ret_bool (by simp), (Below.refl _ _).alloc (Nat.le_refl _) _⟩
  · rw [decide_eq_false h1]
    have H1 := Lib.hid h1
    clear h1
    go_enter Tryd.func70, Tryd.ntmps70
    go_wp2_with fail
    with_reducible refine (l00In_any _ _ _ _).mono ?_
    rw [decide_eq_false H1.out]
    rintro e w' ⟨rfl, rfl⟩
    go_wp2
    go_ret
    exact ⟨ret_bool (by simp), (Below.refl _ _).alloc (Nat.le_refl _) _⟩
theorem l19Less_c (r x : ReportT) (w : World) :
    Calls Tryd.prog 71 #[vReport r, vReport x] w fun e w' => e = .returned (vReport (lessW r x)) ∧ Below w.heap.size w w' := by
  go_enter Tryd.func71, Tryd.ntmps71
  go_wp2
  exact bodyPost_ret (v := vReport (lessW r x)) (by simp [results, Tryd.results71, go_sem, lessW, IntWalk.i64_left]) rfl ⟨rfl, ((((Below.refl w.heap.size w).alloc (Nat.le_refl _) _).alloc (by simp) _).alloc (by simp; omega) _)⟩
set_option maxHeartbeats 1000000 in
theorem l19Change_c {xs : List Int} {f : FaultT} {v : Value} {w : World} {A : Nat} (ha : RdI A w v xs) (hx : amtOk xs = true) (hf : fOk xs f) :
    Calls Tryd.prog 72 #[v, vFault f] w fun e w' => e = .returned (vReport (chgF xs f)) ∧ Below w.heap.size w w' := by
  have hat := amt_at hx f.card
  obtain ⟨ao, cap, rfl, ho⟩ := ha.open
  obtain ⟨b, off, rfl, hlt, hc⟩ := ho (by have := hf.1; omega)
  obtain ⟨ci, hci⟩ := Int.eq_ofNat_of_zero_le hf.1.1
  obtain ⟨x, hxk, hcx, _⟩ := hc ci (by have := hf.1.2; omega)
  have hax : atN xs f.card = x := by unfold atN; rw [hci, Int.toNat_natCast, List.getD_eq_getElem?_getD, hxk]; rfl
  have hcl : (ci : Int) < (xs.length : Int) := by have := hf.1.2; omega
  have hkd := hf.2
  have k1 := fun h => chg_lost (xs := xs) (f := f) (n := x) h hax
  have k2 := fun h => chg_dbl (xs := xs) (f := f) (n := x) h hax
  have k3 := fun h => chg_dig (xs := xs) (f := f) (n := x) h hax
  rw [hax] at hat
  generalize xs.length = n at hcl ⊢
  generalize chgF xs f = C at k1 k2 k3 ⊢
  obtain ⟨kd, cd, pl, dg⟩ := f
  simp only at hci hkd k1 k2 k3
  subst hci
  have hdb := dsum_bound x
  have hdig := fun W => l19Digits_c (n := x) (w := W) hat
  generalize hD : dsum x = D at hdb hdig k1 k2 k3
  have Hdig := Lib.hid hdig
  obtain ⟨x0, x1⟩ := hat
  obtain ⟨d0, d1⟩ := hdb
  have hbb := hlt.2
  have hB1 : Below w.heap.size w (((w.alloc (.cells #[.int .i64 kd, .int .i64 (ci : Int), .int .i64 pl, .int .i64 dg] 40)).alloc (.cells #[.int .i64 0, .int .i64 0, .int .i64 0] 29)).alloc (.cells #[.int .i64 0, .int .i64 0, .int .i64 0] 29)) := (((Below.refl w.heap.size w).alloc (Nat.le_refl _) _).alloc (by simp) _).alloc (by simp; omega) _
  have HB1 := Lib.hid hB1
  clear ha ho hx hc hf hxk hax hdig hB1 hD
  rcases hkd with ⟨rfl | rfl, rfl, rfl⟩ | ⟨rfl, hp, hd, _⟩
  · rw [k1 rfl]
    clear k1 k2 k3
    go_enter Tryd.func72, Tryd.ntmps72
    go_wp2_with fail
    with_reducible refine (Hdig.out _).mono ?_
    rintro e w' ⟨rfl, rfl⟩
    go_wp2
    exact bodyPost_ret (v := vReport ⟨-1, -x, -D⟩) (by simp [results, Tryd.results72, go_sem]) rfl ⟨rfl, ((((Below.refl w.heap.size w).alloc (Nat.le_refl _) _).alloc (by simp) _).alloc (by simp; omega) _)⟩
  · rw [k2 rfl]
    clear k1 k2 k3
    go_enter Tryd.func72, Tryd.ntmps72
    go_wp2_with fail
    with_reducible refine (Hdig.out _).mono ?_
    rintro e w' ⟨rfl, rfl⟩
    go_wp2
    exact bodyPost_ret (v := vReport ⟨1, x, D⟩) (by simp [results, Tryd.results72, go_sem]) rfl ⟨rfl, ((((Below.refl w.heap.size w).alloc (Nat.le_refl _) _).alloc (by simp) _).alloc (by simp; omega) _)⟩
  · rw [k3 rfl]
    have hrb := readF_bound (n := x) (f := ⟨3, (ci : Int), pl, dg⟩) ⟨x0, x1⟩ hp hd
    have hrd := fun W => l19Read_c (n := x) (f := ⟨3, (ci : Int), pl, dg⟩) ⟨x0, x1⟩ hp hd W
    generalize readF x ⟨3, (ci : Int), pl, dg⟩ = X at hrb hrd
    have hdX := dsum_bound X
    have hdig2 := fun W => l19Digits_c (n := X) (w := W) hrb
    generalize dsum X = E at hdX hdig2
    obtain ⟨X0, X1⟩ := hrb
    obtain ⟨e0, e1⟩ := hdX
    obtain ⟨W, hW⟩ : ∃ W, W = ((w.alloc (.cells #[.int .i64 3, .int .i64 (ci : Int), .int .i64 pl, .int .i64 dg] 40)).alloc (.cells #[.int .i64 0, .int .i64 0, .int .i64 0] 29)).alloc (.cells #[.int .i64 1, .int .i64 x, .int .i64 D] 29) := ⟨_, rfl⟩
    have hs1 : (w.alloc (.cells #[.int .i64 3, .int .i64 (ci : Int), .int .i64 pl, .int .i64 dg] 40)).heap.size = w.heap.size + 1 := by simp
    have hs2 : ((w.alloc (.cells #[.int .i64 3, .int .i64 (ci : Int), .int .i64 pl, .int .i64 dg] 40)).alloc (.cells #[.int .i64 0, .int .i64 0, .int .i64 0] 29)).heap.size = w.heap.size + 1 + 1 := by simp
    have hbW : Below w.heap.size w W := by rw [hW]; exact (((Below.refl w.heap.size w).alloc (Nat.le_refl _) _).alloc (by simp) _).alloc (by simp; omega) _
    have hBR : Box W (w.heap.size + 1) [.int .i64 0, .int .i64 0, .int .i64 0] := by
      have h := (Box.new (w.alloc (.cells #[.int .i64 3, .int .i64 (ci : Int), .int .i64 pl, .int .i64 dg] 40)) [.int .i64 0, .int .i64 0, .int .i64 0] 29).alloc (.cells #[.int .i64 1, .int .i64 x, .int .i64 D] 29)
      rw [hs1] at h
      rw [hW]; exact h
    have hBQ : Box W (w.heap.size + 1 + 1) [.int .i64 1, .int .i64 x, .int .i64 D] := by
      have h := Box.new ((w.alloc (.cells #[.int .i64 3, .int .i64 (ci : Int), .int .i64 pl, .int .i64 dg] 40)).alloc (.cells #[.int .i64 0, .int .i64 0, .int .i64 0] 29)) [.int .i64 1, .int .i64 x, .int .i64 D] 29
      rw [hs2] at h
      rw [hW]; exact h
    have HbW := Lib.hid hbW
    have HBR := Lib.hid hBR
    have HBQ := Lib.hid hBQ
    have Hrd := Lib.hid hrd
    have Hdig2 := Lib.hid hdig2
    have HW := Lib.hid hW
    clear k1 k2 k3 hbW hBR hBQ hrd hdig2 hW hs1 hs2
    go_enter Tryd.func72, Tryd.ntmps72
    go_wp2_with fail
    with_reducible refine (Hdig.out _).mono ?_
    rintro e w' ⟨rfl, rfl⟩
    go_wp2_with fail
    rw [← HW.out]
    with_reducible refine (Hrd.out _).mono ?_
    rintro e w2 ⟨rfl, hb2⟩
    have hBR2 := HBR.out.on hb2
    have hBQ2 := HBQ.out.on hb2
    have z0 := hBR2.cell 0 _ rfl
    have z1 := hBR2.cell 1 _ rfl
    have z2 := hBR2.cell 2 _ rfl
    have y0 := hBR2.free 0
    have y1 := hBR2.free 1
    have y2 := hBR2.free 2
    have u2 := hBQ2.cell 2 _ rfl
    have hl1 := hBR2.lt
    have hl2 := hBQ2.lt
    have Hb2 := Lib.hid (HbW.out.trans (hb2.mono HbW.out.size))
    clear hb2 hBR2 hBQ2 HW hcx
    go_wp2
    go_region_with (go_at_call 67; (with_reducible refine (Hdig2.out _).mono ?_); rintro e w7 ⟨rfl, rfl⟩)
    all_goals
      have hz1 : IntKind.i64.wrap (X - x) = X - x := IntWalk.i64_in _ (by omega)
      have hz2 : IntKind.i64.wrap (E - D) = E - D := IntWalk.i64_in _ (by omega)
      (try rw [hz1])
      (try rw [hz2])
      go_wp2
      exact bodyPost_ret (v := vReport ⟨0, X - x, E - D⟩) (by simp [results, Tryd.results72, go_sem, z0, z1, z2]) rfl ⟨rfl, (Hb2.out.drew1).run (g := w.heap.size + 1) (by omega) [_, _, _]⟩
end Go.Proofs.YtahkkdkdaedioaaDoor
