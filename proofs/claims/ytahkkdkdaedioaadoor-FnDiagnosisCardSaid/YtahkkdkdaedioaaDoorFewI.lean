/- Explanations with the fewest faults: the program's. The condition: the library's table of powers of ten lies as its text lays it. -/
import Derived.Test.YtahkkdkdaedioaaDoorExp1
import Derived.Test.YtahkkdkdaedioaaDoorExp2
import Derived.Test.YtahkkdkdaedioaaDoorSglI
import Derived.Test.YtahkkdkdaedioaaDoorFewP
namespace Go.Proofs.YtahkkdkdaedioaaDoor
open Go.ChangeShapes Go.WideShapes Go.ChangeAt Go.RowKit Go.Sort
set_option linter.unusedVariables false
set_option maxRecDepth 100000
theorem BldG.nil {α : Type} (E : Elt α) (er e : TypeId) (base rb tp : Nat) (w : World) : BldG E er e base rb tp w (.slice none 0 0) ([] : List (List α)) :=
  ⟨[], ⟨Own.nil _ _ _ _, fun k hk => by cases hk⟩, rfl, fun i h xs e1 => by simp at e1, fun i h e1 => by simp at e1, fun i j h h' _ e1 => by simp at e1⟩
set_option maxHeartbeats 2000000 in
theorem explan0_c {xs : List Int} {r : ReportT} {v : Value} {w : World} {A : Nat} (ha : RdI A w v xs) (hx : amtOk xs = true) (hr : okReport r) (ht : PowAt w) :
    Calls Tryd.prog 37 #[v, vReport r, .int .i64 0] w fun e w' => ∃ u, e = .returned u ∧ BldG eFault 40 25 w.heap.size w.heap.size w'.heap.size w' u (explF xs r 0) ∧ Below w.heap.size w w' := by
  obtain ⟨i0, hi, hz0, hz1, hz2⟩ := info_parts infoReportN
  obtain ⟨i1, hi1, hy0, hy1, hy2⟩ := info_parts infoSlF
  obtain ⟨hl, hxx⟩ := amtOk_parts hx
  obtain ⟨N, hN⟩ : ∃ N, N = w.heap.size := ⟨_, rfl⟩
  obtain ⟨W0, hW0⟩ : ∃ W0, W0 = (w.alloc (.cells #[.int .i64 r.count, .int .i64 r.sum, .int .i64 r.digits] 29)).alloc (.cells #[] 25) := ⟨_, rfl⟩
  have hs1 : (w.alloc (.cells #[.int .i64 r.count, .int .i64 r.sum, .int .i64 r.digits] 29)).heap.size = N + 1 := by rw [hN]; simp
  have hs0 : W0.heap.size = N + 1 + 1 := by rw [hW0, hN]; simp
  have hR0 : Box W0 N [.int .i64 r.count, .int .i64 r.sum, .int .i64 r.digits] := by rw [hW0, hN]; exact (Box.new w [.int .i64 r.count, .int .i64 r.sum, .int .i64 r.digits] _).alloc _
  have hO0 : Own eS 25 N W0 (.slice (some ⟨N + 1, 0, none⟩) 0 0) [] := by
    have h := Own.lit (E := eS) (e := 25) (base := N) (w := w.alloc (.cells #[.int .i64 r.count, .int .i64 r.sum, .int .i64 r.digits] 29)) (xs := []) (cs := #[]) (n := 0) (by omega) rfl rfl (by decide) (fun x hx => by cases hx)
    rw [hs1] at h
    rw [hW0]
    exact h
  have hb0 : Below N w W0 := by rw [hW0, hN]; exact ((Below.refl _ _).alloc (Nat.le_refl _) _).alloc (by simp) _
  have hB0 : BldG eFault 40 25 N N W0.heap.size W0 (.slice (some ⟨N + 1, 0, none⟩) 0 0) ([] : List (List FaultT)) := BldG.empty rfl hO0 (by omega)
  have ha0 := Rds.onn ha (show Below w.heap.size w W0 by rw [← hN]; exact hb0)
  have ht0 := ht.below (show Below w.heap.size w W0 by rw [← hN]; exact hb0)
  have HW0 := Lib.hid hW0
  have HN := Lib.hid hN
  have HR0 := Lib.hid hR0
  have Hb0 := Lib.hid hb0
  have HB0 := Lib.hid hB0
  have Ha0 := Lib.hid ha0
  have Ht0 := Lib.hid ht0
  have Hx := Lib.hid hx
  have Hxx := Lib.hid hxx
  have Hl := Lib.hid hl
  have Hr := Lib.hid hr
  have Hs0 := Lib.hid hs0
  obtain ⟨ao, cap, rfl⟩ := ha.shape
  clear ha hx hr ht hl hxx hW0 hs1 hs0 hR0 hO0 hb0 hB0 ha0 ht0
  rw [← hN]
  clear hN
  go_enter Tryd.func37, Tryd.ntmps37
  go_wp2_with fail
  rw [← HN.out, ← HW0.out]
  with_reducible refine (reportOf_c Ha0.out Hxx.out (by have := Hl.out; omega) Ht0.out).mono ?_
  rintro e w1 ⟨rfl, hb1⟩
  obtain ⟨B, hB⟩ : ∃ B, B = w1.heap.size := ⟨_, rfl⟩
  obtain ⟨bs, hbs⟩ : ∃ bs, bs = repOf xs := ⟨_, rfl⟩
  rw [← hbs]
  obtain ⟨W1, hW1⟩ : ∃ W1, W1 = w1.alloc (.cells #[.int .i64 bs.count, .int .i64 bs.sum, .int .i64 bs.digits] 29) := ⟨_, rfl⟩
  have hbW : Below W0.heap.size W0 W1 := by rw [hW1]; exact hb1.alloc hb1.size _
  have hQ1 : Box W1 B [.int .i64 bs.count, .int .i64 bs.sum, .int .i64 bs.digits] := by rw [hW1, hB]; exact Box.new w1 [.int .i64 bs.count, .int .i64 bs.sum, .int .i64 bs.digits] _
  have HQ1 := Lib.hid hQ1
  have HR1 := Lib.hid (HR0.out.on hbW)
  have Ha1 := Lib.hid (Ha0.out.onn hbW)
  have Ht1 := Lib.hid (Ht0.out.below hbW)
  have HB1 := Lib.hid (HB0.out.below hbW (Nat.le_refl _))
  have Hb1 := Lib.hid (Hb0.out.trans (hbW.mono (by have := Hs0.out; omega)))
  have hBN : N + 1 + 1 ≤ B := by have := Hs0.out; have := hb1.size; omega
  have HW1 := Lib.hid hW1
  have HbW := Lib.hid hbW
  have Hbs := Lib.hid hbs
  have HBe := Lib.hid hB
  clear hb1 hbW hQ1 hbs hW1 hB
  have hW1s : W1.heap.size = B + 1 := by rw [HW1.out, HBe.out]; simp
  have HW1s := Lib.hid hW1s
  clear hW1s
  go_upto_region 3 with fail
  rw [← HBe.out, ← HW1.out]
  by_cases hq : bs = r
  · have hex : explF xs r 0 = [[]] := by rw [expl0, ← Hbs.out, if_pos hq]
    subst hq
    have Hex := Lib.hid hex
    have hbl : Below W1.heap.size W1 (W1.alloc (.cells #[] 40)) := (Below.refl _ _).alloc (Nat.le_refl _) _
    have hR := Own.lit (E := eFault) (e := 40) (base := W1.heap.size) (w := W1) (xs := []) (cs := #[]) (n := 0) (Nat.le_refl _) rfl rfl (by decide) (fun y hy => by cases hy)
    have hBw := (HB1.out.mono (show W0.heap.size ≤ W1.heap.size from HbW.out.size)).below hbl (Nat.le_refl _)
    obtain ⟨hs', xh, hval, hokx, hlen, hO, hfn⟩ := hBw.app hR (show N ≤ W1.heap.size by have := HW1s.out; omega) (by simp)
    have hcells : (#[.slice (some ⟨W1.heap.size, 0, none⟩) 0 0] : Array Value) = (eS.cells xh).toArray := by rw [← hval]; rfl
    have hlen2 : hs'.length = 0 := by rw [hlen]; rfl
    have c0 := HQ1.out.cell 0 _ rfl
    have c1 := HQ1.out.cell 1 _ rfl
    have c2 := HQ1.out.cell 2 _ rfl
    have d0 := HR1.out.cell 0 _ rfl
    have d1 := HR1.out.cell 1 _ rfl
    have d2 := HR1.out.cell 2 _ rfl
    have hO2 := hO
    have HO := Lib.hid hO
    have Hfn := Lib.hid hfn
    have Hcells := Lib.hid hcells
    have Hokx := Lib.hid hokx
    clear hR hBw hval hlen hO hfn hcells hex hokx
    have hrun := fun W => eql_run (x := bs) (y := bs) (b := true) (by simp) W
    go_wp2_with (first | (at_builtin; refine wpList_appS (E := eS) rfl _ _ 59 rfl Tryd.underlying59 hi1 hy0 hy1 hy2 rfl (by decide) rfl rfl (HO.out.alloc _) (rds_one' (E := eS) (x := xh) (H := W1.heap.size + 1) (by simp) Hokx.out Hcells.out) ?b1 ?b2 ?b3 ?_))
    case b1 => unfold maxLen; (try simp) <;> omega
    case b2 => (try simp) <;> omega
    case b3 => have := HW1s.out; (try simp) <;> omega
    intro v6 w6 hO6 hg6
    have hg6' := hg6.alloc
    have hB6 := Hfn.out w6 v6 hO6 hg6'
    have hb6 := hg6'.below (Hb1.out.trans (hbl.mono (by have := HW1s.out; omega))) (by have := HW1s.out; have := hbl.size; omega) (fun y hy => (hO2.lt y hy).1)
    have HB6 := Lib.hid hB6
    have Hb6 := Lib.hid hb6
    clear hO6 hg6 hg6' hB6 hb6 c0 c1 c2 d0 d1 d2 hbl hO2 HO Hfn
    go_wp2
    go_ret
    rw [Hex.out]
    exact ⟨_, rfl, HB6.out, Hb6.out⟩
  · have hex : explF xs r 0 = [] := by rw [expl0, ← Hbs.out, if_neg hq]
    have Hex := Lib.hid hex
    have c0 := HQ1.out.cell 0 _ rfl
    have c1 := HQ1.out.cell 1 _ rfl
    have c2 := HQ1.out.cell 2 _ rfl
    have d0 := HR1.out.cell 0 _ rfl
    have d1 := HR1.out.cell 1 _ rfl
    have d2 := HR1.out.cell 2 _ rfl
    have hW0s : W0.heap.size ≤ W1.heap.size := HbW.out.size
    clear hex
    have hqb : (bs == r) = false := by simpa using hq
    have hrun := fun W => eql_run (x := bs) (y := r) (b := false) hqb W
    clear hqb hq
    go_wp2
    go_ret
    rw [Hex.out]
    exact ⟨_, rfl, HB1.out.mono hW0s, Hb1.out⟩
end Go.Proofs.YtahkkdkdaedioaaDoor
