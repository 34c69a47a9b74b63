/- Faults: the drawing of numbers and faults. Printed by gdgd2.py. No condition. -/
import Derived.Test.YtahkkdkdaedioaaDoorDgD1
import Derived.Test.YtahkkdkdaedioaaDoorAllS
namespace Go.Proofs.YtahkkdkdaedioaaDoor
open Go.ChangeShapes Go.WideShapes Go.ChangeAt Go.RowKit
set_option linter.unusedVariables false
set_option maxRecDepth 100000
def DrawnA (base : Nat) (e : Ending) (w' : World) : Prop := ∃ u xs, e = .returned u ∧ Own eI 2 base w' u xs ∧ xs.length ≤ 6 ∧ ∀ n ∈ xs, 0 ≤ n ∧ n ≤ 9999
def DrawnF (base : Nat) (e : Ending) (w' : World) : Prop := ∃ u xs, e = .returned u ∧ Own eFault 40 base w' u xs ∧ xs.length ≤ 3
set_option maxHeartbeats 2000000 in
theorem l19Draw_any {w : World} {b N : Nat} (hs : Src w b N) (hN : N ≤ 100000) :
    Calls Tryd.prog 28 #[.pointer (some ⟨b, 0, none⟩)] w fun e w' => DrawnA w.heap.size e w' ∧ Src w' b (N + 100) ∧ w.grownBy w' (some b) := by
  obtain ⟨i0, hi, hz0, hz1, hz2⟩ := info_parts Tryd.infoInt64
  have hbl := hs.lt
  have hlit : Own eI 2 w.heap.size (w.alloc (.cells #[] 2)) (.slice (some ⟨w.heap.size, 0, none⟩) 0 0) [] :=
    Own.lit (E := eI) (xs := []) (cs := #[]) (Nat.le_refl _) rfl rfl (by decide) (fun x hx => by cases hx)
  go_enter Tryd.func28, Tryd.ntmps28
  go_wp2_with fail
  refine (pick_any 7 (hs.alloc _) (by omega) (by omega)).mono ?_
  rintro e w2 ⟨⟨r, rfl, hr0, hr1, _⟩, hs2, hg2, -⟩
  have hr2 := hr1 (by omega)
  have ho2 := hlit.keptS hg2 hbl
  have hg2' := grownBy_trans (World.grownBy_alloc w (.cells #[] 2) (some b)) hg2
  clear hr1 hg2 hlit hs
  go_wp2_with fail
  go_loopw [3, 4] (fun v k wr => ∃ (kk : Int) (xs : List Int), 0 ≤ kk ∧ kk + xs.length ≤ 6 ∧ k = .int .i64 kk ∧ Own eI 2 w.heap.size wr v xs ∧ (∀ n ∈ xs, 0 ≤ n ∧ n ≤ 9999) ∧ Src wr b (N + 2 + 10 * xs.length) ∧ w.grownBy wr (some b)) (fun _ k _ => (intOf k).toNat)
  case atStart => exact ⟨r, [], by omega, by simp; omega, rfl, ho2, (fun n hn => by cases hn), hs2.mono (by simp), hg2'⟩
  case round =>
    obtain ⟨kk, xs, hk0, hkj, rfl, hown, hx0, hsr, hgr⟩ := hrel
    have hx := Lib.hid hx0
    clear ho2 hs2 hg2' hx0
    obtain ⟨ao2, cap2, rfl⟩ := hown.shape
    by_cases hk : 0 < kk
    · go_wp2_with fail
      refine (pick_any 1000 hsr (by omega) (by omega)).mono ?_
      rintro e w3 ⟨⟨n, rfl, hn0, hn1, _⟩, hs3, hg3, -⟩
      have hn2 := hn1 (by omega)
      have hown3 := hown.keptS hg3 hbl
      have hgr3 := grownBy_trans hgr hg3
      clear hown hg3 hgr hsr hn1
      go_wp2_with fail
      refine (one_any 3 hs3 (by omega) (by omega)).mono ?_
      rintro e w4 ⟨⟨q, rfl⟩, hs4, hg4, -⟩
      have hown4 := hown3.keptS hg4 hbl
      have hgr4 := grownBy_trans hgr3 hg4
      clear hown3 hg4 hgr3 hs3
      have hz4 : w.heap.size ≤ w4.heap.size := hgr4.size
      cases q with
      | false =>
        go_wp2_with (first | (at_builtin; refine wpList_appS (E := eI) rfl _ _ 24 rfl Tryd.underlying24 hi hz0 hz1 hz2 rfl (by decide) rfl rfl (hown4.alloc _) (rds_one (E := eI) (x := n) (by show -9223372036854775808 ≤ n ∧ n ≤ 9223372036854775807; omega) rfl) ?b1a ?b1b ?b1c ?_))
        case b1a => unfold maxLen; simp; omega
        case b1b => simp; omega
        case b1c => first | exact Nat.le_refl _ | (simp; omega)
        intro v' w5 ho5 hg5
        have hg5' := hg5.alloc.1
        have hs5 := hs4.kept hg5' (fun k hk => by have := (hown4.lt k hk).1; omega)
        have hgr5 := grown_own hgr4 hg5' (fun k hk => (hown4.lt k hk).1)
        have Ho5 := Lib.hid ho5
        have Hs5 := Lib.hid hs5
        have Hg5 := Lib.hid hgr5
        clear ho5 hg5 hg5' hs5 hgr5 hown4 hs4 hgr4
        go_wp2
        go_roundw
        case rel => exact ⟨kk - 1, xs ++ [n], by omega, by simp; omega, by go_num, Ho5.out, (fun z hz => by rcases List.mem_append.1 hz with hz | hz; exact hx.out z hz; rw [List.mem_singleton] at hz; subst hz; omega), Hs5.out.mono (by simp only [List.length_append, List.length_cons, List.length_nil]; omega), Hg5.out⟩
        case measure => simp [intOf]; omega
      | true =>
        go_wp2_with fail
        refine (pick_any 10000 hs4 (by omega) (by omega)).mono ?_
        rintro e w6 ⟨⟨m, rfl, hm0, hm1, _⟩, hs6, hg6, -⟩
        have hm2 := hm1 (by omega)
        have hown6 := hown4.keptS hg6 hbl
        have hgr6 := grownBy_trans hgr4 hg6
        have hz6 : w.heap.size ≤ w6.heap.size := hgr6.size
        clear hown4 hg6 hgr4 hs4 hm1
        go_wp2_with (first | (at_builtin; refine wpList_appS (E := eI) rfl _ _ 24 rfl Tryd.underlying24 hi hz0 hz1 hz2 rfl (by decide) rfl rfl (hown6.alloc _) (rds_one (E := eI) (x := m) (by show -9223372036854775808 ≤ m ∧ m ≤ 9223372036854775807; omega) rfl) ?b2a ?b2b ?b2c ?_))
        case b2a => unfold maxLen; simp; omega
        case b2b => simp; omega
        case b2c => first | exact Nat.le_refl _ | (simp; omega)
        intro v' w5 ho5 hg5
        have hg5' := hg5.alloc.1
        have hs5 := hs6.kept hg5' (fun k hk => by have := (hown6.lt k hk).1; omega)
        have hgr5 := grown_own hgr6 hg5' (fun k hk => (hown6.lt k hk).1)
        have Ho5 := Lib.hid ho5
        have Hs5 := Lib.hid hs5
        have Hg5 := Lib.hid hgr5
        clear ho5 hg5 hg5' hs5 hgr5 hown6 hs6 hgr6
        go_wp2
        go_roundw
        case rel => exact ⟨kk - 1, xs ++ [m], by omega, by simp; omega, by go_num, Ho5.out, (fun z hz => by rcases List.mem_append.1 hz with hz | hz; exact hx.out z hz; rw [List.mem_singleton] at hz; subst hz; omega), Hs5.out.mono (by simp only [List.length_append, List.length_cons, List.length_nil]; omega), Hg5.out⟩
        case measure => simp [intOf]; omega
    · have Ho := Lib.hid hown
      have Hs := Lib.hid hsr
      have Hg := Lib.hid hgr
      clear hown hsr hgr
      have hlen : xs.length ≤ 6 := by omega
      go_wp2
      go_ret
      exact ⟨⟨_, xs, rfl, Ho.out, hlen, hx.out⟩, Hs.out.mono (by omega), Hg.out⟩
theorem Src.drewNs {w : World} {b N : Nat} (h : Src w b N) (m : Nat) : Src (w.drewN m) b N := h.kept (row := none) ⟨rfl, rfl, rfl, Nat.le_refl _, fun _ _ _ => rfl⟩ (fun k hk => by cases hk)
theorem grown_drewNg {a w : World} {row : Option Nat} (h : a.grownBy w row) (m : Nat) : a.grownBy (w.drewN m) row := ⟨h.os, h.tape, h.output, h.size, h.block⟩
set_option maxHeartbeats 4000000 in
theorem l19DrawFaults_any {w : World} {b N : Nat} (n : Int) (hs : Src w b N) (hN : N ≤ 10000) (hn : 0 ≤ n ∧ n ≤ 1000) :
    Calls Tryd.prog 29 #[.pointer (some ⟨b, 0, none⟩), .int .i64 n] w fun e w' => DrawnF w.heap.size e w' ∧ Src w' b (N + 300) ∧ w.grownBy w' (some b) := by
  obtain ⟨i0, hi, hy0, hy1, hy2⟩ := info_parts infoFaultN
  have hbl := hs.lt
  have hlit : Own eFault 40 w.heap.size (w.alloc (.cells #[] 40)) (.slice (some ⟨w.heap.size, 0, none⟩) 0 0) [] :=
    Own.lit (E := eFault) (xs := []) (cs := #[]) (Nat.le_refl _) rfl rfl (by decide) (fun x hx => by cases hx)
  go_enter Tryd.func29, Tryd.ntmps29
  go_wp2_with fail
  refine (pick_any 3 (hs.alloc _) (by omega) (by omega)).mono ?_
  rintro e w2 ⟨⟨r, rfl, hr0, hr1, _⟩, hs2, hg2, -⟩
  have hr2 := hr1 (by omega)
  have ho2 := hlit.keptS hg2 hbl
  have hg2' := grownBy_trans (World.grownBy_alloc w (.cells #[] 40) (some b)) hg2
  clear hr1 hg2 hlit hs
  go_wp2_with fail
  go_loopw [5, 6] (fun v k wr => ∃ (kk : Int) (xs : List FaultT), 0 ≤ kk ∧ kk + xs.length ≤ 2 ∧ k = .int .i64 kk ∧ Own eFault 40 w.heap.size wr v xs ∧ Src wr b (N + 2 + 50 * xs.length) ∧ w.grownBy wr (some b)) (fun _ k _ => (intOf k).toNat)
  case atStart => exact ⟨r, [], by omega, by simp; omega, rfl, ho2, hs2.mono (by simp), hg2'⟩
  case round =>
    obtain ⟨kk, xs, hk0, hkj, rfl, hown, hsr, hgr⟩ := hrel
    clear ho2 hs2 hg2'
    obtain ⟨ao2, cap2, hsh⟩ := hown.shape
    subst hsh
    by_cases hk : 0 < kk
    · go_wp2_with fail
      refine (l19DrawFault_any n hsr (by omega) hn).mono ?_
      rintro e w3 ⟨⟨f, rfl, hf⟩, hs3, hg3⟩
      have hown3 := hown.keptS hg3 hbl
      have hgr3 := grownBy_trans hgr hg3
      have Hf := Lib.hid hf
      clear hown hg3 hgr hsr hf
      obtain ⟨W, hW⟩ : ∃ W, W = w3.alloc (.cells #[.int .i64 f.kind, .int .i64 f.card, .int .i64 f.place, .int .i64 f.digit] 40) := ⟨_, rfl⟩
      have kW : Box W w3.heap.size [.int .i64 f.kind, .int .i64 f.card, .int .i64 f.place, .int .i64 f.digit] := by rw [hW]; exact Box.new w3 [.int .i64 f.kind, .int .i64 f.card, .int .i64 f.place, .int .i64 f.digit] _
      have hownW := hown3.alloc (.cells #[.int .i64 f.kind, .int .i64 f.card, .int .i64 f.place, .int .i64 f.digit] 40)
      have hsW := hs3.alloc (.cells #[.int .i64 f.kind, .int .i64 f.card, .int .i64 f.place, .int .i64 f.digit] 40)
      have hgW := grownBy_trans hgr3 (World.grownBy_alloc w3 (.cells #[.int .i64 f.kind, .int .i64 f.card, .int .i64 f.place, .int .i64 f.digit] 40) (some b))
      rw [← hW] at hownW hsW hgW
      have HW := Lib.hid hW
      have hzW : w.heap.size ≤ W.heap.size := hgW.size
      clear hown3 hgr3 hs3 hW
      go_upto_region 6 with fail
      rw [← HW.out]
      clear HW
      generalize w3.heap.size = X at kW ⊢
      have kc := kW.cell 1 _ rfl
      cases xs with
      | nil =>
        have hl0 : ¬ (0 : Int) < ((([] : List FaultT).length : Nat) : Int) := by simp
        go_quiet (fail)
        have k0 := kW.cell 0 _ rfl
        have k2 := kW.cell 2 _ rfl
        have k3 := kW.cell 3 _ rfl
        go_wp2_with (first | (at_builtin; refine wpList_appS (E := eFault) rfl _ _ 25 rfl Tryd.underlying25 hi hy0 hy1 hy2 rfl (by decide) rfl rfl ((hownW.drewN _).alloc _) (rds_one (E := eFault) (x := f) Hf.out rfl) ?b1a ?b1b ?b1c ?_))
        case b1a => unfold maxLen; first | (simp; done) | (simp; omega)
        case b1c => first | exact Nat.le_refl _ | assumption | omega | (simp; omega)
        intro v' w5 ho5 hg5
        have hg5' := hg5.alloc.1
        have hs5 := (hsW.drewNs _).kept hg5' (fun k hk => by have := (hownW.lt k hk).1; omega)
        have hgr5 := grown_own (grown_drewNg hgW _) hg5' (fun k hk => (hownW.lt k hk).1)
        have Ho5 := Lib.hid ho5
        have Hs5 := Lib.hid hs5
        have Hg5 := Lib.hid hgr5
        clear ho5 hg5 hg5' hs5 hgr5 hownW hsW hgW k0 kc k2 k3 kW
        go_wp2
        go_roundw
        case rel => exact ⟨kk - 1, _, by omega, by simp only [List.length_append, List.length_cons, List.length_nil] at hkj ⊢; omega, by go_num, Ho5.out, Hs5.out.mono (by simp only [List.length_append, List.length_cons, List.length_nil]; omega), Hg5.out⟩
        case measure => simp [intOf]; omega
      | cons y ys =>
        obtain ⟨ao3, cap3, hsh3, hof⟩ := eFault_open hownW.rds
        injection hsh3 with e1 e2 e3
        subst e1
        subst e3
        obtain ⟨b2, off2, hao, hlt2, hc⟩ := hof (by simp)
        subst hao
        obtain ⟨y', hy', ⟨_, c1, _, _⟩, _⟩ := hc 0 (by simp)
        obtain rfl : y' = y := by simpa using hy'.symm
        have hcy : W.cell? ⟨b2, off2 + 1, none⟩ = some (.int .i64 y'.card) := by simpa using c1
        clear hc hof c1 hy' e2
        obtain ⟨L, hL⟩ : ∃ L, (y' :: ys).length = L := ⟨_, rfl⟩
        rw [hL] at hownW ⊢
        have hL2 : 0 < L ∧ L ≤ 2 := by simp only [List.length_cons] at hL hkj; omega
        obtain ⟨hLa, hLb⟩ := hL2
        have hLi : (0 : Int) < (L : Int) := by omega
        have HL := Lib.hid hL
        clear hL
        by_cases hlt : f.card < y'.card
        · go_quiet (fail)
          have k0 := kW.cell 0 _ rfl
          have k2 := kW.cell 2 _ rfl
          have k3 := kW.cell 3 _ rfl
          go_wp2_with (first | (at_builtin; refine wpList_appS (E := eFault) rfl _ _ 25 rfl Tryd.underlying25 hi hy0 hy1 hy2 rfl (by decide) rfl rfl (Own.lit (E := eFault) (xs := [f]) (base := w.heap.size) (by simpa using hzW) rfl rfl (by decide) (fun z hz => by rw [List.mem_singleton] at hz; rw [hz]; exact Hf.out)) ((hownW.drewN _).alloc _).rds ?b2a ?b2b ?b2c ?_))
          case b2a => have := HL.out; unfold maxLen; simp only [List.length_cons, List.length_nil] at this ⊢; omega
          case b2b => have := HL.out; simp only [List.length_cons, List.length_nil] at this ⊢; omega
          case b2c => first | exact Nat.le_refl _ | assumption | omega | (simp; omega)
          intro v' w5 ho5 hg5
          have hg5' := hg5.1
          have hs5 := ((hsW.drewNs _).alloc _).kept hg5' (fun k hk => by simp [Value.ownBlock] at hk; omega)
          have hgr5 := grown_own (grownBy_trans (grown_drewNg hgW _) (World.grownBy_alloc _ _ _)) hg5' (fun k hk => by simp [Value.ownBlock] at hk; omega)
          have Ho5 := Lib.hid ho5
          have Hs5 := Lib.hid hs5
          have Hg5 := Lib.hid hgr5
          clear ho5 hg5 hg5' hs5 hgr5 hownW hsW hgW k0 kc k2 k3 kW hcy
          go_wp2
          go_roundw
          case rel => exact ⟨kk - 1, _, by omega, by simp only [List.length_append, List.length_cons, List.length_nil] at hkj ⊢; omega, by go_num, Ho5.out, Hs5.out.mono (by simp only [List.length_append, List.length_cons, List.length_nil]; omega), Hg5.out⟩
          case measure => simp [intOf]; omega
        · go_quiet (fail)
          have k0 := kW.cell 0 _ rfl
          have k2 := kW.cell 2 _ rfl
          have k3 := kW.cell 3 _ rfl
          go_wp2_with (first | (at_builtin; refine wpList_appS (E := eFault) rfl _ _ 25 rfl Tryd.underlying25 hi hy0 hy1 hy2 rfl (by decide) rfl rfl ((hownW.drewN _).alloc _) (rds_one (E := eFault) (x := f) Hf.out rfl) ?b3a ?b3b ?b3c ?_))
          case b3a => have := HL.out; unfold maxLen; simp only [List.length_cons, List.length_nil] at this ⊢; omega
          case b3b => have := HL.out; simp only [List.length_cons, List.length_nil] at this ⊢; omega
          case b3c => first | exact Nat.le_refl _ | assumption | omega | (simp; omega)
          intro v' w5 ho5 hg5
          have hg5' := hg5.alloc.1
          have hs5 := (hsW.drewNs _).kept hg5' (fun k hk => by have := (hownW.lt k hk).1; omega)
          have hgr5 := grown_own (grown_drewNg hgW _) hg5' (fun k hk => (hownW.lt k hk).1)
          have Ho5 := Lib.hid ho5
          have Hs5 := Lib.hid hs5
          have Hg5 := Lib.hid hgr5
          clear ho5 hg5 hg5' hs5 hgr5 hownW hsW hgW k0 kc k2 k3 kW hcy
          go_wp2
          go_roundw
          case rel => exact ⟨kk - 1, _, by omega, by simp only [List.length_append, List.length_cons, List.length_nil] at hkj ⊢; omega, by go_num, Ho5.out, Hs5.out.mono (by simp only [List.length_append, List.length_cons, List.length_nil]; omega), Hg5.out⟩
          case measure => simp [intOf]; omega
    · have hkk0 : kk = 0 := by omega
      subst hkk0
      have hlen : xs.length ≤ 2 := by omega
      go_wp2_with fail
      refine (one_any 16 hsr (by omega) (by omega)).mono ?_
      rintro e w3 ⟨⟨q1, rfl⟩, hs3, hg3, -⟩
      have hown3 := hown.keptS hg3 hbl
      have hgr3 := grownBy_trans hgr hg3
      have hz3 : w.heap.size ≤ w3.heap.size := hgr3.size
      clear hown hg3 hgr hsr
      cases q1 with
      | false =>
        have Ho := Lib.hid hown3
        have Hs := Lib.hid hs3
        have Hg := Lib.hid hgr3
        clear hown3 hs3 hgr3
        go_wp2
        go_ret
        exact ⟨⟨_, xs, rfl, Ho.out, by omega⟩, Hs.out.mono (by omega), Hg.out⟩
      | true =>
        go_wp2_with (first | (at_builtin; refine wpList_appS (E := eFault) rfl _ _ 25 rfl Tryd.underlying25 hi hy0 hy1 hy2 rfl (by decide) rfl rfl (hown3.alloc _) (rds_one (E := eFault) (x := ⟨1, 11, 0, 0⟩) (by unfold eFault okFault; decide) rfl) ?b4a ?b4b ?b4c ?_))
        case b4a => unfold maxLen; simp; omega
        case b4b => simp; omega
        case b4c => first | exact Nat.le_refl _ | assumption | omega | (simp; omega)
        intro v' w5 ho5 hg5
        have hg5' := hg5.alloc.1
        have hs5 := hs3.kept hg5' (fun k hk => by have := (hown3.lt k hk).1; omega)
        have hgr5 := grown_own hgr3 hg5' (fun k hk => (hown3.lt k hk).1)
        have Ho5 := Lib.hid ho5
        have Hs5 := Lib.hid hs5
        have Hg5 := Lib.hid hgr5
        clear ho5 hg5 hg5' hs5 hgr5 hown3 hs3 hgr3
        go_wp2
        go_ret
        exact ⟨⟨_, _, rfl, Ho5.out, by simp; omega⟩, Hs5.out.mono (by omega), Hg5.out⟩
end Go.Proofs.YtahkkdkdaedioaaDoor
