/- Restarts, the drawing of inputs. No condition. -/
import Derived.Test.YtljjilgpmckccaaDraw
import Derived.Test.YtljjilgpmckccaaRestS
namespace Go.Proofs.Ytljjilgpmckccaa
open Go.ChangeShapes Go.WideShapes Go.ChangeAt Go.RowKit
set_option linter.unusedVariables false

theorem l20Draw_any {w : World} {b N : Nat} (hs : Src w b N) (hN : N ≤ 1000000) :
    Calls Try.prog 65 #[.pointer (some ⟨b, 0, none⟩)] w fun e w' => (∃ u xs, e = .returned u ∧ Own eI 2 w.heap.size w' u xs ∧ xs.length ≤ 100) ∧ Src w' b (N + 100) ∧ w.grownBy w' (some b) := by
  obtain ⟨i0, hi, hz0, hz1, hz2⟩ := info_parts Try.infoInt64
  have hbl := hs.lt
  go_enter Try.func65, Try.ntmps65
  go_wp2_with fail
  refine (pick_any 8 (hs.alloc _) (by omega) (by omega)).mono ?_
  rintro e w1 ⟨⟨r, rfl, hr0, hr1, _⟩, hs1, hg1, hz1⟩
  have hr2 := hr1 (by omega)
  have hg1' : w.grownBy w1 (some b) := grownBy_trans (World.grownBy_alloc w _ _) hg1
  have ho1 : Own eI 2 w.heap.size w1 (.slice (some ⟨w.heap.size, 0, none⟩) 0 0) [] :=
    Own.keptS (Own.lit (E := eI) (xs := []) (cs := #[]) (Nat.le_refl _) rfl rfl (by decide) (fun x hx => by cases hx)) hg1 hbl
  clear hr1 hz1 hg1
  go_wp2_with fail
  go_loopw [3, 4] (fun v k wr => ∃ (kk : Int) (j : Nat) (xs : List Int), 0 ≤ kk ∧ kk + j ≤ 8 ∧ k = .int .i64 kk ∧ (xs.length ≤ j ∧ 1 ≤ kk + xs.length) ∧ Own eI 2 w.heap.size wr v xs ∧ Src wr b (N + 2 + 2 * j) ∧ w.grownBy wr (some b)) (fun _ k _ => (intOf k).toNat)
  case atStart => exact ⟨1 + r, 0, [], by omega, by omega, rfl, by simp; omega, ho1, hs1, hg1'⟩
  case round =>
    obtain ⟨kk, j, xs, hk0, hkj, rfl, hxl, hown, hsr, hgr⟩ := hrel
    have hsz : w.heap.size ≤ wr.heap.size := hgr.size
    clear ho1 hs1 hg1'
    by_cases hk : 0 < kk
    · go_wp2_with fail
      refine (pick_any 30 hsr (by omega) (by omega)).mono ?_
      rintro e w2 ⟨⟨q, rfl, hq0, hq1, _⟩, hs2, hg2, hz2⟩
      have hq2 := hq1 (by omega)
      have hown2 := hown.keptS hg2 hbl
      have hsz2 : w.heap.size ≤ w2.heap.size := Nat.le_trans hsz hg2.size
      have hg2' := grownBy_trans hgr hg2
      have Hqp : eI.ok q := by show -9223372036854775808 ≤ q ∧ q ≤ 9223372036854775807; omega
      clear hown hg2 hgr hsr hq1 hz2 hsz
      go_wp2_with (first | (at_builtin; refine wpList_appS (E := eI) rfl _ _ 22 rfl Try.underlying22 hi hz0 hz1 hz2 rfl (by decide) rfl rfl (hown2.alloc _) (rds_one (E := eI) (x := q) Hqp rfl) ?b1 ?b2 ?b3 ?_))
      case b1 => unfold maxLen; simp; omega
      case b2 => simp; omega
      case b3 => simp; omega
      intro v' w3 hown3 hg3
      have hg3' := hg3.alloc.1
      have hs3 : Src w3 b (N + 2 + 2 * j + 2) := hs2.kept hg3' (fun k hk => by have := (hown2.lt k hk).1; omega)
      have hg4 : w.grownBy w3 (some b) := by
        refine ⟨hg3'.os.trans hg2'.os, hg3'.tape.trans hg2'.tape, hg3'.output.trans hg2'.output, Nat.le_trans hg2'.size hg3'.size, fun k hk hne => ?_⟩
        rw [hg3'.block k (by omega) (fun e => by have := (hown2.lt k e.symm).1; omega)]
        exact hg2'.block k hk hne
      clear hg3 hg3' hg2' hs2 hown2 Hqp
      go_wp2
      go_roundw
      case rel => exact ⟨kk - 1, j + 1, _, by omega, by omega, by go_num, by simp; omega, hown3, hs3, hg4⟩
      case measure => simp [intOf]; omega
    · go_wp2_with fail
      refine (pick_any 20 hsr (by omega) (by omega)).mono ?_
      rintro e w2 ⟨⟨q, rfl, hq0, hq1, _⟩, hs2, hg2, hz2⟩
      have hown2 := hown.keptS hg2 hbl
      have hg2' := grownBy_trans hgr hg2
      have hsz2 : w.heap.size ≤ w2.heap.size := Nat.le_trans hsz hg2.size
      clear hown hgr hg2 hz2 hq1 hsr
      by_cases q0 : q = 0
      · subst q0
        obtain ⟨g, cap, hv, hbg, hgl⟩ := hown2.addr (by omega)
        subst hv
        have Hown2 := Lib.hid hown2
        have hxl2 : xs.length ≤ 8 := by omega
        have hxl1 : 1 ≤ xs.length := by omega
        clear hown2
        go_wp2_with fail
        refine (pick_any (xs.length : Int) hs2 (by omega) (by omega)).mono ?_
        rintro e w3 ⟨⟨p, rfl, hp0, hp1, _⟩, hs3, hg3, hz3⟩
        have hp2 := hp1 (by omega)
        obtain ⟨pk, rfl⟩ := Int.eq_ofNat_of_zero_le hp0
        have hown3 := Hown2.out.keptS hg3 hbl
        have hg3' := grownBy_trans hg2' hg3
        have hsz3 : w.heap.size ≤ w3.heap.size := Nat.le_trans hsz2 hg3.size
        clear hp1 hz3 hg3
        go_wp2_with fail
        refine (among_any (xs := [-1, 0, 10000, 10001]) (hs3.alloc _) (by omega) (Own.lit (E := eI) (base := 0) (Nat.zero_le _) rfl rfl (by decide) ?hl).rds (Nat.le_refl _) (by simp) ?hne).mono ?_
        case hl => intro x hx; simp at hx; show -9223372036854775808 ≤ x ∧ x ≤ 9223372036854775807; omega
        case hne => intro k hk; simp [Value.ownBlock] at hk; have := hs3.lt; omega
        rintro e w4 ⟨⟨x, rfl, hx⟩, hs4, hg4, hz4⟩
        have hxb : -1 ≤ x ∧ x ≤ 10001 := by simp at hx; omega
        have hown4 := (hown3.alloc (.cells #[.int .i64 (-1), .int .i64 0, .int .i64 10000, .int .i64 10001] 2)).keptS hg4 hbl
        obtain ⟨⟨y, hcy⟩, hfy, hown5, hg5⟩ := hown4.storeI (k := pk) (x := x) rfl (by omega) (by show -9223372036854775808 ≤ x ∧ x ≤ 9223372036854775807; omega)
        have hg4' : w.grownBy w4 (some b) := grownBy_trans hg3' (grownBy_trans (World.grownBy_alloc w3 _ _) hg4)
        have Hg5 := Lib.hid hg5
        have Hg4 := Lib.hid hg4'
        have Hs4 := Lib.hid hs4
        have Hown5 := Lib.hid hown5
        have hbg4 : g < w4.heap.size := by have := (hown4.lt g rfl).2; omega
        clear hown4 hown5 hg5 hg4' hg4 hs4 hown3 hs3 hs2 hx hz4 hg3' hg2'
        go_wp2
        go_ret
        refine ⟨⟨_, _, rfl, Hown5.out, by rw [List.length_set]; omega⟩, (Hs4.out.kept Hg5.out (fun k hk => by have := Option.some.inj hk; omega)).mono (by omega), ?_⟩
        refine ⟨Hg5.out.os.trans Hg4.out.os, Hg5.out.tape.trans Hg4.out.tape, Hg5.out.output.trans Hg4.out.output, Nat.le_trans Hg4.out.size Hg5.out.size, fun k hk hne => ?_⟩
        rw [Hg5.out.block k (by have := Hg4.out.size; omega) (fun e => by have := Option.some.inj e; omega)]
        exact Hg4.out.block k hk hne
      · by_cases q1 : q = 1
        · subst q1
          clear q0
          go_wp2
          go_ret
          refine ⟨⟨_, [], rfl, ?_, by simp⟩, (hs2.alloc _).mono (by omega), grownBy_trans hg2' (World.grownBy_alloc _ _ _)⟩
          exact Own.lit (E := eI) (xs := []) hsz2 rfl rfl (by decide) (fun x hx => by cases hx)
        · by_cases q2 : q = 2
          · subst q2
            clear q0 q1
            go_wp2_with fail
            refine (pick_any 2 hs2 (by omega) (by omega)).mono ?_
            rintro e w3 ⟨⟨p, rfl, hp0, hp1, _⟩, hs3, hg3, hz3⟩
            have hp2 := hp1 (by omega)
            obtain ⟨pk, rfl⟩ := Int.eq_ofNat_of_zero_le hp0
            have hg3' := grownBy_trans hg2' hg3
            have hsz3 : w.heap.size ≤ w3.heap.size := Nat.le_trans hsz2 hg3.size
            clear hp1 hz3 hg3 hown2
            go_wp2_with (first | (at_make; refine wpList_make_full _ rfl _ _ 22 rfl w.heap.size 2 i0 (.int .i64 0) 1 Try.underlying22 hi hz0 hz1 _ _ _ _ (20 + pk) rfl rfl (by omega) (by omega) ?b1 ?b2 hsz3 ?_))
            case b1 => first | omega | (rw [hz2]; omega)
            case b2 => unfold maxLen; omega
            intro w4 hown4 hg4
            rw [toList_madeCells_one] at hown4
            have hg4' : w.grownBy w4 (some b) := by
              refine ⟨hg4.os.trans hg3'.os, hg4.tape.trans hg3'.tape, hg4.output.trans hg3'.output, Nat.le_trans hg3'.size hg4.size, fun k hk hne => ?_⟩
              rw [hg4.block k (by omega) (by simp)]
              exact hg3'.block k hk hne
            have hs4 := hs3.kept hg4 (fun k hk => by cases hk)
            clear hg3' hg4 hg2' hs3 hs2
            have Hown4 := Lib.hid hown4
            clear hown4
            go_wp2
            go_ret
            refine ⟨⟨_, List.replicate (20 + pk) 0, rfl, Own.ofInts ?_ ?_, by simp; omega⟩, hs4.mono (by omega), hg4'⟩
            · rw [List.map_replicate, List.length_replicate]
              exact Hown4.out
            · intro x hx
              have := List.eq_of_mem_replicate hx
              subst this
              show -9223372036854775808 ≤ (0 : Int) ∧ (0 : Int) ≤ 9223372036854775807
              omega
          · have e0 : (q == 0) = false := by simpa using q0
            have e1 : (q == 1) = false := by simpa using q1
            have e2 : (q == 2) = false := by simpa using q2
            clear q0 q1 q2
            go_wp2
            go_ret
            exact ⟨⟨_, xs, rfl, hown2, by omega⟩, hs2.mono (by omega), hg2'⟩

theorem l20Checks_any {w : World} {b N : Nat} {n : Int} (hs : Src w b N) (hN : N ≤ 1000000) (hn : 0 ≤ n ∧ n ≤ 100) :
    Calls Try.prog 93 #[.pointer (some ⟨b, 0, none⟩), .int .i64 n] w fun e w' => (∃ u xs, e = .returned u ∧ Own eI 2 w.heap.size w' u xs ∧ xs.length ≤ 110) ∧ Src w' b (N + 300) ∧ w.grownBy w' (some b) := by
  obtain ⟨i0, hi, hz0, hz1, hz2⟩ := info_parts Try.infoInt64
  have hbl := hs.lt
  have ho0 : Own eI 2 w.heap.size (w.alloc (.cells #[] 2)) (.slice (some ⟨w.heap.size, 0, none⟩) 0 0) [] :=
    Own.lit (E := eI) (xs := []) (cs := #[]) (Nat.le_refl _) rfl rfl (by decide) (fun x hx => by cases hx)
  have hs0 := hs.alloc (.cells #[] 2)
  have hg0 := World.grownBy_alloc w (.cells #[] 2) (some b)
  go_enter Try.func93, Try.ntmps93
  go_wp2
  go_loopw [5, 6] (fun v k wr => ∃ (j : Nat) (xs : List Int), 1 + (j : Int) ≤ 101 ∧ k = .int .i64 (1 + j) ∧ xs.length ≤ j ∧ Own eI 2 w.heap.size wr v xs ∧ Src wr b (N + 2 * j) ∧ w.grownBy wr (some b)) (fun _ k _ => (n - intOf k).toNat)
  case atStart => exact ⟨0, [], by omega, rfl, by simp, ho0, hs0, hg0⟩
  case round =>
    obtain ⟨j, xs, hj, rfl, hxl, hown, hsr, hgr⟩ := hrel
    have hsz : w.heap.size ≤ wr.heap.size := hgr.size
    clear ho0 hs0 hg0
    by_cases hk : 1 + (j : Int) < n
    · go_wp2_with fail
      refine (one_any 3 hsr (by omega) (by omega)).mono ?_
      rintro e w2 ⟨⟨r, rfl⟩, hs2, hg2, hz2⟩
      have hown2 := hown.keptS hg2 hbl
      have hg2' := grownBy_trans hgr hg2
      have hsz2 : w.heap.size ≤ w2.heap.size := Nat.le_trans hsz hg2.size
      clear hown hg2 hgr hsr hz2 hsz
      cases r with
      | true =>
        have Hqp : eI.ok (1 + (j : Int)) := by show -9223372036854775808 ≤ 1 + (j : Int) ∧ 1 + (j : Int) ≤ 9223372036854775807; omega
        go_wp2_with (first | (at_builtin; refine wpList_appS (E := eI) rfl _ _ 22 rfl Try.underlying22 hi hz0 hz1 hz2 rfl (by decide) rfl rfl (hown2.alloc _) (rds_one (E := eI) (x := 1 + (j : Int)) Hqp rfl) ?b1 ?b2 ?b3 ?_))
        case b1 => unfold maxLen; simp; omega
        case b2 => simp; omega
        case b3 => simp; omega
        intro v' w3 hown3 hg3
        have hg3' := hg3.alloc.1
        have hs3 : Src w3 b (N + 2 * j + 2) := hs2.keptO (v' := v') hg3' hown2 hbl
        have hg4 : w.grownBy w3 (some b) := grown_own hg2' hg3' (fun k hk => (hown2.lt k hk).1)
        clear hg3 hg3' hg2' hs2 hown2 Hqp
        go_wp2
        go_roundw
        case rel => exact ⟨j + 1, _, by omega, by go_num, by simp; omega, hown3, hs3, hg4⟩
        case measure => simp [intOf]; omega
      | false =>
        go_wp2
        go_roundw
        case rel => exact ⟨j + 1, _, by omega, by go_num, by omega, hown2, hs2, hg2'⟩
        case measure => simp [intOf]; omega
    · go_wp2_with fail
      refine (one_any 16 hsr (by omega) (by omega)).mono ?_
      rintro e w2 ⟨⟨r, rfl⟩, hs2, hg2, hz2⟩
      have hown2 := hown.keptS hg2 hbl
      have hg2' := grownBy_trans hgr hg2
      have hsz2 : w.heap.size ≤ w2.heap.size := Nat.le_trans hsz hg2.size
      clear hown hg2 hgr hsr hz2 hsz
      cases r with
      | true =>
        go_wp2_with fail
        refine (among_any (xs := [-1, 0, n, 1]) (hs2.alloc _) (by omega) (Own.lit (E := eI) (base := 0) (Nat.zero_le _) rfl rfl (by simp [maxLen]) ?hl).rds (Nat.le_refl _) (by simp) ?hne).mono ?_
        case hl => intro x hx; simp at hx; show -9223372036854775808 ≤ x ∧ x ≤ 9223372036854775807; omega
        case hne => intro k hk; simp [Value.ownBlock] at hk; have := hs2.lt; omega
        rintro e w3 ⟨⟨x, rfl, hx⟩, hs3, hg3, hz3⟩
        have hxb : eI.ok x := by simp at hx; show -9223372036854775808 ≤ x ∧ x ≤ 9223372036854775807; omega
        have hown3 := (hown2.alloc _).keptS hg3 hbl
        have hg3' := grownBy_trans hg2' (grownBy_trans (World.grownBy_alloc w2 _ _) hg3)
        have hsz3 : w.heap.size ≤ w3.heap.size := hg3'.size
        clear hg3 hg2' hs2 hown2 hz3 hx
        go_wp2_with (first | (at_builtin; refine wpList_appS (E := eI) rfl _ _ 22 rfl Try.underlying22 hi hz0 hz1 hz2 rfl (by decide) rfl rfl (hown3.alloc _) (rds_one (E := eI) (x := x) hxb rfl) ?b1 ?b2 ?b3 ?_))
        case b1 => unfold maxLen; simp; omega
        case b2 => simp; omega
        case b3 => simp; omega
        intro v' w4 hown4 hg4
        have hg4' := hg4.alloc.1
        have hs4 := hs3.keptO (v' := v') hg4' hown3 hbl
        have hg5 : w.grownBy w4 (some b) := grown_own hg3' hg4' (fun k hk => (hown3.lt k hk).1)
        clear hg4 hg4' hg3' hs3 hown3
        go_wp2
        go_ret
        exact ⟨⟨_, _, rfl, hown4, by simp; omega⟩, hs4.mono (by omega), hg5⟩
      | false =>
        go_wp2
        go_ret
        exact ⟨⟨_, xs, rfl, hown2, by omega⟩, hs2.mono (by omega), hg2'⟩
theorem l20Both_any {w : World} {b N : Nat} (hs : Src w b N) (hN : N ≤ 100000) :
    Calls Try.prog 69 #[.pointer (some ⟨b, 0, none⟩)] w fun e w' => (∃ u xs v ys, e = .returned (.tuple #[u, v]) ∧ Own eI 2 w.heap.size w' u xs ∧ xs.length ≤ 100 ∧ Own eI 2 w.heap.size w' v ys ∧ ys.length ≤ 110) ∧ Src w' b (N + 400) ∧ w.grownBy w' (some b) := by
  have hbl := hs.lt
  go_enter Try.func69, Try.ntmps69
  go_wp2_with fail
  refine (l20Draw_any hs (by omega)).mono ?_
  rintro e w1 ⟨⟨u, xs, rfl, ho, hl⟩, hs1, hg1⟩
  obtain ⟨ao, cap, rfl⟩ := ho.shape
  have hl' : (xs.length : Int) ≤ 100 := by omega
  have Ho := Lib.hid ho
  clear ho
  go_wp2_with fail
  refine (l20Checks_any (n := (xs.length : Int)) hs1 (by omega) (by omega)).mono ?_
  rintro e w2 ⟨⟨v, ys, rfl, ho2, hl2⟩, hs2, hg2⟩
  have Ho2 := Lib.hid ho2
  clear ho2
  go_wp2
  go_ret2
  exact ⟨⟨_, xs, v, ys, rfl, Ho.out.keptS hg2 hbl, hl, Ho2.out.mono hg1.size, hl2⟩, hs2.mono (by omega), grownBy_trans hg1 hg2⟩
theorem tw_bd {a b : Int} (ha : 0 ≤ a ∧ a ≤ 1000000) (hb : 0 ≤ b ∧ b ≤ 16) : okInt64 (a - b / 15) := by
  show -9223372036854775808 ≤ a - b / 15 ∧ a - b / 15 ≤ 9223372036854775807
  omega
theorem DrawBestChecks_any {w : World} {A : Nat} {v : Value} {cs : List Int} (ha : Rds eB A w v cs) (hA : A ≤ w.heap.size) :
    Calls Try.prog 30 #[v] w fun e w' => (∃ u xs x, e = .returned (.tuple #[u, .int .i64 x]) ∧ Own eI 2 w.heap.size w' u xs ∧ xs.length ≤ 100 ∧ okInt64 x) ∧ Below w.heap.size w w' := by
  go_enter Try.func30, Try.ntmps30
  go_wp2_with fail
  refine (l00From_any ha hA).mono ?_
  rintro e w1 ⟨rfl, hs1, hb1⟩
  go_wp2_with fail
  refine (l20Draw_any hs1 (by omega)).mono ?_
  rintro e w2 ⟨⟨u, xs, rfl, ho, hl⟩, hs2, hg2⟩
  have hbl := hs1.lt
  obtain ⟨ao, cap, rfl⟩ := ho.shape
  have hl' : (xs.length : Int) ≤ 100 := by omega
  have Ho := Lib.hid ho
  have hb2 := grown_below hb1 hg2 (Nat.le_refl _) hb1.size
  clear ho hb1 hg2 hs1
  go_wp2_with fail
  refine (pick_any ((xs.length : Int) + 1) hs2 (by omega) (by omega)).mono ?_
  rintro e w3 ⟨⟨r, rfl, hr0, hr1, _⟩, hs3, hg3, hz3⟩
  have hr2 := hr1 (by omega)
  have Ho3 := Lib.hid (Ho.out.keptS hg3 hbl)
  have hb3 := grown_below hb2 hg3 (Nat.le_refl _) hb2.size
  clear Ho hb2 hg3 hs2 hz3 hr1
  go_wp2_with fail
  refine (pick_any 16 hs3 (by omega) (by omega)).mono ?_
  rintro e w4 ⟨⟨q, rfl, hq0, hq1, _⟩, hs4, hg4, hz4⟩
  have hq2 := hq1 (by omega)
  have Ho4 := Lib.hid (Ho3.out.keptS hg4 hbl)
  have hb4 := Lib.hid (grown_below hb3 hg4 (Nat.le_refl _) hb3.size)
  have ho5 := tw_bd (a := r) (b := q) ⟨hr0, by omega⟩ ⟨hq0, by omega⟩
  have hdv : 0 ≤ q / 15 ∧ q / 15 ≤ 1 := by omega
  have H5 := Lib.hid ho5
  clear Ho3 hb3 hg4 hs3 hz4 hq1 ho5
  go_wp2
  go_ret2
  exact ⟨⟨_, xs, _, rfl, Ho4.out.mono (by omega), hl, H5.out⟩, hb4.out⟩

theorem DrawChecksFor_any {w : World} {A : Nat} {v : Value} {cs : List Int} (ha : Rds eB A w v cs) (hA : A ≤ w.heap.size) :
    Calls Try.prog 31 #[v] w fun e w' => (∃ u xs x, e = .returned (.tuple #[u, .int .i64 x]) ∧ Own eI 2 w.heap.size w' u xs ∧ xs.length ≤ 100 ∧ okInt64 x) ∧ Below w.heap.size w w' := by
  go_enter Try.func31, Try.ntmps31
  go_wp2_with fail
  refine (l00From_any ha hA).mono ?_
  rintro e w1 ⟨rfl, hs1, hb1⟩
  go_wp2_with fail
  refine (l20Draw_any hs1 (by omega)).mono ?_
  rintro e w2 ⟨⟨u, xs, rfl, ho, hl⟩, hs2, hg2⟩
  have hbl := hs1.lt
  have hsz1 := hb1.size
  obtain ⟨ao, cap, rfl⟩ := ho.shape
  have Ho := Lib.hid ho
  have hb2 := grown_below hb1 hg2 (Nat.le_refl _) hb1.size
  clear ho hb1 hg2 hs1
  go_wp2_with fail
  refine (one_any 10 hs2 (by omega) (by omega)).mono ?_
  rintro e w3 ⟨⟨r, rfl⟩, hs3, hg3, hz3⟩
  have Ho3 := Lib.hid (Ho.out.keptS hg3 hbl)
  have hb3 := grown_below hb2 hg3 (Nat.le_refl _) hb2.size
  clear Ho hb2 hg3 hs2 hz3
  cases r with
  | true =>
    go_wp2_with fail
    refine (among_any (xs := [-1, 0, 200000, 200001]) (hs3.alloc _) (by omega) (Own.lit (E := eI) (base := 0) (Nat.zero_le _) rfl rfl (by decide) ?hl).rds (Nat.le_refl _) (by simp) ?hne).mono ?_
    case hl => intro x hx; simp at hx; show -9223372036854775808 ≤ x ∧ x ≤ 9223372036854775807; omega
    case hne => intro k hk; simp [Value.ownBlock] at hk; have := hs3.lt; omega
    rintro e w4 ⟨⟨x, rfl, hx⟩, hs4, hg4, hz4⟩
    have hxb : okInt64 x := by simp at hx; show -9223372036854775808 ≤ x ∧ x ≤ 9223372036854775807; omega
    have Ho4 := Lib.hid ((Ho3.out.alloc _).keptS hg4 hbl)
    have hb4 := Lib.hid (grown_below (hb3.alloc hb3.size _) hg4 (Nat.le_refl _) (hb3.alloc hb3.size _).size)
    have H5 := Lib.hid hxb
    clear Ho3 hb3 hg4 hs3 hz4 hx hxb
    go_wp2
    go_ret2
    exact ⟨⟨_, xs, _, rfl, Ho4.out.mono hsz1, hl, H5.out⟩, hb4.out⟩
  | false =>
    go_wp2_with fail
    refine (pick_any 60 hs3 (by omega) (by omega)).mono ?_
    rintro e w4 ⟨⟨q, rfl, hq0, hq1, _⟩, hs4, hg4, hz4⟩
    have hq2 := hq1 (by omega)
    have Ho4 := Lib.hid (Ho3.out.keptS hg4 hbl)
    have hb4 := Lib.hid (grown_below hb3 hg4 (Nat.le_refl _) hb3.size)
    have hxb : okInt64 (20 + q) := by show -9223372036854775808 ≤ 20 + q ∧ 20 + q ≤ 9223372036854775807; omega
    have H5 := Lib.hid hxb
    clear Ho3 hb3 hg4 hs3 hz4 hq1 hxb
    go_wp2
    go_ret2
    exact ⟨⟨_, xs, _, rfl, Ho4.out.mono hsz1, hl, H5.out⟩, hb4.out⟩
theorem DrawLostWork_any {w : World} {A : Nat} {v : Value} {cs : List Int} (ha : Rds eB A w v cs) (hA : A ≤ w.heap.size) :
    Calls Try.prog 32 #[v] w fun e w' => (∃ u xs v ys x, e = .returned (.tuple #[u, v, .int .i64 x]) ∧ Own eI 2 w.heap.size w' u xs ∧ xs.length ≤ 100 ∧ Own eI 2 w.heap.size w' v ys ∧ ys.length ≤ 110 ∧ okInt64 x) ∧ Below w.heap.size w w' := by
  go_enter Try.func32, Try.ntmps32
  go_wp2_with fail
  refine (l00From_any ha hA).mono ?_
  rintro e w1 ⟨rfl, hs1, hb1⟩
  go_wp2_with fail
  refine (l20Both_any hs1 (by omega)).mono ?_
  rintro e w2 ⟨⟨u, xs, u2, ys, rfl, ho, hl, ho2, hl2⟩, hs2, hg2⟩
  have hbl := hs1.lt
  have hsz1 := hb1.size
  obtain ⟨ao, cap, rfl⟩ := ho.shape
  have hl' : (xs.length : Int) ≤ 100 := by omega
  have Ho := Lib.hid ho
  have Hp := Lib.hid ho2
  have hb2 := grown_below hb1 hg2 (Nat.le_refl _) hb1.size
  clear ho ho2 hb1 hg2 hs1
  go_wp2_with fail
  refine (pick_any ((xs.length : Int) + 1) hs2 (by omega) (by omega)).mono ?_
  rintro e w3 ⟨⟨r, rfl, hr0, hr1, _⟩, hs3, hg3, hz3⟩
  have hr2 := hr1 (by omega)
  have Ho3 := Lib.hid (Ho.out.keptS hg3 hbl)
  have Hp3 := Lib.hid (Hp.out.keptS hg3 hbl)
  have hb3 := grown_below hb2 hg3 (Nat.le_refl _) hb2.size
  clear Ho Hp hb2 hg3 hs2 hz3 hr1
  go_wp2_with fail
  refine (pick_any 16 hs3 (by omega) (by omega)).mono ?_
  rintro e w4 ⟨⟨q, rfl, hq0, hq1, _⟩, hs4, hg4, hz4⟩
  have hq2 := hq1 (by omega)
  have Ho4 := Lib.hid (Ho3.out.keptS hg4 hbl)
  have Hp4 := Lib.hid (Hp3.out.keptS hg4 hbl)
  have hb4 := Lib.hid (grown_below hb3 hg4 (Nat.le_refl _) hb3.size)
  have ho5 := tw_bd (a := r) (b := q) ⟨hr0, by omega⟩ ⟨hq0, by omega⟩
  have hdv : 0 ≤ q / 15 ∧ q / 15 ≤ 1 := by omega
  have H5 := Lib.hid ho5
  clear Ho3 Hp3 hb3 hg4 hs3 hz4 hq1 ho5
  go_wp2
  go_ret3
  exact ⟨⟨_, xs, _, ys, _, rfl, Ho4.out.mono hsz1, hl, Hp4.out.mono hsz1, hl2, H5.out⟩, hb4.out⟩
theorem DrawTotalWithFailure_any {w : World} {A : Nat} {v : Value} {cs : List Int} (ha : Rds eB A w v cs) (hA : A ≤ w.heap.size) :
    Calls Try.prog 33 #[v] w fun e w' => (∃ u xs v ys x y, e = .returned (.tuple #[u, v, .int .i64 x, .int .i64 y]) ∧ Own eI 2 w.heap.size w' u xs ∧ xs.length ≤ 100 ∧ Own eI 2 w.heap.size w' v ys ∧ ys.length ≤ 110 ∧ okInt64 x ∧ okInt64 y) ∧ Below w.heap.size w w' := by
  go_enter Try.func33, Try.ntmps33
  go_wp2_with fail
  refine (l00From_any ha hA).mono ?_
  rintro e w1 ⟨rfl, hs1, hb1⟩
  go_wp2_with fail
  refine (l20Both_any hs1 (by omega)).mono ?_
  rintro e w2 ⟨⟨u, xs, u2, ys, rfl, ho, hl, ho2, hl2⟩, hs2, hg2⟩
  have hbl := hs1.lt
  have hsz1 := hb1.size
  obtain ⟨ao, cap, rfl⟩ := ho.shape
  have hl' : (xs.length : Int) ≤ 100 := by omega
  have Ho := Lib.hid ho
  have Hp := Lib.hid ho2
  have hb2 := grown_below hb1 hg2 (Nat.le_refl _) hb1.size
  clear ho ho2 hb1 hg2 hs1
  go_wp2_with fail
  refine (pick_any ((xs.length : Int) + 1) hs2 (by omega) (by omega)).mono ?_
  rintro e w3 ⟨⟨r, rfl, hr0, hr1, _⟩, hs3, hg3, hz3⟩
  have hr2 := hr1 (by omega)
  have Ho3 := Lib.hid (Ho.out.keptS hg3 hbl)
  have Hp3 := Lib.hid (Hp.out.keptS hg3 hbl)
  have hb3 := grown_below hb2 hg3 (Nat.le_refl _) hb2.size
  clear Ho Hp hb2 hg3 hs2 hz3 hr1
  go_wp2_with fail
  refine (pick_any 16 hs3 (by omega) (by omega)).mono ?_
  rintro e w4 ⟨⟨q, rfl, hq0, hq1, _⟩, hs4, hg4, hz4⟩
  have hq2 := hq1 (by omega)
  have Ho4 := Lib.hid (Ho3.out.keptS hg4 hbl)
  have Hp4 := Lib.hid (Hp3.out.keptS hg4 hbl)
  have hb4 := grown_below hb3 hg4 (Nat.le_refl _) hb3.size
  have ho5 := tw_bd (a := r) (b := q) ⟨hr0, by omega⟩ ⟨hq0, by omega⟩
  have hdv : 0 ≤ q / 15 ∧ q / 15 ≤ 1 := by omega
  have H5 := Lib.hid ho5
  clear Ho3 Hp3 hb3 hg4 hs3 hz4 hq1 ho5
  go_wp2_with fail
  refine (one_any 10 hs4 (by omega) (by omega)).mono ?_
  rintro e w5 ⟨⟨z, rfl⟩, hs5, hg5, hz5⟩
  have Ho5 := Lib.hid (Ho4.out.keptS hg5 hbl)
  have Hp5 := Lib.hid (Hp4.out.keptS hg5 hbl)
  have hb5 := grown_below hb4 hg5 (Nat.le_refl _) hb4.size
  clear Ho4 Hp4 hb4 hg5 hs4 hz5
  cases z with
  | true =>
    go_wp2_with fail
    refine (among_any (xs := [-1, 0, 10000, 10001]) (hs5.alloc _) (by omega) (Own.lit (E := eI) (base := 0) (Nat.zero_le _) rfl rfl (by decide) ?hl).rds (Nat.le_refl _) (by simp) ?hne).mono ?_
    case hl => intro x hx; simp at hx; show -9223372036854775808 ≤ x ∧ x ≤ 9223372036854775807; omega
    case hne => intro k hk; simp [Value.ownBlock] at hk; have := hs5.lt; omega
    rintro e w6 ⟨⟨x, rfl, hx⟩, hs6, hg6, hz6⟩
    have hxb : okInt64 x := by simp at hx; show -9223372036854775808 ≤ x ∧ x ≤ 9223372036854775807; omega
    have Ho6 := Lib.hid ((Ho5.out.alloc _).keptS hg6 hbl)
    have Hp6 := Lib.hid ((Hp5.out.alloc _).keptS hg6 hbl)
    have hb6 := Lib.hid (grown_below (hb5.alloc hb5.size _) hg6 (Nat.le_refl _) (hb5.alloc hb5.size _).size)
    have H6 := Lib.hid hxb
    clear Ho5 Hp5 hb5 hg6 hs5 hz6 hx hxb
    go_wp2
    (try simp only [Exit.inBlock, Exit.then]); refine bodyPost_ret (results_tmp4 rfl _ _ _) rfl ?_
    exact ⟨⟨_, xs, _, ys, _, _, rfl, Ho6.out.mono hsz1, hl, Hp6.out.mono hsz1, hl2, H5.out, H6.out⟩, hb6.out⟩
  | false =>
    go_wp2_with fail
    refine (pick_any 10 hs5 (by omega) (by omega)).mono ?_
    rintro e w6 ⟨⟨q', rfl, hq0', hq1', _⟩, hs6, hg6, hz6⟩
    have hq2' := hq1' (by omega)
    have Ho6 := Lib.hid (Ho5.out.keptS hg6 hbl)
    have Hp6 := Lib.hid (Hp5.out.keptS hg6 hbl)
    have hb6 := Lib.hid (grown_below hb5 hg6 (Nat.le_refl _) hb5.size)
    have hxb : okInt64 q' := by show -9223372036854775808 ≤ q' ∧ q' ≤ 9223372036854775807; omega
    have H6 := Lib.hid hxb
    clear Ho5 Hp5 hb5 hg6 hs5 hz6 hq1' hxb
    go_wp2
    (try simp only [Exit.inBlock, Exit.then]); refine bodyPost_ret (results_tmp4 rfl _ _ _) rfl ?_
    exact ⟨⟨_, xs, _, ys, _, _, rfl, Ho6.out.mono hsz1, hl, Hp6.out.mono hsz1, hl2, H5.out, H6.out⟩, hb6.out⟩
end Go.Proofs.Ytljjilgpmckccaa
