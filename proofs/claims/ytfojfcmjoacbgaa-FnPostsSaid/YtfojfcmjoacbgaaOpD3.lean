/- Operators and posts: the drawing of inputs, posts. No condition. -/
import Derived.Test.YtfojfcmjoacbgaaOpD2
namespace Go.Proofs.Ytfojfcmjoacbgaa
open Go.ChangeShapes Go.WideShapes Go.ChangeAt Go.RowKit
set_option linter.unusedVariables false
set_option maxRecDepth 100000
def DrawnI (base L : Nat) (e : Ending) (w' : World) : Prop := ∃ u xs, e = .returned u ∧ Own eI 2 base w' u xs ∧ xs.length ≤ L
def DrawnOI (base L M : Nat) (e : Ending) (w' : World) : Prop := ∃ u v xs ps, e = .returned (.tuple #[u, v]) ∧ Own eOperator 58 base w' u xs ∧ xs.length ≤ L ∧ Own eI 2 base w' v ps ∧ ps.length ≤ M
def DrawnOII (base L M K : Nat) (e : Ending) (w' : World) : Prop := ∃ u v z xs ps qs, e = .returned (.tuple #[u, v, z]) ∧ Own eOperator 58 base w' u xs ∧ xs.length ≤ L ∧ Own eI 2 base w' v ps ∧ ps.length ≤ M ∧ Own eI 2 base w' z qs ∧ qs.length ≤ K
set_option maxHeartbeats 1000000 in
theorem l22DrawPosts_any {w : World} {b N : Nat} (hs : Src w b N) (hN : N ≤ 100000) :
    Calls Try.prog 76 #[.pointer (some ⟨b, 0, none⟩)] w fun e w' => DrawnI w.heap.size 9 e w' ∧ Src w' b (N + 100) ∧ w.grownBy w' (some b) := by
  obtain ⟨i0, hi, hz0, hz1, hz2⟩ := info_parts Try.infoInt64
  have hbl := hs.lt
  go_enter Try.func76, Try.ntmps76
  go_wp2_with fail
  refine (pick_any 6 (hs.alloc _) (by omega) (by omega)).mono ?_
  rintro e w1 ⟨⟨r, rfl, hr0, hr1, _⟩, hs1, hg1, hz1⟩
  have hr2 := hr1 (by omega)
  have hg1' : w.grownBy w1 (some b) := grownBy_trans (World.grownBy_alloc w _ _) hg1
  have ho1 : Own eI 2 w.heap.size w1 (.slice (some ⟨w.heap.size, 0, none⟩) 0 0) [] :=
    Own.keptS (Own.lit (E := eI) (xs := []) (cs := #[]) (Nat.le_refl _) rfl rfl (by decide) (fun x hx => by cases hx)) hg1 hbl
  clear hr1 hz1 hg1
  go_wp2_with fail
  go_loopw [3, 4] (fun v k wr => ∃ (kk : Int) (xs : List Int), 0 ≤ kk ∧ kk + xs.length ≤ 6 ∧ k = .int .i64 kk ∧ Own eI 2 w.heap.size wr v xs ∧ Src wr b (N + 2 + 2 * xs.length) ∧ w.grownBy wr (some b)) (fun _ k _ => (intOf k).toNat)
  case atStart => exact ⟨r, [], by omega, by simp; omega, rfl, ho1, hs1, hg1'⟩
  case round =>
    obtain ⟨kk, xs, hk0, hkj, rfl, hown, hsr, hgr⟩ := hrel
    have hsz : w.heap.size ≤ wr.heap.size := hgr.size
    clear ho1 hs1 hg1'
    by_cases hk : 0 < kk
    · go_wp2_with fail
      refine (pick_any 6 hsr (by omega) (by omega)).mono ?_
      rintro e w2 ⟨⟨q, rfl, hq0, hq1, _⟩, hs2, hg2, hz2⟩
      have hq2 := hq1 (by omega)
      have hown2 := hown.keptS hg2 hbl
      have hsz2 : w.heap.size ≤ w2.heap.size := Nat.le_trans hsz hg2.size
      have hg2' := grownBy_trans hgr hg2
      have Hqp : eI.ok q := by show -9223372036854775808 ≤ q ∧ q ≤ 9223372036854775807; omega
      clear hown hg2 hgr hsr hq1 hz2 hsz
      go_wp2_with (first | (at_builtin; refine wpList_appS (E := eI) rfl _ _ 34 rfl Try.underlying34 hi hz0 hz1 hz2 rfl (by decide) rfl rfl (hown2.alloc _) (rds_one (E := eI) (x := q) Hqp rfl) ?b1 ?b2 ?b3 ?_))
      case b1 => unfold maxLen; simp; omega
      case b2 => simp; omega
      case b3 => simp; omega
      intro v' w3 hown3 hg3
      have hg3' := hg3.alloc.1
      have hs3 := hs2.kept hg3' (fun k hk => by have := (hown2.lt k hk).1; omega)
      have hg4 := grown_own hg2' hg3' (fun k hk => (hown2.lt k hk).1)
      clear hg3 hg3' hg2' hs2 hown2 Hqp
      go_wp2
      go_roundw
      case rel => exact ⟨kk - 1, _, by omega, by simp; omega, by go_num, hown3, hs3.mono (by simp; omega), hg4⟩
      case measure => simp [intOf]; omega
    · have hlen : xs.length ≤ 6 := by omega
      have hsr : Src wr b (N + 50) := hsr.mono (by omega)
      go_wp2_with fail
      refine (pick_any 20 hsr (by omega) (by omega)).mono ?_
      rintro e w2 ⟨⟨q, rfl, hq0, hq1, _⟩, hs2, hg2, hz2⟩
      have hown2 := hown.keptS hg2 hbl
      have hg2' := grownBy_trans hgr hg2
      have hsz2 : w.heap.size ≤ w2.heap.size := Nat.le_trans hsz hg2.size
      clear hown hgr hg2 hz2 hq1 hsr
      by_cases q0 : q = 0
      · subst q0
        go_wp2_with fail
        refine (among_any (xs := [-1, 6]) (hs2.alloc _) (by omega) (Own.lit (E := eI) (base := 0) (Nat.zero_le _) rfl rfl (by decide) ?hl).rds (Nat.le_refl _) (by simp) ?hne).mono ?_
        case hl => intro x hx; simp at hx; show -9223372036854775808 ≤ x ∧ x ≤ 9223372036854775807; omega
        case hne => intro k hk; simp [Value.ownBlock] at hk; have := hs2.lt; omega
        rintro e w4 ⟨⟨x, rfl, hx⟩, hs4, hg4, hz4⟩
        have hxb : eI.ok x := by show -9223372036854775808 ≤ x ∧ x ≤ 9223372036854775807; simp at hx; omega
        have hown4 := Own.keptS (hown2.alloc _) hg4 hbl
        have hg4' := grownBy_trans hg2' (grownBy_trans (World.grownBy_alloc _ _ _) hg4)
        have hsz4 : w.heap.size ≤ w4.heap.size := hg4'.size
        clear hown2 hg4 hs2 hg2' hz4 hx
        go_wp2_with (first | (at_builtin; refine wpList_appS (E := eI) rfl _ _ 34 rfl Try.underlying34 hi hz0 hz1 hz2 rfl (by decide) rfl rfl (hown4.alloc _) (rds_one (E := eI) (x := x) hxb rfl) ?b1 ?b2 ?b3 ?_))
        case b1 => unfold maxLen; simp; omega
        case b2 => simp; omega
        case b3 => simp; omega
        intro v' w5 hown5 hg5
        have hg5' := hg5.alloc.1
        have hs5 := hs4.kept hg5' (fun k hk => by have := (hown4.lt k hk).1; omega)
        have hg6 := grown_own hg4' hg5' (fun k hk => (hown4.lt k hk).1)
        clear hg5 hg5' hg4' hs4 hown4 hxb
        go_wp2
        go_ret
        exact ⟨⟨_, _, rfl, hown5, by simp; omega⟩, hs5.mono (by omega), hg6⟩
      by_cases q1 : q = 1
      · subst q1
        clear q0
        go_wp2_with fail
        refine (pick_any 2 hs2 (by omega) (by omega)).mono ?_
        rintro e w3 ⟨⟨p, rfl, hp0, hp1, _⟩, hs3, hg3, hz3⟩
        have hp2 := hp1 (by omega)
        obtain ⟨pk, rfl⟩ := Int.eq_ofNat_of_zero_le hp0
        have hg3' := grownBy_trans hg2' hg3
        have hsz3 : w.heap.size ≤ w3.heap.size := Nat.le_trans hsz2 hg3.size
        clear hp1 hz3 hg3 hown2
        go_wp2_with (first | (at_make; refine wpList_make_full _ rfl _ _ 34 rfl w.heap.size 2 i0 (.int .i64 0) 1 Try.underlying34 hi hz0 hz1 _ _ _ _ (8 + pk) rfl rfl (by omega) (by omega) ?b1 ?b2 hsz3 ?_))
        case b1 => first | omega | (rw [hz2]; omega)
        case b2 => unfold maxLen; omega
        intro w4 hown4 hg4
        rw [toList_madeCells_one] at hown4
        have hg4' : w.grownBy w4 (some b) := grown_own hg3' hg4 (fun k hk => by cases hk)
        have hs4 := hs3.kept hg4 (fun k hk => by cases hk)
        clear hg3' hg4 hg2' hs3 hs2
        have Hown4 := Lib.hid hown4
        clear hown4
        go_wp2
        go_ret
        refine ⟨⟨_, List.replicate (8 + pk) 0, rfl, Own.ofInts ?_ ?_, by simp; omega⟩, hs4.mono (by omega), hg4'⟩
        · rw [List.map_replicate, List.length_replicate]
          exact Hown4.out
        · intro x hx
          have := List.eq_of_mem_replicate hx
          subst this
          show -9223372036854775808 ≤ (0 : Int) ∧ (0 : Int) ≤ 9223372036854775807
          omega
      have e0 : (q == 0) = false := by simpa using q0
      have e1 : (q == 1) = false := by simpa using q1
      clear q0 q1
      go_wp2
      go_ret
      exact ⟨⟨_, xs, rfl, hown2, by omega⟩, hs2.mono (by omega), hg2'⟩
theorem l22Both_any {w : World} {A : Nat} {v : Value} {cs : List Int} (ha : Rds eB A w v cs) (hA : A ≤ w.heap.size) :
    Calls Try.prog 73 #[v] w fun e w' => DrawnOI w.heap.size 9 9 e w' ∧ Below w.heap.size w w' := by
  have Ha := Lib.hid ha
  obtain ⟨ao, cap, rfl⟩ := ha.shape
  clear ha
  go_enter Try.func73, Try.ntmps73
  go_wp2_with fail
  refine (l00From_any Ha.out hA).mono ?_
  rintro e w1 ⟨rfl, hs1, hb1⟩
  have hz1 : w.heap.size < w1.heap.size := hs1.lt
  have Hb1 := Lib.hid hb1
  clear hb1
  go_wp2_with fail
  refine (l22Bent_any hs1 (by omega)).mono ?_
  rintro e w2 ⟨⟨u, xs, rfl, ho2, hl2⟩, hs2, hg2⟩
  go_wp2_with fail
  refine (l22DrawPosts_any hs2 (by omega)).mono ?_
  rintro e w3 ⟨⟨v3, ps, rfl, ho3, hl3⟩, hs3, hg3⟩
  have hown2 := (ho2.keptS hg3 hz1).mono (base' := w.heap.size) (by omega)
  have hown3 := ho3.mono (base' := w.heap.size) (by have := hg2.size; omega)
  have hb3 : Below w.heap.size w w3 := (grown_below Hb1.out hg2 (Nat.le_refl _) (by omega)) |> fun h => grown_below h hg3 (Nat.le_refl _) (by have := hg2.size; omega)
  clear ho2 ho3 hg2 hg3 hs1 hs2 hs3
  go_wp2
  go_ret2
  exact ⟨⟨_, _, xs, ps, rfl, hown2, hl2, hown3, hl3⟩, hb3⟩
theorem DrawFillPosts_any {w : World} {A : Nat} {v : Value} {cs : List Int} (ha : Rds eB A w v cs) (hA : A ≤ w.heap.size) :
    Calls Try.prog 41 #[v] w fun e w' => DrawnOI w.heap.size 9 9 e w' ∧ Below w.heap.size w w' := by
  have Ha := Lib.hid ha
  obtain ⟨ao, cap, rfl⟩ := ha.shape
  clear ha
  go_enter Try.func41, Try.ntmps41
  go_wp2_with fail
  refine (l22Both_any Ha.out hA).mono ?_
  rintro e w1 ⟨⟨u, v1, xs, ps, rfl, h1, h2, h3, h4⟩, hb1⟩
  go_wp2
  go_ret2
  exact ⟨⟨_, _, xs, ps, rfl, h1, h2, h3, h4⟩, hb1⟩
end Go.Proofs.Ytfojfcmjoacbgaa
