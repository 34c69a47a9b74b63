/- Workers and pays: the drawing of inputs. Pays: the drawing of inputs. Workers: the drawing of a bent list. Printed by gpayd.py. Workers: the drawing of two lists. Printed by gswd.py. No condition. -/
import Derived.Test.YtkpcdnbjngpooaaGreatDoorPR9
import Derived.Test.YtkpcdnbjngpooaaGreatDoorPR12
namespace Go.Proofs.YtkpcdnbjngpooaaGreatDoor
open Go.ChangeShapes Go.WideShapes Go.ChangeAt Go.RowKit
set_option linter.unusedVariables false
set_option maxRecDepth 100000
theorem Tryz.infoWorker : (Tryz.prog.info? 49).map (fun i => (i.zero, i.size, i.bytes)) = some (some (vWorker zWorker), 3, 32) := by kernel_rfl
theorem Tryz.infoPay : (Tryz.prog.info? 47).map (fun i => (i.zero, i.size, i.bytes)) = some (some (vPay zPay), 4, 32) := by kernel_rfl
theorem wrapb (n : Int) : -9223372036854775808 ≤ IntKind.i64.wrap n ∧ IntKind.i64.wrap n ≤ 9223372036854775807 := by rw [IntKind.wrap_i64]; omega
def DrawnW (base L : Nat) (e : Ending) (w' : World) : Prop := ∃ u xs, e = .returned u ∧ Own eWorker 49 base w' u xs ∧ xs.length ≤ L
theorem okW_of {s : ByteArray} {r t : Int} (hs : s.size ≤ 9223372036854775807) (hr : -9223372036854775808 ≤ r ∧ r ≤ 9223372036854775807) (ht : -9223372036854775808 ≤ t ∧ t ≤ 9223372036854775807) : okWorker ⟨s, r, t⟩ := by
  unfold okWorker
  simp only
  omega
theorem size_grown {w w' : World} {row : Option Nat} (h : w.grownBy w' row) : w.heap.size ≤ w'.heap.size := h.size
set_option maxHeartbeats 2000000 in
theorem l23Draw_any {w : World} {b N : Nat} (hs : Src w b N) (hN : N ≤ 1000000) :
    Calls Tryz.prog 43 #[.pointer (some ⟨b, 0, none⟩)] w fun e w' => DrawnW w.heap.size 4 e w' ∧ Src w' b (N + 100) ∧ w.grownBy w' (some b) := by
  obtain ⟨i0, hi, hy0, hy1, hy2⟩ := info_parts Tryz.infoWorker
  have hbl := hs.lt
  obtain ⟨W1, hW1⟩ : ∃ W1, W1 = w.alloc (.cells #[.string ⟨#[97, 98]⟩, .string ⟨#[98, 97]⟩, .string ⟨#[98]⟩, .string ⟨#[122, 111, 101]⟩] 9) := ⟨_, rfl⟩
  have hs1 : W1.heap.size = w.heap.size + 1 := by rw [hW1]; simp
  have hst0 : StrAt (W1.alloc (.cells #[] 49)) w.heap.size 4 := by
    have h := StrAt.new (w := w) (cs := #[.string ⟨#[97, 98]⟩, .string ⟨#[98, 97]⟩, .string ⟨#[98]⟩, .string ⟨#[122, 111, 101]⟩]) (T := 9) (n := 4) (fun k hk => by
      obtain rfl | rfl | rfl | rfl : k = 0 ∨ k = 1 ∨ k = 2 ∨ k = 3 := by omega
      all_goals exact ⟨_, rfl, by decide⟩)
    rw [← hW1] at h
    exact h.grown (World.grownBy_alloc _ _ none) (by simp)
  have ho0 : Own eWorker 49 (w.heap.size + 1) (W1.alloc (.cells #[] 49)) (.slice (some ⟨W1.heap.size, 0, none⟩) 0 0) [] := Own.lit (E := eWorker) (xs := []) (cs := #[]) (by omega) rfl rfl (by decide) (fun x hx => by cases hx)
  have hsr0 : Src (W1.alloc (.cells #[] 49)) b N := by rw [hW1]; exact (hs.alloc _).alloc _
  have hg0 : w.grownBy (W1.alloc (.cells #[] 49)) (some b) := by rw [hW1]; exact grownBy_trans (World.grownBy_alloc w _ _) (World.grownBy_alloc _ _ _)
  have Hst0 := Lib.hid hst0
  have Ho0 := Lib.hid ho0
  have Hsr0 := Lib.hid hsr0
  have Hg0 := Lib.hid hg0
  have HW1 := Lib.hid hW1
  have Hs1 := Lib.hid hs1
  clear hst0 ho0 hsr0 hg0 hW1 hs
  go_enter Tryz.func43, Tryz.ntmps43
  go_wp2
  rw [← HW1.out]
  go_loopw [5, 4] (fun k v wr => ∃ (kk : Nat) (xs : List WorkerT), kk ≤ 4 ∧ xs.length ≤ kk ∧ k = .int .i64 kk ∧ Own eWorker 49 (w.heap.size + 1) wr v xs ∧ Src wr b (N + 10 * kk) ∧ w.grownBy wr (some b) ∧ StrAt wr w.heap.size 4) (fun k _ _ => 4 - (intOf k).toNat)
  case atStart => exact ⟨0, [], by omega, by simp, rfl, by have h := Ho0.out; rw [Hs1.out] at h; exact h, Hsr0.out, Hg0.out, Hst0.out⟩
  case round =>
    obtain ⟨kk, xs, hk4, hxl, rfl, hown, hsr, hgr, hst⟩ := hrel
    clear Hst0 Ho0 Hsr0 Hg0
    have hsz1 : w.heap.size < wr.heap.size := hst.1
    by_cases hk : kk < 4
    · obtain ⟨ao, cap, rfl⟩ := hown.shape
      have hki : (kk : Int) < 4 := by omega
      go_wp2_with fail
      refine (one_any 2 hsr (by omega) (by omega)).mono ?_
      rintro e w2 ⟨⟨q, rfl⟩, hs2, hg2, hz2⟩
      have hown2 := hown.keptS hg2 (by omega)
      have hst2 := hst.grown hg2 (fun h => by have := Option.some.inj h; omega)
      have hg2' := grownBy_trans hgr hg2
      clear hown hsr hgr hst hg2
      cases q with
      | false =>
        have Hown := Lib.hid hown2
        have Hs2 := Lib.hid hs2
        have Hg2 := Lib.hid hg2'
        have Hst2 := Lib.hid hst2
        clear hown2 hs2 hg2' hst2 hz2
        go_wp2
        go_roundw
        case rel => exact ⟨kk + 1, xs, by omega, by omega, by go_num, Hown.out, Hs2.out.mono (by omega), Hg2.out, Hst2.out⟩
        case measure => simp [intOf]; omega
      | true =>
        obtain ⟨s, hcs, hss⟩ := hst2.2 kk (by omega)
        have hsz2 : w.heap.size < w2.heap.size := hst2.1
        have hbl2 : b < w2.heap.size := by omega
        have Hown := Lib.hid hown2
        have Hs2 := Lib.hid hs2
        have Hg2 := Lib.hid hg2'
        have Hst2 := Lib.hid hst2
        have Hss := Lib.hid hss
        clear hown2 hs2 hg2' hst2 hz2 hss
        have hx4 : xs.length ≤ 4 := by omega
        go_wp2
        have hcN : w.heap.size ≠ b := by omega
        have hokA : ∀ (r1 r2 : Int), 0 ≤ r2 → r2 < 40 → okWorker ⟨s, IntKind.i64.wrap (100 + r1), r2⟩ := fun r1 r2 h0 h1 => okW_of (by have := Hss.out; omega) (wrapb _) (by omega)
        go_region_law (first
          | (refine step_appS (E := eWorker) rfl _ _ 24 (by rfl) Tryz.underlying24 hi hy0 hy1 hy2 rfl (by decide) (by rfl) (by rfl) (o5.alloc _) (rds_one (E := eWorker) (x := ⟨s, IntKind.i64.wrap (100 + r1), r2⟩) (hokA r1 r2 hr20 (by omega)) rfl) (by unfold maxLen; simp; omega) (by simp; omega) (by have := gg5.size; simp; omega) ?_; intro v3 w3 hO3 hg3)
          | (go_simp; go_at_call 45; with_reducible refine (pick_any 1500 Hs2.out.drew (by omega) (by omega)).mono ?_; rintro e w4 ⟨⟨r1, rfl, hr10, hr11, _⟩, hs4, hg4, hz4⟩; have hr12 := hr11 (by omega); have gg4 := grownBy_trans (grownBy_drew w2 (some b)) hg4; have o4 := Hown.out.keptS gg4 (by omega); have hcs4 := (World.cell?_of_block (w := w2) (a := ⟨w.heap.size, kk, none⟩) (gg4.block w.heap.size hsz2 (fun h => absurd (Option.some.inj h) hcN))).trans hcs; clear hr11 hz4 hg4)
          | (go_simp; go_at_call 45; with_reducible refine (pick_any 40 hs4 (by omega) (by omega)).mono ?_; rintro e w5 ⟨⟨r2, rfl, hr20, hr21, _⟩, hs5, hg5, hz5⟩; have hr22 := hr21 (by omega); have gg5 := grownBy_trans gg4 hg5; have o5 := o4.keptS hg5 (by omega); have hcs5 := (World.cell?_of_block (w := w2) (a := ⟨w.heap.size, kk, none⟩) (gg5.block w.heap.size hsz2 (fun h => absurd (Option.some.inj h) hcN))).trans hcs; clear hr21 hz5 hg5))
        all_goals
          have hg3' := hg3.alloc.1
          have hs3 := hs5.kept hg3' (fun k hk => by have := (o5.lt k hk).1; omega)
          have hgA := grownBy_trans Hg2.out gg5
          have hgB := grown_own hgA hg3' (fun k hk => by have := (o5.lt k hk).1; omega)
          have hst5 := (Hst2.out.grown gg5 (fun h => absurd (Option.some.inj h) hcN)).grown hg3' (fun h => by have := (o5.lt _ h.symm).1; omega)
          have HO3 := Lib.hid hO3
          have Hs3 := Lib.hid hs3
          have HgB := Lib.hid hgB
          have Hst5 := Lib.hid hst5
          clear hO3 hg3 hg3' hs3 hgA hgB hst5 o4 o5 gg4 gg5 hs4 hs5 hcs hcs4 hcs5
          go_wp2
          go_roundw
          case rel => exact ⟨kk + 1, _, by omega, by simp; omega, by go_num, HO3.out, Hs3.out.mono (by omega), HgB.out, Hst5.out⟩
          case measure => simp [intOf]; omega
    · have Hown := Lib.hid hown
      have Hsr := Lib.hid hsr
      have Hgr := Lib.hid hgr
      obtain ⟨ao, cap, rfl⟩ := hown.shape
      obtain rfl : kk = 4 := by omega
      clear hown hsr hgr hst
      go_wp2
      go_ret
      exact ⟨⟨_, xs, rfl, Hown.out.mono (by omega), by omega⟩, Hsr.out.mono (by omega), Hgr.out⟩
end Go.Proofs.YtkpcdnbjngpooaaGreatDoor
namespace Go.Proofs.YtkpcdnbjngpooaaGreatDoor
open Go.ChangeShapes Go.WideShapes Go.ChangeAt Go.RowKit
set_option linter.unusedVariables false
set_option maxRecDepth 100000
theorem Box.keptB {w w' : World} {b : Nat} {cs : List Value} {row : Option Nat} (h : Box w b cs) (hg : w.grownBy w' row) (hne : row ≠ some b) : Box w' b cs := by
  have hb := hg.block b h.lt (fun e => hne e.symm)
  exact ⟨Nat.lt_of_lt_of_le h.lt hg.size, fun j v hj => (World.cell?_of_block (w := w) (a := ⟨b, j, none⟩) hb).trans (h.cell j v hj), fun j => (World.frozen?_of_block (w := w) (a := ⟨b, j, none⟩) hb).trans (h.free j)⟩
theorem grown_setP (w : World) (a : Addr) (u : Value) : w.grownBy (w.setCell a u) (some a.block) :=
  ⟨rfl, rfl, rfl, by simp [World.setCell], fun k hk hne => Below.heap_setCell _ _ _ _ (fun e => hne (by rw [e]))⟩
theorem grown_runP {g : Nat} : ∀ (cs : List Value) (w : World) (i : Nat), w.grownBy (setRunW w g i cs) (some g)
  | [], w, i => World.grownBy.refl _ _
  | c :: cs, w, i => grownBy_trans (grown_setP w ⟨g, i, none⟩ c) (grown_runP cs _ _)
def I64 (n : Int) : Prop := -9223372036854775808 ≤ n ∧ n ≤ 9223372036854775807
theorem wrapI (n : Int) : I64 (IntKind.i64.wrap n) := by unfold I64; rw [IntKind.wrap_i64]; omega
theorem amongL (xs : List Int) {w : World} {b N n : Nat} {cs : Array Value} (hs : Src w b N) (hN : N ≤ 1000000000) (hcs : cs = (eI.all xs).toArray) (hn : n = xs.length) (h0 : 0 < xs.length ∧ xs.length ≤ 1000) (hx : ∀ x ∈ xs, -9223372036854775808 ≤ x ∧ x ≤ 9223372036854775807) :
    Calls Tryz.prog 80 #[.pointer (some ⟨b, 0, none⟩), .slice (some ⟨w.heap.size, 0, none⟩) n n] (w.alloc (.cells cs 2)) fun e w' => (∃ r : Int, e = .returned (.int .i64 r) ∧ r ∈ xs) ∧ Src w' b (N + 2) ∧ w.grownBy w' (some b) := by
  have hb := hs.lt
  refine (among_any (xs := xs) (hs.alloc _) hN (Own.lit (E := eI) (base := 0) (Nat.zero_le _) hcs hn (by have := h0.2; unfold maxLen; omega) hx).rds (Nat.le_refl _) h0 ?_).mono ?_
  · intro k hk
    simp [Value.ownBlock] at hk
    omega
  · rintro e w2 ⟨hr, h2, hg, _⟩
    exact ⟨hr, h2, grownBy_trans (World.grownBy_alloc _ _ (some b)) hg⟩
end Go.Proofs.YtkpcdnbjngpooaaGreatDoor
namespace Go.Proofs.YtkpcdnbjngpooaaGreatDoor
open Go.ChangeShapes Go.WideShapes Go.ChangeAt Go.RowKit
set_option linter.unusedVariables false
set_option maxRecDepth 100000
theorem rds_oneP {α : Type} {E : Elt α} {e : TypeId} {w : World} {x : α} {cs : Array Value} {H : Nat} (hH : w.heap.size = H) (hx : E.ok x) (hcs : cs = (E.cells x).toArray) : Rds E (H + 1) (w.alloc (.cells cs e)) (.slice (some ⟨H, 0, none⟩) 1 1) [x] := by
  subst hH; exact rds_one hx hcs
theorem quo26 (n : Nat) : (n : Int).tdiv 26 = ((n / 26 : Nat) : Int) := rfl
theorem rem26 (n : Nat) : (n : Int).tmod 26 = ((n % 26 : Nat) : Int) := rfl
set_option maxHeartbeats 2000000 in
theorem l23Bent_any {w : World} {b N : Nat} (hs : Src w b N) (hN : N ≤ 100000) :
    Calls Tryz.prog 49 #[.pointer (some ⟨b, 0, none⟩)] w fun e w' => DrawnW w.heap.size 31 e w' ∧ Src w' b (N + 600) ∧ w.grownBy w' (some b) := by
  obtain ⟨i0, hi, hz0, hz1, hz2⟩ := info_parts Tryz.infoWorker
  have hbl := hs.lt
  go_enter Tryz.func49, Tryz.ntmps49
  go_wp2_with fail
  refine (l23Draw_any hs (by omega)).mono ?_
  rintro e w1 ⟨⟨u1, x1, rfl, ho1, hl1⟩, hs1, hg1⟩
  go_wp2_with fail
  refine (one_any 24 hs1 (by omega) (by omega)).mono ?_
  rintro e w2 ⟨⟨q, rfl⟩, hs2, hg2, -⟩
  have ho2 := ho1.keptS hg2 hbl
  have hg2' := grownBy_trans hg1 hg2
  have hz2' : w.heap.size ≤ w2.heap.size := hg2'.size
  clear hg1 hg2 ho1 hs1
  cases q with
  | true =>
    have hlit : Own eWorker 49 w.heap.size (w2.alloc (.cells #[] 49)) (.slice (some ⟨w2.heap.size, 0, none⟩) 0 0) [] :=
      Own.lit (E := eWorker) (xs := []) (cs := #[]) hz2' rfl rfl (by decide) (fun x hx => by cases hx)
    go_wp2_with fail
    refine (pick_any 2 (hs2.alloc _) (by omega) (by omega)).mono ?_
    rintro e w3 ⟨⟨r, rfl, hr0, hr1, _⟩, hs3, hg3, -⟩
    have hr2 := hr1 (by omega)
    have ho3 := hlit.keptS hg3 hbl
    have hg3' := grownBy_trans hg2' (grownBy_trans (World.grownBy_alloc _ _ _) hg3)
    clear hr1 hg3 hlit ho2 hg2' hs2
    go_wp2_with fail
    go_loopw [3, 4] (fun v k wr => ∃ (kk : Int) (xs : List WorkerT), 0 ≤ kk ∧ kk + xs.length ≤ 31 ∧ 30 ≤ kk + xs.length ∧ k = .int .i64 kk ∧ Own eWorker 49 w.heap.size wr v xs ∧ Src wr b (N + 200 + 4 + 2 * xs.length) ∧ w.grownBy wr (some b)) (fun _ k _ => (intOf k).toNat)
    case atStart => exact ⟨30 + r, [], by omega, by simp; omega, by simp; omega, rfl, ho3, hs3.mono (by simp), hg3'⟩
    case round =>
      obtain ⟨kk, xs, hk0, hkj, hkl, rfl, hown, hsr, hgr⟩ := hrel
      clear ho3 hs3 hg3'
      have hsz : w.heap.size ≤ wr.heap.size := hgr.size
      obtain ⟨ao, cap, rfl⟩ := hown.shape
      by_cases hk : 0 < kk
      · have hxl8 : xs.length ≤ 31 := by omega
        have hlw : b < wr.heap.size := by omega
        have hd1 : xs.length / 26 ≤ 1 := by omega
        have hd2 : xs.length % 26 < 26 := by omega
        obtain ⟨s0, hs0, hconv⟩ := conv_byte2 (n := 97 + ((xs.length / 26 : Nat) : Int)) (m := 97 + ((xs.length % 26 : Nat) : Int)) (by omega) (by omega)
        have hw1 : IntKind.i64.wrap (97 + ((xs.length / 26 : Nat) : Int)) = 97 + ((xs.length / 26 : Nat) : Int) := IntWalk.i64_in _ (by omega)
        have hw2 : IntKind.u8.wrap (97 + ((xs.length / 26 : Nat) : Int)) = 97 + ((xs.length / 26 : Nat) : Int) := by rw [IntKind.wrap_u8]; omega
        have hw3 : IntKind.i64.wrap (97 + ((xs.length % 26 : Nat) : Int)) = 97 + ((xs.length % 26 : Nat) : Int) := IntWalk.i64_in _ (by omega)
        have hw4 : IntKind.u8.wrap (97 + ((xs.length % 26 : Nat) : Int)) = 97 + ((xs.length % 26 : Nat) : Int) := by rw [IntKind.wrap_u8]; omega
        have hq26 := quo26 xs.length
        have hr26 := rem26 xs.length
        have hok1 : okWorker ⟨({ data := #[119] } : ByteArray) ++ s0, 500, 0⟩ := okW_of (by rw [ByteArray.size_append, hs0]; decide) (by decide) (by decide)
        go_wp2_with (first | (at_builtin; refine wpList_appS (E := eWorker) rfl _ _ 24 rfl Tryz.underlying24 hi hz0 hz1 hz2 rfl (by decide) rfl rfl ((hown.alloc _).alloc _) (rds_oneP (E := eWorker) (x := ⟨({ data := #[119] } : ByteArray) ++ s0, 500, 0⟩) (H := wr.heap.size + 1) (by simp) hok1 rfl) ?b1 ?b2 ?b3 ?_))
        case b1 => unfold maxLen; simp; omega
        case b2 => simp; omega
        case b3 => simp; omega
        intro v' w3 hown3 hg3
        have hg3' := hg3.alloc.alloc.1
        have hs3 := hsr.kept hg3' (fun k hk => by have := (hown.lt k hk).1; omega)
        have hg4 := grown_own hgr hg3' (fun k hk => (hown.lt k hk).1)
        clear hg3 hg3' hgr hsr hown hconv hw1 hw2 hw3 hw4
        go_wp2
        go_roundw
        case rel => exact ⟨kk - 1, _, by omega, by simp; omega, by simp; omega, by go_num, hown3, hs3.mono (by simp only [List.length_append, List.length_cons, List.length_nil]; omega), hg4⟩
        case measure => simp [intOf]; omega
      · have hkk0 : kk = 0 := by omega
        subst hkk0
        have hsr : Src wr b (N + 300) := hsr.mono (by omega)
        have hlen : xs.length ≤ 31 := by omega
        generalize Value.slice ao xs.length cap = v at hown ⊢
        by_cases h0 : xs.length = 0
        · obtain rfl : xs = [] := List.eq_nil_of_length_eq_zero h0
          obtain ⟨ao, cap, hsh⟩ := hown.shape
          subst hsh
          have Hown := Lib.hid hown
          clear hown h0
          go_wp2
          go_ret
          exact ⟨⟨_, [], rfl, Hown.out, by decide⟩, hsr.mono (by omega), hgr⟩
        obtain ⟨g, cap, hsh, hbg, hgl⟩ := hown.addr (by omega)
        obtain ⟨n, hn⟩ : ∃ n, n = xs.length := ⟨_, rfl⟩
        have hn1 : 1 ≤ n ∧ n ≤ 31 := by omega
        have hne0 : ((n : Int) == 0) = false := by simp; omega
        rw [← hn] at hsh
        subst hsh
        have Hn := Lib.hid hn
        have Hown := Lib.hid hown
        have hszr : w.heap.size ≤ wr.heap.size := hgr.size
        clear hown h0 hn
        go_wp2_with fail
        refine (pick_any (n : Int) hsr (by omega) (by omega)).mono ?_
        rintro e w5 ⟨⟨k0, rfl, hk00, hk01, _⟩, hs5, hg5, -⟩
        have hk02 := hk01 (by omega)
        obtain ⟨k, rfl⟩ := Int.eq_ofNat_of_zero_le hk00
        have hkn : k < n := by omega
        have hown5 := Hown.out.keptS hg5 hbl
        have hg5' := grownBy_trans hgr hg5
        clear hk01 hg5 hgr hsr Hown
        go_wp2_with fail
        refine (pick_any 20 hs5 (by omega) (by omega)).mono ?_
        rintro e w6 ⟨⟨q6, rfl, hq60, hq61, _⟩, hs6, hg6, -⟩
        have hown6 := hown5.keptS hg6 hbl
        have hg6' := grownBy_trans hg5' hg6
        have hsz6 : w.heap.size ≤ w6.heap.size := hg6'.size
        have hgl6 : g < w6.heap.size := (hown6.lt g rfl).2
        clear hq61 hg6 hg5' hs5 hown5
        by_cases q0 : q6 = 0
        · subst q0
          go_wp2_with fail
          refine (text_any (nb := w6.heap.size) (n := 3) (hs6.alloc _) (by omega) (StrAt.new ?hst) (by omega) (by omega)).mono ?_
          case hst =>
            intro k hk
            obtain rfl | rfl | rfl : k = 0 ∨ k = 1 ∨ k = 2 := by omega
            all_goals exact ⟨_, rfl, by decide⟩
          rintro e w7 ⟨⟨s7, rfl, hss7⟩, hs7, hg7⟩
          have hown7 := Own.keptS (hown6.alloc _) hg7 hbl
          have hg7' := grownBy_trans hg6' (grownBy_trans (World.grownBy_alloc _ _ _) hg7)
          obtain ⟨x, hx⟩ : ∃ x, xs[k]? = some x := ⟨_, List.getElem?_eq_getElem (by have := Hn.out; omega)⟩
          have hxok := hown7.2 x (List.mem_of_getElem? hx)
          obtain ⟨⟨c0, hc0⟩, hf0⟩ := Own.cellE hown7 Hn.out (k := k) (j := 0) hkn (by decide)
          have hst := Own.store1 (E := eWorker) (by decide) hown7 Hn.out (x := x) (y := ⟨s7, x.rate, x.tax⟩) (v := .string s7) hx (j := 0) (by decide) rfl (by show okWorker _; have h := hxok; change okWorker _ at h; unfold okWorker at h ⊢; simp only at h ⊢; omega)
          simp only [show eWorker.sz = 3 from rfl, Nat.add_zero] at hc0 hf0 hst
          have Hst := Lib.hid hst
          have Hs7 := Lib.hid hs7
          have Hg7 := Lib.hid hg7'
          clear hst hs7 hg7' hg7 hown7 hown6 hs6 hg6' hx hxok hss7
          go_wp2
          go_ret
          exact ⟨⟨_, _, rfl, Hst.out.1, by rw [List.length_set]; have := Hn.out; omega⟩, (Hs7.out.kept Hst.out.2 (fun k hk => by have := Option.some.inj hk; omega)).mono (by omega), grown_own Hg7.out Hst.out.2 (fun k hk => by have := Option.some.inj hk; omega)⟩
        by_cases q1 : q6 = 1
        · subst q1
          clear q0
          go_wp2_with fail
          with_reducible refine Calls.mono (amongL [0, 1, 10000, 10001, -9223372036854775808] hs6 (by omega) ?hcs ?hn (by decide) (by decide)) ?_
          case hcs => rfl
          case hn => rfl
          rintro e w7 ⟨⟨s7, rfl, hss7⟩, hs7, hg7⟩
          have hsb : -9223372036854775808 ≤ s7 ∧ s7 ≤ 9223372036854775807 := by simp at hss7; omega
          have hown7 := Own.keptS hown6 hg7 hbl
          have hg7' := grownBy_trans hg6' hg7
          obtain ⟨x, hx⟩ : ∃ x, xs[k]? = some x := ⟨_, List.getElem?_eq_getElem (by have := Hn.out; omega)⟩
          have hxok := hown7.2 x (List.mem_of_getElem? hx)
          obtain ⟨⟨c0, hc0⟩, hf0⟩ := Own.cellE hown7 Hn.out (k := k) (j := 1) hkn (by decide)
          have hst := Own.store1 (E := eWorker) (by decide) hown7 Hn.out (x := x) (y := ⟨x.nm, s7, x.tax⟩) (v := .int .i64 s7) hx (j := 1) (by decide) rfl (by show okWorker _; have h := hxok; change okWorker _ at h; unfold okWorker at h ⊢; simp only at h ⊢; omega)
          simp only [show eWorker.sz = 3 from rfl] at hc0 hf0 hst
          have Hst := Lib.hid hst
          have Hs7 := Lib.hid hs7
          have Hg7 := Lib.hid hg7'
          clear hst hs7 hg7' hg7 hown7 hown6 hs6 hg6' hx hxok hss7
          go_wp2
          go_ret
          exact ⟨⟨_, _, rfl, Hst.out.1, by rw [List.length_set]; have := Hn.out; omega⟩, (Hs7.out.kept Hst.out.2 (fun k hk => by have := Option.some.inj hk; omega)).mono (by omega), grown_own Hg7.out Hst.out.2 (fun k hk => by have := Option.some.inj hk; omega)⟩
        by_cases q2 : q6 = 2
        · subst q2
          clear q0 q1
          go_wp2_with fail
          with_reducible refine Calls.mono (amongL [-1, 0, 60, 61] hs6 (by omega) ?hcs ?hn (by decide) (by decide)) ?_
          case hcs => rfl
          case hn => rfl
          rintro e w7 ⟨⟨s7, rfl, hss7⟩, hs7, hg7⟩
          have hsb : -9223372036854775808 ≤ s7 ∧ s7 ≤ 9223372036854775807 := by simp at hss7; omega
          have hown7 := Own.keptS hown6 hg7 hbl
          have hg7' := grownBy_trans hg6' hg7
          obtain ⟨x, hx⟩ : ∃ x, xs[k]? = some x := ⟨_, List.getElem?_eq_getElem (by have := Hn.out; omega)⟩
          have hxok := hown7.2 x (List.mem_of_getElem? hx)
          obtain ⟨⟨c0, hc0⟩, hf0⟩ := Own.cellE hown7 Hn.out (k := k) (j := 2) hkn (by decide)
          have hst := Own.store1 (E := eWorker) (by decide) hown7 Hn.out (x := x) (y := ⟨x.nm, x.rate, s7⟩) (v := .int .i64 s7) hx (j := 2) (by decide) rfl (by show okWorker _; have h := hxok; change okWorker _ at h; unfold okWorker at h ⊢; simp only at h ⊢; omega)
          simp only [show eWorker.sz = 3 from rfl] at hc0 hf0 hst
          have Hst := Lib.hid hst
          have Hs7 := Lib.hid hs7
          have Hg7 := Lib.hid hg7'
          clear hst hs7 hg7' hg7 hown7 hown6 hs6 hg6' hx hxok hss7
          go_wp2
          go_ret
          exact ⟨⟨_, _, rfl, Hst.out.1, by rw [List.length_set]; have := Hn.out; omega⟩, (Hs7.out.kept Hst.out.2 (fun k hk => by have := Option.some.inj hk; omega)).mono (by omega), grown_own Hg7.out Hst.out.2 (fun k hk => by have := Option.some.inj hk; omega)⟩
        have e0 : (q6 == 0) = false := by simpa using q0
        have e1 : (q6 == 1) = false := by simpa using q1
        have e2 : (q6 == 2) = false := by simpa using q2
        have Hown6 := Lib.hid hown6
        have Hs6 := Lib.hid hs6
        have Hg6 := Lib.hid hg6'
        clear q0 q1 q2 hown6 hs6 hg6'
        go_wp2
        go_ret
        exact ⟨⟨_, xs, rfl, Hown6.out, by have := Hn.out; omega⟩, Hs6.out.mono (by omega), Hg6.out⟩
  | false =>
    have hsr : Src w2 b (N + 300) := hs2.mono (by omega)
    have hown := ho2
    have hgr := hg2'
    obtain ⟨xs, hxs⟩ : ∃ xs, xs = x1 := ⟨_, rfl⟩
    rw [← hxs] at hown hl1
    have hlen : xs.length ≤ 31 := by omega
    clear ho2 hs2 hg2' hxs
    by_cases h0 : xs.length = 0
    · obtain rfl : xs = [] := List.eq_nil_of_length_eq_zero h0
      obtain ⟨ao, cap, hsh⟩ := hown.shape
      subst hsh
      have Hown := Lib.hid hown
      clear hown h0
      go_wp2
      go_ret
      exact ⟨⟨_, [], rfl, Hown.out, by decide⟩, hsr.mono (by omega), hgr⟩
    obtain ⟨g, cap, hsh, hbg, hgl⟩ := hown.addr (by omega)
    obtain ⟨n, hn⟩ : ∃ n, n = xs.length := ⟨_, rfl⟩
    have hn1 : 1 ≤ n ∧ n ≤ 31 := by omega
    have hne0 : ((n : Int) == 0) = false := by simp; omega
    rw [← hn] at hsh
    subst hsh
    have Hn := Lib.hid hn
    have Hown := Lib.hid hown
    have hszr : w.heap.size ≤ w2.heap.size := hgr.size
    clear hown h0 hn
    go_wp2_with fail
    refine (pick_any (n : Int) hsr (by omega) (by omega)).mono ?_
    rintro e w5 ⟨⟨k0, rfl, hk00, hk01, _⟩, hs5, hg5, -⟩
    have hk02 := hk01 (by omega)
    obtain ⟨k, rfl⟩ := Int.eq_ofNat_of_zero_le hk00
    have hkn : k < n := by omega
    have hown5 := Hown.out.keptS hg5 hbl
    have hg5' := grownBy_trans hgr hg5
    clear hk01 hg5 hgr hsr Hown
    go_wp2_with fail
    refine (pick_any 20 hs5 (by omega) (by omega)).mono ?_
    rintro e w6 ⟨⟨q6, rfl, hq60, hq61, _⟩, hs6, hg6, -⟩
    have hown6 := hown5.keptS hg6 hbl
    have hg6' := grownBy_trans hg5' hg6
    have hsz6 : w.heap.size ≤ w6.heap.size := hg6'.size
    have hgl6 : g < w6.heap.size := (hown6.lt g rfl).2
    clear hq61 hg6 hg5' hs5 hown5
    by_cases q0 : q6 = 0
    · subst q0
      go_wp2_with fail
      refine (text_any (nb := w6.heap.size) (n := 3) (hs6.alloc _) (by omega) (StrAt.new ?hst) (by omega) (by omega)).mono ?_
      case hst =>
        intro k hk
        obtain rfl | rfl | rfl : k = 0 ∨ k = 1 ∨ k = 2 := by omega
        all_goals exact ⟨_, rfl, by decide⟩
      rintro e w7 ⟨⟨s7, rfl, hss7⟩, hs7, hg7⟩
      have hown7 := Own.keptS (hown6.alloc _) hg7 hbl
      have hg7' := grownBy_trans hg6' (grownBy_trans (World.grownBy_alloc _ _ _) hg7)
      obtain ⟨x, hx⟩ : ∃ x, xs[k]? = some x := ⟨_, List.getElem?_eq_getElem (by have := Hn.out; omega)⟩
      have hxok := hown7.2 x (List.mem_of_getElem? hx)
      obtain ⟨⟨c0, hc0⟩, hf0⟩ := Own.cellE hown7 Hn.out (k := k) (j := 0) hkn (by decide)
      have hst := Own.store1 (E := eWorker) (by decide) hown7 Hn.out (x := x) (y := ⟨s7, x.rate, x.tax⟩) (v := .string s7) hx (j := 0) (by decide) rfl (by show okWorker _; have h := hxok; change okWorker _ at h; unfold okWorker at h ⊢; simp only at h ⊢; omega)
      simp only [show eWorker.sz = 3 from rfl, Nat.add_zero] at hc0 hf0 hst
      have Hst := Lib.hid hst
      have Hs7 := Lib.hid hs7
      have Hg7 := Lib.hid hg7'
      clear hst hs7 hg7' hg7 hown7 hown6 hs6 hg6' hx hxok hss7
      go_wp2
      go_ret
      exact ⟨⟨_, _, rfl, Hst.out.1, by rw [List.length_set]; have := Hn.out; omega⟩, (Hs7.out.kept Hst.out.2 (fun k hk => by have := Option.some.inj hk; omega)).mono (by omega), grown_own Hg7.out Hst.out.2 (fun k hk => by have := Option.some.inj hk; omega)⟩
    by_cases q1 : q6 = 1
    · subst q1
      clear q0
      go_wp2_with fail
      with_reducible refine Calls.mono (amongL [0, 1, 10000, 10001, -9223372036854775808] hs6 (by omega) ?hcs ?hn (by decide) (by decide)) ?_
      case hcs => rfl
      case hn => rfl
      rintro e w7 ⟨⟨s7, rfl, hss7⟩, hs7, hg7⟩
      have hsb : -9223372036854775808 ≤ s7 ∧ s7 ≤ 9223372036854775807 := by simp at hss7; omega
      have hown7 := Own.keptS hown6 hg7 hbl
      have hg7' := grownBy_trans hg6' hg7
      obtain ⟨x, hx⟩ : ∃ x, xs[k]? = some x := ⟨_, List.getElem?_eq_getElem (by have := Hn.out; omega)⟩
      have hxok := hown7.2 x (List.mem_of_getElem? hx)
      obtain ⟨⟨c0, hc0⟩, hf0⟩ := Own.cellE hown7 Hn.out (k := k) (j := 1) hkn (by decide)
      have hst := Own.store1 (E := eWorker) (by decide) hown7 Hn.out (x := x) (y := ⟨x.nm, s7, x.tax⟩) (v := .int .i64 s7) hx (j := 1) (by decide) rfl (by show okWorker _; have h := hxok; change okWorker _ at h; unfold okWorker at h ⊢; simp only at h ⊢; omega)
      simp only [show eWorker.sz = 3 from rfl] at hc0 hf0 hst
      have Hst := Lib.hid hst
      have Hs7 := Lib.hid hs7
      have Hg7 := Lib.hid hg7'
      clear hst hs7 hg7' hg7 hown7 hown6 hs6 hg6' hx hxok hss7
      go_wp2
      go_ret
      exact ⟨⟨_, _, rfl, Hst.out.1, by rw [List.length_set]; have := Hn.out; omega⟩, (Hs7.out.kept Hst.out.2 (fun k hk => by have := Option.some.inj hk; omega)).mono (by omega), grown_own Hg7.out Hst.out.2 (fun k hk => by have := Option.some.inj hk; omega)⟩
    by_cases q2 : q6 = 2
    · subst q2
      clear q0 q1
      go_wp2_with fail
      with_reducible refine Calls.mono (amongL [-1, 0, 60, 61] hs6 (by omega) ?hcs ?hn (by decide) (by decide)) ?_
      case hcs => rfl
      case hn => rfl
      rintro e w7 ⟨⟨s7, rfl, hss7⟩, hs7, hg7⟩
      have hsb : -9223372036854775808 ≤ s7 ∧ s7 ≤ 9223372036854775807 := by simp at hss7; omega
      have hown7 := Own.keptS hown6 hg7 hbl
      have hg7' := grownBy_trans hg6' hg7
      obtain ⟨x, hx⟩ : ∃ x, xs[k]? = some x := ⟨_, List.getElem?_eq_getElem (by have := Hn.out; omega)⟩
      have hxok := hown7.2 x (List.mem_of_getElem? hx)
      obtain ⟨⟨c0, hc0⟩, hf0⟩ := Own.cellE hown7 Hn.out (k := k) (j := 2) hkn (by decide)
      have hst := Own.store1 (E := eWorker) (by decide) hown7 Hn.out (x := x) (y := ⟨x.nm, x.rate, s7⟩) (v := .int .i64 s7) hx (j := 2) (by decide) rfl (by show okWorker _; have h := hxok; change okWorker _ at h; unfold okWorker at h ⊢; simp only at h ⊢; omega)
      simp only [show eWorker.sz = 3 from rfl] at hc0 hf0 hst
      have Hst := Lib.hid hst
      have Hs7 := Lib.hid hs7
      have Hg7 := Lib.hid hg7'
      clear hst hs7 hg7' hg7 hown7 hown6 hs6 hg6' hx hxok hss7
      go_wp2
      go_ret
      exact ⟨⟨_, _, rfl, Hst.out.1, by rw [List.length_set]; have := Hn.out; omega⟩, (Hs7.out.kept Hst.out.2 (fun k hk => by have := Option.some.inj hk; omega)).mono (by omega), grown_own Hg7.out Hst.out.2 (fun k hk => by have := Option.some.inj hk; omega)⟩
    have e0 : (q6 == 0) = false := by simpa using q0
    have e1 : (q6 == 1) = false := by simpa using q1
    have e2 : (q6 == 2) = false := by simpa using q2
    have Hown6 := Lib.hid hown6
    have Hs6 := Lib.hid hs6
    have Hg6 := Lib.hid hg6'
    clear q0 q1 q2 hown6 hs6 hg6'
    go_wp2
    go_ret
    exact ⟨⟨_, xs, rfl, Hown6.out, by have := Hn.out; omega⟩, Hs6.out.mono (by omega), Hg6.out⟩
end Go.Proofs.YtkpcdnbjngpooaaGreatDoor
namespace Go.Proofs.YtkpcdnbjngpooaaGreatDoor
open Go.ChangeShapes Go.WideShapes Go.ChangeAt Go.RowKit
set_option linter.unusedVariables false
set_option maxRecDepth 100000
theorem Own.apart {α : Type} {E : Elt α} {e : TypeId} {base B : Nat} {w w' : World} {v u : Value} {xs : List α} (h : Own E e base w v xs) (hg : w.grownBy w' u.ownBlock) (hu : ∀ k, u.ownBlock = some k → B ≤ k) (hv : ∀ k, v.ownBlock = some k → k < B) : Own E e base w' v xs := by
  refine h.kept hg ?_
  cases ho : v.ownBlock with
  | none => exact .inl rfl
  | some k =>
    right
    intro e
    have h1 := hu k e.symm
    have h2 := hv k ho
    omega
def DrawnWW (base L M : Nat) (e : Ending) (w' : World) : Prop := ∃ u v xs ys, e = .returned (.tuple #[u, v]) ∧ Own eWorker 49 base w' u xs ∧ xs.length ≤ L ∧ Own eWorker 49 base w' v ys ∧ ys.length ≤ M
set_option maxHeartbeats 1000000 in
theorem DrawSameWorkers_any {w : World} {A : Nat} {v : Value} {cs : List Int} (ha : Rds eB A w v cs) (hA : A ≤ w.heap.size) :
    Calls Tryz.prog 13 #[v] w fun e w' => DrawnWW w.heap.size 4 5 e w' ∧ Below w.heap.size w w' := by
  obtain ⟨i0, hi, hz0, hz1, hz2⟩ := info_parts Tryz.infoWorker
  have Ha := Lib.hid ha
  obtain ⟨ao, cap, rfl⟩ := ha.shape
  clear ha
  have hq0 : okWorker ⟨⟨#[]⟩, 0, 0⟩ := okW_of (by decide) (by decide) (by decide)
  go_enter Tryz.func13, Tryz.ntmps13
  go_wp2_with fail
  refine (l00From_any Ha.out hA).mono ?_
  rintro e w1 ⟨rfl, hs1, hb1⟩
  have hz1b : w.heap.size < w1.heap.size := hs1.lt
  have Hb1 := Lib.hid hb1
  clear hb1
  go_wp2_with fail
  refine (l23Draw_any hs1 (by omega)).mono ?_
  rintro e w2 ⟨⟨u, xs, rfl, ho2, hl2⟩, hs2, hg2⟩
  have hb2 : Below w.heap.size w w2 := grown_below Hb1.out hg2 (Nat.le_refl _) (by omega)
  have hzz : w1.heap.size ≤ w2.heap.size := hg2.size
  have hz2b : w.heap.size ≤ w2.heap.size := hb2.size
  have hsep : ∀ k, u.ownBlock = some k → k < w2.heap.size := fun k hk => (ho2.lt k hk).2
  obtain ⟨ao2, cap2, rfl⟩ := ho2.shape
  have hlit : Own eWorker 49 w2.heap.size (w2.alloc (.cells #[] 49)) (.slice (some ⟨w2.heap.size, 0, none⟩) 0 0) [] :=
    Own.lit (E := eWorker) (xs := []) (cs := #[]) (Nat.le_refl _) rfl rfl (by decide) (fun x hx => by cases hx)
  have hba := hb2.alloc hz2b (.cells #[] 49)
  have hsa := hs2.alloc (.cells #[] 49)
  have hoa := ho2.alloc (.cells #[] 49)
  have Hbl : Hid (w.heap.size < w2.heap.size) := Lib.hid (by omega)
  have Hz12 : Hid (w.heap.size < w1.heap.size ∧ w1.heap.size ≤ w2.heap.size) := Lib.hid ⟨hz1b, hzz⟩
  have Hsep := Lib.hid hsep
  clear hs1 hg2 hb2 hs2 ho2 hsep
  go_wp2_with (first | (at_builtin; refine wpList_appS (E := eWorker) rfl _ _ 24 rfl Tryz.underlying24 hi hz0 hz1 hz2 rfl (by decide) rfl rfl hlit hoa.rds ?b1 ?b2 ?b3 ?_))
  case b1 => unfold maxLen; simp; omega
  case b2 => simp; omega
  case b3 => simp
  intro v' w3 hc hg3
  have hg3' := hg3.1
  have hg3z : w2.heap.size + 1 ≤ w3.heap.size := by have := hg3'.size; simpa using this
  have hs3 := hsa.kept hg3' (fun k hk => by have := (hlit.lt k hk).1; have := Hbl.out; omega)
  have ho3 := hoa.apart hg3' (fun k hk => (hlit.lt k hk).1) Hsep.out
  have hb3 : Below w.heap.size w w3 := hba.grown hg3' (by have := hba.size; exact this) (fun k hk => by have := (hlit.lt k hk).1; have := Hbl.out; omega)
  clear hg3 hg3' hlit hba hsa hoa
  obtain ⟨ao3, cap3, rfl⟩ := hc.shape
  have hz3 : w2.heap.size ≤ w3.heap.size := by have := hg3z; omega
  by_cases h0 : xs.length = 0
  · obtain rfl : xs = [] := List.eq_nil_of_length_eq_zero h0
    clear h0
    go_wp2_with fail
    refine (one_any 5 hs3 (by omega) (by omega)).mono ?_
    rintro e w8 ⟨⟨p, rfl⟩, hs8, hg8, -⟩
    have hz0c : w.heap.size ≤ w3.heap.size := (hb3).size
    have hb8 := grown_below hb3 hg8 (Nat.le_refl _) hz0c
    have ho8 := (ho3).keptS hg8 Hz12.out.1
    have hc8 := (hc).keptS hg8 Hbl.out
    have hz8 : w2.heap.size ≤ w8.heap.size := by have := hg8.size; omega
    clear hs3 ho3 hc hb3 hg8 hs8
    cases p with
    | true =>
      go_wp2_with (first | (at_builtin; go_loud (refine wpList_appS (E := eWorker) rfl _ _ 24 rfl Tryz.underlying24 hi hz0 hz1 hz2 rfl (by decide) rfl rfl (hc8.alloc _) (rds_one (E := eWorker) (x := ⟨⟨#[]⟩, 0, 0⟩) hq0 rfl) ?b1a ?b2a ?b3a ?_)))
      case b1a => unfold maxLen; simp <;> omega
      case b2a => simp <;> omega
      case b3a => simp <;> omega
      intro v9 w9 hc9 hg9
      have hg9' := hg9.alloc.1
      have ho9 := ho8.apart hg9' (fun k hk => (hc8.lt k hk).1) Hsep.out
      have hb9 : Below w.heap.size w w9 := hb8.grown hg9' (by have := hb8.size; exact this) (fun k hk => by have := (hc8.lt k hk).1; have := Hbl.out; omega)
      have hoF := ho9.mono (base' := w.heap.size) (by have := Hz12.out; omega)
      have hcF := hc9.mono (base' := w.heap.size) (by have := Hz12.out; omega)
      clear hg9 hg9' ho9 hc9 ho8 hc8 hb8
      go_wp2
      go_ret2
      exact ⟨⟨_, _, _, _, rfl, hoF, hl2, hcF, by simp <;> omega⟩, hb9⟩
    | false =>
      have hoF := ho8.mono (base' := w.heap.size) (by have := Hz12.out; omega)
      have hcF := hc8.mono (base' := w.heap.size) (by have := Hz12.out; omega)
      clear ho8 hc8
      go_wp2
      go_ret2
      exact ⟨⟨_, _, _, _, rfl, hoF, hl2, hcF, by first | (simp; omega) | omega⟩, hb8⟩
  · have h1 : (0 : Int) < (xs.length : Int) := by omega
    have hf : decide ((0 : Int) < (xs.length : Int)) = true := decide_eq_true h1
    go_wp2_with fail
    refine (one_any 2 hs3 (by omega) (by omega)).mono ?_
    rintro e w4 ⟨⟨q, rfl⟩, hs4, hg4, -⟩
    have hz0d : w.heap.size ≤ w3.heap.size := hb3.size
    have hb4 := grown_below hb3 hg4 (Nat.le_refl _) hz0d
    have ho4 := ho3.keptS hg4 Hz12.out.1
    have hc4 := hc.keptS hg4 Hbl.out
    have hz4 : w2.heap.size ≤ w4.heap.size := Nat.le_trans hz3 hg4.size
    clear hs3 ho3 hc hb3 hg4 hz3
    cases q with
    | false =>
      go_wp2_with fail
      refine (one_any 5 hs4 (by omega) (by omega)).mono ?_
      rintro e w8 ⟨⟨p, rfl⟩, hs8, hg8, -⟩
      have hz0c : w.heap.size ≤ w4.heap.size := (hb4).size
      have hb8 := grown_below hb4 hg8 (Nat.le_refl _) hz0c
      have ho8 := (ho4).keptS hg8 Hz12.out.1
      have hc8 := (hc4).keptS hg8 Hbl.out
      have hz8 : w2.heap.size ≤ w8.heap.size := by have := hg8.size; omega
      clear hs4 ho4 hc4 hb4 hg8 hs8
      cases p with
      | true =>
        go_wp2_with (first | (at_builtin; go_loud (refine wpList_appS (E := eWorker) rfl _ _ 24 rfl Tryz.underlying24 hi hz0 hz1 hz2 rfl (by decide) rfl rfl (hc8.alloc _) (rds_one (E := eWorker) (x := ⟨⟨#[]⟩, 0, 0⟩) hq0 rfl) ?b1b ?b2b ?b3b ?_)))
        case b1b => unfold maxLen; simp <;> omega
        case b2b => simp <;> omega
        case b3b => simp <;> omega
        intro v9 w9 hc9 hg9
        have hg9' := hg9.alloc.1
        have ho9 := ho8.apart hg9' (fun k hk => (hc8.lt k hk).1) Hsep.out
        have hb9 : Below w.heap.size w w9 := hb8.grown hg9' (by have := hb8.size; exact this) (fun k hk => by have := (hc8.lt k hk).1; have := Hbl.out; omega)
        have hoF := ho9.mono (base' := w.heap.size) (by have := Hz12.out; omega)
        have hcF := hc9.mono (base' := w.heap.size) (by have := Hz12.out; omega)
        clear hg9 hg9' ho9 hc9 ho8 hc8 hb8
        go_wp2
        go_ret2
        exact ⟨⟨_, _, _, _, rfl, hoF, hl2, hcF, by simp <;> omega⟩, hb9⟩
      | false =>
        have hoF := ho8.mono (base' := w.heap.size) (by have := Hz12.out; omega)
        have hcF := hc8.mono (base' := w.heap.size) (by have := Hz12.out; omega)
        clear ho8 hc8
        go_wp2
        go_ret2
        exact ⟨⟨_, _, _, _, rfl, hoF, hl2, hcF, by first | (simp; omega) | omega⟩, hb8⟩
    | true =>
      obtain ⟨g, cp, hsh, hbg, hgl⟩ := hc4.addr (by omega)
      obtain ⟨rfl, rfl⟩ : ao3 = some ⟨g, 0, none⟩ ∧ cap3 = cp := by cases hsh; exact ⟨rfl, rfl⟩
      obtain ⟨x, hx⟩ : ∃ x, xs[0]? = some x := ⟨_, List.getElem?_eq_getElem (by omega)⟩
      have hop := eWorker_open hc4.rds
      obtain ⟨bo, bc, hv, hopen⟩ := hop
      cases hv
      obtain ⟨bg, bf, e1, -, hcc⟩ := hopen (by omega)
      cases e1
      obtain ⟨y, hy, ⟨-, c1, -⟩, okx⟩ := hcc 0 (by omega)
      obtain rfl : x = y := Option.some.inj (hx.symm.trans hy)
      obtain ⟨-, f1⟩ := Own.cellE hc4 rfl (k := 0) (j := 1) (by omega) (by decide)
      simp only [show eWorker.sz = 3 from rfl, Nat.zero_mul, Nat.zero_add] at c1 f1
      have HS := Lib.hid hs4
      have HO := Lib.hid ho4
      have HC := Lib.hid hc4
      have HB := Lib.hid hb4
      have Hx := Lib.hid hx
      
      have hoky : ∀ m : Int, eWorker.ok ⟨x.nm, IntKind.i64.wrap (x.rate + m), x.tax⟩ := fun m => by
        have h := okx
        change okWorker _ at h
        unfold okWorker at h
        exact okW_of (by omega) (wrapb _) (by omega)
      have Hoky := Lib.hid hoky
      have Hgz := Lib.hid hgl
      have Hg0 : Hid (w2.heap.size ≤ g) := Lib.hid hbg
      clear hs4 ho4 hc4 hb4 hx hy okx hoky hopen hcc hgl hbg hz4
      go_upto_region 5 with fail
      go_region_law (go_simp; go_at_call 45; with_reducible refine (pick_any 2 HS.out.drew (by omega) (by omega)).mono ?_; rintro e w5 ⟨⟨m, rfl, hm0, hm1, -⟩, hs5, hg5, -⟩; have hgd := grownBy_trans (grownBy_drew w4 (some w.heap.size)) hg5; have hm2 := hm1 (by omega); have ho5 := HO.out.keptS hgd Hz12.out.1; have hc5 := HC.out.keptS hgd Hbl.out; have hgw : w.heap.size < g := (by have := Hg0.out; have := Hbl.out; omega); have hlg : g < w4.heap.size := Hgz.out; have c1' : w5.cell? ⟨g, 1, none⟩ = some (.int .i64 x.rate) := ((World.cell?_of_block (w := w4) (a := ⟨g, 1, none⟩) (hgd.block g hlg (fun e => by have := Option.some.inj e; omega))).trans c1); have f1' : w5.frozen? ⟨g, 1, none⟩ = false := ((World.frozen?_of_block (w := w4) (a := ⟨g, 1, none⟩) (hgd.block g hlg (fun e => by have := Option.some.inj e; omega))).trans f1); have hst := Own.store1 (E := eWorker) (by decide) hc5 rfl (k := 0) (x := x) (y := ⟨x.nm, IntKind.i64.wrap (x.rate + m), x.tax⟩) (v := .int .i64 (IntKind.i64.wrap (x.rate + m))) Hx.out (j := 1) (by decide) rfl (Hoky.out m); simp only [show eWorker.sz = 3 from rfl, Nat.zero_mul, Nat.zero_add] at hst; have HST := Lib.hid hst; have HS5 := Lib.hid hs5; have HO5 := Lib.hid ho5; have HB5 := Lib.hid (grown_below HB.out hgd (Nat.le_refl _) HB.out.size); have Hzz5 := Lib.hid hgd.size; clear hs5 hg5 hgd ho5 hc5 hst hm1)
      · obtain ⟨W, hW⟩ : ∃ W, W = w5.setCell ⟨g, 1, none⟩ (.int .i64 (IntKind.i64.wrap (x.rate + m))) := ⟨_, rfl⟩
        have hstW := HST.out
        have hgE : (Value.slice (some ⟨g, 0, none⟩) xs.length cap3).ownBlock = some g := rfl
        rw [← hW] at hstW ⊢
        have hoW := HO5.out.apart (u := .slice (some ⟨g, 0, none⟩) xs.length cap3) hstW.2 (fun k hk => by have h1 : g = k := Option.some.inj hk; have h2 : w2.heap.size ≤ g := Hg0.out; omega) Hsep.out
        have hsW := HS5.out.kept hstW.2 (fun k hk => by have := Option.some.inj hk; omega)
        have hbW : Below w.heap.size w W := HB5.out.grown hstW.2 HB5.out.size (fun k hk => by have := Option.some.inj hk; omega)
        have hcW := hstW.1
        have hzW : w2.heap.size ≤ W.heap.size := by have := hstW.2.size; have := Hzz5.out; have := Hg0.out; have := Hgz.out; omega
        have hlW : (xs.set 0 ⟨x.nm, IntKind.i64.wrap (x.rate + m), x.tax⟩).length = xs.length := List.length_set
        obtain ⟨ys, hys⟩ : ∃ ys, ys = xs.set 0 ⟨x.nm, IntKind.i64.wrap (x.rate + m), x.tax⟩ := ⟨_, rfl⟩
        rw [← hys] at hcW hlW
        have hl7 : ys.length ≤ 4 := by omega
        clear hstW hW hlW hys c1' f1'
        go_wp2_with fail
        refine (one_any 5 hsW (by omega) (by omega)).mono ?_
        rintro e w8 ⟨⟨p, rfl⟩, hs8, hg8, -⟩
        have hz0c : w.heap.size ≤ W.heap.size := (hbW).size
        have hb8 := grown_below hbW hg8 (Nat.le_refl _) hz0c
        have ho8 := (hoW).keptS hg8 Hz12.out.1
        have hc8 := (hcW).keptS hg8 Hbl.out
        have hz8 : w2.heap.size ≤ w8.heap.size := by have := hg8.size; omega
        clear hsW hoW hcW hbW hg8 hs8
        cases p with
        | true =>
          go_wp2_with (first | (at_builtin; go_loud (refine wpList_appS (E := eWorker) rfl _ _ 24 rfl Tryz.underlying24 hi hz0 hz1 hz2 rfl (by decide) rfl rfl (hc8.alloc _) (rds_one (E := eWorker) (x := ⟨⟨#[]⟩, 0, 0⟩) hq0 rfl) ?b1c ?b2c ?b3c ?_)))
          case b1c => unfold maxLen; simp <;> omega
          case b2c => simp <;> omega
          case b3c => simp <;> omega
          intro v9 w9 hc9 hg9
          have hg9' := hg9.alloc.1
          have ho9 := ho8.apart hg9' (fun k hk => (hc8.lt k hk).1) Hsep.out
          have hb9 : Below w.heap.size w w9 := hb8.grown hg9' (by have := hb8.size; exact this) (fun k hk => by have := (hc8.lt k hk).1; have := Hbl.out; omega)
          have hoF := ho9.mono (base' := w.heap.size) (by have := Hz12.out; omega)
          have hcF := hc9.mono (base' := w.heap.size) (by have := Hz12.out; omega)
          clear hg9 hg9' ho9 hc9 ho8 hc8 hb8
          go_wp2
          go_ret2
          exact ⟨⟨_, _, _, _, rfl, hoF, hl2, hcF, by simp <;> omega⟩, hb9⟩
        | false =>
          have hoF := ho8.mono (base' := w.heap.size) (by have := Hz12.out; omega)
          have hcF := hc8.mono (base' := w.heap.size) (by have := Hz12.out; omega)
          clear ho8 hc8
          go_wp2
          go_ret2
          exact ⟨⟨_, _, _, _, rfl, hoF, hl2, hcF, by first | (simp; omega) | omega⟩, hb8⟩
      · obtain ⟨W, hW⟩ : ∃ W, W = w5.setCell ⟨g, 1, none⟩ (.int .i64 (IntKind.i64.wrap (x.rate + m))) := ⟨_, rfl⟩
        have hstW := HST.out
        have hgE : (Value.slice (some ⟨g, 0, none⟩) xs.length cap3).ownBlock = some g := rfl
        rw [← hW] at hstW ⊢
        have hoW := HO5.out.apart (u := .slice (some ⟨g, 0, none⟩) xs.length cap3) hstW.2 (fun k hk => by have h1 : g = k := Option.some.inj hk; have h2 : w2.heap.size ≤ g := Hg0.out; omega) Hsep.out
        have hsW := HS5.out.kept hstW.2 (fun k hk => by have := Option.some.inj hk; omega)
        have hbW : Below w.heap.size w W := HB5.out.grown hstW.2 HB5.out.size (fun k hk => by have := Option.some.inj hk; omega)
        have hcW := hstW.1
        have hzW : w2.heap.size ≤ W.heap.size := by have := hstW.2.size; have := Hzz5.out; have := Hg0.out; have := Hgz.out; omega
        have hlW : (xs.set 0 ⟨x.nm, IntKind.i64.wrap (x.rate + m), x.tax⟩).length = xs.length := List.length_set
        obtain ⟨ys, hys⟩ : ∃ ys, ys = xs.set 0 ⟨x.nm, IntKind.i64.wrap (x.rate + m), x.tax⟩ := ⟨_, rfl⟩
        rw [← hys] at hcW hlW
        have hl7 : ys.length ≤ 4 := by omega
        clear hstW hW hlW hys c1' f1'
        go_wp2_with fail
        refine (one_any 5 hsW (by omega) (by omega)).mono ?_
        rintro e w8 ⟨⟨p, rfl⟩, hs8, hg8, -⟩
        have hz0c : w.heap.size ≤ W.heap.size := (hbW).size
        have hb8 := grown_below hbW hg8 (Nat.le_refl _) hz0c
        have ho8 := (hoW).keptS hg8 Hz12.out.1
        have hc8 := (hcW).keptS hg8 Hbl.out
        have hz8 : w2.heap.size ≤ w8.heap.size := by have := hg8.size; omega
        clear hsW hoW hcW hbW hg8 hs8
        cases p with
        | true =>
          go_wp2_with (first | (at_builtin; go_loud (refine wpList_appS (E := eWorker) rfl _ _ 24 rfl Tryz.underlying24 hi hz0 hz1 hz2 rfl (by decide) rfl rfl (hc8.alloc _) (rds_one (E := eWorker) (x := ⟨⟨#[]⟩, 0, 0⟩) hq0 rfl) ?b1d ?b2d ?b3d ?_)))
          case b1d => unfold maxLen; simp <;> omega
          case b2d => simp <;> omega
          case b3d => simp <;> omega
          intro v9 w9 hc9 hg9
          have hg9' := hg9.alloc.1
          have ho9 := ho8.apart hg9' (fun k hk => (hc8.lt k hk).1) Hsep.out
          have hb9 : Below w.heap.size w w9 := hb8.grown hg9' (by have := hb8.size; exact this) (fun k hk => by have := (hc8.lt k hk).1; have := Hbl.out; omega)
          have hoF := ho9.mono (base' := w.heap.size) (by have := Hz12.out; omega)
          have hcF := hc9.mono (base' := w.heap.size) (by have := Hz12.out; omega)
          clear hg9 hg9' ho9 hc9 ho8 hc8 hb8
          go_wp2
          go_ret2
          exact ⟨⟨_, _, _, _, rfl, hoF, hl2, hcF, by simp <;> omega⟩, hb9⟩
        | false =>
          have hoF := ho8.mono (base' := w.heap.size) (by have := Hz12.out; omega)
          have hcF := hc8.mono (base' := w.heap.size) (by have := Hz12.out; omega)
          clear ho8 hc8
          go_wp2
          go_ret2
          exact ⟨⟨_, _, _, _, rfl, hoF, hl2, hcF, by first | (simp; omega) | omega⟩, hb8⟩
end Go.Proofs.YtkpcdnbjngpooaaGreatDoor
