/- Workers: the drawing of a bent list. Printed by gpayd.py. No condition. -/
import Derived.Test.YtfhlmkeklmaedaaDoorPayD2
namespace Go.Proofs.YtfhlmkeklmaedaaDoor
open Go.ChangeShapes Go.WideShapes Go.ChangeAt Go.RowKit
set_option linter.unusedVariables false
set_option maxRecDepth 100000
theorem rds_oneP {α : Type} {E : Elt α} {e : TypeId} {w : World} {x : α} {cs : Array Value} {H : Nat} (hH : w.heap.size = H) (hx : E.ok x) (hcs : cs = (E.cells x).toArray) : Rds E (H + 1) (w.alloc (.cells cs e)) (.slice (some ⟨H, 0, none⟩) 1 1) [x] := by
  subst hH; exact rds_one hx hcs
theorem quo26 (n : Nat) : (n : Int).tdiv 26 = ((n / 26 : Nat) : Int) := rfl
theorem rem26 (n : Nat) : (n : Int).tmod 26 = ((n % 26 : Nat) : Int) := rfl
set_option maxHeartbeats 2000000 in
theorem l23Bent_any {w : World} {b N : Nat} (hs : Src w b N) (hN : N ≤ 100000) :
    Calls Tryd.prog 35 #[.pointer (some ⟨b, 0, none⟩)] w fun e w' => DrawnW w.heap.size 31 e w' ∧ Src w' b (N + 600) ∧ w.grownBy w' (some b) := by
  obtain ⟨i0, hi, hz0, hz1, hz2⟩ := info_parts Tryd.infoWorker
  have hbl := hs.lt
  go_enter Tryd.func35, Tryd.ntmps35
  go_wp2_with fail
  refine (l23Draw_any hs (by omega)).mono ?_
  rintro e w1 ⟨⟨u1, x1, rfl, ho1, hl1⟩, hs1, hg1⟩
  go_wp2_with fail
  refine (one_any 24 hs1 (by omega) (by omega)).mono ?_
  rintro e w2 ⟨⟨q, rfl⟩, hs2, hg2, -⟩
  have ho2 := ho1.keptS hg2 hbl
  have hg2' := grownBy_trans hg1 hg2
  have hz2' : w.heap.size ≤ w2.heap.size := hg2'.size
  clear hg1 hg2 ho1 hs1
  cases q with
  | true =>
    have hlit : Own eWorker 29 w.heap.size (w2.alloc (.cells #[] 29)) (.slice (some ⟨w2.heap.size, 0, none⟩) 0 0) [] :=
      Own.lit (E := eWorker) (xs := []) (cs := #[]) hz2' rfl rfl (by decide) (fun x hx => by cases hx)
    go_wp2_with fail
    refine (pick_any 2 (hs2.alloc _) (by omega) (by omega)).mono ?_
    rintro e w3 ⟨⟨r, rfl, hr0, hr1, _⟩, hs3, hg3, -⟩
    have hr2 := hr1 (by omega)
    have ho3 := hlit.keptS hg3 hbl
    have hg3' := grownBy_trans hg2' (grownBy_trans (World.grownBy_alloc _ _ _) hg3)
    clear hr1 hg3 hlit ho2 hg2' hs2
    go_wp2_with fail
    go_loopw [3, 4] (fun v k wr => ∃ (kk : Int) (xs : List WorkerT), 0 ≤ kk ∧ kk + xs.length ≤ 31 ∧ 30 ≤ kk + xs.length ∧ k = .int .i64 kk ∧ Own eWorker 29 w.heap.size wr v xs ∧ Src wr b (N + 200 + 4 + 2 * xs.length) ∧ w.grownBy wr (some b)) (fun _ k _ => (intOf k).toNat)
    case atStart => exact ⟨30 + r, [], by omega, by simp; omega, by simp; omega, rfl, ho3, hs3.mono (by simp), hg3'⟩
    case round =>
      obtain ⟨kk, xs, hk0, hkj, hkl, rfl, hown, hsr, hgr⟩ := hrel
      clear ho3 hs3 hg3'
      have hsz : w.heap.size ≤ wr.heap.size := hgr.size
      obtain ⟨ao, cap, rfl⟩ := hown.shape
      by_cases hk : 0 < kk
      · have hxl8 : xs.length ≤ 31 := by omega
        have hlw : b < wr.heap.size := by omega
        have hd1 : xs.length / 26 ≤ 1 := by omega
        have hd2 : xs.length % 26 < 26 := by omega
        obtain ⟨s0, hs0, hconv⟩ := conv_byte2 (n := 97 + ((xs.length / 26 : Nat) : Int)) (m := 97 + ((xs.length % 26 : Nat) : Int)) (by omega) (by omega)
        have hw1 : IntKind.i64.wrap (97 + ((xs.length / 26 : Nat) : Int)) = 97 + ((xs.length / 26 : Nat) : Int) := IntWalk.i64_in _ (by omega)
        have hw2 : IntKind.u8.wrap (97 + ((xs.length / 26 : Nat) : Int)) = 97 + ((xs.length / 26 : Nat) : Int) := by rw [IntKind.wrap_u8]; omega
        have hw3 : IntKind.i64.wrap (97 + ((xs.length % 26 : Nat) : Int)) = 97 + ((xs.length % 26 : Nat) : Int) := IntWalk.i64_in _ (by omega)
        have hw4 : IntKind.u8.wrap (97 + ((xs.length % 26 : Nat) : Int)) = 97 + ((xs.length % 26 : Nat) : Int) := by rw [IntKind.wrap_u8]; omega
        have hq26 := quo26 xs.length
        have hr26 := rem26 xs.length
        have hok1 : okWorker ⟨({ data := #[119] } : ByteArray) ++ s0, 500, 0⟩ := okW_of (by rw [ByteArray.size_append, hs0]; decide) (by decide) (by decide)
        go_wp2_with (first | (at_builtin; refine wpList_appS (E := eWorker) rfl _ _ 64 rfl Tryd.underlying64 hi hz0 hz1 hz2 rfl (by decide) rfl rfl ((hown.alloc _).alloc _) (rds_oneP (E := eWorker) (x := ⟨({ data := #[119] } : ByteArray) ++ s0, 500, 0⟩) (H := wr.heap.size + 1) (by simp) hok1 rfl) ?b1 ?b2 ?b3 ?_))
        case b1 => unfold maxLen; simp; omega
        case b2 => simp; omega
        case b3 => simp; omega
        intro v' w3 hown3 hg3
        have hg3' := hg3.alloc.alloc.1
        have hs3 := hsr.kept hg3' (fun k hk => by have := (hown.lt k hk).1; omega)
        have hg4 := grown_own hgr hg3' (fun k hk => (hown.lt k hk).1)
        clear hg3 hg3' hgr hsr hown hconv hw1 hw2 hw3 hw4
        go_wp2
        go_roundw
        case rel => exact ⟨kk - 1, _, by omega, by simp; omega, by simp; omega, by go_num, hown3, hs3.mono (by simp only [List.length_append, List.length_cons, List.length_nil]; omega), hg4⟩
        case measure => simp [intOf]; omega
      · have hkk0 : kk = 0 := by omega
        subst hkk0
        have hsr : Src wr b (N + 300) := hsr.mono (by omega)
        have hlen : xs.length ≤ 31 := by omega
        generalize Value.slice ao xs.length cap = v at hown ⊢
        by_cases h0 : xs.length = 0
        · obtain rfl : xs = [] := List.eq_nil_of_length_eq_zero h0
          obtain ⟨ao, cap, hsh⟩ := hown.shape
          subst hsh
          have Hown := Lib.hid hown
          clear hown h0
          go_wp2
          go_ret
          exact ⟨⟨_, [], rfl, Hown.out, by decide⟩, hsr.mono (by omega), hgr⟩
        obtain ⟨g, cap, hsh, hbg, hgl⟩ := hown.addr (by omega)
        obtain ⟨n, hn⟩ : ∃ n, n = xs.length := ⟨_, rfl⟩
        have hn1 : 1 ≤ n ∧ n ≤ 31 := by omega
        have hne0 : ((n : Int) == 0) = false := by simp; omega
        rw [← hn] at hsh
        subst hsh
        have Hn := Lib.hid hn
        have Hown := Lib.hid hown
        have hszr : w.heap.size ≤ wr.heap.size := hgr.size
        clear hown h0 hn
        go_wp2_with fail
        refine (pick_any (n : Int) hsr (by omega) (by omega)).mono ?_
        rintro e w5 ⟨⟨k0, rfl, hk00, hk01, _⟩, hs5, hg5, -⟩
        have hk02 := hk01 (by omega)
        obtain ⟨k, rfl⟩ := Int.eq_ofNat_of_zero_le hk00
        have hkn : k < n := by omega
        have hown5 := Hown.out.keptS hg5 hbl
        have hg5' := grownBy_trans hgr hg5
        clear hk01 hg5 hgr hsr Hown
        go_wp2_with fail
        refine (pick_any 20 hs5 (by omega) (by omega)).mono ?_
        rintro e w6 ⟨⟨q6, rfl, hq60, hq61, _⟩, hs6, hg6, -⟩
        have hown6 := hown5.keptS hg6 hbl
        have hg6' := grownBy_trans hg5' hg6
        have hsz6 : w.heap.size ≤ w6.heap.size := hg6'.size
        have hgl6 : g < w6.heap.size := (hown6.lt g rfl).2
        clear hq61 hg6 hg5' hs5 hown5
        by_cases q0 : q6 = 0
        · subst q0
          go_wp2_with fail
          refine (text_any (nb := w6.heap.size) (n := 3) (hs6.alloc _) (by omega) (StrAt.new ?hst) (by omega) (by omega)).mono ?_
          case hst =>
            intro k hk
            obtain rfl | rfl | rfl : k = 0 ∨ k = 1 ∨ k = 2 := by omega
            all_goals exact ⟨_, rfl, by decide⟩
          rintro e w7 ⟨⟨s7, rfl, hss7⟩, hs7, hg7⟩
          have hown7 := Own.keptS (hown6.alloc _) hg7 hbl
          have hg7' := grownBy_trans hg6' (grownBy_trans (World.grownBy_alloc _ _ _) hg7)
          obtain ⟨x, hx⟩ : ∃ x, xs[k]? = some x := ⟨_, List.getElem?_eq_getElem (by have := Hn.out; omega)⟩
          have hxok := hown7.2 x (List.mem_of_getElem? hx)
          obtain ⟨⟨c0, hc0⟩, hf0⟩ := Own.cellE hown7 Hn.out (k := k) (j := 0) hkn (by decide)
          have hst := Own.store1 (E := eWorker) (by decide) hown7 Hn.out (x := x) (y := ⟨s7, x.rate, x.tax⟩) (v := .string s7) hx (j := 0) (by decide) rfl (by show okWorker _; have h := hxok; change okWorker _ at h; unfold okWorker at h ⊢; simp only at h ⊢; omega)
          simp only [show eWorker.sz = 3 from rfl, Nat.add_zero] at hc0 hf0 hst
          have Hst := Lib.hid hst
          have Hs7 := Lib.hid hs7
          have Hg7 := Lib.hid hg7'
          clear hst hs7 hg7' hg7 hown7 hown6 hs6 hg6' hx hxok hss7
          go_wp2
          go_ret
          exact ⟨⟨_, _, rfl, Hst.out.1, by rw [List.length_set]; have := Hn.out; omega⟩, (Hs7.out.kept Hst.out.2 (fun k hk => by have := Option.some.inj hk; omega)).mono (by omega), grown_own Hg7.out Hst.out.2 (fun k hk => by have := Option.some.inj hk; omega)⟩
        by_cases q1 : q6 = 1
        · subst q1
          clear q0
          go_wp2_with fail
          with_reducible refine Calls.mono (amongL [0, 1, 10000, 10001, -9223372036854775808] hs6 (by omega) ?hcs ?hn (by decide) (by decide)) ?_
          case hcs => rfl
          case hn => rfl
          rintro e w7 ⟨⟨s7, rfl, hss7⟩, hs7, hg7⟩
          have hsb : -9223372036854775808 ≤ s7 ∧ s7 ≤ 9223372036854775807 := by simp at hss7; omega
          have hown7 := Own.keptS hown6 hg7 hbl
          have hg7' := grownBy_trans hg6' hg7
          obtain ⟨x, hx⟩ : ∃ x, xs[k]? = some x := ⟨_, List.getElem?_eq_getElem (by have := Hn.out; omega)⟩
          have hxok := hown7.2 x (List.mem_of_getElem? hx)
          obtain ⟨⟨c0, hc0⟩, hf0⟩ := Own.cellE hown7 Hn.out (k := k) (j := 1) hkn (by decide)
          have hst := Own.store1 (E := eWorker) (by decide) hown7 Hn.out (x := x) (y := ⟨x.nm, s7, x.tax⟩) (v := .int .i64 s7) hx (j := 1) (by decide) rfl (by show okWorker _; have h := hxok; change okWorker _ at h; unfold okWorker at h ⊢; simp only at h ⊢; omega)
          simp only [show eWorker.sz = 3 from rfl, Nat.add_zero] at hc0 hf0 hst
          have Hst := Lib.hid hst
          have Hs7 := Lib.hid hs7
          have Hg7 := Lib.hid hg7'
          clear hst hs7 hg7' hg7 hown7 hown6 hs6 hg6' hx hxok hss7
          go_wp2
          go_ret
          exact ⟨⟨_, _, rfl, Hst.out.1, by rw [List.length_set]; have := Hn.out; omega⟩, (Hs7.out.kept Hst.out.2 (fun k hk => by have := Option.some.inj hk; omega)).mono (by omega), grown_own Hg7.out Hst.out.2 (fun k hk => by have := Option.some.inj hk; omega)⟩
        by_cases q2 : q6 = 2
        · subst q2
          clear q0 q1
          go_wp2_with fail
          with_reducible refine Calls.mono (amongL [-1, 0, 60, 61] hs6 (by omega) ?hcs ?hn (by decide) (by decide)) ?_
          case hcs => rfl
          case hn => rfl
          rintro e w7 ⟨⟨s7, rfl, hss7⟩, hs7, hg7⟩
          have hsb : -9223372036854775808 ≤ s7 ∧ s7 ≤ 9223372036854775807 := by simp at hss7; omega
          have hown7 := Own.keptS hown6 hg7 hbl
          have hg7' := grownBy_trans hg6' hg7
          obtain ⟨x, hx⟩ : ∃ x, xs[k]? = some x := ⟨_, List.getElem?_eq_getElem (by have := Hn.out; omega)⟩
          have hxok := hown7.2 x (List.mem_of_getElem? hx)
          obtain ⟨⟨c0, hc0⟩, hf0⟩ := Own.cellE hown7 Hn.out (k := k) (j := 2) hkn (by decide)
          have hst := Own.store1 (E := eWorker) (by decide) hown7 Hn.out (x := x) (y := ⟨x.nm, x.rate, s7⟩) (v := .int .i64 s7) hx (j := 2) (by decide) rfl (by show okWorker _; have h := hxok; change okWorker _ at h; unfold okWorker at h ⊢; simp only at h ⊢; omega)
          simp only [show eWorker.sz = 3 from rfl, Nat.add_zero] at hc0 hf0 hst
          have Hst := Lib.hid hst
          have Hs7 := Lib.hid hs7
          have Hg7 := Lib.hid hg7'
          clear hst hs7 hg7' hg7 hown7 hown6 hs6 hg6' hx hxok hss7
          go_wp2
          go_ret
          exact ⟨⟨_, _, rfl, Hst.out.1, by rw [List.length_set]; have := Hn.out; omega⟩, (Hs7.out.kept Hst.out.2 (fun k hk => by have := Option.some.inj hk; omega)).mono (by omega), grown_own Hg7.out Hst.out.2 (fun k hk => by have := Option.some.inj hk; omega)⟩
        have e0 : (q6 == 0) = false := by simpa using q0
        have e1 : (q6 == 1) = false := by simpa using q1
        have e2 : (q6 == 2) = false := by simpa using q2
        have Hown6 := Lib.hid hown6
        have Hs6 := Lib.hid hs6
        have Hg6 := Lib.hid hg6'
        clear q0 q1 q2 hown6 hs6 hg6'
        go_wp2
        go_ret
        exact ⟨⟨_, xs, rfl, Hown6.out, by have := Hn.out; omega⟩, Hs6.out.mono (by omega), Hg6.out⟩
  | false =>
    have hsr : Src w2 b (N + 300) := hs2.mono (by omega)
    have hown := ho2
    have hgr := hg2'
    obtain ⟨xs, hxs⟩ : ∃ xs, xs = x1 := ⟨_, rfl⟩
    rw [← hxs] at hown hl1
    have hlen : xs.length ≤ 31 := by omega
    clear ho2 hs2 hg2' hxs
    by_cases h0 : xs.length = 0
    · obtain rfl : xs = [] := List.eq_nil_of_length_eq_zero h0
      obtain ⟨ao, cap, hsh⟩ := hown.shape
      subst hsh
      have Hown := Lib.hid hown
      clear hown h0
      go_wp2
      go_ret
      exact ⟨⟨_, [], rfl, Hown.out, by decide⟩, hsr.mono (by omega), hgr⟩
    obtain ⟨g, cap, hsh, hbg, hgl⟩ := hown.addr (by omega)
    obtain ⟨n, hn⟩ : ∃ n, n = xs.length := ⟨_, rfl⟩
    have hn1 : 1 ≤ n ∧ n ≤ 31 := by omega
    have hne0 : ((n : Int) == 0) = false := by simp; omega
    rw [← hn] at hsh
    subst hsh
    have Hn := Lib.hid hn
    have Hown := Lib.hid hown
    have hszr : w.heap.size ≤ w2.heap.size := hgr.size
    clear hown h0 hn
    go_wp2_with fail
    refine (pick_any (n : Int) hsr (by omega) (by omega)).mono ?_
    rintro e w5 ⟨⟨k0, rfl, hk00, hk01, _⟩, hs5, hg5, -⟩
    have hk02 := hk01 (by omega)
    obtain ⟨k, rfl⟩ := Int.eq_ofNat_of_zero_le hk00
    have hkn : k < n := by omega
    have hown5 := Hown.out.keptS hg5 hbl
    have hg5' := grownBy_trans hgr hg5
    clear hk01 hg5 hgr hsr Hown
    go_wp2_with fail
    refine (pick_any 20 hs5 (by omega) (by omega)).mono ?_
    rintro e w6 ⟨⟨q6, rfl, hq60, hq61, _⟩, hs6, hg6, -⟩
    have hown6 := hown5.keptS hg6 hbl
    have hg6' := grownBy_trans hg5' hg6
    have hsz6 : w.heap.size ≤ w6.heap.size := hg6'.size
    have hgl6 : g < w6.heap.size := (hown6.lt g rfl).2
    clear hq61 hg6 hg5' hs5 hown5
    by_cases q0 : q6 = 0
    · subst q0
      go_wp2_with fail
      refine (text_any (nb := w6.heap.size) (n := 3) (hs6.alloc _) (by omega) (StrAt.new ?hst) (by omega) (by omega)).mono ?_
      case hst =>
        intro k hk
        obtain rfl | rfl | rfl : k = 0 ∨ k = 1 ∨ k = 2 := by omega
        all_goals exact ⟨_, rfl, by decide⟩
      rintro e w7 ⟨⟨s7, rfl, hss7⟩, hs7, hg7⟩
      have hown7 := Own.keptS (hown6.alloc _) hg7 hbl
      have hg7' := grownBy_trans hg6' (grownBy_trans (World.grownBy_alloc _ _ _) hg7)
      obtain ⟨x, hx⟩ : ∃ x, xs[k]? = some x := ⟨_, List.getElem?_eq_getElem (by have := Hn.out; omega)⟩
      have hxok := hown7.2 x (List.mem_of_getElem? hx)
      obtain ⟨⟨c0, hc0⟩, hf0⟩ := Own.cellE hown7 Hn.out (k := k) (j := 0) hkn (by decide)
      have hst := Own.store1 (E := eWorker) (by decide) hown7 Hn.out (x := x) (y := ⟨s7, x.rate, x.tax⟩) (v := .string s7) hx (j := 0) (by decide) rfl (by show okWorker _; have h := hxok; change okWorker _ at h; unfold okWorker at h ⊢; simp only at h ⊢; omega)
      simp only [show eWorker.sz = 3 from rfl, Nat.add_zero] at hc0 hf0 hst
      have Hst := Lib.hid hst
      have Hs7 := Lib.hid hs7
      have Hg7 := Lib.hid hg7'
      clear hst hs7 hg7' hg7 hown7 hown6 hs6 hg6' hx hxok hss7
      go_wp2
      go_ret
      exact ⟨⟨_, _, rfl, Hst.out.1, by rw [List.length_set]; have := Hn.out; omega⟩, (Hs7.out.kept Hst.out.2 (fun k hk => by have := Option.some.inj hk; omega)).mono (by omega), grown_own Hg7.out Hst.out.2 (fun k hk => by have := Option.some.inj hk; omega)⟩
    by_cases q1 : q6 = 1
    · subst q1
      clear q0
      go_wp2_with fail
      with_reducible refine Calls.mono (amongL [0, 1, 10000, 10001, -9223372036854775808] hs6 (by omega) ?hcs ?hn (by decide) (by decide)) ?_
      case hcs => rfl
      case hn => rfl
      rintro e w7 ⟨⟨s7, rfl, hss7⟩, hs7, hg7⟩
      have hsb : -9223372036854775808 ≤ s7 ∧ s7 ≤ 9223372036854775807 := by simp at hss7; omega
      have hown7 := Own.keptS hown6 hg7 hbl
      have hg7' := grownBy_trans hg6' hg7
      obtain ⟨x, hx⟩ : ∃ x, xs[k]? = some x := ⟨_, List.getElem?_eq_getElem (by have := Hn.out; omega)⟩
      have hxok := hown7.2 x (List.mem_of_getElem? hx)
      obtain ⟨⟨c0, hc0⟩, hf0⟩ := Own.cellE hown7 Hn.out (k := k) (j := 1) hkn (by decide)
      have hst := Own.store1 (E := eWorker) (by decide) hown7 Hn.out (x := x) (y := ⟨x.nm, s7, x.tax⟩) (v := .int .i64 s7) hx (j := 1) (by decide) rfl (by show okWorker _; have h := hxok; change okWorker _ at h; unfold okWorker at h ⊢; simp only at h ⊢; omega)
      simp only [show eWorker.sz = 3 from rfl, Nat.add_zero] at hc0 hf0 hst
      have Hst := Lib.hid hst
      have Hs7 := Lib.hid hs7
      have Hg7 := Lib.hid hg7'
      clear hst hs7 hg7' hg7 hown7 hown6 hs6 hg6' hx hxok hss7
      go_wp2
      go_ret
      exact ⟨⟨_, _, rfl, Hst.out.1, by rw [List.length_set]; have := Hn.out; omega⟩, (Hs7.out.kept Hst.out.2 (fun k hk => by have := Option.some.inj hk; omega)).mono (by omega), grown_own Hg7.out Hst.out.2 (fun k hk => by have := Option.some.inj hk; omega)⟩
    by_cases q2 : q6 = 2
    · subst q2
      clear q0 q1
      go_wp2_with fail
      with_reducible refine Calls.mono (amongL [-1, 0, 60, 61] hs6 (by omega) ?hcs ?hn (by decide) (by decide)) ?_
      case hcs => rfl
      case hn => rfl
      rintro e w7 ⟨⟨s7, rfl, hss7⟩, hs7, hg7⟩
      have hsb : -9223372036854775808 ≤ s7 ∧ s7 ≤ 9223372036854775807 := by simp at hss7; omega
      have hown7 := Own.keptS hown6 hg7 hbl
      have hg7' := grownBy_trans hg6' hg7
      obtain ⟨x, hx⟩ : ∃ x, xs[k]? = some x := ⟨_, List.getElem?_eq_getElem (by have := Hn.out; omega)⟩
      have hxok := hown7.2 x (List.mem_of_getElem? hx)
      obtain ⟨⟨c0, hc0⟩, hf0⟩ := Own.cellE hown7 Hn.out (k := k) (j := 2) hkn (by decide)
      have hst := Own.store1 (E := eWorker) (by decide) hown7 Hn.out (x := x) (y := ⟨x.nm, x.rate, s7⟩) (v := .int .i64 s7) hx (j := 2) (by decide) rfl (by show okWorker _; have h := hxok; change okWorker _ at h; unfold okWorker at h ⊢; simp only at h ⊢; omega)
      simp only [show eWorker.sz = 3 from rfl, Nat.add_zero] at hc0 hf0 hst
      have Hst := Lib.hid hst
      have Hs7 := Lib.hid hs7
      have Hg7 := Lib.hid hg7'
      clear hst hs7 hg7' hg7 hown7 hown6 hs6 hg6' hx hxok hss7
      go_wp2
      go_ret
      exact ⟨⟨_, _, rfl, Hst.out.1, by rw [List.length_set]; have := Hn.out; omega⟩, (Hs7.out.kept Hst.out.2 (fun k hk => by have := Option.some.inj hk; omega)).mono (by omega), grown_own Hg7.out Hst.out.2 (fun k hk => by have := Option.some.inj hk; omega)⟩
    have e0 : (q6 == 0) = false := by simpa using q0
    have e1 : (q6 == 1) = false := by simpa using q1
    have e2 : (q6 == 2) = false := by simpa using q2
    have Hown6 := Lib.hid hown6
    have Hs6 := Lib.hid hs6
    have Hg6 := Lib.hid hg6'
    clear q0 q1 q2 hown6 hs6 hg6'
    go_wp2
    go_ret
    exact ⟨⟨_, xs, rfl, Hown6.out, by have := Hn.out; omega⟩, Hs6.out.mono (by omega), Hg6.out⟩
end Go.Proofs.YtfhlmkeklmaedaaDoor
