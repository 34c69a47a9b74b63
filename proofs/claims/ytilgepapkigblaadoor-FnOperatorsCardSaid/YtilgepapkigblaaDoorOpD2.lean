/- Operators and posts: the drawing of inputs, on. No condition. -/
import Derived.Test.YtilgepapkigblaaDoorOpD
import Derived.Deep.RegionLaw
import Derived.Laws.IdiomStrings
namespace Go.Proofs.YtilgepapkigblaaDoor
open Go.ChangeShapes Go.WideShapes Go.ChangeAt Go.RowKit
set_option linter.unusedVariables false
set_option maxRecDepth 100000
theorem step_appS {α : Type} {E : Elt α} {P : Program} {ops : Array Oper} {o : Oper} {a : Act} {K : Act → World → Prop} {Q : Exit → Act → World → Prop} {F : Prop} {w : World} (hgd : o.guard = none) (s x : Operand) (t : TypeId)
    (ho : o.op = .call { callee := .builtin .append, args := #[s, x], argTypes := #[t, t] })
    {base : Nat} {e : TypeId} {i : TypeInfo} {z : Value} {bytes B : Nat} (ht : P.underlying t = some (.slice e)) (hi : P.info? e = some i) (hz : i.zero = some z)
    (hsize : i.size = E.sz) (hby : i.bytes = bytes) (hzs : z.cells.size = E.sz) (hsz : 0 < E.sz) {v u : Value} {xs ys : List α} (hs : a.eval s = v) (hx : a.eval x = u) (hown : Own E e base w v xs) (hu : Rds E B w u ys)
    (h63 : xs.length + ys.length ≤ maxLen) (hbytes : (xs.length + ys.length) * bytes ≤ 140737488355328) (hbase : base ≤ w.heap.size)
    (h : ∀ v' w', Own E e base w' v' (xs ++ ys) → Grew w w' v v' → K (a.put o.dst v') w') :
    if Region.wanted o (yielded ops a.tmps) = true then Oper.wp P o a w K Q else F := by
  have hw : Region.wanted o (yielded ops a.tmps) = true := by simp [Region.wanted, hgd]
  rw [if_pos hw]
  obtain ⟨v', w', hr, h2, h3⟩ := run_appS (P := P) (ty := o.type) ht hi hz hsize hby hzs hsz hown hu h63 hbytes hbase
  unfold Oper.wp execOp
  simp only [ho, resolve, invoke, builtin, Sem.run_bind, Sem.run_pure, Result.andThen_ok, List.map_toArray, List.map_cons, List.map_nil, hs, hx, hr]
  exact h v' w' h2 h3
theorem conv_byte {n : Int} (hn : 0 ≤ n ∧ n ≤ 255) : ∃ s0 : ByteArray, s0.size = 1 ∧ ∀ (W : World) (k : Nat), W.cell? ⟨k, 0, none⟩ = some (.int .u8 n) → (convert 28 9 (.slice (some ⟨k, 0, none⟩) 1 1)).run Tryd.prog W = .ok (.string s0) W := by
  refine ⟨⟨[UInt8.ofNat n.toNat].toArray⟩, rfl, fun W k h => ?_⟩
  refine run_convert_bytes_back W 28 9 5 ⟨k, 0, none⟩ 1 [UInt8.ofNat n.toNat] Tryd.underlying28 Tryd.underlying5 Tryd.underlying9 (fun j hj => ?_)
  have hj0 : j = 0 := by simpa using hj
  subst hj0
  rw [Addr.add_lit, Nat.add_zero, h]
  congr 2
  show n = ((UInt8.ofNat n.toNat).toNat : Int)
  simp
  omega
theorem wrapb (n : Int) : -9223372036854775808 ≤ IntKind.i64.wrap n ∧ IntKind.i64.wrap n ≤ 9223372036854775807 := by rw [IntKind.wrap_i64]; omega
theorem cell_beside {w w2 : World} {b : Nat} {v : Value} {T : TypeId} (hg : (w.alloc (.cells #[v] T)).drew.grownBy w2 (some b)) (hb : b < w.heap.size) : w2.cell? ⟨w.heap.size, 0, none⟩ = some v := by
  rw [World.cell?_of_block (w := (w.alloc (.cells #[v] T)).drew) (a := ⟨w.heap.size, 0, none⟩) (hg.block w.heap.size (by show w.heap.size < (w.alloc (.cells #[v] T)).heap.size; simp) (fun h => by have := Option.some.inj h; omega))]
  show (w.alloc (.cells #[v] T)).cell? ⟨w.heap.size, 0, none⟩ = some v
  rw [cell_of_row _ w.heap.size 0 _ _ _ (heap_alloc_new w _)]; rfl
theorem grownBy_drew (w : World) (row : Option Nat) : w.grownBy w.drew row := ⟨rfl, rfl, rfl, Nat.le_refl _, fun _ _ _ => rfl⟩
theorem Own.drew {α : Type} {E : Elt α} {e : TypeId} {base : Nat} {w : World} {v : Value} {xs : List α} (h : Own E e base w v xs) : Own E e base w.drew v xs := h
theorem Src.drew {w : World} {b N : Nat} (h : Src w b N) : Src w.drew b N := h.kept (grownBy_drew w none) (fun k hk => by cases hk)
theorem rds_one' {α : Type} {E : Elt α} {e : TypeId} {w : World} {x : α} {cs : Array Value} {H : Nat} (hH : w.heap.size = H) (hx : E.ok x) (hcs : cs = (E.cells x).toArray) : Rds E (H + 1) (w.alloc (.cells cs e)) (.slice (some ⟨H, 0, none⟩) 1 1) [x] := by
  subst hH; exact rds_one hx hcs
theorem text_any {w : World} {b N nb n : Nat} (hs : Src w b N) (hN : N ≤ 1000000) (hst : StrAt w nb n) (hne : nb ≠ b) (hn : 1 ≤ n ∧ n ≤ 100) :
    Calls Tryd.prog 64 #[.pointer (some ⟨b, 0, none⟩), .slice (some ⟨nb, 0, none⟩) n n] w fun e w' => (∃ s : ByteArray, e = .returned (.string s) ∧ s.size ≤ 100) ∧ Src w' b (N + 2) ∧ w.grownBy w' (some b) := by
  go_enter Tryd.func64, Tryd.ntmps64
  go_wp2_with fail
  refine (pick_any (n : Int) hs (by omega) (by omega)).mono ?_
  rintro e w1 ⟨⟨r, rfl, hr0, hr1, _⟩, hs1, hg1, hz1⟩
  have hr2 := hr1 (by omega)
  obtain ⟨k, rfl⟩ := Int.eq_ofNat_of_zero_le hr0
  obtain ⟨s, hcs, hss⟩ := (hst.grown hg1 (fun h => hne (Option.some.inj h))).2 k (by omega)
  have Hs1 := Lib.hid hs1
  have Hg1 := Lib.hid hg1
  have Hss := Lib.hid hss
  clear hr1 hz1 hs1 hg1 hst hss
  go_wp2
  go_ret
  exact ⟨⟨_, rfl, Hss.out⟩, Hs1.out.mono (by omega), Hg1.out⟩
set_option maxHeartbeats 1000000 in
theorem l22Bent_any {w : World} {b N : Nat} (hs : Src w b N) (hN : N ≤ 100000) :
    Calls Tryd.prog 40 #[.pointer (some ⟨b, 0, none⟩)] w fun e w' => DrawnO w.heap.size 9 e w' ∧ Src w' b (N + 400) ∧ w.grownBy w' (some b) := by
  obtain ⟨i0, hi, hz0, hz1, hz2⟩ := info_parts Tryd.infoOperator
  have hbl := hs.lt
  go_enter Tryd.func40, Tryd.ntmps40
  go_wp2_with fail
  refine (l22Draw_any hs (by omega)).mono ?_
  rintro e w1 ⟨⟨u1, x1, rfl, ho1, hl1⟩, hs1, hg1⟩
  go_wp2_with fail
  refine (one_any 24 hs1 (by omega) (by omega)).mono ?_
  rintro e w2 ⟨⟨q, rfl⟩, hs2, hg2, hz2⟩
  have ho2 := ho1.keptS hg2 hbl
  have hg2' := grownBy_trans hg1 hg2
  have hz2' : w.heap.size ≤ w2.heap.size := hg2'.size
  clear hg1 hg2 ho1 hs1 hz2
  cases q with
  | true =>
    have hlit : Own eOperator 50 w.heap.size (w2.alloc (.cells #[] 50)) (.slice (some ⟨w2.heap.size, 0, none⟩) 0 0) [] :=
      Own.lit (E := eOperator) (xs := []) (cs := #[]) hz2' rfl rfl (by decide) (fun x hx => by cases hx)
    go_wp2_with fail
    refine (pick_any 2 (hs2.alloc _) (by omega) (by omega)).mono ?_
    rintro e w3 ⟨⟨r, rfl, hr0, hr1, _⟩, hs3, hg3, hz3⟩
    have hr2 := hr1 (by omega)
    have ho3 := hlit.keptS hg3 hbl
    have hg3' := grownBy_trans hg2' (grownBy_trans (World.grownBy_alloc _ _ _) hg3)
    clear hr1 hz3 hg3 hlit ho2 hg2' hs2
    go_wp2_with fail
    go_loopw [3, 4] (fun v k wr => ∃ (kk : Int) (xs : List OperatorT), 0 ≤ kk ∧ kk + xs.length ≤ 9 ∧ 8 ≤ kk + xs.length ∧ k = .int .i64 kk ∧ Own eOperator 50 w.heap.size wr v xs ∧ Src wr b (N + 200 + 4 + 2 * xs.length) ∧ w.grownBy wr (some b)) (fun _ k _ => (intOf k).toNat)
    case atStart => exact ⟨8 + r, [], by omega, by simp; omega, by simp; omega, rfl, ho3, hs3.mono (by simp), hg3'⟩
    case round =>
      obtain ⟨kk, xs, hk0, hkj, hkl, rfl, hown, hsr, hgr⟩ := hrel
      clear ho3 hs3 hg3'
      have hsz : w.heap.size ≤ wr.heap.size := hgr.size
      obtain ⟨ao, cap, rfl⟩ := hown.shape
      by_cases hk : 0 < kk
      · have hxl8 : xs.length ≤ 9 := by omega
        have hlw : b < wr.heap.size := by omega
        have hw1 : IntKind.i64.wrap (97 + (xs.length : Int)) = 97 + (xs.length : Int) := IntWalk.i64_in _ (by omega)
        have hw2 : IntKind.u8.wrap (97 + (xs.length : Int)) = 97 + (xs.length : Int) := by rw [IntKind.wrap_u8]; omega
        obtain ⟨s0, hs0, hconv⟩ := conv_byte (n := 97 + (xs.length : Int)) (by omega)
        go_wp2_with fail
        go_region_law (first | (refine step_appS (E := eOperator) rfl _ _ 22 (by rfl) Tryd.underlying22 hi hz0 hz1 hz2 rfl (by decide) (by rfl) (by rfl) (by first | exact f1.1.alloc _ | exact (f1.1.alloc _).alloc _) (rds_one' (E := eOperator) (x := ⟨_, _⟩) (by simp) ⟨by show (({ data := #[111] } : ByteArray) ++ s0).size ≤ _; rw [ByteArray.size_append, hs0]; decide, (wrapb _).1, (wrapb _).2⟩ rfl) (by unfold maxLen; simp; omega) (by simp; omega) (by have := f1.2.2.1; simp; omega) ?_; intro v' w3 hown3 hg3) | (go_simp; go_at_call 41; refine (pick_any 6 (by first | exact hsr.drew | exact (hsr.alloc _).drew) (by omega) (by omega)).mono ?_; rintro e w2 ⟨⟨r2, rfl, hr20, hr21, _⟩, hs3, hg4, hz4⟩; have f1 : Own eOperator 50 w.heap.size w2 (.slice ao xs.length cap) xs ∧ w.grownBy w2 (some b) ∧ w.heap.size ≤ w2.heap.size ∧ Src w2 b (N + 200 + 4 + 2 * xs.length + 2) := (by first | exact ⟨hown.drew.keptS hg4 hbl, grownBy_trans hgr (grownBy_trans (grownBy_drew _ _) hg4), Nat.le_trans hsz hg4.size, hs3⟩ | exact ⟨(hown.alloc _).drew.keptS hg4 hbl, grownBy_trans hgr (grownBy_trans (grownBy_trans (World.grownBy_alloc _ _ _) (grownBy_drew _ _)) hg4), Nat.le_trans hsz (Nat.le_trans (by simp) hg4.size), hs3⟩); (try have hcB := cell_beside hg4 hlw); have HZ := Lib.hid hz4; clear hz4 hg4 hs3))
        all_goals
          have hg3' : w2.grownBy w3 (Value.slice ao xs.length cap).ownBlock := by first | exact hg3.alloc.1 | exact hg3.alloc.alloc.1
          have hs3' := f1.2.2.2.kept hg3' (fun k hk => by have := (f1.1.lt k hk).1; omega)
          have hg4' := grown_own f1.2.1 hg3' (fun k hk => (f1.1.lt k hk).1)
          clear hg3 hg3' f1 HZ hw1 hw2 hconv
          go_wp2
          go_roundw
          case rel => exact ⟨kk - 1, _, by omega, by simp; omega, by simp; omega, by go_num, hown3, hs3'.mono (by simp; omega), hg4'⟩
          case measure => simp [intOf]; omega
      · have hkk0 : kk = 0 := by omega
        subst hkk0
        have hsr : Src wr b (N + 300) := hsr.mono (by omega)
        have hlen : xs.length ≤ 9 := by omega
        generalize Value.slice ao xs.length cap = v at hown ⊢
        by_cases h0 : xs.length = 0
        · obtain rfl : xs = [] := List.eq_nil_of_length_eq_zero h0
          obtain ⟨ao, cap, hsh⟩ := hown.shape
          subst hsh
          have Hown := Lib.hid hown
          clear hown h0
          go_wp2
          go_ret
          exact ⟨⟨_, [], rfl, Hown.out, by decide⟩, hsr.mono (by omega), hgr⟩
        obtain ⟨g, cap, hsh, hbg, hgl⟩ := hown.addr (by omega)
        obtain ⟨n, hn⟩ : ∃ n, n = xs.length := ⟨_, rfl⟩
        have hn1 : 1 ≤ n ∧ n ≤ 9 := by omega
        have hne0 : ((n : Int) == 0) = false := by simp; omega
        rw [← hn] at hsh
        subst hsh
        have Hn := Lib.hid hn
        have Hown := Lib.hid hown
        have hszr : w.heap.size ≤ wr.heap.size := hgr.size
        clear hown h0 hn
        go_wp2_with fail
        refine (pick_any (n : Int) hsr (by omega) (by omega)).mono ?_
        rintro e w5 ⟨⟨k0, rfl, hk00, hk01, _⟩, hs5, hg5, hz5⟩
        have hk02 := hk01 (by omega)
        obtain ⟨k, rfl⟩ := Int.eq_ofNat_of_zero_le hk00
        have hkn : k < n := by omega
        have hown5 := Hown.out.keptS hg5 hbl
        have hg5' := grownBy_trans hgr hg5
        clear hk01 hz5 hg5 hgr hsr Hown
        go_wp2_with fail
        refine (pick_any 20 hs5 (by omega) (by omega)).mono ?_
        rintro e w6 ⟨⟨q6, rfl, hq60, hq61, _⟩, hs6, hg6, hz6⟩
        have hown6 := hown5.keptS hg6 hbl
        have hg6' := grownBy_trans hg5' hg6
        have hsz6 : w.heap.size ≤ w6.heap.size := hg6'.size
        have hgl6 : g < w6.heap.size := (hown6.lt g rfl).2
        clear hq61 hz6 hg6 hg5' hs5 hown5
        by_cases q0 : q6 = 0
        · subst q0
          go_wp2_with fail
          refine (text_any (nb := w6.heap.size) (n := 3) (hs6.alloc _) (by omega) (StrAt.new ?hst) (by omega) (by omega)).mono ?_
          case hst =>
            intro k hk
            obtain rfl | rfl | rfl : k = 0 ∨ k = 1 ∨ k = 2 := by omega
            all_goals exact ⟨_, rfl, by decide⟩
          rintro e w7 ⟨⟨s7, rfl, hss7⟩, hs7, hg7⟩
          have hown7 := Own.keptS (hown6.alloc _) hg7 hbl
          have hg7' := grownBy_trans hg6' (grownBy_trans (World.grownBy_alloc _ _ _) hg7)
          obtain ⟨x, hx⟩ : ∃ x, xs[k]? = some x := ⟨_, List.getElem?_eq_getElem (by have := Hn.out; omega)⟩
          have hxok := hown7.2 x (List.mem_of_getElem? hx)
          obtain ⟨⟨c0, hc0⟩, hf0⟩ := Own.cellE hown7 Hn.out (k := k) (j := 0) hkn (by decide)
          have hst := Own.store1 (E := eOperator) (by decide) hown7 Hn.out (x := x) (y := ⟨s7, x.skills⟩) (v := .string s7) hx (j := 0) (by decide) rfl ⟨by show s7.size ≤ _; omega, hxok.2⟩
          simp only [show eOperator.sz = 2 from rfl, Nat.add_zero] at hc0 hf0 hst
          have Hst := Lib.hid hst
          have Hs7 := Lib.hid hs7
          have Hg7 := Lib.hid hg7'
          clear hst hs7 hg7' hg7 hown7 hown6 hs6 hg6' hx hxok hss7
          go_wp2
          go_ret
          exact ⟨⟨_, _, rfl, Hst.out.1, by rw [List.length_set]; have := Hn.out; omega⟩, (Hs7.out.kept Hst.out.2 (fun k hk => by have := Option.some.inj hk; omega)).mono (by omega), grown_own Hg7.out Hst.out.2 (fun k hk => by have := Option.some.inj hk; omega)⟩
        by_cases q1 : q6 = 1
        · subst q1
          clear q0
          go_wp2_with fail
          refine (among_any (xs := [-1, 0, 63, 64, -9223372036854775808]) (hs6.alloc _) (by omega) (Own.lit (E := eI) (base := 0) (Nat.zero_le _) rfl rfl (by decide) ?hl).rds (Nat.le_refl _) (by simp) ?hne).mono ?_
          case hl => intro x hx; simp at hx; show -9223372036854775808 ≤ x ∧ x ≤ 9223372036854775807; omega
          case hne => intro k hk; simp [Value.ownBlock] at hk; have := hs6.lt; omega
          rintro e w7 ⟨⟨s7, rfl, hss7⟩, hs7, hg7, hz7⟩
          have hsb : -9223372036854775808 ≤ s7 ∧ s7 ≤ 9223372036854775807 := by simp at hss7; omega
          have hown7 := Own.keptS (hown6.alloc _) hg7 hbl
          have hg7' := grownBy_trans hg6' (grownBy_trans (World.grownBy_alloc _ _ _) hg7)
          obtain ⟨x, hx⟩ : ∃ x, xs[k]? = some x := ⟨_, List.getElem?_eq_getElem (by have := Hn.out; omega)⟩
          have hxok := hown7.2 x (List.mem_of_getElem? hx)
          obtain ⟨⟨c0, hc0⟩, hf0⟩ := Own.cellE hown7 Hn.out (k := k) (j := 1) hkn (by decide)
          have hst := Own.store1 (E := eOperator) (by decide) hown7 Hn.out (x := x) (y := ⟨x.nm, s7⟩) (v := .int .i64 s7) hx (j := 1) (by decide) rfl ⟨hxok.1, hsb.1, hsb.2⟩
          simp only [show eOperator.sz = 2 from rfl] at hc0 hf0 hst
          have Hst := Lib.hid hst
          have Hs7 := Lib.hid hs7
          have Hg7 := Lib.hid hg7'
          clear hst hs7 hg7' hg7 hown7 hown6 hs6 hg6' hx hxok hss7 hz7
          go_wp2
          go_ret
          exact ⟨⟨_, _, rfl, Hst.out.1, by rw [List.length_set]; have := Hn.out; omega⟩, (Hs7.out.kept Hst.out.2 (fun k hk => by have := Option.some.inj hk; omega)).mono (by omega), grown_own Hg7.out Hst.out.2 (fun k hk => by have := Option.some.inj hk; omega)⟩
        have e0 : (q6 == 0) = false := by simpa using q0
        have e1 : (q6 == 1) = false := by simpa using q1
        have Hown6 := Lib.hid hown6
        have Hs6 := Lib.hid hs6
        have Hg6 := Lib.hid hg6'
        clear q0 q1 hown6 hs6 hg6'
        go_wp2
        go_ret
        exact ⟨⟨_, xs, rfl, Hown6.out, by have := Hn.out; omega⟩, Hs6.out.mono (by omega), Hg6.out⟩
  | false =>
    have hsr : Src w2 b (N + 300) := hs2.mono (by omega)
    have hown := ho2
    have hgr := hg2'
    obtain ⟨xs, hxs⟩ : ∃ xs, xs = x1 := ⟨_, rfl⟩
    rw [← hxs] at hown hl1
    have hlen : xs.length ≤ 9 := by omega
    clear ho2 hs2 hg2' hxs
    by_cases h0 : xs.length = 0
    · obtain rfl : xs = [] := List.eq_nil_of_length_eq_zero h0
      obtain ⟨ao, cap, hsh⟩ := hown.shape
      subst hsh
      have Hown := Lib.hid hown
      clear hown h0
      go_wp2
      go_ret
      exact ⟨⟨_, [], rfl, Hown.out, by decide⟩, hsr.mono (by omega), hgr⟩
    obtain ⟨g, cap, hsh, hbg, hgl⟩ := hown.addr (by omega)
    obtain ⟨n, hn⟩ : ∃ n, n = xs.length := ⟨_, rfl⟩
    have hn1 : 1 ≤ n ∧ n ≤ 9 := by omega
    have hne0 : ((n : Int) == 0) = false := by simp; omega
    rw [← hn] at hsh
    subst hsh
    have Hn := Lib.hid hn
    have Hown := Lib.hid hown
    have hszr : w.heap.size ≤ w2.heap.size := hgr.size
    clear hown h0 hn
    go_wp2_with fail
    refine (pick_any (n : Int) hsr (by omega) (by omega)).mono ?_
    rintro e w5 ⟨⟨k0, rfl, hk00, hk01, _⟩, hs5, hg5, hz5⟩
    have hk02 := hk01 (by omega)
    obtain ⟨k, rfl⟩ := Int.eq_ofNat_of_zero_le hk00
    have hkn : k < n := by omega
    have hown5 := Hown.out.keptS hg5 hbl
    have hg5' := grownBy_trans hgr hg5
    clear hk01 hz5 hg5 hgr hsr Hown
    go_wp2_with fail
    refine (pick_any 20 hs5 (by omega) (by omega)).mono ?_
    rintro e w6 ⟨⟨q6, rfl, hq60, hq61, _⟩, hs6, hg6, hz6⟩
    have hown6 := hown5.keptS hg6 hbl
    have hg6' := grownBy_trans hg5' hg6
    have hsz6 : w.heap.size ≤ w6.heap.size := hg6'.size
    have hgl6 : g < w6.heap.size := (hown6.lt g rfl).2
    clear hq61 hz6 hg6 hg5' hs5 hown5
    by_cases q0 : q6 = 0
    · subst q0
      go_wp2_with fail
      refine (text_any (nb := w6.heap.size) (n := 3) (hs6.alloc _) (by omega) (StrAt.new ?hst) (by omega) (by omega)).mono ?_
      case hst =>
        intro k hk
        obtain rfl | rfl | rfl : k = 0 ∨ k = 1 ∨ k = 2 := by omega
        all_goals exact ⟨_, rfl, by decide⟩
      rintro e w7 ⟨⟨s7, rfl, hss7⟩, hs7, hg7⟩
      have hown7 := Own.keptS (hown6.alloc _) hg7 hbl
      have hg7' := grownBy_trans hg6' (grownBy_trans (World.grownBy_alloc _ _ _) hg7)
      obtain ⟨x, hx⟩ : ∃ x, xs[k]? = some x := ⟨_, List.getElem?_eq_getElem (by have := Hn.out; omega)⟩
      have hxok := hown7.2 x (List.mem_of_getElem? hx)
      obtain ⟨⟨c0, hc0⟩, hf0⟩ := Own.cellE hown7 Hn.out (k := k) (j := 0) hkn (by decide)
      have hst := Own.store1 (E := eOperator) (by decide) hown7 Hn.out (x := x) (y := ⟨s7, x.skills⟩) (v := .string s7) hx (j := 0) (by decide) rfl ⟨by show s7.size ≤ _; omega, hxok.2⟩
      simp only [show eOperator.sz = 2 from rfl, Nat.add_zero] at hc0 hf0 hst
      have Hst := Lib.hid hst
      have Hs7 := Lib.hid hs7
      have Hg7 := Lib.hid hg7'
      clear hst hs7 hg7' hg7 hown7 hown6 hs6 hg6' hx hxok hss7
      go_wp2
      go_ret
      exact ⟨⟨_, _, rfl, Hst.out.1, by rw [List.length_set]; have := Hn.out; omega⟩, (Hs7.out.kept Hst.out.2 (fun k hk => by have := Option.some.inj hk; omega)).mono (by omega), grown_own Hg7.out Hst.out.2 (fun k hk => by have := Option.some.inj hk; omega)⟩
    by_cases q1 : q6 = 1
    · subst q1
      clear q0
      go_wp2_with fail
      refine (among_any (xs := [-1, 0, 63, 64, -9223372036854775808]) (hs6.alloc _) (by omega) (Own.lit (E := eI) (base := 0) (Nat.zero_le _) rfl rfl (by decide) ?hl).rds (Nat.le_refl _) (by simp) ?hne).mono ?_
      case hl => intro x hx; simp at hx; show -9223372036854775808 ≤ x ∧ x ≤ 9223372036854775807; omega
      case hne => intro k hk; simp [Value.ownBlock] at hk; have := hs6.lt; omega
      rintro e w7 ⟨⟨s7, rfl, hss7⟩, hs7, hg7, hz7⟩
      have hsb : -9223372036854775808 ≤ s7 ∧ s7 ≤ 9223372036854775807 := by simp at hss7; omega
      have hown7 := Own.keptS (hown6.alloc _) hg7 hbl
      have hg7' := grownBy_trans hg6' (grownBy_trans (World.grownBy_alloc _ _ _) hg7)
      obtain ⟨x, hx⟩ : ∃ x, xs[k]? = some x := ⟨_, List.getElem?_eq_getElem (by have := Hn.out; omega)⟩
      have hxok := hown7.2 x (List.mem_of_getElem? hx)
      obtain ⟨⟨c0, hc0⟩, hf0⟩ := Own.cellE hown7 Hn.out (k := k) (j := 1) hkn (by decide)
      have hst := Own.store1 (E := eOperator) (by decide) hown7 Hn.out (x := x) (y := ⟨x.nm, s7⟩) (v := .int .i64 s7) hx (j := 1) (by decide) rfl ⟨hxok.1, hsb.1, hsb.2⟩
      simp only [show eOperator.sz = 2 from rfl] at hc0 hf0 hst
      have Hst := Lib.hid hst
      have Hs7 := Lib.hid hs7
      have Hg7 := Lib.hid hg7'
      clear hst hs7 hg7' hg7 hown7 hown6 hs6 hg6' hx hxok hss7 hz7
      go_wp2
      go_ret
      exact ⟨⟨_, _, rfl, Hst.out.1, by rw [List.length_set]; have := Hn.out; omega⟩, (Hs7.out.kept Hst.out.2 (fun k hk => by have := Option.some.inj hk; omega)).mono (by omega), grown_own Hg7.out Hst.out.2 (fun k hk => by have := Option.some.inj hk; omega)⟩
    have e0 : (q6 == 0) = false := by simpa using q0
    have e1 : (q6 == 1) = false := by simpa using q1
    have Hown6 := Lib.hid hown6
    have Hs6 := Lib.hid hs6
    have Hg6 := Lib.hid hg6'
    clear q0 q1 hown6 hs6 hg6'
    go_wp2
    go_ret
    exact ⟨⟨_, xs, rfl, Hown6.out, by have := Hn.out; omega⟩, Hs6.out.mono (by omega), Hg6.out⟩
end Go.Proofs.YtilgepapkigblaaDoor
