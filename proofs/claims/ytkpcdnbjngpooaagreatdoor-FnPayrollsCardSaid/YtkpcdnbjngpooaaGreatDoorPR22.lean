/- Cards: the drawing of one, of a deck, and what makes a deck that is not valid. Cards: a card of a deck that is made not valid, and decks that are seldom valid. Cards: decks that are seldom not valid. Payrolls: the drawing of a deck. Printed by gdck.py. Payrolls: the drawing of a layout. Printed by glay.py. Payrolls: the drawing of workers, a layout and a deck. No condition. -/
import Derived.Test.YtkpcdnbjngpooaaGreatDoorPR20
import Derived.Test.YtkpcdnbjngpooaaGreatDoorPR14
import Derived.Test.YtkpcdnbjngpooaaGreatDoorPR16
namespace Go.Proofs.YtkpcdnbjngpooaaGreatDoor
open Go.ChangeShapes Go.WideShapes Go.ChangeAt Go.RowKit
set_option linter.unusedVariables false
set_option maxRecDepth 100000
theorem wrapI4 (n : Int) : eI.ok (IntKind.i64.wrap n) := by show -9223372036854775808 ≤ IntKind.i64.wrap n ∧ IntKind.i64.wrap n ≤ 9223372036854775807; rw [IntKind.wrap_i64]; omega
theorem okSm {n : Int} (h : 0 ≤ n ∧ n ≤ 1000000) : eI.ok n := by show -9223372036854775808 ≤ n ∧ n ≤ 9223372036854775807; omega
structure CInv (w W : World) (b N R D : Nat) (u : Value) (xs : List Int) : Prop where
  src : Src W b N
  gr : w.grownBy W (some b)
  hR : Box W R [.slice none 0 0]
  hD : Box W D [u]
  row : OwnInt64S (w.heap.size + 2) W u xs
  bR : R = w.heap.size
  bD : D = w.heap.size + 1
  bb : b < w.heap.size
theorem CInv.kept {w W W' : World} {b N M R D : Nat} {u : Value} {xs : List Int} (h : CInv w W b N R D u xs) (hs : Src W' b M) (hg : W.grownBy W' (some b)) : CInv w W' b M R D u xs := by
  have h1 := h.bR
  have h2 := h.bD
  have h3 := h.bb
  exact ⟨hs, grownBy_trans h.gr hg, h.hR.keptB hg (fun e => by have := Option.some.inj e; omega), h.hD.keptB hg (fun e => by have := Option.some.inj e; omega), h.row.keptS hg (by omega), h.bR, h.bD, h.bb⟩
theorem CInv.mono {w W : World} {b N M R D : Nat} {u : Value} {xs : List Int} (h : CInv w W b N R D u xs) (hM : N ≤ M) : CInv w W b M R D u xs := ⟨h.src.mono hM, h.gr, h.hR, h.hD, h.row, h.bR, h.bD, h.bb⟩
/-- one column more, and the card's own variable written -/
theorem CInv.app {w W W3 : World} {b N R D : Nat} {u v : Value} {xs ys : List Int} (h : CInv w W b N R D u xs) (ho : OwnInt64S (w.heap.size + 2) W3 v ys) (hg : W.grownBy W3 u.ownBlock) : (∃ y, W3.cell? ⟨D, 0, none⟩ = some y) ∧ W3.frozen? ⟨D, 0, none⟩ = false ∧ CInv w (W3.setCell ⟨D, 0, none⟩ v) b N R D v ys := by
  have h1 := h.bR
  have h2 := h.bD
  have h3 := h.bb
  have hne : ∀ q, u.ownBlock = some q → w.heap.size + 2 ≤ q := fun q hq => (h.row.lt q hq).1
  have hD3 := h.hD.keptB hg (fun e => by have := hne _ e; omega)
  have hR3 := h.hR.keptB hg (fun e => by have := hne _ e; omega)
  refine ⟨⟨_, hD3.cell 0 _ rfl⟩, hD3.free 0, ?_⟩
  have hgD := grown_setP W3 ⟨D, 0, none⟩ v
  refine ⟨(h.src.kept hg (fun q hq => by have := hne q hq; omega)).kept hgD (fun q hq => by have := Option.some.inj hq; simp only at this; omega), ?_, hR3.other (by show D ≠ R; omega) v, hD3.set1 (j := 0) (by simp) v, ho.kept hgD (.inr (fun e => by have h := (ho.lt _ e).1; simp only at h; omega)), h1, h2, h3⟩
  exact grown_own (grown_own h.gr hg (fun q hq => by have := hne q hq; omega)) hgD (fun q hq => by have := Option.some.inj hq; simp only at this; omega)
def DrawnC (base n : Nat) (e : Ending) (w' : World) : Prop := ∃ u xs, e = .returned (.agg #[u]) ∧ OwnInt64S base w' u xs ∧ xs.length = n
theorem wrap64I (n : Int) : eI.ok (wrap64 n) := by show -9223372036854775808 ≤ wrap64 n ∧ wrap64 n ≤ 9223372036854775807; unfold wrap64; omega
theorem or_all : ∀ (a : Fin 3) (c : Fin 9), 0 ≤ bits BinOp.or IntKind.i64 (wrap64 (2 ^ a.val)) (wrap64 (8 * 2 ^ c.val)) ∧ bits BinOp.or IntKind.i64 (wrap64 (2 ^ a.val)) (wrap64 (8 * 2 ^ c.val)) ≤ 1000000 := by decide +kernel
theorem or_ok {a c : Nat} (ha : a < 3) (hc : c < 9) : eI.ok (bits BinOp.or IntKind.i64 (wrap64 (2 ^ a)) (wrap64 (8 * 2 ^ c))) := okSm (or_all ⟨a, ha⟩ ⟨c, hc⟩)
theorem shl_all : ∀ m : Fin 10, (0 : Int) ≤ 4 * 2 ^ m.val ∧ (4 : Int) * 2 ^ m.val ≤ 1000000 := by decide +kernel
set_option maxHeartbeats 2000000 in
theorem l02Draw_any {w : World} {b N : Nat} (n : Nat) (hs : Src w b N) (hN : N ≤ 100000) (hn : n ≤ 20) :
    Calls Tryz.prog 105 #[.pointer (some ⟨b, 0, none⟩), .int .i64 (n : Int)] w fun e w' => DrawnC w.heap.size n e w' ∧ Src w' b (N + 10 * n) ∧ w.grownBy w' (some b) := by
  obtain ⟨i0, hi, hz0, hz1, hz2⟩ := info_parts Tryz.infoInt64
  have hbl := hs.lt
  obtain ⟨W, hW⟩ : ∃ W, W = (w.alloc (.cells #[.slice none 0 0] 70)).alloc (.cells #[.slice none 0 0] 70) := ⟨_, rfl⟩
  have hc0 : CInv w W b N w.heap.size (w.heap.size + 1) (.slice none 0 0) [] := by
    have h := Box.new (w.alloc (.cells #[.slice none 0 0] 70)) [.slice none 0 0] 70
    rw [show (w.alloc (.cells #[.slice none 0 0] 70)).heap.size = w.heap.size + 1 from by simp] at h
    rw [hW]
    exact ⟨(hs.alloc _).alloc _, grownBy_trans (World.grownBy_alloc _ _ _) (World.grownBy_alloc _ _ _), (Box.new w [.slice none 0 0] _).alloc _, h, Own.nil _ _ _ _, rfl, rfl, hbl⟩
  have HC0 := Lib.hid hc0
  have HW := Lib.hid hW
  clear hc0 hW hs
  go_enter Tryz.func105, Tryz.ntmps105
  go_wp2
  rw [← HW.out]
  clear HW
  obtain ⟨D, hD⟩ : ∃ D, w.heap.size + 1 = D := ⟨_, rfl⟩
  rw [hD] at HC0 ⊢
  have HD := Lib.hid hD
  clear hD
  generalize hR : w.heap.size = R at HC0 ⊢
  have HR := Lib.hid hR
  clear hR
  go_loopw [6] (fun i wr => ∃ (k : Nat) (u : Value) (xs : List Int), k ≤ n ∧ i = .int .i64 k ∧ Hid (xs.length = k) ∧ CInv w wr b (N + 10 * k) R D u xs) (fun i _ => n - (intOf i).toNat)
  case atStart => exact ⟨0, _, [], Nat.zero_le _, rfl, rfl, HC0.out⟩
  case round =>
    obtain ⟨k, u, xs, hk, rfl, Hl, hc⟩ := hrel
    clear HC0
    obtain ⟨ao, cap, hu⟩ := hc.row.shape
    rw [Hl.out] at hu
    subst hu
    by_cases hkn : k < n
    · go_wp2_with fail
      refine (pick_any 10 hc.src (by omega) (by omega)).mono ?_
      rintro e w1 ⟨⟨r, rfl, hr0, hr1, _⟩, hs1, hg1, -⟩
      have hr2 := hr1 (by omega)
      have hc1 := hc.kept hs1 hg1
      clear hr1 hg1 hs1 hc
      obtain ⟨rr, rfl⟩ := Int.eq_ofNat_of_zero_le hr0
      have hr3 : rr < 10 := by omega
      go_wp2_with fail
      refine (pick_any 6 hc1.src (by omega) (by omega)).mono ?_
      rintro e w2 ⟨⟨q, rfl, hq0, hq1, _⟩, hs2, hg2, -⟩
      have hq2 := hq1 (by omega)
      have hc2 := hc1.kept hs2 hg2
      clear hq1 hg2 hs2 hc1
      by_cases q0 : q = 0
      · subst q0
        have d1 := hc2.hD.cell 0 _ rfl
        have hdl := hc2.hD.lt
        have hdd := Lib.hid hc2.bD
        have HCX := Lib.hid hc2
        have hokM : eI.ok (0) := okSm (by decide)
        clear hc2
        go_wp2_with (first | (at_builtin; refine wpList_appS (E := eI) rfl _ _ 34 rfl Tryz.underlying34 hi hz0 hz1 hz2 rfl (by decide) rfl rfl (HCX.out.row.alloc _) (rds_one (E := eI) (x := 0) hokM rfl) ?b1 ?b2 ?b3 ?_))
        case b1 => rw [Hl.out]; unfold maxLen; simp; omega
        case b2 => rw [Hl.out]; simp; omega
        case b3 => have := hdd.out; simp; omega
        intro v3 w3 hO3 hg3
        obtain ⟨ao3, cap3, hv3⟩ := hO3.shape
        rw [show (xs ++ [(0 : Int)]).length = k + 1 from (by rw [List.length_append, Hl.out]; rfl)] at hv3
        subst hv3
        obtain ⟨⟨y0, c0⟩, f0, hc5⟩ := HCX.out.app hO3 hg3.alloc.1
        have HC5 := Lib.hid hc5
        clear hc5 hO3 hg3 hokM d1 hdl
        go_wp2
        go_roundw
        case rel => exact ⟨k + 1, _, _, by omega, by go_num, Lib.hid (by rw [List.length_append, Hl.out]; rfl), HC5.out.mono (by omega)⟩
        case measure => simp [intOf]; omega
      by_cases q1 : q = 1
      · subst q1
        clear q0
        go_wp2_with fail
        refine (pick_any 3 hc2.src (by omega) (by omega)).mono ?_
        rintro e w5 ⟨⟨a, rfl, ha0, ha1, _⟩, hs5, hg5, -⟩
        have ha2 := ha1 (by omega)
        have hc5 := hc2.kept hs5 hg5
        clear ha1 hg5 hs5 hc2
        obtain ⟨aa, rfl⟩ := Int.eq_ofNat_of_zero_le ha0
        have ha3 : aa < 3 := by omega
        go_wp2_with fail
        refine (pick_any 9 hc5.src (by omega) (by omega)).mono ?_
        rintro e w6 ⟨⟨c, rfl, hc0, hc1, _⟩, hs6, hg6, -⟩
        have hcc2 := hc1 (by omega)
        have hc6 := hc5.kept hs6 hg6
        clear hc1 hg6 hs6 hc5
        obtain ⟨cc, rfl⟩ := Int.eq_ofNat_of_zero_le hc0
        have hc3 : cc < 9 := by omega
        have d1 := hc6.hD.cell 0 _ rfl
        have hdl := hc6.hD.lt
        have hdd := Lib.hid hc6.bD
        have HCX := Lib.hid hc6
        have hokM : eI.ok (bits BinOp.or IntKind.i64 (wrap64 (2 ^ aa)) (wrap64 (8 * 2 ^ cc))) := or_ok ha3 hc3
        clear hc6
        go_wp2_with (first | (at_builtin; refine wpList_appS (E := eI) rfl _ _ 34 rfl Tryz.underlying34 hi hz0 hz1 hz2 rfl (by decide) rfl rfl (HCX.out.row.alloc _) (rds_one (E := eI) (x := bits BinOp.or IntKind.i64 (wrap64 (2 ^ aa)) (wrap64 (8 * 2 ^ cc))) hokM rfl) ?b1 ?b2 ?b3 ?_))
        case b1 => rw [Hl.out]; unfold maxLen; simp; omega
        case b2 => rw [Hl.out]; simp; omega
        case b3 => have := hdd.out; simp; omega
        intro v3 w3 hO3 hg3
        obtain ⟨ao3, cap3, hv3⟩ := hO3.shape
        rw [show (xs ++ [bits BinOp.or IntKind.i64 (wrap64 (2 ^ aa)) (wrap64 (8 * 2 ^ cc))]).length = k + 1 from (by rw [List.length_append, Hl.out]; rfl)] at hv3
        subst hv3
        obtain ⟨⟨y0, c0⟩, f0, hc5⟩ := HCX.out.app hO3 hg3.alloc.1
        have HC5 := Lib.hid hc5
        clear hc5 hO3 hg3 hokM d1 hdl
        go_wp2
        go_roundw
        case rel => exact ⟨k + 1, _, _, by omega, by go_num, Lib.hid (by rw [List.length_append, Hl.out]; rfl), HC5.out.mono (by omega)⟩
        case measure => simp [intOf]; omega
      by_cases q2 : q = 2
      · subst q2
        clear q0 q1
        go_wp2_with fail
        refine (pick_any 4096 hc2.src (by omega) (by omega)).mono ?_
        rintro e w5 ⟨⟨a, rfl, ha0, ha1, _⟩, hs5, hg5, -⟩
        have ha2 := ha1 (by omega)
        have hc5 := hc2.kept hs5 hg5
        clear ha1 hg5 hs5 hc2
        have d1 := hc5.hD.cell 0 _ rfl
        have hdl := hc5.hD.lt
        have hdd := Lib.hid hc5.bD
        have HCX := Lib.hid hc5
        have hokM : eI.ok (a) := okSm (by omega)
        clear hc5
        go_wp2_with (first | (at_builtin; refine wpList_appS (E := eI) rfl _ _ 34 rfl Tryz.underlying34 hi hz0 hz1 hz2 rfl (by decide) rfl rfl (HCX.out.row.alloc _) (rds_one (E := eI) (x := a) hokM rfl) ?b1 ?b2 ?b3 ?_))
        case b1 => rw [Hl.out]; unfold maxLen; simp; omega
        case b2 => rw [Hl.out]; simp; omega
        case b3 => have := hdd.out; simp; omega
        intro v3 w3 hO3 hg3
        obtain ⟨ao3, cap3, hv3⟩ := hO3.shape
        rw [show (xs ++ [a]).length = k + 1 from (by rw [List.length_append, Hl.out]; rfl)] at hv3
        subst hv3
        obtain ⟨⟨y0, c0⟩, f0, hc5⟩ := HCX.out.app hO3 hg3.alloc.1
        have HC5 := Lib.hid hc5
        clear hc5 hO3 hg3 hokM d1 hdl
        go_wp2
        go_roundw
        case rel => exact ⟨k + 1, _, _, by omega, by go_num, Lib.hid (by rw [List.length_append, Hl.out]; rfl), HC5.out.mono (by omega)⟩
        case measure => simp [intOf]; omega
      have e0 : (q == 0) = false := by simpa using q0
      have e1 : (q == 1) = false := by simpa using q1
      have e2 : (q == 2) = false := by simpa using q2
      clear q0 q1 q2
      have d1 := hc2.hD.cell 0 _ rfl
      have hdl := hc2.hD.lt
      have hdd := Lib.hid hc2.bD
      have HCX := Lib.hid hc2
      have hokM : eI.ok (wrap64 (4 * 2 ^ rr)) := wrap64I _
      clear hc2
      go_wp2_with (first | (at_builtin; refine wpList_appS (E := eI) rfl _ _ 34 rfl Tryz.underlying34 hi hz0 hz1 hz2 rfl (by decide) rfl rfl (HCX.out.row.alloc _) (rds_one (E := eI) (x := wrap64 (4 * 2 ^ rr)) hokM rfl) ?b1 ?b2 ?b3 ?_))
      case b1 => rw [Hl.out]; unfold maxLen; simp; omega
      case b2 => rw [Hl.out]; simp; omega
      case b3 => have := hdd.out; simp; omega
      intro v3 w3 hO3 hg3
      obtain ⟨ao3, cap3, hv3⟩ := hO3.shape
      rw [show (xs ++ [wrap64 (4 * 2 ^ rr)]).length = k + 1 from (by rw [List.length_append, Hl.out]; rfl)] at hv3
      subst hv3
      obtain ⟨⟨y0, c0⟩, f0, hc5⟩ := HCX.out.app hO3 hg3.alloc.1
      have HC5 := Lib.hid hc5
      clear hc5 hO3 hg3 hokM d1 hdl
      go_wp2
      go_roundw
      case rel => exact ⟨k + 1, _, _, by omega, by go_num, Lib.hid (by rw [List.length_append, Hl.out]; rfl), HC5.out.mono (by omega)⟩
      case measure => simp [intOf]; omega
    · obtain rfl : k = n := by omega
      have r1 := hc.hR.cell 0 _ rfl
      have r2 := hc.hR.free 0
      have d1 := hc.hD.cell 0 _ rfl
      have HC := Lib.hid hc
      clear hc
      go_wp2
      refine bodyPost_ret (v := .agg #[.slice ao k cap]) (by simp [results, Tryz.results105, go_sem, r1]) rfl ⟨⟨_, xs, rfl, ?_, Hl.out⟩, ?_, ?_⟩
      · exact (HC.out.row.kept (grown_setP _ _ _) (.inr (fun e => by have h := (HC.out.row.lt _ e).1; have := HC.out.bR; simp only at h; omega))).mono (by omega)
      · exact HC.out.src.kept (grown_setP _ _ _) (fun q hq => by have h9 : R = q := Option.some.inj hq; have := HC.out.bR; have := HC.out.bb; omega)
      · exact grown_own HC.out.gr (grown_setP _ _ _) (fun q hq => by have h9 : R = q := Option.some.inj hq; have := HC.out.bR; have := HC.out.bb; omega)
def DrawnDk (base : Nat) (e : Ending) (w' : World) : Prop := ∃ u d, e = .returned u ∧ OwnCardS base w' u d ∧ d.length ≤ 100 ∧ ∀ r ∈ d, r.length ≤ 100
theorem OwnTM.keepS {e : TypeId} {base tp b : Nat} {w w' : World} {v : Value} {xss : List (List Int)} (h : OwnTM e base tp w v xss) (hg : w.grownBy w' (some b)) (h1 : b < base) : OwnTM e base tp w' v xss :=
  BldG.toM (BldG.keepS (rb := base) (h : BldG eI 2 e base base tp w v xss) hg h1 h1) (Nat.le_refl _)
set_option maxHeartbeats 2000000 in
theorem l02DrawDeck_any {w : World} {b N : Nat} (n m : Nat) (hs : Src w b N) (hN : N ≤ 10000) (hn : n ≤ 20) (hm : m ≤ 20) :
    Calls Tryz.prog 104 #[.pointer (some ⟨b, 0, none⟩), .int .i64 (n : Int), .int .i64 (m : Int)] w fun e w' => DrawnDk w.heap.size e w' ∧ Src w' b (N + 5000) ∧ w.grownBy w' (some b) := by
  obtain ⟨i0, hi, hz0, hz1, hz2⟩ := info_parts Tryz.infoCard
  have hbl := hs.lt
  have hlit : Own eS 70 w.heap.size (w.alloc (.cells #[] 70)) (.slice (some ⟨w.heap.size, 0, none⟩) 0 0) [] := Own.lit (E := eS) (xs := []) (cs := #[]) (Nat.le_refl _) rfl rfl (by decide) (fun x hx => by cases hx)
  go_enter Tryz.func104, Tryz.ntmps104
  go_wp2_with fail
  refine (pick_any ((m : Int) + 1) (hs.alloc _) (by omega) (by omega)).mono ?_
  rintro e w3 ⟨⟨q3, rfl, hq30, hq31, _⟩, hs3, hg3, hz3⟩
  have hq32 := hq31 (by omega)
  have hB3 : BldG eI 2 70 w.heap.size w.heap.size w3.heap.size w3 (.slice (some ⟨w.heap.size, 0, none⟩) 0 0) ([] : List (List Int)) := BldG.empty (B := w.heap.size) rfl (hlit.keptS hg3 hbl) (by rw [hz3]; simp)
  have hg3' := grownBy_trans (World.grownBy_alloc _ _ _) hg3
  clear hq31 hz3 hg3 hlit hs
  go_wp2
  go_loopw [7, 8] (fun v k wr => ∃ (kk : Int) (xss : List (List Int)), 0 ≤ kk ∧ kk + xss.length ≤ 20 ∧ k = .int .i64 kk ∧ Hid (∀ r ∈ xss, r.length ≤ 100) ∧ BldG eI 2 70 w.heap.size w.heap.size wr.heap.size wr v xss ∧ Src wr b (N + 2 + 200 * xss.length) ∧ w.grownBy wr (some b)) (fun _ k _ => (intOf k).toNat)
  case atStart => exact ⟨q3, [], by omega, by simp; omega, rfl, Lib.hid (fun r hr => by cases hr), hB3, hs3.mono (by (try simp) <;> omega), hg3'⟩
  case round =>
    obtain ⟨kk, xss, hk0, hkj, rfl, Hrw, hB, hsr, hgr⟩ := hrel
    clear hB3 hs3 hg3'
    have hsz : w.heap.size ≤ wr.heap.size := hgr.size
    by_cases hk : 0 < kk
    · obtain ⟨vo, vc, hv⟩ := hB.shape
      subst hv
      go_wp2_with fail
      refine (l02Draw_any n hsr (by omega) hn).mono ?_
      rintro e w5 ⟨⟨u, xs, rfl, hR, hlx⟩, hs5, hg5⟩
      have hB5 := hB.keepS hg5 hbl hbl
      have hgr5 := grownBy_trans hgr hg5
      have hsz5 := hg5.size
      obtain ⟨hs', xh, hval, hokx, hlen, hO, hfn⟩ := hB5.app hR (by omega) hsz5
      obtain ⟨rao, rcap, hsh⟩ := hR.shape
      subst hsh
      have hcells : (#[.slice rao xs.length rcap] : Array Value) = (eS.cells xh).toArray := by rw [← hval]; rfl
      have HO := Lib.hid hO
      have Hfn := Lib.hid hfn
      have Hlen := Lib.hid hlen
      have Hcells := Lib.hid hcells
      have hl0 := HO.out.lt
      have Hl0 := Lib.hid hl0
      have Hxl : Hid (xss.length ≤ 20) := Lib.hid (by omega)
      have Hrw6 : Hid (∀ r ∈ xss ++ [xs], r.length ≤ 100) := Lib.hid (fun r hr => by
        rcases List.mem_append.1 hr with hr | hr
        · exact Hrw.out r hr
        · rw [List.mem_singleton.1 hr]; omega)
      have hszr : w.heap.size ≤ w5.heap.size := hgr5.size
      clear hR hB hB5 hval hlen hO hfn hcells hl0 hlx hg5 hsr hgr hsz5
      go_wp2_with (first | (at_builtin; refine wpList_appS (E := eS) rfl _ _ 28 rfl Tryz.underlying28 hi hz0 hz1 hz2 rfl (by decide) rfl rfl (HO.out.alloc _) (rds_one (E := eS) (x := xh) hokx Hcells.out) ?b1 ?b2 ?b3 ?_))
      case b1 => rw [Hlen.out]; have := Hxl.out; unfold maxLen; simp; omega
      case b2 => rw [Hlen.out]; have := Hxl.out; simp; omega
      case b3 => simp; omega
      intro v' w6 hO6 hg6
      have hg6' := hg6.alloc
      have hB6 := Hfn.out w6 v' hO6 hg6'
      have hs6 := hs5.kept hg6'.1 (fun q hq => by have := (Hl0.out q hq).1; omega)
      have hgr6 := grown_own hgr5 hg6'.1 (fun q hq => (Hl0.out q hq).1)
      have HB6 := Lib.hid hB6
      clear hO6 hg6 hg6' hB6 hs5 hgr5
      go_wp2
      go_roundw
      case rel => exact ⟨kk - 1, _, by omega, by simp; omega, by go_num, Hrw6, HB6.out, hs6.mono (by simp; omega), hgr6⟩
      case measure => simp [intOf]; omega
    · have hM := hB.toM (Nat.le_refl _)
      have hl : xss.length ≤ 100 := by omega
      have hl2 : xss.length ≤ 20 := by omega
      clear hB
      go_wp2
      go_ret
      exact ⟨⟨_, xss, rfl, hM, hl, Hrw.out⟩, hsr.mono (by omega), hgr⟩
end Go.Proofs.YtkpcdnbjngpooaaGreatDoor
namespace Go.Proofs.YtkpcdnbjngpooaaGreatDoor
open Go.ChangeShapes Go.WideShapes Go.ChangeAt Go.RowKit
set_option linter.unusedVariables false
set_option maxRecDepth 100000
theorem OwnTM.topG {e : TypeId} {base tp : Nat} {w w' : World} {v : Value} {xss : List (List Int)} (h : OwnTM e base tp w v xss) (hg : w.heap.size ≤ w'.heap.size) (ht : tp ≤ w.heap.size) : OwnTM e base w'.heap.size w v xss := h.mono (by omega)
theorem okL : ∀ x ∈ ([-1, 0, 4095, 4096, -9223372036854775808] : List Int), eI.ok x := by
  intro x hx
  show -9223372036854775808 ≤ x ∧ x ≤ 9223372036854775807
  simp at hx
  omega
theorem spoil_step {e : TypeId} {w1 w6 : World} {b base G n cap i g c k m : Nat} {x : Int} {xs : List Int} {d : List (List Int)} (hd : OwnTM e base w1.heap.size w1 (.slice (some ⟨G, 0, none⟩) n cap) d) (hg : w1.grownBy w6 (some b)) (hb : b < base) (hx : d[i]? = some xs)
    (hcell : w1.cell? ⟨G, i, none⟩ = some (.slice (some ⟨g, 0, none⟩) m c)) (hm : m = xs.length) (hk : k < m) (hok : eI.ok x) :
    (∃ y, w6.cell? ⟨g, k, none⟩ = some (.int .i64 y)) ∧ w6.frozen? ⟨g, k, none⟩ = false ∧ (∃ d', OwnTM e base w1.heap.size (w6.setCell ⟨g, k, none⟩ (.int .i64 x)) (.slice (some ⟨G, 0, none⟩) n cap) d' ∧ d'.length = d.length) ∧ base ≤ g ∧ w6.grownBy (w6.setCell ⟨g, k, none⟩ (.int .i64 x)) (some g) := by
  have hG : base ≤ G ∧ G < w1.heap.size := by
    obtain ⟨q, h1, _⟩ := hd
    exact h1.1.lt G rfl
  have hd6 := hd.keepS hg hb
  obtain ⟨ao, cc, hc6, hrow, hback⟩ := hd6.row hx
  have hc1 : w6.cell? ⟨G, i, none⟩ = some (.slice (some ⟨g, 0, none⟩) m c) := (World.cell?_of_block (w := w1) (a := ⟨G, i, none⟩) (hg.block G hG.2 (fun e => by have := Option.some.inj e; omega))).trans hcell
  rw [hc6] at hc1
  injection hc1 with hc1
  injection hc1 with e1 e2 e3
  subst e1; subst e3
  have hgb : base ≤ g := (hrow.1.lt g rfl).1
  obtain ⟨⟨y, hy⟩, hf, hst, hgs⟩ := Own.storeI hrow.1 rfl (k := k) (by omega) hok
  exact ⟨⟨y, hy⟩, hf, ⟨_, hback _ _ ⟨hst, hrow.2⟩ hgs, by rw [List.length_set]⟩, hgb, hgs⟩
set_option maxHeartbeats 2000000 in
theorem l02Spoil_any {w : World} {b N G n cap i base : Nat} {d : List (List Int)} (hs : Src w b N) (hN : N ≤ 100000) (hd : OwnTM 70 base w.heap.size w (.slice (some ⟨G, 0, none⟩) n cap) d) (hn : n = d.length) (hi : i < n) (hb : b < base) (hbz : base ≤ w.heap.size) (hr : ∀ r ∈ d, r.length ≤ 100) :
    Calls Tryz.prog 106 #[.pointer (some ⟨b, 0, none⟩), .pointer (some ⟨G, i, none⟩)] w fun e w' => e = .returned (.tuple #[]) ∧ (∃ d', OwnTM 70 base w'.heap.size w' (.slice (some ⟨G, 0, none⟩) n cap) d' ∧ d'.length = n) ∧ Src w' b (N + 20) ∧ ∀ w0 : World, w0.grownBy w (some b) → w0.heap.size ≤ base → w0.grownBy w' (some b) := by
  obtain ⟨i0, hi0, hz0, hz1, hz2⟩ := info_parts Tryz.infoInt64
  have hGb : base ≤ G := by
    obtain ⟨q, h1, _⟩ := hd
    exact (h1.1.lt G rfl).1
  go_enter Tryz.func106, Tryz.ntmps106
  go_wp2_with fail
  refine (pick_any 3 hs (by omega) (by omega)).mono ?_
  rintro e w1 ⟨⟨q, rfl, hq0, hq1, _⟩, hs1, hg1, hz1'⟩
  have hq2 := hq1 (by omega)
  have hd1 := hd.keepS hg1 hb
  rw [← hz1'] at hd1
  have hgs := hg1.size
  have hbz1 : base ≤ w1.heap.size := by omega
  have Hg1 : Hid (∀ w0 : World, w0.grownBy w (some b) → w0.heap.size ≤ base → w0.grownBy w1 (some b)) := Lib.hid (fun w0 h _ => grownBy_trans h hg1)
  have Hn := Lib.hid hn
  clear hq1 hd hs hg1 hz1' hgs hn
  by_cases q0 : q = 0
  · subst q0
    have hu : Own eI 2 w1.heap.size (w1.alloc (.cells #[] 2)) (.slice (some ⟨w1.heap.size, 0, none⟩) 0 0) [] := Own.lit (E := eI) (xs := []) (cs := #[]) (Nat.le_refl _) rfl rfl (by decide) (fun x hx => by cases hx)
    have hda : OwnTM 70 base w1.heap.size (w1.alloc (.cells #[] 2)) (.slice (some ⟨G, 0, none⟩) n cap) d := hd1.below ((Below.refl w1.heap.size w1).alloc (Nat.le_refl _) _) (Nat.le_refl _)
    obtain ⟨⟨y, c0⟩, f0, hput, hgp⟩ := hda.put Hn.out hi hu hbz1 (by simp)
    have HP := Lib.hid hput
    have HG : Hid (∀ w0 : World, w0.grownBy w (some b) → w0.heap.size ≤ base → w0.grownBy ((w1.alloc (.cells #[] 2)).setCell ⟨G, i, none⟩ (.slice (some ⟨w1.heap.size, 0, none⟩) 0 0)) (some b)) := Lib.hid (fun w0 h h2 => grown_own (grownBy_trans (Hg1.out w0 h h2) (World.grownBy_alloc _ _ _)) hgp (fun q hq => by have h9 : G = q := Option.some.inj hq; omega))
    have HS := Lib.hid ((hs1.alloc (.cells #[] 2)).kept hgp (fun q hq => by have h9 : G = q := Option.some.inj hq; omega))
    have hln : (d.set i []).length = n := by rw [List.length_set]; exact Hn.out.symm
    clear hd1 hu hda hput hgp hs1
    go_wp2
    go_end0
    exact ⟨rfl, ⟨_, by simpa using HP.out, hln⟩, HS.out.mono (by omega), HG.out⟩
  by_cases q1 : q = 1
  · subst q1
    clear q0
    go_wp2_with fail
    refine (pick_any 2 hs1 (by omega) (by omega)).mono ?_
    rintro e w3 ⟨⟨p, rfl, hp0, hp1, _⟩, hs3, hg3, hz3⟩
    have hp2 := hp1 (by omega)
    obtain ⟨pk, rfl⟩ := Int.eq_ofNat_of_zero_le hp0
    have hd3 := hd1.keepS hg3 hb
    rw [← hz3] at hd3
    have hbz3 : base ≤ w3.heap.size := by omega
    have Hg3 : Hid (∀ w0 : World, w0.grownBy w (some b) → w0.heap.size ≤ base → w0.grownBy w3 (some b)) := Lib.hid (fun w0 h h2 => grownBy_trans (Hg1.out w0 h h2) hg3)
    clear hp1 hz3 hg3 hd1 hs1 hbz1
    go_wp2_with (first | (at_make; refine wpList_make_full _ rfl _ _ 34 rfl w3.heap.size 2 i0 (.int .i64 0) 1 Tryz.underlying34 hi0 hz0 hz1 _ _ _ _ (20 + pk) rfl rfl (by omega) (by omega) ?b1 ?b2 (Nat.le_refl _) ?_))
    case b1 => first | omega | (rw [hz2]; omega)
    case b2 => unfold maxLen; omega
    intro w4 hown4 hg4
    have hu := zerosI hown4
    have hz4 := hg4.size
    have hda : OwnTM 70 base w3.heap.size w4 (.slice (some ⟨G, 0, none⟩) n cap) d := hd3.below ((Below.refl _ _).grown hg4 (Nat.le_refl _) (fun k hk => by cases hk)) (Nat.le_refl _)
    obtain ⟨⟨y, c0⟩, f0, hput, hgp⟩ := hda.put Hn.out hi hu hbz3 hz4
    have HP := Lib.hid hput
    have HG := Lib.hid (fun (w0 : World) (h : w0.grownBy w (some b)) (h2 : w0.heap.size ≤ base) => grown_own (grown_own (Hg3.out w0 h h2) hg4 (fun q hq => by cases hq)) hgp (fun q hq => by have h9 : G = q := Option.some.inj hq; omega))
    have HS := Lib.hid ((hs3.kept hg4 (fun q hq => by cases hq)).kept hgp (fun q hq => by have h9 : G = q := Option.some.inj hq; omega))
    have hln : (d.set i (List.replicate (20 + pk) 0)).length = n := by rw [List.length_set]; exact Hn.out.symm
    clear hd3 hu hda hput hgp hs3 hown4 hg4
    go_wp2
    go_end0
    exact ⟨rfl, ⟨_, by simpa using HP.out, hln⟩, HS.out.mono (by omega), HG.out⟩
  obtain rfl : q = 2 := by omega
  clear q0 q1
  obtain ⟨xs, hx⟩ : ∃ xs, d[i]? = some xs := ⟨_, List.getElem?_eq_getElem (by have := Hn.out; omega)⟩
  have hxl := hr xs (List.mem_of_getElem? hx)
  obtain ⟨ao, c, hcell, hrow, hback⟩ := hd1.row hx
  by_cases h0 : xs.length = 0
  · obtain rfl : xs = [] := List.eq_nil_of_length_eq_zero h0
    clear h0
    simp only [List.length_nil] at hcell
    have HD1 := Lib.hid hd1
    clear hd1 hrow hback
    go_wp2
    go_end0
    exact ⟨rfl, ⟨d, HD1.out, Hn.out.symm⟩, hs1.mono (by omega), Hg1.out⟩
  obtain ⟨g, c', hsh, hbg, hgl⟩ := hrow.1.addr (by omega)
  cases hsh
  obtain ⟨m, hm⟩ : ∃ m, m = xs.length := ⟨_, rfl⟩
  rw [← hm] at hcell hxl h0
  have Hm := Lib.hid hm
  clear hm
  have HD1 := Lib.hid hd1
  have HS1 := Lib.hid hs1
  have Hx := Lib.hid hx
  have hGl : G < w1.heap.size := by
    obtain ⟨q, h1, _⟩ := hd1
    exact (h1.1.lt G rfl).2
  have hGn : G ≠ b := by omega
  have hm1 : (m : Int) ≤ 100 := by omega
  clear hd1 hs1 hx hrow hback
  go_upto_region 7 with fail
  have HLit : Hid (Own eI 2 w1.heap.size (w1.alloc (.cells #[.int .i64 (-1), .int .i64 0, .int .i64 4095, .int .i64 4096, .int .i64 (-9223372036854775808)] 2)) (.slice (some ⟨w1.heap.size, 0, none⟩) 5 5) [-1, 0, 4095, 4096, -9223372036854775808]) := Lib.hid (Own.lit (E := eI) (Nat.le_refl _) rfl rfl (by decide) okL)
  have hbl1 : b < w1.heap.size := by omega
  have hneL : ∀ k, (Value.slice (some ⟨w1.heap.size, 0, none⟩) 5 5).ownBlock = some k → k ≠ b := fun k hk => by have h9 : w1.heap.size = k := Option.some.inj hk; omega
  go_region_law (first
    | (go_simp; go_at_call 45; with_reducible refine (pick_any (m : Int) HS1.out.drew (by omega) (by omega)).mono ?_; rintro e w5 ⟨⟨k0, rfl, hk0, hk1, _⟩, hs5, hg5, -⟩; have hk2 := hk1 (by omega); obtain ⟨k, rfl⟩ := Int.eq_ofNat_of_zero_le hk0; have hgA : w1.grownBy w5 (some b) := grownBy_trans (grownBy_drew _ _) hg5; have hcell5 : w5.cell? ⟨G, i, none⟩ = some (.slice (some ⟨g, 0, none⟩) m c) := (World.cell?_of_block (w := w1) (a := ⟨G, i, none⟩) (hgA.block G hGl (fun e => absurd (Option.some.inj e) hGn))).trans hcell; have hcell5L : ∀ o, (w5.alloc o).cell? ⟨G, i, none⟩ = some (.slice (some ⟨g, 0, none⟩) m c) := (fun o => (World.cell?_of_block (w := w5) (a := ⟨G, i, none⟩) ((World.grownBy_alloc w5 o none).block G (Nat.lt_of_lt_of_le hGl hgA.size) (fun e => by cases e))).trans hcell5); clear hg5 hk1)
    | (go_simp; go_at_call 45; with_reducible refine (pick_any (m : Int) (HS1.out.alloc _).drew (by omega) (by omega)).mono ?_; rintro e w5 ⟨⟨k0, rfl, hk0, hk1, _⟩, hs5, hg5, -⟩; have hk2 := hk1 (by omega); obtain ⟨k, rfl⟩ := Int.eq_ofNat_of_zero_le hk0; have hgA : w1.grownBy w5 (some b) := grownBy_trans (World.grownBy_alloc _ _ _) (grownBy_trans (grownBy_drew _ _) hg5); have hcell5 : w5.cell? ⟨G, i, none⟩ = some (.slice (some ⟨g, 0, none⟩) m c) := (World.cell?_of_block (w := w1) (a := ⟨G, i, none⟩) (hgA.block G hGl (fun e => absurd (Option.some.inj e) hGn))).trans hcell; have HLt := Lib.hid ((HLit.out.keptS (grownBy_trans (grownBy_drew _ (some b)) hg5) hbl1).rds); have hcell5L : ∀ o, (w5.alloc o).cell? ⟨G, i, none⟩ = some (.slice (some ⟨g, 0, none⟩) m c) := (fun o => (World.cell?_of_block (w := w5) (a := ⟨G, i, none⟩) ((World.grownBy_alloc w5 o none).block G (Nat.lt_of_lt_of_le hGl hgA.size) (fun e => by cases e))).trans hcell5); clear hg5 hk1)
    | (go_simp; go_at_call 80; with_reducible refine Calls.mono (amongL [-1, 0, 4095, 4096, -9223372036854775808] hs5 (by omega) rfl rfl (by decide) (by decide)) ?_; rintro e w6 ⟨⟨x, rfl, hx6⟩, hs6, hg6⟩; have hgB : w1.grownBy w6 (some b) := grownBy_trans hgA hg6; have hok : eI.ok x := okL x hx6; have hst := spoil_step (x := x) HD1.out hgB hb Hx.out hcell Hm.out (k := k) (by omega) hok; have HST := Lib.hid hst; obtain ⟨⟨y6, c6⟩, f6, -⟩ := hst; have hcell6 : w6.cell? ⟨G, i, none⟩ = some (.slice (some ⟨g, 0, none⟩) m c) := (World.cell?_of_block (w := w1) (a := ⟨G, i, none⟩) (hgB.block G hGl (fun e => absurd (Option.some.inj e) hGn))).trans hcell; clear hg6 hok hx6)
    | (go_simp; go_at_call 80; with_reducible refine Calls.mono (among_any (xs := [-1, 0, 4095, 4096, -9223372036854775808]) hs5 (by omega) HLt.out (Nat.le_refl _) (by decide) hneL) ?_; rintro e w6 ⟨⟨x, rfl, hx6⟩, hs6, hg6, -⟩; have hgB : w1.grownBy w6 (some b) := grownBy_trans hgA hg6; have hok : eI.ok x := okL x hx6; have hst := spoil_step (x := x) HD1.out hgB hb Hx.out hcell Hm.out (k := k) (by omega) hok; have HST := Lib.hid hst; obtain ⟨⟨y6, c6⟩, f6, -⟩ := hst; have hcell6 : w6.cell? ⟨G, i, none⟩ = some (.slice (some ⟨g, 0, none⟩) m c) := (World.cell?_of_block (w := w1) (a := ⟨G, i, none⟩) (hgB.block G hGl (fun e => absurd (Option.some.inj e) hGn))).trans hcell; clear hg6 hok hx6))
  all_goals
    obtain ⟨-, -, ⟨d', hd', hl'⟩, hbg6, hg7⟩ := HST.out
    have HD' := Lib.hid hd'
    have HL : Hid (d'.length = n) := Lib.hid (by rw [hl']; exact Hn.out.symm)
    have HG := Lib.hid (fun (w0 : World) (h : w0.grownBy w (some b)) (h2 : w0.heap.size ≤ base) => grown_own (grownBy_trans (Hg1.out w0 h h2) hgB) hg7 (fun q hq => by have h9 : g = q := Option.some.inj hq; omega))
    have HS := Lib.hid (hs6.kept hg7 (fun q hq => by have h9 : g = q := Option.some.inj hq; omega))
    have hz7 : w1.heap.size ≤ (w6.setCell ⟨g, k, none⟩ (.int .i64 x)).heap.size := Nat.le_trans hgB.size hg7.size
    clear hd' hl' hg7 c6 f6 hcell6 hcell5 hs6 hs5 hgA hgB HST hcell
    go_wp2
    go_end0
    exact ⟨rfl, ⟨d', HD'.out.mono hz7, HL.out⟩, HS.out.mono (by omega), HG.out⟩
end Go.Proofs.YtkpcdnbjngpooaaGreatDoor
namespace Go.Proofs.YtkpcdnbjngpooaaGreatDoor
open Go.ChangeShapes Go.WideShapes Go.ChangeAt Go.RowKit
set_option linter.unusedVariables false
set_option maxRecDepth 100000
def DrawnD2 (base : Nat) (e : Ending) (w' : World) : Prop := ∃ u d, e = .returned u ∧ OwnCardS base w' u d
theorem OwnTM.bld {e : TypeId} {base tp : Nat} {w : World} {v : Value} {xss : List (List Int)} (h : OwnTM e base tp w v xss) : BldG eI 2 e base base tp w v xss := h
set_option maxHeartbeats 2000000 in
theorem l02BentDeck_any {w : World} {b N : Nat} (hs : Src w b N) (hN : N ≤ 1000) :
    Calls Tryz.prog 76 #[.pointer (some ⟨b, 0, none⟩)] w fun e w' => DrawnD2 w.heap.size e w' ∧ Src w' b (N + 20000) ∧ w.grownBy w' (some b) := by
  obtain ⟨i0, hi, hz0, hz1, hz2⟩ := info_parts Tryz.infoCard
  have hbl := hs.lt
  go_enter Tryz.func76, Tryz.ntmps76
  go_wp2_with fail
  refine (pick_any 4 hs (by omega) (by omega)).mono ?_
  rintro e w1 ⟨⟨r, rfl, hr0, hr1, _⟩, hs1, hg1, -⟩
  have hr2 := hr1 (by omega)
  clear hr1 hs
  obtain ⟨m, hm, hq⟩ : ∃ m : Nat, (1 ≤ m ∧ m ≤ 4) ∧ (m : Int) = 1 + r := ⟨(1 + r).toNat, by omega, by omega⟩
  have Hv := Lib.hid (congrArg (Value.int IntKind.i64) hq)
  clear hq
  go_wp2_with fail
  rw [← Hv.out]
  refine (l02DrawDeck_any m 7 hs1 (by omega) (by omega) (by omega)).mono ?_
  rintro e w2 ⟨⟨u, d, rfl, hd, hl, hrw⟩, hs2, hg2⟩
  have hg2' := grownBy_trans hg1 hg2
  have hd2 : OwnTM 70 w.heap.size w2.heap.size w2 u d := by
    obtain ⟨q, h1, h2, h3, h4⟩ := hd
    have hz := hg1.size
    exact ⟨q, ⟨h1.1.mono hz, h1.2⟩, h2, fun i x xs e1 e2 => ⟨(h3 i x xs e1 e2).1.mono hz, (h3 i x xs e1 e2).2⟩, h4⟩
  clear hd hg1 hg2 hs1
  go_wp2_with fail
  refine (pick_any 16 hs2 (by omega) (by omega)).mono ?_
  rintro e w3 ⟨⟨q, rfl, hq0, hq1, _⟩, hs3, hg3, hz3⟩
  have hq2 := hq1 (by omega)
  have hd3 := hd2.keepS hg3 hbl
  rw [← hz3] at hd3
  have hg3' := grownBy_trans hg2' hg3
  have hsz3 : w.heap.size ≤ w3.heap.size := hg3'.size
  clear hd2 hg2' hg3 hz3 hs2 hq1
  obtain ⟨uo, uc, hu⟩ := hd3.shape
  by_cases q0 : q = 0
  · subst q0
    subst hu
    go_wp2_with fail
    refine (l02Draw_any (m + 1) hs3 (by omega) (by omega)).mono ?_
    rintro e w5 ⟨⟨u, xs, rfl, hR, hlx⟩, hs5, hg5⟩
    have hB5 := (hd3.keepS hg5 hbl).bld
    have hgr5 := grownBy_trans hg3' hg5
    have hsz5 := hg5.size
    obtain ⟨hs', xh, hval, hokx, hlen, hO, hfn⟩ := hB5.app hR (by omega) hsz5
    obtain ⟨rao, rcap, hsh⟩ := hR.shape
    subst hsh
    have hcells : (#[.slice rao xs.length rcap] : Array Value) = (eS.cells xh).toArray := by rw [← hval]; rfl
    have HO := Lib.hid hO
    have Hfn := Lib.hid hfn
    have Hlen := Lib.hid hlen
    have Hcells := Lib.hid hcells
    have hl0 := HO.out.lt
    have Hl0 := Lib.hid hl0
    have hszr : w.heap.size ≤ w5.heap.size := hgr5.size
    clear hR hB5 hval hlen hO hfn hcells hl0 hlx hg5 hd3 hg3' hsz5
    go_wp2_with (first | (at_builtin; refine wpList_appS (E := eS) rfl _ _ 28 rfl Tryz.underlying28 hi hz0 hz1 hz2 rfl (by decide) rfl rfl (HO.out.alloc _) (rds_one (E := eS) (x := xh) hokx Hcells.out) ?b1 ?b2 ?b3 ?_))
    case b1 => rw [Hlen.out]; unfold maxLen; simp; omega
    case b2 => rw [Hlen.out]; simp; omega
    case b3 => simp; omega
    intro v' w6 hO6 hg6
    have hg6' := hg6.alloc
    have hM6 := (Hfn.out w6 v' hO6 hg6').toM (Nat.le_refl _)
    have hs6 := hs5.kept hg6'.1 (fun q hq => by have := (Hl0.out q hq).1; omega)
    have hgr6 := grown_own hgr5 hg6'.1 (fun q hq => (Hl0.out q hq).1)
    have HM6 := Lib.hid hM6
    clear hO6 hg6 hg6' hM6 hs5 hgr5
    go_wp2
    go_ret
    exact ⟨⟨_, _, rfl, HM6.out⟩, hs6.mono (by omega), hgr6⟩
  by_cases q1 : q = 1
  · subst q1
    clear q0
    subst hu
    by_cases h0 : d.length = 0
    · obtain rfl : d = [] := List.eq_nil_of_length_eq_zero h0
      have HD3 := Lib.hid hd3
      clear hd3 h0
      go_wp2
      go_ret
      exact ⟨⟨_, _, rfl, HD3.out⟩, hs3.mono (by omega), hg3'⟩
    obtain ⟨G, cap, hsh, hbG, hGt, hGl⟩ := hd3.addr (by omega)
    cases hsh
    obtain ⟨n, hn⟩ : ∃ n, n = d.length := ⟨_, rfl⟩
    rw [← hn] at hd3 h0 hl ⊢
    have Hn := Lib.hid hn
    have HD3 := Lib.hid hd3
    have Hrw := Lib.hid hrw
    clear hd3 hrw hn
    go_wp2_with fail
    refine (pick_any (n : Int) hs3 (by omega) (by omega)).mono ?_
    rintro e w5 ⟨⟨k0, rfl, hk0, hk1, _⟩, hs5, hg5, hz5⟩
    have hk2 := hk1 (by omega)
    obtain ⟨k, rfl⟩ := Int.eq_ofNat_of_zero_le hk0
    have hd5 := HD3.out.keepS hg5 hbl
    rw [← hz5] at hd5
    have hg5' := grownBy_trans hg3' hg5
    have hsz5 : w.heap.size ≤ w5.heap.size := hg5'.size
    have HD5 := Lib.hid hd5
    have Hg5 := Lib.hid hg5'
    have hkn : k < n := by omega
    clear hk1 hg5 hz5 hd5 hg5' hg3' HD3 hs3
    go_wp2_with fail
    with_reducible refine (l02Spoil_any hs5 (by omega) HD5.out Hn.out hkn hbl hsz5 Hrw.out).mono ?_
    rintro e w6 ⟨rfl, ⟨d', hd', hl'⟩, hs6, hG6⟩
    have hg6 := hG6 w Hg5.out (Nat.le_refl _)
    have HD6 := Lib.hid hd'
    clear hG6 hd' hl' hs5 HD5 Hg5
    go_wp2
    go_ret
    exact ⟨⟨_, _, rfl, HD6.out⟩, hs6.mono (by omega), hg6⟩
  by_cases q2 : q = 2
  · subst q2
    clear q0 q1
    have hlit : Own eS 70 w.heap.size (w3.alloc (.cells #[] 70)) (.slice (some ⟨w3.heap.size, 0, none⟩) 0 0) [] := Own.lit (E := eS) (xs := []) (cs := #[]) hsz3 rfl rfl (by decide) (fun x hx => by cases hx)
    go_wp2_with fail
    refine (pick_any 2 (hs3.alloc _) (by omega) (by omega)).mono ?_
    rintro e w4 ⟨⟨p, rfl, hp0, hp1, _⟩, hs4, hg4, hz4⟩
    have hp2 := hp1 (by omega)
    have hB4 : BldG eI 2 70 w.heap.size w.heap.size w4.heap.size w4 (.slice (some ⟨w3.heap.size, 0, none⟩) 0 0) ([] : List (List Int)) := BldG.empty (B := w3.heap.size) rfl (hlit.keptS hg4 hbl) (by rw [hz4]; simp)
    have hg4' := grownBy_trans hg3' (grownBy_trans (World.grownBy_alloc _ _ _) hg4)
    clear hp1 hz4 hg4 hlit hs3 hd3 hg3' hu hrw hl
    go_wp2
    go_loopw [4, 5] (fun v k wr => ∃ (kk : Int) (xss : List (List Int)), 0 ≤ kk ∧ kk + xss.length ≤ 41 ∧ k = .int .i64 kk ∧ BldG eI 2 70 w.heap.size w.heap.size wr.heap.size wr v xss ∧ Src wr b (N + 6000 + 20 * xss.length) ∧ w.grownBy wr (some b)) (fun _ k _ => (intOf k).toNat)
    case atStart => exact ⟨40 + p, [], by omega, by simp; omega, rfl, hB4, hs4.mono (by (try simp) <;> omega), hg4'⟩
    case round =>
      obtain ⟨kk, xss, hk0, hkj, rfl, hB, hsr, hgr⟩ := hrel
      clear hB4 hs4 hg4'
      have hsz : w.heap.size ≤ wr.heap.size := hgr.size
      by_cases hk : 0 < kk
      · obtain ⟨vo, vc, hv⟩ := hB.shape
        subst hv
        go_wp2_with fail
        refine (l02Draw_any 1 hsr (by omega) (by omega)).mono ?_
        rintro e w5 ⟨⟨u, xs, rfl, hR, hlx⟩, hs5, hg5⟩
        have hB5 := hB.keepS hg5 hbl hbl
        have hgr5 := grownBy_trans hgr hg5
        have hsz5 := hg5.size
        obtain ⟨hs', xh, hval, hokx, hlen, hO, hfn⟩ := hB5.app hR (by omega) hsz5
        obtain ⟨rao, rcap, hsh⟩ := hR.shape
        subst hsh
        have hcells : (#[.slice rao xs.length rcap] : Array Value) = (eS.cells xh).toArray := by rw [← hval]; rfl
        have HO := Lib.hid hO
        have Hfn := Lib.hid hfn
        have Hlen := Lib.hid hlen
        have Hcells := Lib.hid hcells
        have hl0 := HO.out.lt
        have Hl0 := Lib.hid hl0
        have Hxl : Hid (xss.length ≤ 41) := Lib.hid (by omega)
        have hszr : w.heap.size ≤ w5.heap.size := hgr5.size
        clear hR hB hB5 hval hlen hO hfn hcells hl0 hlx hg5 hsr hgr hsz5
        go_wp2_with (first | (at_builtin; refine wpList_appS (E := eS) rfl _ _ 28 rfl Tryz.underlying28 hi hz0 hz1 hz2 rfl (by decide) rfl rfl (HO.out.alloc _) (rds_one (E := eS) (x := xh) hokx Hcells.out) ?b1 ?b2 ?b3 ?_))
        case b1 => rw [Hlen.out]; have := Hxl.out; unfold maxLen; simp; omega
        case b2 => rw [Hlen.out]; have := Hxl.out; simp; omega
        case b3 => simp; omega
        intro v' w6 hO6 hg6
        have hg6' := hg6.alloc
        have hB6 := Hfn.out w6 v' hO6 hg6'
        have hs6 := hs5.kept hg6'.1 (fun q hq => by have := (Hl0.out q hq).1; omega)
        have hgr6 := grown_own hgr5 hg6'.1 (fun q hq => (Hl0.out q hq).1)
        have HB6 := Lib.hid hB6
        clear hO6 hg6 hg6' hB6 hs5 hgr5
        go_wp2
        go_roundw
        case rel => exact ⟨kk - 1, _, by omega, by simp; omega, by go_num, HB6.out, hs6.mono (by simp; omega), hgr6⟩
        case measure => simp [intOf]; omega
      · have hM := hB.toM (Nat.le_refl _)
        have hl2 : xss.length ≤ 41 := by omega
        clear hB
        go_wp2
        go_ret
        exact ⟨⟨_, xss, rfl, hM⟩, hsr.mono (by omega), hgr⟩
  have e0 : (q == 0) = false := by simpa using q0
  have e1 : (q == 1) = false := by simpa using q1
  have e2 : (q == 2) = false := by simpa using q2
  have HD3 := Lib.hid hd3
  clear q0 q1 q2 hd3 hu
  go_wp2
  go_ret
  exact ⟨⟨_, _, rfl, HD3.out⟩, hs3.mono (by omega), hg3'⟩
end Go.Proofs.YtkpcdnbjngpooaaGreatDoor
namespace Go.Proofs.YtkpcdnbjngpooaaGreatDoor
open Go.ChangeShapes Go.WideShapes Go.ChangeAt Go.RowKit
set_option linter.unusedVariables false
set_option maxRecDepth 100000
structure DInv (w W : World) (b N X g cap tp : Nat) (v : Value) (xs : List Int) (xss : List (List Int)) : Prop where
  src : Src W b N
  gr : w.grownBy W (some b)
  bx : Box W X [.slice (some ⟨g, 0, none⟩) 6 cap]
  row : OwnInt64S tp W (.slice (some ⟨g, 0, none⟩) 6 cap) xs
  len : 6 = xs.length
  bld : BldG eI 2 70 w.heap.size w.heap.size tp W v xss
  ne : g ≠ X
  tX : tp ≤ X
  bb : b < w.heap.size
  tw : w.heap.size ≤ tp
  tz : tp ≤ W.heap.size
section
variable {w W W' : World} {b N M X g cap tp : Nat} {v : Value} {xs zs : List Int} {xss : List (List Int)}
theorem DInv.kept (h : DInv w W b N X g cap tp v xs xss) (hs : Src W' b M) (hg : W.grownBy W' (some b)) : DInv w W' b M X g cap tp v xs xss := by
  have h1 := h.tX
  have h2 := h.tw
  have h3 := h.bb
  exact ⟨hs, grownBy_trans h.gr hg, h.bx.keptB hg (fun e => by have := Option.some.inj e; omega), h.row.keptS hg (by omega), h.len, h.bld.keepS hg h3 h3, h.ne, h.tX, h.bb, h.tw, Nat.le_trans h.tz hg.size⟩
theorem DInv.bel (h : DInv w W b N X g cap tp v xs xss) (hb : Below W.heap.size W W') : DInv w W' b N X g cap tp v xs xss :=
  ⟨h.src.kept (below_grownS hb none) (fun k hk => by cases hk), grown_own h.gr (below_grownS hb none) (fun k hk => by cases hk), h.bx.on hb, h.row.below hb (Nat.le_refl _), h.len, h.bld.below hb h.tz, h.ne, h.tX, h.bb, h.tw, Nat.le_trans h.tz hb.size⟩
theorem DInv.rowG (h : DInv w W b N X g cap tp v xs xss) (hg : W.grownBy W' (some g)) (hz : OwnInt64S tp W' (.slice (some ⟨g, 0, none⟩) 6 cap) zs) (hl : zs.length = 6) : DInv w W' b N X g cap tp v zs xss := by
  have h1 : tp ≤ g := (h.row.lt g rfl).1
  have h2 := h.tw
  have h3 := h.bb
  exact ⟨h.src.kept hg (fun k hk => by have := Option.some.inj hk; omega), grown_own h.gr hg (fun k hk => by have := Option.some.inj hk; omega), h.bx.keptB hg (fun e => h.ne (Option.some.inj e)), hz, hl.symm, h.bld.keep hg (h.bld.sep (fun k hk => by have := Option.some.inj hk; omega)) (fun k hk => .inr (by have := Option.some.inj hk; omega)), h.ne, h.tX, h.bb, h.tw, Nat.le_trans h.tz hg.size⟩
theorem DInv.put (h : DInv w W b N X g cap tp v xs xss) {k : Nat} (hk : k < 6) {x : Int} (hx : eI.ok x) : (∃ y, W.cell? ⟨g, k, none⟩ = some (.int .i64 y)) ∧ W.frozen? ⟨g, k, none⟩ = false ∧ ∃ ys, DInv w (W.setCell ⟨g, k, none⟩ (.int .i64 x)) b N X g cap tp v ys xss := by
  obtain ⟨h1, h2, h3, h4⟩ := Own.storeI (x := x) h.row h.len (k := k) hk hx
  exact ⟨h1, h2, _, h.rowG h4 h3 (by rw [List.length_set]; exact h.len.symm)⟩
theorem DInv.drew (h : DInv w W b N X g cap tp v xs xss) : DInv w W.drew b N X g cap tp v xs xss := h.kept h.src.drew (grownBy_drew _ _)
theorem DInv.mono (h : DInv w W b N X g cap tp v xs xss) (hM : N ≤ M) : DInv w W b M X g cap tp v xs xss := ⟨h.src.mono hM, h.gr, h.bx, h.row, h.len, h.bld, h.ne, h.tX, h.bb, h.tw, h.tz⟩
end
theorem okI16 {n : Int} (h0 : 0 ≤ n) (h1 : n < 16) : eI.ok n := okSm (by omega)
set_option maxHeartbeats 4000000 in
theorem l23Deck_any {w : World} {b N : Nat} (hs : Src w b N) (hN : N ≤ 700) :
    Calls Tryz.prog 41 #[.pointer (some ⟨b, 0, none⟩)] w fun e w' => DrawnD2 w.heap.size e w' ∧ Src w' b (N + 30000) ∧ w.grownBy w' (some b) := by
  obtain ⟨i0, hi, hz0, hz1, hz2⟩ := info_parts Tryz.infoCard
  have hbl := hs.lt
  have hlit : Own eS 70 w.heap.size (w.alloc (.cells #[] 70)) (.slice (some ⟨w.heap.size, 0, none⟩) 0 0) [] := Own.lit (E := eS) (xs := []) (cs := #[]) (Nat.le_refl _) rfl rfl (by decide) (fun x hx => by cases hx)
  go_enter Tryz.func41, Tryz.ntmps41
  go_wp2_with fail
  refine (pick_any 9 (hs.alloc _) (by omega) (by omega)).mono ?_
  rintro e w3 ⟨⟨q3, rfl, hq30, hq31, _⟩, hs3, hg3, hz3⟩
  have hq32 := hq31 (by omega)
  have hB3 : BldG eI 2 70 w.heap.size w.heap.size w3.heap.size w3 (.slice (some ⟨w.heap.size, 0, none⟩) 0 0) ([] : List (List Int)) := BldG.empty (B := w.heap.size) rfl (hlit.keptS hg3 hbl) (by rw [hz3]; simp)
  have hg3' := grownBy_trans (World.grownBy_alloc _ _ _) hg3
  clear hq31 hz3 hg3 hlit hs
  go_wp2
  go_loopw [3, 4] (fun v k wr => ∃ (kk : Int) (xss : List (List Int)), 0 ≤ kk ∧ kk + xss.length ≤ 8 ∧ k = .int .i64 kk ∧ BldG eI 2 70 w.heap.size w.heap.size wr.heap.size wr v xss ∧ Src wr b (N + 2 + 20 * xss.length) ∧ w.grownBy wr (some b)) (fun _ k _ => (intOf k).toNat)
  case atStart => exact ⟨q3, [], by omega, by simp; omega, rfl, hB3, hs3.mono (by (try simp) <;> omega), hg3'⟩
  case round =>
    obtain ⟨kk, xss, hk0, hkj, rfl, hB, hsr, hgr⟩ := hrel
    clear hB3 hs3 hg3'
    have hsz : w.heap.size ≤ wr.heap.size := hgr.size
    by_cases hk : 0 < kk
    · obtain ⟨vo, vc, hv⟩ := hB.shape
      subst hv
      have Hxl : Hid (xss.length ≤ 8) := Lib.hid (by omega)
      go_wp2_with fail
      refine (text_in (fun s => s.size = 3) (nb := wr.heap.size) (n := 5) (hsr.alloc _) (by omega) (StrIn.new ?hst) (by omega) (by omega)).mono ?_
      case hst =>
        intro k hk
        obtain rfl | rfl | rfl | rfl | rfl : k = 0 ∨ k = 1 ∨ k = 2 ∨ k = 3 ∨ k = 4 := by omega
        all_goals exact ⟨_, rfl, rfl⟩
      rintro e w1 ⟨⟨s, rfl, hss⟩, hs1, hg1⟩
      have hga := grownBy_trans hgr (grownBy_trans (World.grownBy_alloc _ _ _) hg1)
      have hza : wr.heap.size < w1.heap.size := by have := hg1.size; simp at this; omega
      have hB1 := (hB.below ((Below.refl wr.heap.size wr).alloc (Nat.le_refl _) (.cells #[.string ⟨#[65, 66, 32]⟩, .string ⟨#[66, 65, 32]⟩, .string ⟨#[66, 32, 32]⟩, .string ⟨#[90, 79, 69]⟩, .string ⟨#[66, 32, 90]⟩] 9)) (Nat.le_refl _)).keepS hg1 hbl hbl
      clear hg1 hgr hB hsr
      have hs6 : (s ++ ({ data := #[48, 48, 48] } : ByteArray)).size = 6 := by rw [ByteArray.size_append, hss]; rfl
      obtain ⟨s', hs'⟩ : ∃ s', s' = s ++ ({ data := #[48, 48, 48] } : ByteArray) := ⟨_, rfl⟩
      rw [← hs'] at hs6
      have Hs' := Lib.hid hs'
      clear hs'
      go_wp2_with fail
      rw [← Hs'.out]
      clear hss
      refine (l03Card_any s' w1 (by omega)).mono ?_
      rintro e w2 ⟨⟨u, xs, rfl, hR, hlx⟩, hb2⟩
      rw [hs6] at hlx
      obtain ⟨g, cap, hsh, hgb, hgl⟩ := hR.addr (by omega)
      rw [hlx] at hsh
      subst hsh
      have hzb := hb2.size
      have hI : DInv w (w2.alloc (.cells #[.slice (some ⟨g, 0, none⟩) 6 cap] 70)) b (N + 2 + 20 * xss.length + 2) w2.heap.size g cap wr.heap.size (.slice vo xss.length vc) xs xss :=
        ⟨(hs1.kept (below_grownS hb2 none) (fun k hk => by cases hk)).alloc _, grownBy_trans (grown_own hga (below_grownS hb2 none) (fun k hk => by cases hk)) (World.grownBy_alloc _ _ _), Box.new w2 [.slice (some ⟨g, 0, none⟩) 6 cap] _, (hR.mono (by omega)).alloc _, hlx.symm, (hB1.below hb2 (by omega)).below ((Below.refl w2.heap.size w2).alloc (Nat.le_refl _) _) (by omega), by omega, by omega, hbl, hsz, by simp; omega⟩
      obtain ⟨W, hW⟩ : ∃ W, W = w2.alloc (.cells #[.slice (some ⟨g, 0, none⟩) 6 cap] 70) := ⟨_, rfl⟩
      rw [← hW] at hI
      have HW := Lib.hid hW
      clear hW hR hB1 hs1 hga hb2 hs6 hlx
      go_upto_region 6 with fail
      rw [← HW.out]
      clear HW
      have hX : wr.heap.size ≤ w2.heap.size := by omega
      clear hgb hgl hzb hza
      generalize w2.heap.size = X at hI hX ⊢
      generalize hT : wr.heap.size = tp at hI hX hsz
      clear hT
      as_aux_lemma =>
      go_wp2_with fail
      refine (pick_any 30 hI.src (by omega) (by omega)).mono ?_
      rintro e w3 ⟨⟨n, rfl, hn0, hn1, _⟩, hs3, hg3, -⟩
      have hn2 := hn1 (by omega)
      have h3 := hI.kept hs3 hg3
      clear hn1 hs3 hg3 hI
      go_wp2_with fail
      refine (l03Put_any n w3 (by omega)).mono ?_
      rintro e w4 ⟨⟨pu, ps, pq, rfl, hP, hpl⟩, hb4⟩
      have h4 := h3.bel hb4
      have hP' : ∀ k, pu.ownBlock = some k → k ≠ g := fun k hk => by have := (hP.lt k hk).1; have := (h3.row.lt g rfl).2; omega
      have hP4 : OwnInt64S tp w4 pu ps := hP.mono h3.tz
      obtain ⟨po, pc, hpu⟩ := hP4.shape
      rw [hpl] at hpu
      subst hpu
      have H4 := Lib.hid h4
      have HP4 := Lib.hid hP4
      have HP' := Lib.hid hP'
      clear hb4 h3 hP h4 hP4 hP'
      go_wp2_with fail
      refine (l04Put_any (f := 3) (m := 3) (n := 6) H4.out.bx H4.out.row H4.out.len HP4.out hpl.symm (by omega) (by omega) H4.out.ne HP'.out).mono ?_
      rintro e w5 ⟨rfl, ⟨zs, hz5, hl5⟩, hg5⟩
      have h5 := H4.out.rowG hg5 hz5 hl5
      clear H4 HP4 HP' hg5 hz5 hl5
      go_wp2_with fail
      refine (one_any 30 h5.src (by omega) (by omega)).mono ?_
      rintro e w6 ⟨⟨p, rfl⟩, hs6, hg6, -⟩
      have h6 := h5.kept hs6 hg6
      clear hs6 hg6 h5
      cases p with
      | false =>
        go_wp2_with fail
        refine (one_any 40 h6.src (by omega) (by omega)).mono ?_
        rintro e w8 ⟨⟨p, rfl⟩, hs8, hg8, -⟩
        have h8 := h6.kept hs8 hg8
        clear hs8 hg8 h6
        cases p with
        | false =>
          have hcpa := h8.bx.cell 0 _ rfl
          obtain ⟨hs', xh, hval, hokx, hlen, hO, hfn⟩ := h8.bld.app h8.row h8.tw h8.tz
          have hcells : (#[.slice (some ⟨g, 0, none⟩) 6 cap] : Array Value) = (eS.cells xh).toArray := by rw [show eS.cells xh = [xh.val] from rfl, hval]
          have HO := Lib.hid hO
          have Hfn := Lib.hid hfn
          have Hlen := Lib.hid hlen
          have Hcells := Lib.hid hcells
          have hl0 := HO.out.lt
          have Hl0 := Lib.hid hl0
          have hszr := h8.gr.size
          have HI := Lib.hid h8
          clear hval hlen hO hfn hcells hl0 h8
          go_wp2_with (first | (at_builtin; refine wpList_appS (E := eS) rfl _ _ 28 rfl Tryz.underlying28 hi hz0 hz1 hz2 rfl (by decide) rfl rfl (HO.out.alloc _) (rds_one (E := eS) (x := xh) hokx Hcells.out) ?b1pa ?b2pa ?b3pa ?_))
          case b1pa => rw [Hlen.out]; have := Hxl.out; unfold maxLen; simp; omega
          case b2pa => rw [Hlen.out]; have := Hxl.out; simp; omega
          case b3pa => simp; omega
          intro v' w6 hO6 hg6
          have hg6' := hg6.alloc
          have hB6 := Hfn.out w6 v' hO6 hg6'
          have hs6 := HI.out.src.kept hg6'.1 (fun q hq => by have := (Hl0.out q hq).1; have := HI.out.bb; omega)
          have hgr6 := grown_own HI.out.gr hg6'.1 (fun q hq => (Hl0.out q hq).1)
          have HB6 := Lib.hid hB6
          have Hs6 := Lib.hid hs6
          have Hg6 := Lib.hid hgr6
          clear hO6 hg6 hg6' hB6 hs6 hgr6 hcpa
          go_wp2
          go_roundw
          case rel => exact ⟨kk - 1, _, by omega, by simp; omega, by go_num, HB6.out, Hs6.out.mono (by simp; omega), Hg6.out⟩
          case measure => simp [intOf]; omega
        | true =>
          have c8 := h8.bx.cell 0 _ rfl
          obtain ⟨⟨y8, d8⟩, f8, ys8, hp8⟩ := h8.put (k := 4) (by omega) (x := 2048) (okSm (by omega))
          have H8 := Lib.hid h8
          have HP8 := Lib.hid hp8
          clear h8 hp8
          go_upto_region 11 with fail
          go_region_law (go_simp; go_at_call 75; with_reducible refine (l02Bit_c 9 _ (by omega)).mono ?_; rintro e w9 ⟨rfl, rfl⟩)
          all_goals
            obtain ⟨W9, hW9⟩ : ∃ W9, W9 = (w8.setCell ⟨g, 4, none⟩ (.int .i64 2048)).drew := ⟨_, rfl⟩
            have h9 := HP8.out.drew
            rw [← hW9] at h9 ⊢
            clear hW9 c8 d8 f8 HP8 H8
            have hcpb := h9.bx.cell 0 _ rfl
            obtain ⟨hs', xh, hval, hokx, hlen, hO, hfn⟩ := h9.bld.app h9.row h9.tw h9.tz
            have hcells : (#[.slice (some ⟨g, 0, none⟩) 6 cap] : Array Value) = (eS.cells xh).toArray := by rw [show eS.cells xh = [xh.val] from rfl, hval]
            have HO := Lib.hid hO
            have Hfn := Lib.hid hfn
            have Hlen := Lib.hid hlen
            have Hcells := Lib.hid hcells
            have hl0 := HO.out.lt
            have Hl0 := Lib.hid hl0
            have hszr := h9.gr.size
            have HI := Lib.hid h9
            clear hval hlen hO hfn hcells hl0 h9
            go_wp2_with (first | (at_builtin; refine wpList_appS (E := eS) rfl _ _ 28 rfl Tryz.underlying28 hi hz0 hz1 hz2 rfl (by decide) rfl rfl (HO.out.alloc _) (rds_one (E := eS) (x := xh) hokx Hcells.out) ?b1pb ?b2pb ?b3pb ?_))
            case b1pb => rw [Hlen.out]; have := Hxl.out; unfold maxLen; simp; omega
            case b2pb => rw [Hlen.out]; have := Hxl.out; simp; omega
            case b3pb => simp; omega
            intro v' w6 hO6 hg6
            have hg6' := hg6.alloc
            have hB6 := Hfn.out w6 v' hO6 hg6'
            have hs6 := HI.out.src.kept hg6'.1 (fun q hq => by have := (Hl0.out q hq).1; have := HI.out.bb; omega)
            have hgr6 := grown_own HI.out.gr hg6'.1 (fun q hq => (Hl0.out q hq).1)
            have HB6 := Lib.hid hB6
            have Hs6 := Lib.hid hs6
            have Hg6 := Lib.hid hgr6
            clear hO6 hg6 hg6' hB6 hs6 hgr6 hcpb
            go_wp2
            go_roundw
            case rel => exact ⟨kk - 1, _, by omega, by simp; omega, by go_num, HB6.out, Hs6.out.mono (by simp; omega), Hg6.out⟩
            case measure => simp [intOf]; omega
      | true =>
        have c6 := h6.bx.cell 0 _ rfl
        have H6 := Lib.hid h6
        clear h6
        go_upto_region 9 with fail
        go_region_law (first
          | (go_simp; go_at_call 45; with_reducible refine (pick_any 6 H6.out.src.drew (by omega) (by omega)).mono ?_; rintro e wA ⟨⟨k0, rfl, hk0, hk1, _⟩, hsA, hgA, -⟩; have hk2 := hk1 (by omega); obtain ⟨k, rfl⟩ := Int.eq_ofNat_of_zero_le hk0; have hA := H6.out.drew.kept hsA hgA; have cA := hA.bx.cell 0 _ rfl; have HA := Lib.hid hA; clear hA hsA hgA hk1)
          | (go_simp; go_at_call 45; with_reducible refine (pick_any 16 HA.out.src (by omega) (by omega)).mono ?_; rintro e wB ⟨⟨x, rfl, hx0, hx1, _⟩, hsB, hgB, -⟩; have hx2 := hx1 (by omega); have hB := HA.out.kept hsB hgB; have cB := hB.bx.cell 0 _ rfl; obtain ⟨⟨yB, dB⟩, fB, ysB, hpB⟩ := hB.put (k := k) (by omega) (x := x) (okI16 hx0 hx2); have HpB := Lib.hid hpB; clear hB hsB hgB hpB hx1))
        all_goals
          obtain ⟨W7, hW7⟩ : ∃ W7, W7 = wB.setCell ⟨g, k, none⟩ (.int .i64 x) := ⟨_, rfl⟩
          have h7 := HpB.out
          rw [← hW7] at h7 ⊢
          clear hW7 cB dB fB cA c6 HA H6 HpB
          go_wp2_with fail
          refine (one_any 40 h7.src (by omega) (by omega)).mono ?_
          rintro e w8 ⟨⟨p, rfl⟩, hs8, hg8, -⟩
          have h8 := h7.kept hs8 hg8
          clear hs8 hg8 h7
          cases p with
          | false =>
            have hcqa := h8.bx.cell 0 _ rfl
            obtain ⟨hs', xh, hval, hokx, hlen, hO, hfn⟩ := h8.bld.app h8.row h8.tw h8.tz
            have hcells : (#[.slice (some ⟨g, 0, none⟩) 6 cap] : Array Value) = (eS.cells xh).toArray := by rw [show eS.cells xh = [xh.val] from rfl, hval]
            have HO := Lib.hid hO
            have Hfn := Lib.hid hfn
            have Hlen := Lib.hid hlen
            have Hcells := Lib.hid hcells
            have hl0 := HO.out.lt
            have Hl0 := Lib.hid hl0
            have hszr := h8.gr.size
            have HI := Lib.hid h8
            clear hval hlen hO hfn hcells hl0 h8
            go_wp2_with (first | (at_builtin; refine wpList_appS (E := eS) rfl _ _ 28 rfl Tryz.underlying28 hi hz0 hz1 hz2 rfl (by decide) rfl rfl (HO.out.alloc _) (rds_one (E := eS) (x := xh) hokx Hcells.out) ?b1qa ?b2qa ?b3qa ?_))
            case b1qa => rw [Hlen.out]; have := Hxl.out; unfold maxLen; simp; omega
            case b2qa => rw [Hlen.out]; have := Hxl.out; simp; omega
            case b3qa => simp; omega
            intro v' w6 hO6 hg6
            have hg6' := hg6.alloc
            have hB6 := Hfn.out w6 v' hO6 hg6'
            have hs6 := HI.out.src.kept hg6'.1 (fun q hq => by have := (Hl0.out q hq).1; have := HI.out.bb; omega)
            have hgr6 := grown_own HI.out.gr hg6'.1 (fun q hq => (Hl0.out q hq).1)
            have HB6 := Lib.hid hB6
            have Hs6 := Lib.hid hs6
            have Hg6 := Lib.hid hgr6
            clear hO6 hg6 hg6' hB6 hs6 hgr6 hcqa
            go_wp2
            go_roundw
            case rel => exact ⟨kk - 1, _, by omega, by simp; omega, by go_num, HB6.out, Hs6.out.mono (by simp; omega), Hg6.out⟩
            case measure => simp [intOf]; omega
          | true =>
            have c8 := h8.bx.cell 0 _ rfl
            obtain ⟨⟨y8, d8⟩, f8, ys8, hp8⟩ := h8.put (k := 4) (by omega) (x := 2048) (okSm (by omega))
            have H8 := Lib.hid h8
            have HP8 := Lib.hid hp8
            clear h8 hp8
            go_upto_region 11 with fail
            go_region_law (go_simp; go_at_call 75; with_reducible refine (l02Bit_c 9 _ (by omega)).mono ?_; rintro e w9 ⟨rfl, rfl⟩)
            all_goals
              obtain ⟨W9, hW9⟩ : ∃ W9, W9 = (w8.setCell ⟨g, 4, none⟩ (.int .i64 2048)).drew := ⟨_, rfl⟩
              have h9 := HP8.out.drew
              rw [← hW9] at h9 ⊢
              clear hW9 c8 d8 f8 HP8 H8
              have hcqb := h9.bx.cell 0 _ rfl
              obtain ⟨hs', xh, hval, hokx, hlen, hO, hfn⟩ := h9.bld.app h9.row h9.tw h9.tz
              have hcells : (#[.slice (some ⟨g, 0, none⟩) 6 cap] : Array Value) = (eS.cells xh).toArray := by rw [show eS.cells xh = [xh.val] from rfl, hval]
              have HO := Lib.hid hO
              have Hfn := Lib.hid hfn
              have Hlen := Lib.hid hlen
              have Hcells := Lib.hid hcells
              have hl0 := HO.out.lt
              have Hl0 := Lib.hid hl0
              have hszr := h9.gr.size
              have HI := Lib.hid h9
              clear hval hlen hO hfn hcells hl0 h9
              go_wp2_with (first | (at_builtin; refine wpList_appS (E := eS) rfl _ _ 28 rfl Tryz.underlying28 hi hz0 hz1 hz2 rfl (by decide) rfl rfl (HO.out.alloc _) (rds_one (E := eS) (x := xh) hokx Hcells.out) ?b1qb ?b2qb ?b3qb ?_))
              case b1qb => rw [Hlen.out]; have := Hxl.out; unfold maxLen; simp; omega
              case b2qb => rw [Hlen.out]; have := Hxl.out; simp; omega
              case b3qb => simp; omega
              intro v' w6 hO6 hg6
              have hg6' := hg6.alloc
              have hB6 := Hfn.out w6 v' hO6 hg6'
              have hs6 := HI.out.src.kept hg6'.1 (fun q hq => by have := (Hl0.out q hq).1; have := HI.out.bb; omega)
              have hgr6 := grown_own HI.out.gr hg6'.1 (fun q hq => (Hl0.out q hq).1)
              have HB6 := Lib.hid hB6
              have Hs6 := Lib.hid hs6
              have Hg6 := Lib.hid hgr6
              clear hO6 hg6 hg6' hB6 hs6 hgr6 hcqb
              go_wp2
              go_roundw
              case rel => exact ⟨kk - 1, _, by omega, by simp; omega, by go_num, HB6.out, Hs6.out.mono (by simp; omega), Hg6.out⟩
              case measure => simp [intOf]; omega
    · have hM := hB.toM (Nat.le_refl _)
      have hl2 : xss.length ≤ 8 := by omega
      clear hB
      go_wp2_with fail
      refine (one_any 20 hsr (by omega) (by omega)).mono ?_
      rintro e w4 ⟨⟨q, rfl⟩, hs4, hg4, hz4⟩
      have hM4 := hM.keepS hg4 hbl
      rw [← hz4] at hM4
      have hg4' := grownBy_trans hgr hg4
      clear hM hg4 hgr hsr hz4
      cases q with
      | true =>
        clear hM4
        go_wp2_with fail
        refine (l02BentDeck_any hs4 (by omega)).mono ?_
        rintro e w5 ⟨⟨u, d, rfl, hd⟩, hs5, hg5⟩
        have hd5 : OwnCardS w.heap.size w5 u d := by
          obtain ⟨q, h1, h2, h3, h4⟩ := hd
          have hz := hg4'.size
          exact ⟨q, ⟨h1.1.mono hz, h1.2⟩, h2, fun i x xs e1 e2 => ⟨(h3 i x xs e1 e2).1.mono hz, (h3 i x xs e1 e2).2⟩, h4⟩
        have hg5' := grownBy_trans hg4' hg5
        have HD := Lib.hid hd5
        clear hd hd5 hg5 hg4'
        go_wp2
        go_ret
        exact ⟨⟨_, _, rfl, HD.out⟩, hs5.mono (by omega), hg5'⟩
      | false =>
        go_wp2
        go_ret
        exact ⟨⟨_, _, rfl, hM4⟩, hs4.mono (by omega), hg4'⟩
end Go.Proofs.YtkpcdnbjngpooaaGreatDoor
namespace Go.Proofs.YtkpcdnbjngpooaaGreatDoor
open Go.ChangeShapes Go.WideShapes Go.ChangeAt Go.RowKit
set_option linter.unusedVariables false
set_option maxRecDepth 100000
/-- the first ones of a slice of the call's own -/
theorem Own.takeN {α : Type} {E : Elt α} {e : TypeId} {base g n cap k : Nat} {w : World} {xs : List α} (h : Own E e base w (.slice (some ⟨g, 0, none⟩) n cap) xs) (hk : k ≤ n) : Own E e base w (.slice (some ⟨g, 0, none⟩) k cap) (xs.take k) := by
  rcases h.1.2 with ⟨h0, _⟩ | ⟨g', cap', cur, hv, hb, hg, hn, hm, hcs, ht⟩
  · cases h0
  · cases hv
    have hl : (xs.take k).length = k := by rw [List.length_take]; omega
    refine ⟨⟨E.all_length _, .inr ⟨g, cap, cur, by rw [hl], hb, hg, by rw [hl]; omega, hm, hcs, ?_⟩⟩, fun x hx => h.2 x (List.mem_of_mem_take hx)⟩
    have e : E.all xs = E.all (xs.take k) ++ E.all (xs.drop k) := by rw [← E.all_append, List.take_append_drop]
    have h1 : (xs.take k).length * E.sz ≤ xs.length * E.sz := Nat.mul_le_mul_right _ (by omega)
    rw [← E.all_length (xs.take k)] at h1 ⊢
    have h2 : (cur.toList.take (xs.length * E.sz)).take (E.all (xs.take k)).length = E.all (xs.take k) := by
      rw [ht, e, List.take_left]
    rw [List.take_take, Nat.min_eq_left h1] at h2
    exact h2
structure LInv (w W : World) (b N R D B n : Nat) (wd : Int) (xs : List ItemT) : Prop where
  src : Src W b N
  gr : w.grownBy W (some b)
  hR : Box W R [.int .i64 0, .slice none 0 0]
  hD : Box W D [.int .i64 wd, .slice (some ⟨B, 0, none⟩) n 2]
  row : OwnItemS (w.heap.size + 1) W (.slice (some ⟨B, 0, none⟩) n 2) xs
  len : n = xs.length
  bR : R = w.heap.size
  bD : D = w.heap.size + 2
  bB : B = w.heap.size + 1
  bb : b < w.heap.size
section
variable {w W W' : World} {b N M R D B n : Nat} {wd : Int} {xs : List ItemT}
theorem LInv.kept (h : LInv w W b N R D B n wd xs) (hs : Src W' b M) (hg : W.grownBy W' (some b)) : LInv w W' b M R D B n wd xs := by
  have h1 := h.bR
  have h2 := h.bD
  have h3 := h.bb
  exact ⟨hs, grownBy_trans h.gr hg, h.hR.keptB hg (fun e => by have := Option.some.inj e; omega), h.hD.keptB hg (fun e => by have := Option.some.inj e; omega), h.row.keptS hg (by omega), h.len, h.bR, h.bD, h.bB, h.bb⟩
theorem LInv.drew (h : LInv w W b N R D B n wd xs) : LInv w W.drew b N R D B n wd xs := h.kept h.src.drew (grownBy_drew _ _)
theorem LInv.alloc (h : LInv w W b N R D B n wd xs) (o : Obj) : LInv w (W.alloc o) b N R D B n wd xs := h.kept (h.src.alloc _) (World.grownBy_alloc _ _ _)
/-- a cell of the layout's own variable written -/
theorem LInv.setD (h : LInv w W b N R D B n wd xs) {j m : Nat} {v : Value} {wd' : Int} {ys : List ItemT} (hj : j < 2) (hv : ([.int .i64 wd, .slice (some ⟨B, 0, none⟩) n 2] : List Value).set j v = [.int .i64 wd', .slice (some ⟨B, 0, none⟩) m 2]) (hy : ∀ W', OwnItemS (w.heap.size + 1) W' (.slice (some ⟨B, 0, none⟩) n 2) xs → OwnItemS (w.heap.size + 1) W' (.slice (some ⟨B, 0, none⟩) m 2) ys) (hm : m = ys.length) : LInv w (W.setCell ⟨D, j, none⟩ v) b N R D B m wd' ys := by
  have h1 := h.bR
  have h2 := h.bD
  have h3 := h.bb
  have h4 := h.bB
  have hgD := grown_setP W ⟨D, j, none⟩ v
  have hb := h.hD.set1 (j := j) hj v
  rw [hv] at hb
  exact ⟨h.src.kept hgD (fun q hq => by have h9 : D = q := Option.some.inj hq; omega), grown_own h.gr hgD (fun q hq => by have h9 : D = q := Option.some.inj hq; omega), h.hR.other (by show D ≠ R; omega) v, hb, hy _ (h.row.kept hgD (.inr (fun e => by have h9 : B = D := Option.some.inj e; omega))), hm, h1, h2, h4, h3⟩
/-- a cell of an item written -/
theorem LInv.setI (h : LInv w W b N R D B n wd xs) {k j : Nat} {v : Value} {x y : ItemT} (hx : xs[k]? = some x) (hj : j < 4) (hc : (eItem.cells x).set j v = eItem.cells y) (hok : okItem y) :
    (∃ u, W.cell? ⟨B, k * 4 + j, none⟩ = some u) ∧ W.frozen? ⟨B, k * 4 + j, none⟩ = false ∧ LInv w (W.setCell ⟨B, k * 4 + j, none⟩ v) b N R D B n wd (xs.set k y) := by
  have h1 := h.bR
  have h2 := h.bD
  have h3 := h.bb
  have h4 := h.bB
  have hk : k < n := by have := at_lt hx; have := h.len; omega
  obtain ⟨c1, c2⟩ := Own.cellE h.row h.len (k := k) (j := j) hk hj
  obtain ⟨s1, s2⟩ := Own.store1 (E := eItem) (by decide) h.row h.len hx (j := j) hj hc hok
  refine ⟨c1, c2, h.src.kept s2 (fun q hq => by have h9 : B = q := Option.some.inj hq; omega), grown_own h.gr s2 (fun q hq => by have h9 : B = q := Option.some.inj hq; omega), h.hR.keptB s2 (fun e => by have h9 : B = R := Option.some.inj e; omega), h.hD.keptB s2 (fun e => by have h9 : B = D := Option.some.inj e; omega), s1, by rw [List.length_set]; exact h.len, h1, h2, h4, h3⟩
end
def DrawnLy (base : Nat) (e : Ending) (w' : World) : Prop := ∃ wd u xs, e = .returned (.agg #[.int .i64 wd, u]) ∧ OwnItemS base w' u xs
theorem LInv.fin {w W W2 : World} {b N R D B n : Nat} {wd : Int} {xs : List ItemT} (h : LInv w W b N R D B n wd xs) (hW : W2 = (W.setCell ⟨R, 0, none⟩ (.int .i64 wd)).setCell ⟨R, 1, none⟩ (.slice (some ⟨B, 0, none⟩) n 2)) : OwnItemS w.heap.size W2 (.slice (some ⟨B, 0, none⟩) n 2) xs ∧ Src W2 b N ∧ w.grownBy W2 (some b) := by
  have h1 := h.bR
  have h3 := h.bb
  have h4 := h.bB
  have g1 := grown_setP W ⟨R, 0, none⟩ (.int .i64 wd)
  have g2 := grown_setP (W.setCell ⟨R, 0, none⟩ (.int .i64 wd)) ⟨R, 1, none⟩ (.slice (some ⟨B, 0, none⟩) n 2)
  have g := grownBy_trans g1 g2
  rw [← hW] at g
  exact ⟨(h.row.kept g (.inr (fun e => by have h9 : B = R := Option.some.inj e; omega))).mono (by omega), h.src.kept g (fun q hq => by have h9 : R = q := Option.some.inj hq; omega), grown_own h.gr g (fun q hq => by have h9 : R = q := Option.some.inj hq; omega)⟩
def who0 : ItemT := ⟨⟨#[119, 104, 111]⟩, 1, 0, 3⟩
def hrs0 : ItemT := ⟨⟨#[104, 111, 117, 114, 115]⟩, 2, 3, 6⟩
theorem okNm {x : ItemT} {s : ByteArray} (hh : eItem.ok x) (h0 : s.size ≤ 100) : okItem ⟨s, x.kd, x.ff, x.ft⟩ := have h : okItem x := hh; ⟨by show s.size ≤ 9223372036854775807; omega, h.2⟩
theorem LInv.kindG {w W : World} {b N R D B : Nat} {wd n : Int} {xs : List ItemT} {k : Nat} (h : LInv w W b N R D B 2 wd xs) (hk : k < 2) (hn : -9223372036854775808 ≤ n ∧ n ≤ 9223372036854775807) :
    ∃ ys, (∃ u, W.cell? ⟨B, k * 4 + 1, none⟩ = some u) ∧ W.frozen? ⟨B, k * 4 + 1, none⟩ = false ∧ LInv w (W.setCell ⟨B, k * 4 + 1, none⟩ (.int .i64 n)) b N R D B 2 wd ys := by
  obtain ⟨x, hx⟩ : ∃ x, xs[k]? = some x := ⟨_, List.getElem?_eq_getElem (by have := h.len; omega)⟩
  have okx : okItem x := h.row.2 x (List.mem_of_getElem? hx)
  exact ⟨_, h.setI (v := .int .i64 n) (y := ⟨x.nm, n, x.ff, x.ft⟩) hx (j := 1) (by decide) rfl ⟨okx.1, hn, okx.2.2⟩⟩
theorem LInv.nameG {w W : World} {b N R D B : Nat} {wd : Int} {s : ByteArray} {xs : List ItemT} {k : Nat} (h : LInv w W b N R D B 2 wd xs) (hk : k < 2) (hs : s.size ≤ 100) :
    ∃ ys, (∃ u, W.cell? ⟨B, k * 4, none⟩ = some u) ∧ W.frozen? ⟨B, k * 4, none⟩ = false ∧ LInv w (W.setCell ⟨B, k * 4, none⟩ (.string s)) b N R D B 2 wd ys := by
  obtain ⟨x, hx⟩ : ∃ x, xs[k]? = some x := ⟨_, List.getElem?_eq_getElem (by have := h.len; omega)⟩
  have okx := h.row.2 x (List.mem_of_getElem? hx)
  exact ⟨_, h.setI (v := .string s) (y := ⟨s, x.kd, x.ff, x.ft⟩) hx (j := 0) (by decide) rfl (okNm okx hs)⟩
set_option maxHeartbeats 4000000 in
theorem l23Layout_any {w : World} {b N : Nat} (hs : Src w b N) (hN : N ≤ 100000) :
    Calls Tryz.prog 40 #[.pointer (some ⟨b, 0, none⟩)] w fun e w' => DrawnLy w.heap.size e w' ∧ Src w' b (N + 20) ∧ w.grownBy w' (some b) := by
  have hbl := hs.lt
  obtain ⟨W, hW⟩ : ∃ W, W = ((w.alloc (.cells #[.int .i64 0, .slice none 0 0] 27)).alloc (.cells #[.string ⟨#[119, 104, 111]⟩, .int .i64 1, .int .i64 0, .int .i64 3, .string ⟨#[104, 111, 117, 114, 115]⟩, .int .i64 2, .int .i64 3, .int .i64 6] 55)).alloc (.cells #[.int .i64 6, .slice (some ⟨w.heap.size + 1, 0, none⟩) 2 2] 27) := ⟨_, rfl⟩
  have hI : LInv w W b N w.heap.size (w.heap.size + 2) (w.heap.size + 1) 2 6 [who0, hrs0] := by
    obtain ⟨W1, hW1⟩ : ∃ W1, W1 = w.alloc (.cells #[.int .i64 0, .slice none 0 0] 27) := ⟨_, rfl⟩
    have z1 : W1.heap.size = w.heap.size + 1 := by rw [hW1]; simp
    obtain ⟨W2, hW2⟩ : ∃ W2, W2 = W1.alloc (.cells #[.string ⟨#[119, 104, 111]⟩, .int .i64 1, .int .i64 0, .int .i64 3, .string ⟨#[104, 111, 117, 114, 115]⟩, .int .i64 2, .int .i64 3, .int .i64 6] 55) := ⟨_, rfl⟩
    have z2 : W2.heap.size = w.heap.size + 2 := by rw [hW2]; simp [z1]
    rw [← hW1, ← hW2] at hW
    have hR : Box W w.heap.size [.int .i64 0, .slice none 0 0] := by rw [hW, hW2, hW1]; exact ((Box.new w [.int .i64 0, .slice none 0 0] _).alloc _).alloc _
    have hD : Box W (w.heap.size + 2) [.int .i64 6, .slice (some ⟨w.heap.size + 1, 0, none⟩) 2 2] := by
      have h := Box.new W2 [.int .i64 6, .slice (some ⟨w.heap.size + 1, 0, none⟩) 2 2] 27
      rw [z2, ← hW] at h
      exact h
    have hok : ∀ x ∈ [who0, hrs0], eItem.ok x := by
      intro x hx
      simp only [List.mem_cons, List.not_mem_nil, or_false] at hx
      rcases hx with rfl | rfl
      all_goals exact ⟨by decide, ⟨by decide, by decide⟩, ⟨by decide, by decide⟩, ⟨by decide, by decide⟩⟩
    have hrow : OwnItemS (w.heap.size + 1) W2 (.slice (some ⟨w.heap.size + 1, 0, none⟩) 2 2) [who0, hrs0] := by
      have h := Own.lit (E := eItem) (e := 55) (base := w.heap.size + 1) (w := W1) (xs := [who0, hrs0]) (cs := #[.string ⟨#[119, 104, 111]⟩, .int .i64 1, .int .i64 0, .int .i64 3, .string ⟨#[104, 111, 117, 114, 115]⟩, .int .i64 2, .int .i64 3, .int .i64 6]) (n := 2) (by omega) rfl rfl (by decide) hok
      rw [z1, ← hW2] at h
      exact h
    refine ⟨by rw [hW, hW2, hW1]; exact ((hs.alloc _).alloc _).alloc _, ?_, hR, hD, by rw [hW]; exact hrow.alloc _, rfl, rfl, rfl, rfl, hbl⟩
    rw [hW, hW2, hW1]
    exact grownBy_trans (World.grownBy_alloc _ _ _) (grownBy_trans (World.grownBy_alloc _ _ _) (World.grownBy_alloc _ _ _))
  have HW := Lib.hid hW
  clear hW
  go_enter Tryz.func40, Tryz.ntmps40
  go_upto_region 2 with fail
  rw [← HW.out]
  clear HW
  generalize hDD : w.heap.size + 2 = D at hI ⊢
  generalize hBB : w.heap.size + 1 = B at hI ⊢
  generalize hRR : w.heap.size = R at hI ⊢
  have hne : B ≠ D ∧ D ≠ B := by omega
  obtain ⟨hBD, hDB⟩ := hne
  clear hDD hBB
  have HRR := Lib.hid hRR
  clear hRR
  go_wp2_with fail
  refine (pick_any 20 hI.src (by omega) (by omega)).mono ?_
  rintro e w1 ⟨⟨q, rfl, hq0, hq1, _⟩, hs1, hg1, -⟩
  have h1 := hI.kept hs1 hg1
  clear hI hs1 hg1 hq1
  have d0 := h1.hD.cell 0 _ rfl
  have d1 := h1.hD.cell 1 _ rfl
  have f0 := h1.hD.free 0
  have f1 := h1.hD.free 1
  have H1 := Lib.hid h1
  clear h1
  by_cases q0 : q = 0
  · subst q0
    go_upto_region 4 with fail
    go_region_law (go_simp; go_at_call 45; with_reducible refine (pick_any 2 H1.out.src.drew (by omega) (by omega)).mono ?_; rintro e w3 ⟨⟨r, rfl, hr0, hr1, _⟩, hs3, hg3, -⟩; have hr2 := hr1 (by omega); obtain ⟨rr, rfl⟩ := Int.eq_ofNat_of_zero_le hr0; have h3 := H1.out.drew.kept hs3 hg3; have e0 := h3.hD.cell 0 _ rfl; have e1 := h3.hD.cell 1 _ rfl; have g1 := h3.hD.free 1; have hr3 : (rr : Int) ≤ 2 := (by omega); have H3 := Lib.hid h3; clear h3 hs3 hg3 hr1)
    all_goals
      have h5 := H3.out.setD (j := 1) (m := rr) (v := .slice (some ⟨B, 0, none⟩) rr 2) (wd' := 6) (by decide) rfl (fun W' h => Own.takeN h (by omega)) (by rw [List.length_take]; have := H3.out.len; simp at this ⊢; omega)
      clear H3 H1 e0 e1 g1 d0 d1 f0 f1
      have r0 := h5.hR.cell 0 _ rfl
      have r1 := h5.hR.cell 1 _ rfl
      have s0 := h5.hR.free 0
      have s1 := h5.hR.free 1
      have d0 := h5.hD.cell 0 _ rfl
      have d1 := h5.hD.cell 1 _ rfl
      have hF := Lib.hid (h5.fin rfl)
      have hM := Lib.hid (h5.src)
      clear h5
      go_wp2
      refine bodyPost_ret (v := .agg #[.int .i64 (6), .slice (some ⟨B, 0, none⟩) rr 2]) (by simp [results, Tryz.results40, go_sem, r0, r1]) rfl ⟨⟨_, _, _, rfl, hF.out.1⟩, hF.out.2.1.mono (by omega), hF.out.2.2⟩
  by_cases q1 : q = 1
  · subst q1
    clear q0
    go_upto_region 6 with fail
    go_region_law (first
      | (go_simp; go_at_call 45; with_reducible refine (pick_any 2 H1.out.src.drew (by omega) (by omega)).mono ?_; rintro e w3 ⟨⟨r, rfl, hr0, hr1, _⟩, hs3, hg3, -⟩; have hr2 := hr1 (by omega); obtain ⟨k, rfl⟩ := Int.eq_ofNat_of_zero_le hr0; have h3 := H1.out.drew.kept hs3 hg3; have e1 := h3.hD.cell 1 _ rfl; have hk : k < 2 := (by omega); have hki : (k : Int) < 2 := hr2; have H3 := Lib.hid h3; clear h3 hs3 hg3 hr1)
      | (go_simp; go_at_call 45; with_reducible refine (pick_any 2 H3.out.src (by omega) (by omega)).mono ?_; rintro e w4 ⟨⟨p, rfl, hp0, hp1, _⟩, hs4, hg4, -⟩; have hp2 := hp1 (by omega); have h4 := H3.out.kept hs4 hg4; have g1 := h4.hD.cell 1 _ rfl; obtain ⟨xs', ⟨y6, c6⟩, f6, h5⟩ := h4.kindG (n := IntKind.i64.wrap (1 + p)) hk (wrapb _); have H5 := Lib.hid h5; clear h4 h5 hs4 hg4 hp1))
    all_goals
      obtain ⟨W5, hW5⟩ : ∃ W5, W5 = w4.setCell ⟨B, k * 4 + 1, none⟩ (.int .i64 (IntKind.i64.wrap (1 + p))) := ⟨_, rfl⟩
      have h5 := H5.out
      rw [← hW5] at h5 ⊢
      clear hW5
      clear H5 H3 H1 c6 f6 e1 g1 d0 d1 f0 f1
      have r0 := h5.hR.cell 0 _ rfl
      have r1 := h5.hR.cell 1 _ rfl
      have s0 := h5.hR.free 0
      have s1 := h5.hR.free 1
      have d0 := h5.hD.cell 0 _ rfl
      have d1 := h5.hD.cell 1 _ rfl
      have hF := Lib.hid (h5.fin rfl)
      have hM := Lib.hid (h5.src)
      clear h5
      go_wp2
      refine bodyPost_ret (v := .agg #[.int .i64 (6), .slice (some ⟨B, 0, none⟩) 2 2]) (by simp [results, Tryz.results40, go_sem, r0, r1]) rfl ⟨⟨_, _, _, rfl, hF.out.1⟩, hF.out.2.1.mono (by omega), hF.out.2.2⟩
  by_cases q2 : q = 2
  · subst q2
    clear q0 q1
    go_wp2_with fail
    refine (pick_any 3 H1.out.src (by omega) (by omega)).mono ?_
    rintro e w3 ⟨⟨r, rfl, hr0, hr1, _⟩, hs3, hg3, -⟩
    have hr2 := hr1 (by omega)
    have h3 := H1.out.kept hs3 hg3
    have e0 := h3.hD.cell 0 _ rfl
    have g0 := h3.hD.free 0
    have h5 := h3.setD (j := 0) (m := 2) (v := .int .i64 (5 + r)) (wd' := 5 + r) (by decide) rfl (fun W' h => h) h3.len
    have H5 := Lib.hid h5
    clear h5 h3 hs3 hg3 hr1 H1 d0 d1 f0 f1
    go_upto_region 11 with fail
    have h5 := H5.out
    clear H5 e0 g0
    have r0 := h5.hR.cell 0 _ rfl
    have r1 := h5.hR.cell 1 _ rfl
    have s0 := h5.hR.free 0
    have s1 := h5.hR.free 1
    have d0 := h5.hD.cell 0 _ rfl
    have d1 := h5.hD.cell 1 _ rfl
    have hF := Lib.hid (h5.fin rfl)
    have hM := Lib.hid (h5.src)
    clear h5
    go_wp2
    refine bodyPost_ret (v := .agg #[.int .i64 (5 + r), .slice (some ⟨B, 0, none⟩) 2 2]) (by simp [results, Tryz.results40, go_sem, r0, r1]) rfl ⟨⟨_, _, _, rfl, hF.out.1⟩, hF.out.2.1.mono (by omega), hF.out.2.2⟩
  by_cases q3 : q = 3
  · subst q3
    clear q0 q1 q2
    go_upto_region 10 with fail
    have hb1 : b < w1.heap.size := H1.out.src.lt
    have hb1n : w1.heap.size ≠ b := by omega
    have HLn : Hid (∀ Wx : World, StrIn (fun s => s.size ≤ 100) (Wx.alloc (.cells #[.string ⟨#[120]⟩, .string ⟨#[119, 104, 111]⟩, .string ⟨#[]⟩] 9)) Wx.heap.size 3) := Lib.hid (fun Wx => StrIn.new (fun k hk => by
      obtain rfl | rfl | rfl : k = 0 ∨ k = 1 ∨ k = 2 := by omega
      all_goals exact ⟨_, rfl, by decide⟩))
    have HLt : Hid (StrIn (fun s => s.size ≤ 100) (w1.alloc (.cells #[.string ⟨#[120]⟩, .string ⟨#[119, 104, 111]⟩, .string ⟨#[]⟩] 9)) w1.heap.size 3) := Lib.hid (StrIn.new (fun k hk => by
      obtain rfl | rfl | rfl : k = 0 ∨ k = 1 ∨ k = 2 := by omega
      all_goals exact ⟨_, rfl, by decide⟩))
    have hBl : B < w1.heap.size := (H1.out.row.lt B rfl).2
    have hDl : D < w1.heap.size := H1.out.hD.lt
    go_region_law (first
      | (go_simp; go_at_call 45; with_reducible refine (pick_any 2 H1.out.src.drew (by omega) (by omega)).mono ?_; rintro e w3 ⟨⟨r, rfl, hr0, hr1, _⟩, hs3, hg3, -⟩; have hr2 := hr1 (by omega); obtain ⟨k, rfl⟩ := Int.eq_ofNat_of_zero_le hr0; have h3 := H1.out.drew.kept hs3 hg3; have e1 := h3.hD.cell 1 _ rfl; have e1L : ∀ o, (w3.alloc o).cell? ⟨D, 1, none⟩ = some (.slice (some ⟨B, 0, none⟩) 2 2) := (fun o => (h3.alloc o).hD.cell 1 _ rfl); have hk : k < 2 := (by omega); have hki : (k : Int) < 2 := hr2; have H3 := Lib.hid h3; clear h3 hs3 hg3 hr1)
      | (go_simp; go_at_call 45; with_reducible refine (pick_any 2 (H1.out.src.alloc _).drew (by omega) (by omega)).mono ?_; rintro e w3 ⟨⟨r, rfl, hr0, hr1, _⟩, hs3, hg3, -⟩; have hr2 := hr1 (by omega); obtain ⟨k, rfl⟩ := Int.eq_ofNat_of_zero_le hr0; have h3 := (H1.out.alloc _).drew.kept hs3 hg3; have HLu := Lib.hid ((HLt.out.grown (grownBy_drew _ (some b)) (fun e => absurd (Option.some.inj e) hb1n)).grown hg3 (fun e => absurd (Option.some.inj e) hb1n)); have e1 := h3.hD.cell 1 _ rfl; have hk : k < 2 := (by omega); have hki : (k : Int) < 2 := hr2; have H3 := Lib.hid h3; clear h3 hs3 hg3 hr1)
      | (go_simp; go_at_call 42; with_reducible refine (text_in (fun s => s.size ≤ 100) (nb := w3.heap.size) (n := 3) (H3.out.src.alloc _) (by omega) (HLn.out w3) (by have := H3.out.src.lt; omega) (by omega)).mono ?_; rintro e w4 ⟨⟨sn, rfl, hsn⟩, hs4, hg4⟩; have h4 := (H3.out.alloc _).kept hs4 hg4; have g1 := h4.hD.cell 1 _ rfl; obtain ⟨xs', ⟨y6, c6⟩, f6, h5⟩ := h4.nameG hk hsn; have H5 := Lib.hid h5; clear h4 h5 hs4 hg4)
      | (go_simp; go_at_call 42; with_reducible refine (text_in (fun s => s.size ≤ 100) (nb := w1.heap.size) (n := 3) H3.out.src (by omega) HLu.out hb1n (by omega)).mono ?_; rintro e w4 ⟨⟨sn, rfl, hsn⟩, hs4, hg4⟩; have h4 := H3.out.kept hs4 hg4; have g1 := h4.hD.cell 1 _ rfl; obtain ⟨xs', ⟨y6, c6⟩, f6, h5⟩ := h4.nameG hk hsn; have H5 := Lib.hid h5; clear h4 h5 hs4 hg4))
    all_goals
      obtain ⟨W5, hW5⟩ : ∃ W5, W5 = w4.setCell ⟨B, k * 4, none⟩ (.string sn) := ⟨_, rfl⟩
      have h5 := H5.out
      rw [← hW5] at h5 ⊢
      clear hW5
      clear H5 H3 H1 c6 f6 e1 g1 d0 d1 f0 f1
      have r0 := h5.hR.cell 0 _ rfl
      have r1 := h5.hR.cell 1 _ rfl
      have s0 := h5.hR.free 0
      have s1 := h5.hR.free 1
      have d0 := h5.hD.cell 0 _ rfl
      have d1 := h5.hD.cell 1 _ rfl
      have hF := Lib.hid (h5.fin rfl)
      have hM := Lib.hid (h5.src)
      clear h5
      go_wp2
      refine bodyPost_ret (v := .agg #[.int .i64 (6), .slice (some ⟨B, 0, none⟩) 2 2]) (by simp [results, Tryz.results40, go_sem, r0, r1]) rfl ⟨⟨_, _, _, rfl, hF.out.1⟩, hF.out.2.1.mono (by omega), hF.out.2.2⟩
  have e0 : (q == 0) = false := by simpa using q0
  have e1 : (q == 1) = false := by simpa using q1
  have e2 : (q == 2) = false := by simpa using q2
  have e3 : (q == 3) = false := by simpa using q3
  have h5 := H1.out
  clear q0 q1 q2 q3 H1 d0 d1 f0 f1
  have r0 := h5.hR.cell 0 _ rfl
  have r1 := h5.hR.cell 1 _ rfl
  have s0 := h5.hR.free 0
  have s1 := h5.hR.free 1
  have d0 := h5.hD.cell 0 _ rfl
  have d1 := h5.hD.cell 1 _ rfl
  have hF := Lib.hid (h5.fin rfl)
  have hM := Lib.hid (h5.src)
  clear h5
  go_wp2
  refine bodyPost_ret (v := .agg #[.int .i64 (6), .slice (some ⟨B, 0, none⟩) 2 2]) (by simp [results, Tryz.results40, go_sem, r0, r1]) rfl ⟨⟨_, _, _, rfl, hF.out.1⟩, hF.out.2.1.mono (by omega), hF.out.2.2⟩
end Go.Proofs.YtkpcdnbjngpooaaGreatDoor
namespace Go.Proofs.YtkpcdnbjngpooaaGreatDoor
open Go.ChangeShapes Go.WideShapes Go.ChangeAt Go.RowKit
set_option linter.unusedVariables false
set_option maxRecDepth 100000
def DrawnR (base : Nat) (e : Ending) (w' : World) : Prop := ∃ t L wd v xs u d, e = .returned (.tuple #[t, .agg #[.int .i64 wd, v], u]) ∧ Own eWorker 49 base w' t L ∧ OwnItemS base w' v xs ∧ OwnCardS base w' u d
def DrawnH (base : Nat) (e : Ending) (w' : World) : Prop := ∃ wd v xs u d nm, e = .returned (.tuple #[.agg #[.int .i64 wd, v], u, .string nm]) ∧ OwnItemS base w' v xs ∧ OwnCardS base w' u d ∧ nm.size ≤ 100
theorem OwnTM.monoB {e : TypeId} {base base' tp : Nat} {w : World} {v : Value} {xss : List (List Int)} (h : OwnTM e base tp w v xss) (hb : base' ≤ base) : OwnTM e base' tp w v xss := by
  obtain ⟨q, h1, h2, h3, h4⟩ := h
  exact ⟨q, ⟨h1.1.mono hb, h1.2⟩, h2, fun i x xs e1 e2 => ⟨(h3 i x xs e1 e2).1.mono hb, (h3 i x xs e1 e2).2⟩, h4⟩
theorem OwnCardS.keptR {base R : Nat} {w w' : World} {v : Value} {d : List (List Int)} (h : OwnCardS base w v d) (hg : w.grownBy w' (some R)) (hR : R < base) : OwnCardS base w' v d := (OwnTM.keepS h hg hR).mono hg.size
theorem l23Deck_b {w : World} {b N : Nat} (hs : Src w b N) (hN : N ≤ 700) :
    Calls Tryz.prog 41 #[.pointer (some ⟨b, 0, none⟩)] w fun e w' => (∃ u d, e = .returned u ∧ OwnCardS w.heap.size w' u d) ∧ Src w' b (N + 30000) ∧ w.grownBy w' (some b) := l23Deck_any hs hN
set_option maxHeartbeats 2000000 in
theorem l23All_any {w : World} {A : Nat} {v0 : Value} {cs : List Int} (ha : Rds eB A w v0 cs) (hA : A ≤ w.heap.size) :
    Calls Tryz.prog 20 #[v0] w fun e w' => DrawnR w.heap.size e w' ∧ Below w.heap.size w w' := by
  obtain ⟨ao, cap, hsh⟩ := ha.shape
  subst hsh
  obtain ⟨W, hW⟩ : ∃ W, W = w.alloc (.cells #[.int .i64 0, .slice none 0 0] 27) := ⟨_, rfl⟩
  have hR : Box W w.heap.size [.int .i64 0, .slice none 0 0] := by rw [hW]; exact Box.new w [.int .i64 0, .slice none 0 0] _
  have hb0 : Below w.heap.size w W := by rw [hW]; exact (Below.refl _ _).alloc (Nat.le_refl _) _
  have Ha := Lib.hid (ha.below hb0 hA)
  have hA0 : A ≤ W.heap.size := Nat.le_trans hA hb0.size
  have HW := Lib.hid hW
  clear hW ha
  go_enter Tryz.func20, Tryz.ntmps20
  go_wp2_with fail
  rw [← HW.out]
  clear HW
  refine (l00From_any Ha.out hA0).mono ?_
  rintro e w1 ⟨rfl, hs1, hb1⟩
  have hR1 := hR.on hb1
  have hbr : w.heap.size < W.heap.size := hR.lt
  have hB1 : Below w.heap.size w w1 := hb0.trans (hb1.mono hb0.size)
  clear hb1 hb0 hR Ha hA0
  generalize W.heap.size = b at hs1 hbr ⊢
  have hb1 : b < w1.heap.size := hs1.lt
  generalize hRR : w.heap.size = R at hR1 hbr hB1 ⊢
  have HRR := Lib.hid hRR
  clear hRR
  go_wp2_with fail
  refine (l23Bent_any hs1 (by omega)).mono ?_
  rintro e w2 ⟨⟨t, L, rfl, ht, hl⟩, hs2, hg2⟩
  have hR2 := hR1.keptB hg2 (fun e => by have := Option.some.inj e; omega)
  have hz2 := hg2.size
  clear hs1 hl hR1
  go_wp2_with fail
  refine (l23Layout_any hs2 (by omega)).mono ?_
  rintro e w3 ⟨⟨wd, v, xs, rfl, hv⟩, hs3, hg3⟩
  have hR3 := hR2.keptB hg3 (fun e => by have := Option.some.inj e; omega)
  have ht3 := ht.keptS hg3 hb1
  have hgA := grownBy_trans hg2 hg3
  have hz3 := hg3.size
  obtain ⟨io, icap, hv0⟩ := hv.shape
  subst hv0
  obtain ⟨W4, hW4⟩ : ∃ W4, W4 = w3.alloc (.cells #[.int .i64 wd, .slice io xs.length icap] 27) := ⟨_, rfl⟩
  have hD : Box W4 w3.heap.size [.int .i64 wd, .slice io xs.length icap] := by rw [hW4]; exact Box.new w3 [.int .i64 wd, .slice io xs.length icap] _
  have hR4 : Box W4 R [.int .i64 0, .slice none 0 0] := by rw [hW4]; exact hR3.alloc _
  have ht4 : Own eWorker 49 w1.heap.size W4 t L := by rw [hW4]; exact ht3.alloc _
  have hv4 : OwnItemS w2.heap.size W4 (.slice io xs.length icap) xs := by rw [hW4]; exact hv.alloc _
  have hs4 : Src W4 b (0 + 600 + 20) := by rw [hW4]; exact hs3.alloc _
  have hg4 : w1.grownBy W4 (some b) := by rw [hW4]; exact grownBy_trans hgA (World.grownBy_alloc _ _ _)
  have hz4 : w3.heap.size < W4.heap.size := hD.lt
  have HW4 := Lib.hid hW4
  have hDn : w3.heap.size ≠ b ∧ w3.heap.size ≠ R ∧ R ≠ w3.heap.size ∧ R ≠ b := by omega
  have Hz : Hid (R < b ∧ b < w1.heap.size ∧ w1.heap.size ≤ w2.heap.size ∧ w2.heap.size ≤ w3.heap.size ∧ w3.heap.size < W4.heap.size) := Lib.hid ⟨by omega, hb1, hz2, hz3, hz4⟩
  clear hW4 hs2 hs3 hg2 hg3 hR2 hR3 ht ht3 hv hgA hz2 hz3 hz4
  go_upto_region 4 with fail
  rw [← HW4.out]
  clear HW4
  generalize w3.heap.size = D at hD hDn Hz ⊢
  obtain ⟨n1, n2, n3, n4⟩ := hDn
  have c0 := hD.cell 0 _ rfl
  have c1 := hD.cell 1 _ rfl
  have r0 := hR4.cell 0 _ rfl
  have r1 := hR4.cell 1 _ rfl
  have s0 := hR4.free 0
  have s1 := hR4.free 1
  have HD := Lib.hid hD
  have HR := Lib.hid hR4
  have HT := Lib.hid ht4
  have HV := Lib.hid hv4
  have HS := Lib.hid hs4
  have HG := Lib.hid hg4
  have HB := Lib.hid hB1
  clear hD hR4 ht4 hv4 hs4 hg4 hB1 hbr hb1
  go_region_law (go_simp; go_at_call 41; with_reducible refine (l23Deck_b HS.out.drew (by omega)).mono ?_; rintro e w5 ⟨⟨u, d, rfl, hd⟩, hs5, hg5⟩; have hgd := grownBy_trans (grownBy_drew W4 (some b)) hg5; have hD5 := HD.out.keptB hgd (fun e => absurd (Option.some.inj e).symm n1); have hR5 := HR.out.keptB hgd (fun e => absurd (Option.some.inj e).symm n4); have e0 := hD5.cell 0 _ rfl; have e1 := hD5.cell 1 _ rfl; have p0 := hR5.cell 0 _ rfl; have p1 := hR5.cell 1 _ rfl; have q0 := hR5.free 0; have q1 := hR5.free 1; have HGD := Lib.hid hgd; have Hd := Lib.hid hd; clear hs5 hg5 hgd hD5 hR5 hd)
  all_goals
    have hfin : ∀ W6, w5.grownBy W6 (some R) → DrawnR w.heap.size (.returned (.tuple #[t, .agg #[.int .i64 wd, .slice io xs.length icap], u])) W6 ∧ Below w.heap.size w W6 := by
      intro W6 hg6
      obtain ⟨z1, z2, z3, z4, z5⟩ := Hz.out
      have hRw := HRR.out
      have hz5 := HGD.out.size
      have hB5 : Below w.heap.size w W6 := by
        have hBa : Below w.heap.size w W4 := (by rw [hRw]; exact HB.out : Below w.heap.size w w1).grown HG.out (by omega) (fun k hk => by have := Option.some.inj hk; omega)
        have hBb := hBa.grown HGD.out (by omega) (fun k hk => by have := Option.some.inj hk; omega)
        exact hBb.grown hg6 (by omega) (fun k hk => by have := Option.some.inj hk; omega)
      refine ⟨⟨t, L, wd, _, xs, u, d, rfl, ?_, ?_, ?_⟩, hB5⟩
      · refine ((HT.out.keptS HGD.out (by omega)).kept hg6 ?_).mono (by omega)
        cases ho : t.ownBlock with
        | none => exact .inl rfl
        | some k => right; intro hh; have h9 := (HT.out.lt k ho).1; have := Option.some.inj hh; omega
      · refine ((HV.out.keptS HGD.out (by omega)).kept hg6 ?_).mono (by omega)
        cases ho : (Value.slice io xs.length icap).ownBlock with
        | none => exact .inl rfl
        | some k => right; intro hh; have h9 := (HV.out.lt k ho).1; have := Option.some.inj hh; omega
      · have h1 : OwnCardS W4.heap.size w5 u d := Hd.out
        exact (OwnCardS.keptR h1 hg6 (by omega)).monoB (by omega)
    clear c0 c1 s0 s1 r0 r1
    go_wp2
    refine bodyPost_ret (v := .tuple #[t, .agg #[.int .i64 wd, .slice io xs.length icap], u]) (by simp [results, Tryz.results20, go_sem, p0, p1]) rfl (hfin _ ?_)
    first
      | exact grownBy_trans (grown_setP _ _ _) (grown_setP _ _ _)
      | exact grownBy_trans (grown_setP _ _ _) (grownBy_trans (grown_setP _ _ _) (grownBy_drew _ _))
set_option maxHeartbeats 1000000 in
theorem DrawPayrollOf_any {w : World} {A : Nat} {v0 : Value} {cs : List Int} (ha : Rds eB A w v0 cs) (hA : A ≤ w.heap.size) :
    Calls Tryz.prog 5 #[v0] w fun e w' => DrawnR w.heap.size e w' ∧ Below w.heap.size w w' := by
  obtain ⟨ao, cap, hsh⟩ := ha.shape
  subst hsh
  obtain ⟨W, hW⟩ : ∃ W, W = w.alloc (.cells #[.int .i64 0, .slice none 0 0] 27) := ⟨_, rfl⟩
  have hR : Box W w.heap.size [.int .i64 0, .slice none 0 0] := by rw [hW]; exact Box.new w [.int .i64 0, .slice none 0 0] _
  have hb0 : Below w.heap.size w W := by rw [hW]; exact (Below.refl _ _).alloc (Nat.le_refl _) _
  have Ha := Lib.hid (ha.below hb0 hA)
  have hA0 : A ≤ W.heap.size := Nat.le_trans hA hb0.size
  have HW := Lib.hid hW
  clear hW ha
  go_enter Tryz.func5, Tryz.ntmps5
  go_wp2_with fail
  rw [← HW.out]
  clear HW
  refine (l23All_any Ha.out hA0).mono ?_
  rintro e w5 ⟨⟨t, L, wd, v, xs, u, d, rfl, ht, hv, hd⟩, hb5⟩
  have hR5 := hR.on hb5
  obtain ⟨io, icap, hv0⟩ := hv.shape
  subst hv0
  have hB5 := hb0.trans (hb5.mono hb0.size)
  have hlt : w.heap.size < W.heap.size := hR.lt
  have hfin : ∀ W6, w5.grownBy W6 (some w.heap.size) → DrawnR w.heap.size (.returned (.tuple #[t, .agg #[.int .i64 wd, .slice io xs.length icap], u])) W6 ∧ Below w.heap.size w W6 := by
    intro W6 hg6
    refine ⟨⟨t, L, wd, _, xs, u, d, rfl, ?_, ?_, ?_⟩, hB5.grown hg6 hB5.size (fun k hk => by have := Option.some.inj hk; omega)⟩
    · refine (ht.kept hg6 ?_).mono (by omega)
      cases ho : t.ownBlock with
      | none => exact .inl rfl
      | some k => right; intro hh; have h9 := (ht.lt k ho).1; have := Option.some.inj hh; omega
    · refine (hv.kept hg6 ?_).mono (by omega)
      cases ho : (Value.slice io xs.length icap).ownBlock with
      | none => exact .inl rfl
      | some k => right; intro hh; have h9 := (hv.lt k ho).1; have := Option.some.inj hh; omega
    · exact (OwnCardS.keptR hd hg6 hlt).monoB (by omega)
  have Hfin := Lib.hid hfin
  have p0 := hR5.cell 0 _ rfl
  have p1 := hR5.cell 1 _ rfl
  have q0 := hR5.free 0
  have q1 := hR5.free 1
  clear hR hb0 Ha ht hv hd hb5 hR5 hB5 hfin hA0
  go_wp2
  refine bodyPost_ret (v := .tuple #[t, .agg #[.int .i64 wd, .slice io xs.length icap], u]) (by simp [results, Tryz.results5, go_sem, p0, p1]) rfl (Hfin.out _ ?_)
  first
    | exact grownBy_trans (grown_setP _ _ _) (grown_setP _ _ _)
    | exact grownBy_trans (grown_setP _ _ _) (grownBy_trans (grown_setP _ _ _) (grownBy_drew _ _))
set_option maxHeartbeats 2000000 in
theorem DrawHoursFrom_any {w : World} {A : Nat} {v0 : Value} {cs : List Int} (ha : Rds eB A w v0 cs) (hA : A ≤ w.heap.size) :
    Calls Tryz.prog 10 #[v0] w fun e w' => DrawnH w.heap.size e w' ∧ Below w.heap.size w w' := by
  obtain ⟨ao, cap, hsh⟩ := ha.shape
  subst hsh
  obtain ⟨W, hW⟩ : ∃ W, W = w.alloc (.cells #[.int .i64 0, .slice none 0 0] 27) := ⟨_, rfl⟩
  have hR : Box W w.heap.size [.int .i64 0, .slice none 0 0] := by rw [hW]; exact Box.new w [.int .i64 0, .slice none 0 0] _
  have hb0 : Below w.heap.size w W := by rw [hW]; exact (Below.refl _ _).alloc (Nat.le_refl _) _
  have Ha := Lib.hid (ha.below hb0 hA)
  have hA0 : A ≤ W.heap.size := Nat.le_trans hA hb0.size
  have HW := Lib.hid hW
  clear hW ha
  go_enter Tryz.func10, Tryz.ntmps10
  go_wp2_with fail
  rw [← HW.out]
  clear HW
  refine (l00From_any Ha.out hA0).mono ?_
  rintro e w1 ⟨rfl, hs1, hb1⟩
  have hR1 := hR.on hb1
  have hbr : w.heap.size < W.heap.size := hR.lt
  have hB1 : Below w.heap.size w w1 := hb0.trans (hb1.mono hb0.size)
  clear hb1 hb0 hR Ha hA0
  generalize W.heap.size = b at hs1 hbr ⊢
  have hb1 : b < w1.heap.size := hs1.lt
  generalize hRR : w.heap.size = R at hR1 hbr hB1 ⊢
  have HRR := Lib.hid hRR
  clear hRR
  go_wp2_with fail
  refine (l23Layout_any hs1 (by omega)).mono ?_
  rintro e w3 ⟨⟨wd, v, xs, rfl, hv⟩, hs3, hg3⟩
  have hR3 := hR1.keptB hg3 (fun e => by have := Option.some.inj e; omega)
  have hz3 := hg3.size
  obtain ⟨io, icap, hv0⟩ := hv.shape
  subst hv0
  obtain ⟨W4, hW4⟩ : ∃ W4, W4 = w3.alloc (.cells #[.int .i64 wd, .slice io xs.length icap] 27) := ⟨_, rfl⟩
  have hD : Box W4 w3.heap.size [.int .i64 wd, .slice io xs.length icap] := by rw [hW4]; exact Box.new w3 [.int .i64 wd, .slice io xs.length icap] _
  have hR4 : Box W4 R [.int .i64 0, .slice none 0 0] := by rw [hW4]; exact hR3.alloc _
  have hv4 : OwnItemS w1.heap.size W4 (.slice io xs.length icap) xs := by rw [hW4]; exact hv.alloc _
  have hs4 : Src W4 b (0 + 20) := by rw [hW4]; exact hs3.alloc _
  have hg4 : w1.grownBy W4 (some b) := by rw [hW4]; exact grownBy_trans hg3 (World.grownBy_alloc _ _ _)
  have hz4 : w3.heap.size < W4.heap.size := hD.lt
  have HW4 := Lib.hid hW4
  have hDn : w3.heap.size ≠ b ∧ w3.heap.size ≠ R ∧ R ≠ w3.heap.size ∧ R ≠ b := by omega
  have Hz : Hid (R < b ∧ b < w1.heap.size ∧ w1.heap.size ≤ w3.heap.size ∧ w3.heap.size < W4.heap.size) := Lib.hid ⟨by omega, hb1, hz3, hz4⟩
  clear hW4 hs1 hs3 hg3 hR1 hR3 hv hz3 hz4
  go_upto_region 3 with fail
  rw [← HW4.out]
  clear HW4
  generalize w3.heap.size = D at hD hDn Hz ⊢
  obtain ⟨n1, n2, n3, n4⟩ := hDn
  go_wp2_with fail
  refine (l23Deck_b hs4 (by omega)).mono ?_
  rintro e w5 ⟨⟨u, d, rfl, hd⟩, hs5, hg5⟩
  have hD5 := hD.keptB hg5 (fun e => absurd (Option.some.inj e).symm n1)
  have hR5 := hR4.keptB hg5 (fun e => absurd (Option.some.inj e).symm n4)
  have hz5 : W4.heap.size ≤ w5.heap.size := hg5.size
  have hv5 := hv4.keptS hg5 hb1
  have hg5' := grownBy_trans hg4 hg5
  have c0 := hD5.cell 0 _ rfl
  have c1 := hD5.cell 1 _ rfl
  have c0L : ∀ o, (w5.alloc o).cell? ⟨D, 0, none⟩ = some (.int .i64 wd) := fun o => (hD5.alloc o).cell 0 _ rfl
  have c1L : ∀ o, (w5.alloc o).cell? ⟨D, 1, none⟩ = some (.slice io xs.length icap) := fun o => (hD5.alloc o).cell 1 _ rfl
  have r0 := hR5.cell 0 _ rfl
  have r1 := hR5.cell 1 _ rfl
  have s0 := hR5.free 0
  have s1 := hR5.free 1
  have h5b : b < w5.heap.size := hs5.lt
  have h5n : w5.heap.size ≠ b := by omega
  have HLn : Hid (StrIn (fun s => s.size ≤ 100) (w5.alloc (.cells #[.string ⟨#[97, 98]⟩, .string ⟨#[98, 97]⟩, .string ⟨#[98]⟩, .string ⟨#[122, 111, 101]⟩, .string ⟨#[110, 111, 110, 101]⟩] 9)) w5.heap.size 5) := Lib.hid (StrIn.new (fun k hk => by
    obtain rfl | rfl | rfl | rfl | rfl : k = 0 ∨ k = 1 ∨ k = 2 ∨ k = 3 ∨ k = 4 := by omega
    all_goals exact ⟨_, rfl, by decide⟩))
  have HD := Lib.hid hD5
  have HR := Lib.hid hR5
  have HV := Lib.hid hv5
  have HS := Lib.hid hs5
  have HG := Lib.hid hg5'
  have Hd := Lib.hid hd
  have HB := Lib.hid hB1
  have Hz5 := Lib.hid hz5
  clear hD hD5 hR4 hR5 hv4 hv5 hs4 hs5 hg4 hg5 hg5' hd hB1 hbr hb1 hz5 h5b
  go_upto_region 4 with fail
  go_region_law (go_simp; go_at_call 42; with_reducible refine (text_in (fun s => s.size ≤ 100) (nb := w5.heap.size) (n := 5) (HS.out.alloc _).drew (by omega) (HLn.out.grown (grownBy_drew _ none) (fun e => by cases e)) h5n (by omega)).mono ?_; rintro e w6 ⟨⟨sn, rfl, hsn⟩, hs6, hg6⟩; have hgd : w5.grownBy w6 (some b) := grownBy_trans (World.grownBy_alloc _ _ _) (grownBy_trans (grownBy_drew _ _) hg6); have hD6 := HD.out.keptB hgd (fun e => absurd (Option.some.inj e).symm n1); have hR6 := HR.out.keptB hgd (fun e => absurd (Option.some.inj e).symm n4); have e0 := hD6.cell 0 _ rfl; have e1 := hD6.cell 1 _ rfl; have p0 := hR6.cell 0 _ rfl; have p1 := hR6.cell 1 _ rfl; have q0 := hR6.free 0; have q1 := hR6.free 1; have HGD := Lib.hid hgd; have Hsn := Lib.hid hsn; clear hs6 hg6 hgd hD6 hR6 hsn)
  all_goals
    have hfin : ∀ W6, w6.grownBy W6 (some R) → DrawnH w.heap.size (.returned (.tuple #[.agg #[.int .i64 wd, .slice io xs.length icap], u, .string sn])) W6 ∧ Below w.heap.size w W6 := by
      intro W6 hg6
      obtain ⟨z1, z2, z3, z4⟩ := Hz.out
      have hRw := HRR.out
      have hz5 := Hz5.out
      have hz6 := HGD.out.size
      have hB5 : Below w.heap.size w W6 := by
        have hBa : Below w.heap.size w w5 := (by rw [hRw]; exact HB.out : Below w.heap.size w w1).grown HG.out (by omega) (fun k hk => by have := Option.some.inj hk; omega)
        have hBb := hBa.grown HGD.out (by omega) (fun k hk => by have := Option.some.inj hk; omega)
        exact hBb.grown hg6 (by omega) (fun k hk => by have := Option.some.inj hk; omega)
      refine ⟨⟨wd, _, xs, u, d, sn, rfl, ?_, ?_, Hsn.out⟩, hB5⟩
      · refine ((HV.out.keptS HGD.out (by omega)).kept hg6 ?_).mono (by omega)
        cases ho : (Value.slice io xs.length icap).ownBlock with
        | none => exact .inl rfl
        | some k => right; intro hh; have h9 := (HV.out.lt k ho).1; have := Option.some.inj hh; omega
      · have h1 : OwnCardS W4.heap.size w5 u d := Hd.out
        exact (OwnCardS.keptR (OwnCardS.keptR h1 HGD.out (by omega)) hg6 (by omega)).monoB (by omega)
    clear c0 c1 s0 s1 r0 r1 c0L c1L
    go_wp2
    refine bodyPost_ret (v := .tuple #[.agg #[.int .i64 wd, .slice io xs.length icap], u, .string sn]) (by simp [results, Tryz.results10, go_sem, p0, p1]) rfl (hfin _ ?_)
    first
      | exact grownBy_trans (grown_setP _ _ _) (grown_setP _ _ _)
      | exact grownBy_trans (grown_setP _ _ _) (grownBy_trans (grown_setP _ _ _) (grownBy_drew _ _))
end Go.Proofs.YtkpcdnbjngpooaaGreatDoor
