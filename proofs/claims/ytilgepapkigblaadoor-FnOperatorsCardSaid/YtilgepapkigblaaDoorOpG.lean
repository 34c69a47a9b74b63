/- Operators: the drawing of two lists. Printed by gopg.py. No condition. -/
import Derived.Test.YtilgepapkigblaaDoorOpF
namespace Go.Proofs.YtilgepapkigblaaDoor
open Go.ChangeShapes Go.WideShapes Go.ChangeAt Go.RowKit
set_option linter.unusedVariables false
set_option maxRecDepth 100000
theorem Own.apart {α : Type} {E : Elt α} {e : TypeId} {base B : Nat} {w w' : World} {v u : Value} {xs : List α} (h : Own E e base w v xs) (hg : w.grownBy w' u.ownBlock) (hu : ∀ k, u.ownBlock = some k → B ≤ k) (hv : ∀ k, v.ownBlock = some k → k < B) : Own E e base w' v xs := by
  refine h.kept hg ?_
  cases ho : v.ownBlock with
  | none => exact .inl rfl
  | some k =>
    right
    intro e
    have h1 := hu k e.symm
    have h2 := hv k ho
    omega
def DrawnOO (base L M : Nat) (e : Ending) (w' : World) : Prop := ∃ u v xs ys, e = .returned (.tuple #[u, v]) ∧ Own eOperator 50 base w' u xs ∧ xs.length ≤ L ∧ Own eOperator 50 base w' v ys ∧ ys.length ≤ M
theorem xor_all : ∀ s : Fin 64, ∀ m : Fin 2, 0 ≤ bits BinOp.xor IntKind.i64 (s.val : Int) (m.val : Int) ∧ bits BinOp.xor IntKind.i64 (s.val : Int) (m.val : Int) ≤ 63 := by decide +kernel
theorem xor_any {s m : Int} (hs : 0 ≤ s ∧ s ≤ 63) (hm : 0 ≤ m ∧ m < 2) : 0 ≤ bits BinOp.xor IntKind.i64 s m ∧ bits BinOp.xor IntKind.i64 s m ≤ 63 := by
  have h := xor_all ⟨s.toNat, by omega⟩ ⟨m.toNat, by omega⟩
  have e1 : ((s.toNat : Nat) : Int) = s := by omega
  have e2 : ((m.toNat : Nat) : Int) = m := by omega
  simpa only [e1, e2] using h
set_option maxHeartbeats 1000000 in
theorem DrawSameOperators_any {w : World} {A : Nat} {v : Value} {cs : List Int} (ha : Rds eB A w v cs) (hA : A ≤ w.heap.size) :
    Calls Tryd.prog 20 #[v] w fun e w' => DrawnOO w.heap.size 6 7 e w' ∧ Below w.heap.size w w' := by
  obtain ⟨i0, hi, hz0, hz1, hz2⟩ := info_parts Tryd.infoOperator
  have Ha := Lib.hid ha
  obtain ⟨ao, cap, rfl⟩ := ha.shape
  clear ha
  have hq0 : okOperator ⟨⟨#[]⟩, 0⟩ := ⟨by decide, by decide, by decide⟩
  go_enter Tryd.func20, Tryd.ntmps20
  go_wp2_with fail
  refine (l00From_any Ha.out hA).mono ?_
  rintro e w1 ⟨rfl, hs1, hb1⟩
  have hz1b : w.heap.size < w1.heap.size := hs1.lt
  have Hb1 := Lib.hid hb1
  clear hb1
  go_wp2_with fail
  refine (l22Draw_v hs1 (by omega)).mono ?_
  rintro e w2 ⟨⟨u, xs, rfl, ho2, hl2, hr2⟩, hs2, hg2⟩
  have hb2 : Below w.heap.size w w2 := grown_below Hb1.out hg2 (Nat.le_refl _) (by omega)
  have hzz : w1.heap.size ≤ w2.heap.size := hg2.size
  have hz2b : w.heap.size ≤ w2.heap.size := hb2.size
  have hsep : ∀ k, u.ownBlock = some k → k < w2.heap.size := fun k hk => (ho2.lt k hk).2
  obtain ⟨ao2, cap2, rfl⟩ := ho2.shape
  have hlit : Own eOperator 50 w2.heap.size (w2.alloc (.cells #[] 50)) (.slice (some ⟨w2.heap.size, 0, none⟩) 0 0) [] :=
    Own.lit (E := eOperator) (xs := []) (cs := #[]) (Nat.le_refl _) rfl rfl (by decide) (fun x hx => by cases hx)
  have hba := hb2.alloc hz2b (.cells #[] 50)
  have hsa := hs2.alloc (.cells #[] 50)
  have hoa := ho2.alloc (.cells #[] 50)
  have Hbl : Hid (w.heap.size < w2.heap.size) := Lib.hid (by omega)
  have Hz12 : Hid (w.heap.size < w1.heap.size ∧ w1.heap.size ≤ w2.heap.size) := Lib.hid ⟨hz1b, hzz⟩
  have Hsep := Lib.hid hsep
  have Hr2 := Lib.hid hr2
  clear hs1 hg2 hb2 hs2 ho2 hsep hr2
  go_wp2_with (first | (at_builtin; refine wpList_appS (E := eOperator) rfl _ _ 22 rfl Tryd.underlying22 hi hz0 hz1 hz2 rfl (by decide) rfl rfl hlit hoa.rds ?b1 ?b2 ?b3 ?_))
  case b1 => unfold maxLen; simp; omega
  case b2 => simp; omega
  case b3 => simp
  intro v' w3 hc hg3
  have hg3' := hg3.1
  have hg3z : w2.heap.size + 1 ≤ w3.heap.size := by have := hg3'.size; simpa using this
  have hs3 := hsa.kept hg3' (fun k hk => by have := (hlit.lt k hk).1; have := Hbl.out; omega)
  have ho3 := hoa.apart hg3' (fun k hk => (hlit.lt k hk).1) Hsep.out
  have hb3 : Below w.heap.size w w3 := hba.grown hg3' (by have := hba.size; exact this) (fun k hk => by have := (hlit.lt k hk).1; have := Hbl.out; omega)
  clear hg3 hg3' hlit hba hsa hoa
  obtain ⟨ao3, cap3, rfl⟩ := hc.shape
  have hz3 : w2.heap.size ≤ w3.heap.size := by have := hg3z; omega
  by_cases h0 : xs.length = 0
  · obtain rfl : xs = [] := List.eq_nil_of_length_eq_zero h0
    clear h0
    go_wp2_with fail
    refine (one_any 5 hs3 (by omega) (by omega)).mono ?_
    rintro e w8 ⟨⟨p, rfl⟩, hs8, hg8, -⟩
    have hz0c : w.heap.size ≤ w3.heap.size := (hb3).size
    have hb8 := grown_below hb3 hg8 (Nat.le_refl _) hz0c
    have ho8 := (ho3).keptS hg8 Hz12.out.1
    have hc8 := (hc).keptS hg8 Hbl.out
    have hz8 : w2.heap.size ≤ w8.heap.size := by have := hg8.size; omega
    clear hs3 ho3 hc hb3 hg8 hs8
    cases p with
    | true =>
      go_wp2_with (first | (at_builtin; go_loud (refine wpList_appS (E := eOperator) rfl _ _ 22 rfl Tryd.underlying22 hi hz0 hz1 hz2 rfl (by decide) rfl rfl (hc8.alloc _) (rds_one (E := eOperator) (x := ⟨⟨#[]⟩, 0⟩) hq0 rfl) ?b1a ?b2a ?b3a ?_)))
      case b1a => unfold maxLen; simp <;> omega
      case b2a => simp <;> omega
      case b3a => simp <;> omega
      intro v9 w9 hc9 hg9
      have hg9' := hg9.alloc.1
      have ho9 := ho8.apart hg9' (fun k hk => (hc8.lt k hk).1) Hsep.out
      have hb9 : Below w.heap.size w w9 := hb8.grown hg9' (by have := hb8.size; exact this) (fun k hk => by have := (hc8.lt k hk).1; have := Hbl.out; omega)
      have hoF := ho9.mono (base' := w.heap.size) (by have := Hz12.out; omega)
      have hcF := hc9.mono (base' := w.heap.size) (by have := Hz12.out; omega)
      clear hg9 hg9' ho9 hc9 ho8 hc8 hb8
      go_wp2
      go_ret2
      exact ⟨⟨_, _, _, _, rfl, hoF, hl2, hcF, by simp <;> omega⟩, hb9⟩
    | false =>
      have hoF := ho8.mono (base' := w.heap.size) (by have := Hz12.out; omega)
      have hcF := hc8.mono (base' := w.heap.size) (by have := Hz12.out; omega)
      clear ho8 hc8
      go_wp2
      go_ret2
      exact ⟨⟨_, _, _, _, rfl, hoF, hl2, hcF, by first | (simp; omega) | omega⟩, hb8⟩
  · have h1 : (0 : Int) < (xs.length : Int) := by omega
    have hf : decide ((0 : Int) < (xs.length : Int)) = true := decide_eq_true h1
    go_wp2_with fail
    refine (one_any 2 hs3 (by omega) (by omega)).mono ?_
    rintro e w4 ⟨⟨q, rfl⟩, hs4, hg4, -⟩
    have hz0d : w.heap.size ≤ w3.heap.size := hb3.size
    have hb4 := grown_below hb3 hg4 (Nat.le_refl _) hz0d
    have ho4 := ho3.keptS hg4 Hz12.out.1
    have hc4 := hc.keptS hg4 Hbl.out
    have hz4 : w2.heap.size ≤ w4.heap.size := Nat.le_trans hz3 hg4.size
    clear hs3 ho3 hc hb3 hg4 hz3
    cases q with
    | false =>
      go_wp2_with fail
      refine (one_any 5 hs4 (by omega) (by omega)).mono ?_
      rintro e w8 ⟨⟨p, rfl⟩, hs8, hg8, -⟩
      have hz0c : w.heap.size ≤ w4.heap.size := (hb4).size
      have hb8 := grown_below hb4 hg8 (Nat.le_refl _) hz0c
      have ho8 := (ho4).keptS hg8 Hz12.out.1
      have hc8 := (hc4).keptS hg8 Hbl.out
      have hz8 : w2.heap.size ≤ w8.heap.size := by have := hg8.size; omega
      clear hs4 ho4 hc4 hb4 hg8 hs8
      cases p with
      | true =>
        go_wp2_with (first | (at_builtin; go_loud (refine wpList_appS (E := eOperator) rfl _ _ 22 rfl Tryd.underlying22 hi hz0 hz1 hz2 rfl (by decide) rfl rfl (hc8.alloc _) (rds_one (E := eOperator) (x := ⟨⟨#[]⟩, 0⟩) hq0 rfl) ?b1b ?b2b ?b3b ?_)))
        case b1b => unfold maxLen; simp <;> omega
        case b2b => simp <;> omega
        case b3b => simp <;> omega
        intro v9 w9 hc9 hg9
        have hg9' := hg9.alloc.1
        have ho9 := ho8.apart hg9' (fun k hk => (hc8.lt k hk).1) Hsep.out
        have hb9 : Below w.heap.size w w9 := hb8.grown hg9' (by have := hb8.size; exact this) (fun k hk => by have := (hc8.lt k hk).1; have := Hbl.out; omega)
        have hoF := ho9.mono (base' := w.heap.size) (by have := Hz12.out; omega)
        have hcF := hc9.mono (base' := w.heap.size) (by have := Hz12.out; omega)
        clear hg9 hg9' ho9 hc9 ho8 hc8 hb8
        go_wp2
        go_ret2
        exact ⟨⟨_, _, _, _, rfl, hoF, hl2, hcF, by simp <;> omega⟩, hb9⟩
      | false =>
        have hoF := ho8.mono (base' := w.heap.size) (by have := Hz12.out; omega)
        have hcF := hc8.mono (base' := w.heap.size) (by have := Hz12.out; omega)
        clear ho8 hc8
        go_wp2
        go_ret2
        exact ⟨⟨_, _, _, _, rfl, hoF, hl2, hcF, by first | (simp; omega) | omega⟩, hb8⟩
    | true =>
      obtain ⟨g, cp, hsh, hbg, hgl⟩ := hc4.addr (by omega)
      obtain ⟨rfl, rfl⟩ : ao3 = some ⟨g, 0, none⟩ ∧ cap3 = cp := by cases hsh; exact ⟨rfl, rfl⟩
      obtain ⟨x, hx⟩ : ∃ x, xs[0]? = some x := ⟨_, List.getElem?_eq_getElem (by omega)⟩
      obtain ⟨-, hsk⟩ := Hr2.out 0 x hx
      have hop := eOperator_open hc4.rds
      obtain ⟨bo, bc, hv, hopen⟩ := hop
      cases hv
      obtain ⟨bg, bf, e1, -, hcc⟩ := hopen (by omega)
      cases e1
      obtain ⟨y, hy, ⟨-, c1⟩, okx⟩ := hcc 0 (by omega)
      obtain rfl : x = y := Option.some.inj (hx.symm.trans hy)
      obtain ⟨-, f1⟩ := Own.cellE hc4 rfl (k := 0) (j := 1) (by omega) (by decide)
      simp only [show eOperator.sz = 2 from rfl, Nat.zero_mul, Nat.zero_add] at c1 f1
      have HS := Lib.hid hs4
      have HO := Lib.hid ho4
      have HC := Lib.hid hc4
      have HB := Lib.hid hb4
      have Hx := Lib.hid hx
      
      have hoky : ∀ m : Int, 0 ≤ m → m < 2 → eOperator.ok ⟨x.nm, bits BinOp.xor IntKind.i64 x.skills m⟩ := fun m h1 h2 => by
        have h3 := xor_any hsk ⟨h1, h2⟩
        show okOperator _
        exact ⟨okx.1, by show -9223372036854775808 ≤ bits BinOp.xor IntKind.i64 x.skills m; omega, by show bits BinOp.xor IntKind.i64 x.skills m ≤ 9223372036854775807; omega⟩
      have Hoky := Lib.hid hoky
      have Hgz := Lib.hid hgl
      have Hg0 : Hid (w2.heap.size ≤ g) := Lib.hid hbg
      clear hs4 ho4 hc4 hb4 hx hy okx hsk hoky hopen hcc hgl hbg hz4
      go_upto_region 5 with fail
      go_region_law (go_simp; go_at_call 41; with_reducible refine (pick_any 2 HS.out.drew (by omega) (by omega)).mono ?_; rintro e w5 ⟨⟨m, rfl, hm0, hm1, -⟩, hs5, hg5, -⟩; have hgd := grownBy_trans (grownBy_drew w4 (some w.heap.size)) hg5; have hm2 := hm1 (by omega); have ho5 := HO.out.keptS hgd Hz12.out.1; have hc5 := HC.out.keptS hgd Hbl.out; have hgw : w.heap.size < g := (by have := Hg0.out; have := Hbl.out; omega); have hlg : g < w4.heap.size := Hgz.out; have c1' : w5.cell? ⟨g, 1, none⟩ = some (.int .i64 x.skills) := ((World.cell?_of_block (w := w4) (a := ⟨g, 1, none⟩) (hgd.block g hlg (fun e => by have := Option.some.inj e; omega))).trans c1); have f1' : w5.frozen? ⟨g, 1, none⟩ = false := ((World.frozen?_of_block (w := w4) (a := ⟨g, 1, none⟩) (hgd.block g hlg (fun e => by have := Option.some.inj e; omega))).trans f1); have hst := Own.store1 (E := eOperator) (by decide) hc5 rfl (k := 0) (x := x) (y := ⟨x.nm, bits BinOp.xor IntKind.i64 x.skills m⟩) (v := .int .i64 (bits BinOp.xor IntKind.i64 x.skills m)) Hx.out (j := 1) (by decide) rfl (Hoky.out m hm0 hm2); simp only [show eOperator.sz = 2 from rfl, Nat.zero_mul, Nat.zero_add] at hst; have HST := Lib.hid hst; have HS5 := Lib.hid hs5; have HO5 := Lib.hid ho5; have HB5 := Lib.hid (grown_below HB.out hgd (Nat.le_refl _) HB.out.size); have Hzz5 := Lib.hid hgd.size; clear hs5 hg5 hgd ho5 hc5 hst hm1)
      · obtain ⟨W, hW⟩ : ∃ W, W = w5.setCell ⟨g, 1, none⟩ (.int .i64 (bits BinOp.xor IntKind.i64 x.skills m)) := ⟨_, rfl⟩
        have hstW := HST.out
        have hgE : (Value.slice (some ⟨g, 0, none⟩) xs.length cap3).ownBlock = some g := rfl
        rw [← hW] at hstW ⊢
        have hoW := HO5.out.apart (u := .slice (some ⟨g, 0, none⟩) xs.length cap3) hstW.2 (fun k hk => by have h1 : g = k := Option.some.inj hk; have h2 : w2.heap.size ≤ g := Hg0.out; omega) Hsep.out
        have hsW := HS5.out.kept hstW.2 (fun k hk => by have := Option.some.inj hk; omega)
        have hbW : Below w.heap.size w W := HB5.out.grown hstW.2 HB5.out.size (fun k hk => by have := Option.some.inj hk; omega)
        have hcW := hstW.1
        have hzW : w2.heap.size ≤ W.heap.size := by have := hstW.2.size; have := Hzz5.out; have := Hg0.out; have := Hgz.out; omega
        have hlW : (xs.set 0 ⟨x.nm, bits BinOp.xor IntKind.i64 x.skills m⟩).length = xs.length := List.length_set
        obtain ⟨ys, hys⟩ : ∃ ys, ys = xs.set 0 ⟨x.nm, bits BinOp.xor IntKind.i64 x.skills m⟩ := ⟨_, rfl⟩
        rw [← hys] at hcW hlW
        have hl7 : ys.length ≤ 6 := by omega
        clear hstW hW hlW hys c1' f1'
        go_wp2_with fail
        refine (one_any 5 hsW (by omega) (by omega)).mono ?_
        rintro e w8 ⟨⟨p, rfl⟩, hs8, hg8, -⟩
        have hz0c : w.heap.size ≤ W.heap.size := (hbW).size
        have hb8 := grown_below hbW hg8 (Nat.le_refl _) hz0c
        have ho8 := (hoW).keptS hg8 Hz12.out.1
        have hc8 := (hcW).keptS hg8 Hbl.out
        have hz8 : w2.heap.size ≤ w8.heap.size := by have := hg8.size; omega
        clear hsW hoW hcW hbW hg8 hs8
        cases p with
        | true =>
          go_wp2_with (first | (at_builtin; go_loud (refine wpList_appS (E := eOperator) rfl _ _ 22 rfl Tryd.underlying22 hi hz0 hz1 hz2 rfl (by decide) rfl rfl (hc8.alloc _) (rds_one (E := eOperator) (x := ⟨⟨#[]⟩, 0⟩) hq0 rfl) ?b1c ?b2c ?b3c ?_)))
          case b1c => unfold maxLen; simp <;> omega
          case b2c => simp <;> omega
          case b3c => simp <;> omega
          intro v9 w9 hc9 hg9
          have hg9' := hg9.alloc.1
          have ho9 := ho8.apart hg9' (fun k hk => (hc8.lt k hk).1) Hsep.out
          have hb9 : Below w.heap.size w w9 := hb8.grown hg9' (by have := hb8.size; exact this) (fun k hk => by have := (hc8.lt k hk).1; have := Hbl.out; omega)
          have hoF := ho9.mono (base' := w.heap.size) (by have := Hz12.out; omega)
          have hcF := hc9.mono (base' := w.heap.size) (by have := Hz12.out; omega)
          clear hg9 hg9' ho9 hc9 ho8 hc8 hb8
          go_wp2
          go_ret2
          exact ⟨⟨_, _, _, _, rfl, hoF, hl2, hcF, by simp <;> omega⟩, hb9⟩
        | false =>
          have hoF := ho8.mono (base' := w.heap.size) (by have := Hz12.out; omega)
          have hcF := hc8.mono (base' := w.heap.size) (by have := Hz12.out; omega)
          clear ho8 hc8
          go_wp2
          go_ret2
          exact ⟨⟨_, _, _, _, rfl, hoF, hl2, hcF, by first | (simp; omega) | omega⟩, hb8⟩
      · obtain ⟨W, hW⟩ : ∃ W, W = w5.setCell ⟨g, 1, none⟩ (.int .i64 (bits BinOp.xor IntKind.i64 x.skills m)) := ⟨_, rfl⟩
        have hstW := HST.out
        have hgE : (Value.slice (some ⟨g, 0, none⟩) xs.length cap3).ownBlock = some g := rfl
        rw [← hW] at hstW ⊢
        have hoW := HO5.out.apart (u := .slice (some ⟨g, 0, none⟩) xs.length cap3) hstW.2 (fun k hk => by have h1 : g = k := Option.some.inj hk; have h2 : w2.heap.size ≤ g := Hg0.out; omega) Hsep.out
        have hsW := HS5.out.kept hstW.2 (fun k hk => by have := Option.some.inj hk; omega)
        have hbW : Below w.heap.size w W := HB5.out.grown hstW.2 HB5.out.size (fun k hk => by have := Option.some.inj hk; omega)
        have hcW := hstW.1
        have hzW : w2.heap.size ≤ W.heap.size := by have := hstW.2.size; have := Hzz5.out; have := Hg0.out; have := Hgz.out; omega
        have hlW : (xs.set 0 ⟨x.nm, bits BinOp.xor IntKind.i64 x.skills m⟩).length = xs.length := List.length_set
        obtain ⟨ys, hys⟩ : ∃ ys, ys = xs.set 0 ⟨x.nm, bits BinOp.xor IntKind.i64 x.skills m⟩ := ⟨_, rfl⟩
        rw [← hys] at hcW hlW
        have hl7 : ys.length ≤ 6 := by omega
        clear hstW hW hlW hys c1' f1'
        go_wp2_with fail
        refine (one_any 5 hsW (by omega) (by omega)).mono ?_
        rintro e w8 ⟨⟨p, rfl⟩, hs8, hg8, -⟩
        have hz0c : w.heap.size ≤ W.heap.size := (hbW).size
        have hb8 := grown_below hbW hg8 (Nat.le_refl _) hz0c
        have ho8 := (hoW).keptS hg8 Hz12.out.1
        have hc8 := (hcW).keptS hg8 Hbl.out
        have hz8 : w2.heap.size ≤ w8.heap.size := by have := hg8.size; omega
        clear hsW hoW hcW hbW hg8 hs8
        cases p with
        | true =>
          go_wp2_with (first | (at_builtin; go_loud (refine wpList_appS (E := eOperator) rfl _ _ 22 rfl Tryd.underlying22 hi hz0 hz1 hz2 rfl (by decide) rfl rfl (hc8.alloc _) (rds_one (E := eOperator) (x := ⟨⟨#[]⟩, 0⟩) hq0 rfl) ?b1d ?b2d ?b3d ?_)))
          case b1d => unfold maxLen; simp <;> omega
          case b2d => simp <;> omega
          case b3d => simp <;> omega
          intro v9 w9 hc9 hg9
          have hg9' := hg9.alloc.1
          have ho9 := ho8.apart hg9' (fun k hk => (hc8.lt k hk).1) Hsep.out
          have hb9 : Below w.heap.size w w9 := hb8.grown hg9' (by have := hb8.size; exact this) (fun k hk => by have := (hc8.lt k hk).1; have := Hbl.out; omega)
          have hoF := ho9.mono (base' := w.heap.size) (by have := Hz12.out; omega)
          have hcF := hc9.mono (base' := w.heap.size) (by have := Hz12.out; omega)
          clear hg9 hg9' ho9 hc9 ho8 hc8 hb8
          go_wp2
          go_ret2
          exact ⟨⟨_, _, _, _, rfl, hoF, hl2, hcF, by simp <;> omega⟩, hb9⟩
        | false =>
          have hoF := ho8.mono (base' := w.heap.size) (by have := Hz12.out; omega)
          have hcF := hc8.mono (base' := w.heap.size) (by have := Hz12.out; omega)
          clear ho8 hc8
          go_wp2
          go_ret2
          exact ⟨⟨_, _, _, _, rfl, hoF, hl2, hcF, by first | (simp; omega) | omega⟩, hb8⟩
end Go.Proofs.YtilgepapkigblaaDoor
