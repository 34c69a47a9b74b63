/- Items and layouts in the laws' helpers. No condition. -/
import Derived.Test.YtfieilbcdhbigaaGreatDoorNest
import Derived.Test.YtfieilbcdhbigaaGreatDoorInts
import Derived.Test.YtfieilbcdhbigaaGreatDoorCMatO
namespace Go.Proofs.YtfieilbcdhbigaaGreatDoor
open Go.ChangeShapes Go.WideShapes Go.ChangeAt Go.RowKit
set_option linter.unusedVariables false
set_option maxRecDepth 100000
structure FieldT where
  ff : Int
  ft : Int
abbrev vField (x : FieldT) : Value := .agg #[.int .i64 x.ff, .int .i64 x.ft]
abbrev lField (x : FieldT) : Value := .agg #[.int .i64 x.ff, .int .i64 x.ft]
def okField (x : FieldT) : Prop := (-9223372036854775808 ≤ x.ff ∧ x.ff ≤ 9223372036854775807) ∧ (-9223372036854775808 ≤ x.ft ∧ x.ft ≤ 9223372036854775807)
def eField : Elt FieldT := { sz := 2, cells := fun x => [.int .i64 x.ff, .int .i64 x.ft], ok := okField, len := fun _ => rfl, one := fun x u hu => by simp at hu; rcases hu with rfl | rfl <;> rfl }
def zField : FieldT := ⟨0, 0⟩
theorem ok_zField : okField zField := by unfold okField zField; exact ⟨⟨by decide, by decide⟩, ⟨by decide, by decide⟩⟩
abbrev RdFieldS (B : Nat) (w : World) (v : Value) (x : List FieldT) : Prop := Rds eField B w v x
abbrev OwnFieldS (base : Nat) (w : World) (v : Value) (x : List FieldT) : Prop := Own eField 70 base w v x
abbrev OwnTFieldS (base top : Nat) (w : World) (v : Value) (x : List FieldT) : Prop := OwnT eField 70 base top w v x
def szField (x : FieldT) : Int := 0
theorem szField_nonneg (x : FieldT) : 0 ≤ szField x := by unfold szField; omega
def szFieldS (x : List FieldT) : Int := x.length + sumBy szField x
theorem szFieldS_nonneg (x : List FieldT) : 0 ≤ szFieldS x := by unfold szFieldS; have := sumBy_nonneg szField_nonneg x; omega
def cntFieldS (x : List FieldT) : Nat := 2 * x.length
theorem cntFieldS_le (x : List FieldT) : (cntFieldS x : Int) ≤ 16 * szFieldS x := by unfold szFieldS cntFieldS; have := sumBy_nonneg szField_nonneg x; omega
theorem szFieldS_len (x : List FieldT) : (x.length : Int) ≤ szFieldS x := by unfold szFieldS; have := sumBy_nonneg szField_nonneg x; omega
theorem eField_open {w : World} {B : Nat} {v : Value} {xs : List FieldT} (h : Rds eField B w v xs) : ∃ ao cap, v = .slice ao xs.length cap ∧
    (0 < xs.length → ∃ b off, ao = some ⟨b, off, none⟩ ∧ (b < B ∧ b < w.heap.size) ∧ ∀ k, k < xs.length → ∃ x, xs[k]? = some x ∧ (w.cell? ⟨b, off + k * 2, none⟩ = some (.int .i64 x.ff) ∧ w.cell? ⟨b, off + k * 2 + 1, none⟩ = some (.int .i64 x.ft)) ∧ okField x) := by
  rcases Rds.cases h with ⟨rfl, ao, cap, rfl, _⟩ | ⟨b, off, cap, rfl, hlt, hc⟩
  · exact ⟨ao, cap, rfl, fun h => absurd h (by simp)⟩
  · refine ⟨_, cap, rfl, fun _ => ⟨b, off, rfl, hlt, fun k hk => ?_⟩⟩
    obtain ⟨h1, h2⟩ := hc k xs[k] (by simp [hk])
    refine ⟨xs[k], by simp [hk], ⟨?_, ?_⟩, h1⟩
    · exact h2 0 (by decide)
    · have := h2 1 (by decide); rw [← Nat.add_assoc] at this; exact this
theorem toField_c (w : World) {x : FieldT} (a : okField x) :
    Calls Tryz.prog 93 #[lField x] w fun e w' => e = .returned (vField x) ∧ Below w.heap.size w w' := by
  clear a
  go_enter Tryz.func93, Tryz.ntmps93
  go_wp2
  exact bodyPost_ret (v := vField x) (by simp [results, Tryz.results93, go_sem]) rfl ⟨rfl, (((Below.refl _ _).alloc (Nat.le_refl _) _).alloc (by simp) _).alloc (by simp; omega) _⟩
theorem eqField_c (w : World) (x : FieldT) :
    Calls Tryz.prog 103 #[vField x, vField x] w fun e w' => e = .returned (.bool true) ∧ Below w.heap.size w w' := by
  go_enter Tryz.func103, Tryz.ntmps103
  go_wp2
  go_ret
  exact ⟨rfl, ((Below.refl _ _).alloc (Nat.le_refl _) _).alloc (by simp) _⟩
theorem openField {H : Type} {enc : TypeId × Value → H} {w : World} {r : Reach} {b0 : Nat} {v : Value} {d : DataW H} {ps : List MemPlace} (hok : Value.okWide Tryz.prog w r b0 105 v)
    (h : DataW.Trod enc Tryz.prog w 0 (fun _ => true) true 105 v d ps) : ∃ x, v = lField x ∧ okField x := by
  obtain ⟨v0, v1, y0, y1, n, rfl, _, _, ht0, ht1⟩ := Go.Joins.open_agg2 Tryz.underlying105 (by kernel_rfl) (by kernel_rfl) hok h
  obtain ⟨a0, rfl, b0⟩ := trodI Tryz.underlying2 ht0
  obtain ⟨a1, rfl, b1⟩ := trodI Tryz.underlying2 ht1
  exact ⟨⟨a0, a1⟩, rfl, b0, b1⟩
structure ItemT where
  nm : ByteArray
  kd : Int
  ff : Int
  ft : Int
abbrev vItem (x : ItemT) : Value := .agg #[.string x.nm, .int .i64 x.kd, .int .i64 x.ff, .int .i64 x.ft]
abbrev lItem (x : ItemT) : Value := .agg #[.string x.nm, .int .i64 x.kd, .int .i64 x.ff, .int .i64 x.ft]
def okItem (x : ItemT) : Prop := x.nm.size ≤ 9223372036854775807 ∧ (-9223372036854775808 ≤ x.kd ∧ x.kd ≤ 9223372036854775807) ∧ (-9223372036854775808 ≤ x.ff ∧ x.ff ≤ 9223372036854775807) ∧ (-9223372036854775808 ≤ x.ft ∧ x.ft ≤ 9223372036854775807)
def eItem : Elt ItemT := { sz := 4, cells := fun x => [.string x.nm, .int .i64 x.kd, .int .i64 x.ff, .int .i64 x.ft], ok := okItem, len := fun _ => rfl, one := fun x u hu => by simp at hu; rcases hu with rfl | rfl | rfl | rfl <;> rfl }
def zItem : ItemT := ⟨⟨#[]⟩, 0, 0, 0⟩
theorem ok_zItem : okItem zItem := by unfold okItem zItem; exact ⟨Nat.zero_le _, ⟨by decide, by decide⟩, ⟨by decide, by decide⟩, ⟨by decide, by decide⟩⟩
abbrev RdItemS (B : Nat) (w : World) (v : Value) (x : List ItemT) : Prop := Rds eItem B w v x
abbrev OwnItemS (base : Nat) (w : World) (v : Value) (x : List ItemT) : Prop := Own eItem 72 base w v x
abbrev OwnTItemS (base top : Nat) (w : World) (v : Value) (x : List ItemT) : Prop := OwnT eItem 72 base top w v x
def szItem (x : ItemT) : Int := (x.nm.size : Int)
theorem szItem_nonneg (x : ItemT) : 0 ≤ szItem x := by unfold szItem; omega
def szItemS (x : List ItemT) : Int := x.length + sumBy szItem x
theorem szItemS_nonneg (x : List ItemT) : 0 ≤ szItemS x := by unfold szItemS; have := sumBy_nonneg szItem_nonneg x; omega
def cntItemS (x : List ItemT) : Nat := 4 * x.length
theorem cntItemS_le (x : List ItemT) : (cntItemS x : Int) ≤ 16 * szItemS x := by unfold szItemS cntItemS; have := sumBy_nonneg szItem_nonneg x; omega
theorem szItemS_len (x : List ItemT) : (x.length : Int) ≤ szItemS x := by unfold szItemS; have := sumBy_nonneg szItem_nonneg x; omega
theorem eItem_open {w : World} {B : Nat} {v : Value} {xs : List ItemT} (h : Rds eItem B w v xs) : ∃ ao cap, v = .slice ao xs.length cap ∧
    (0 < xs.length → ∃ b off, ao = some ⟨b, off, none⟩ ∧ (b < B ∧ b < w.heap.size) ∧ ∀ k, k < xs.length → ∃ x, xs[k]? = some x ∧ (w.cell? ⟨b, off + k * 4, none⟩ = some (.string x.nm) ∧ w.cell? ⟨b, off + k * 4 + 1, none⟩ = some (.int .i64 x.kd) ∧ w.cell? ⟨b, off + k * 4 + 2, none⟩ = some (.int .i64 x.ff) ∧ w.cell? ⟨b, off + k * 4 + 3, none⟩ = some (.int .i64 x.ft)) ∧ okItem x) := by
  rcases Rds.cases h with ⟨rfl, ao, cap, rfl, _⟩ | ⟨b, off, cap, rfl, hlt, hc⟩
  · exact ⟨ao, cap, rfl, fun h => absurd h (by simp)⟩
  · refine ⟨_, cap, rfl, fun _ => ⟨b, off, rfl, hlt, fun k hk => ?_⟩⟩
    obtain ⟨h1, h2⟩ := hc k xs[k] (by simp [hk])
    refine ⟨xs[k], by simp [hk], ⟨?_, ?_, ?_, ?_⟩, h1⟩
    · exact h2 0 (by decide)
    · have := h2 1 (by decide); rw [← Nat.add_assoc] at this; exact this
    · have := h2 2 (by decide); rw [← Nat.add_assoc] at this; exact this
    · have := h2 3 (by decide); rw [← Nat.add_assoc] at this; exact this
theorem toItem_c (w : World) {x : ItemT} (a : okItem x) :
    Calls Tryz.prog 67 #[lItem x] w fun e w' => e = .returned (vItem x) ∧ Below w.heap.size w w' := by
  have Ha := Lib.hid a
  clear a
  go_enter Tryz.func67, Tryz.ntmps67
  go_wp2_with fail
  with_reducible refine (toField_c _ (x := ⟨x.ff, x.ft⟩) (by have h := Ha.out; unfold okItem at h; unfold okField; exact ⟨h.2.2.1, h.2.2.2⟩)).mono ?_
  rintro e w1 ⟨rfl, hb1⟩
  have hB1 := ((((Below.refl _ _).alloc (Nat.le_refl _) _).alloc (by simp) _).alloc (by simp; omega) _).trans (hb1.mono (by simp; omega))
  have HB1 := Lib.hid hB1
  have hz1_0 : w.heap.size < w1.heap.size := by have := hb1.size; (try simp at this); (try have := HB1.out.size); omega
  have hz1_1 : w.heap.size + 1 < w1.heap.size := by have := hb1.size; (try simp at this); (try have := HB1.out.size); omega
  have hz1_2 : w.heap.size + 1 + 1 < w1.heap.size := by have := hb1.size; (try simp at this); (try have := HB1.out.size); omega
  obtain ⟨hc1, hf1⟩ := bcell hb1
  clear hb1 hB1
  go_wp2
  exact bodyPost_ret (v := vItem x) (by simp [results, Tryz.results67, go_sem, hc1, hz1_0, hz1_1, hz1_2]) rfl ⟨rfl, (below_run (a := 0) (g := w.heap.size + 1 + 1) (by omega) [.int .i64 x.ff, .int .i64 x.ft] _ 2 HB1.out).run (g := w.heap.size + 1) (by omega) [_, _, _, _]⟩
theorem eqItem_c (w : World) (x : ItemT) :
    Calls Tryz.prog 73 #[vItem x, vItem x] w fun e w' => e = .returned (.bool true) ∧ Below w.heap.size w w' := by
  go_enter Tryz.func73, Tryz.ntmps73
  go_wp2_with fail
  with_reducible refine (eqField_c _ ⟨x.ff, x.ft⟩).mono ?_
  rintro e w1 ⟨rfl, hb1⟩
  have hB1 := (((Below.refl _ _).alloc (Nat.le_refl _) _).alloc (by simp) _).trans (hb1.mono (by simp; omega))
  have HB1 := Lib.hid hB1
  have hz1_0 : w.heap.size < w1.heap.size := by have h9 := hb1.size; (try simp at h9); omega
  have hz1_1 : w.heap.size + 1 < w1.heap.size := by have h9 := hb1.size; (try simp at h9); omega
  obtain ⟨hc1, hf1⟩ := bcell hb1
  clear hb1 hB1
  go_wp2
  go_ret
  exact ⟨rfl, HB1.out⟩
theorem szItem_c (w : World) {x : ItemT} {left : Int} (a : okItem x) (h1 : left ≤ 1048576) (h2 : szItem x ≤ left) :
    Calls Tryz.prog 61 #[lItem x, .int .i64 left] w fun e w' => e = .returned (.int .i64 (left - szItem x)) ∧ Below w.heap.size w w' := by
  unfold szItem at *
  clear a
  go_enter Tryz.func61, Tryz.ntmps61
  go_wp2
  go_ret
  exact ⟨rfl, (Below.refl _ _).alloc (Nat.le_refl _) _⟩
theorem szItem_no (w : World) {x : ItemT} {left : Int} (a : okItem x) (h0 : 0 ≤ left ∧ left ≤ 1048576) (h2 : ¬ szItem x ≤ left) :
    Calls Tryz.prog 61 #[lItem x, .int .i64 left] w fun e w' => e = .returned (.int .i64 (-1)) ∧ Below w.heap.size w w' := by
  unfold szItem at *
  have hs : (x.nm.size : Int) ≤ 9223372036854775807 := by have h := a; unfold okItem at h; omega
  clear a
  go_enter Tryz.func61, Tryz.ntmps61
  go_wp2
  go_ret
  exact ⟨rfl, (Below.refl _ _).alloc (Nat.le_refl _) _⟩
theorem szItemS_c {w : World} {A : Nat} {xs : List ItemT} {v : Value} {left : Int} (ha : RdItemS A w v xs) (h1 : left ≤ 1048576) (h2 : szItemS xs ≤ left) :
    Calls Tryz.prog 30 #[v, .int .i64 left] w fun e w' => e = .returned (.int .i64 (left - szItemS xs)) ∧ Below w.heap.size w w' := by
  have hle := ha.le
  have hok := ha.2
  obtain ⟨ao, cap, rfl, ho⟩ := eItem_open ha
  obtain ⟨n, hn⟩ : ∃ n, n = xs.length := ⟨_, rfl⟩
  rw [← hn]
  have Hn := Lib.hid hn
  have Ho := Lib.hid ho
  have Hok := Lib.hid hok
  have hle' : n ≤ 9223372036854775807 := by omega
  clear hok ho hn hle ha
  have h2' : n + sumBy szItem xs ≤ left := by have := Hn.out; unfold szItemS at h2; omega
  have h3 := sumBy_nonneg szItem_nonneg xs
  have H2 := Lib.hid h2
  clear h2
  go_enter Tryz.func30, Tryz.ntmps30
  go_wp2
  go_loopw [1, 5] (fun l i wr => ∃ k : Nat, k ≤ n ∧ i = .int .i64 k ∧ ∃ lf : Int, l = .int .i64 lf ∧ (lf ≤ 1048576 ∧ 0 ≤ lf) ∧ Hid (lf = left - n - sumBy szItem (xs.take k)) ∧ Below w.heap.size w wr) (fun _ i _ => n - (intOf i).toNat)
  case atStart => exact ⟨0, Nat.zero_le _, rfl, left - n, rfl, by omega, by show left - n = _; simp [sumBy], Below.refl _ _⟩
  case round =>
    obtain ⟨k, hk, rfl, lf, rfl, ⟨hl1, hl2⟩, hlf, hbb⟩ := hrel
    by_cases hkn : k < n
    · obtain ⟨b, off, rfl, hlt, hc⟩ := Ho.out (by have := Hn.out; omega)
      obtain ⟨x, hx, ⟨c0, c1, c2, c3⟩, bx⟩ := hc k (by have := Hn.out; omega)
      have Hx := Lib.hid hx
      have Hbx := Lib.hid bx
      clear hx hc bx
      have d0 := (hbb.cell (p := ⟨b, off + k * 4, none⟩) hlt.2).trans c0
      have d1 := (hbb.cell (p := ⟨b, off + k * 4 + 1, none⟩) hlt.2).trans c1
      have d2 := (hbb.cell (p := ⟨b, off + k * 4 + 2, none⟩) hlt.2).trans c2
      have d3 := (hbb.cell (p := ⟨b, off + k * 4 + 3, none⟩) hlt.2).trans c3
      have D0 := Lib.hid c0
      have D1 := Lib.hid c1
      have D2 := Lib.hid c2
      have D3 := Lib.hid c3
      clear c0 c1 c2 c3
      have hx0 := szItem_nonneg x
      have hf : szItem x ≤ lf := by rw [hlf.out]; have h4 := sumBy_snoc szItem Hx.out; have h5 := sumBy_take_le szItem_nonneg xs (k + 1); omega
      go_wp2_with fail
      with_reducible refine (szItem_c wr (x := x) Hbx.out hl1 hf).mono ?_
      rintro e w1 ⟨rfl, hb1⟩
      have hbb1 : Below w.heap.size w w1 := hbb.trans (hb1.mono hbb.size)
      clear hb1 hbb d0 d1 d2 d3
      go_wp2
      go_roundw
      case rel => exact ⟨k + 1, by omega, by go_num, lf - szItem x, rfl, by omega, by show lf - szItem x = _; rw [sumBy_snoc szItem Hx.out, hlf.out]; omega, hbb1⟩
      case measure => simp [intOf]; omega
    · go_wp2
      go_ret
      refine ⟨ret_int ?_, hbb⟩
      rw [hlf.out, List.take_of_length_le (by have := Hn.out; omega)]; unfold szItemS; have := Hn.out; omega
theorem szItemS_no {w : World} {A : Nat} {xs : List ItemT} {v : Value} {left : Int} (ha : RdItemS A w v xs) (h0 : 0 ≤ left ∧ left ≤ 1048576) (h2 : ¬ szItemS xs ≤ left) :
    Calls Tryz.prog 30 #[v, .int .i64 left] w fun e w' => e = .returned (.int .i64 (-1)) ∧ Below w.heap.size w w' := by
  have h1 := h0.2
  have h00 := h0.1
  have hle := ha.le
  have hok := ha.2
  obtain ⟨ao, cap, rfl, ho⟩ := eItem_open ha
  obtain ⟨n, hn⟩ : ∃ n, n = xs.length := ⟨_, rfl⟩
  rw [← hn]
  have Hn := Lib.hid hn
  have Ho := Lib.hid ho
  have Hok := Lib.hid hok
  have hle' : n ≤ 9223372036854775807 := by omega
  clear hok ho hn hle ha
  have h2' : ¬ n + sumBy szItem xs ≤ left := by have := Hn.out; unfold szItemS at h2; omega
  have H2 := Lib.hid h2
  have H2' := Lib.hid h2'
  clear h2 h0 h2'
  by_cases hb : left < n
  · clear H2'
    go_enter Tryz.func30, Tryz.ntmps30
    go_wp2
    go_ret
    exact ⟨rfl, Below.refl _ _⟩
  go_enter Tryz.func30, Tryz.ntmps30
  go_wp2
  go_loopw [1, 5] (fun l i wr => ∃ k : Nat, k ≤ n ∧ i = .int .i64 k ∧ ∃ lf : Int, l = .int .i64 lf ∧ (lf ≤ 1048576 ∧ 0 ≤ lf) ∧ Hid (lf = left - n - sumBy szItem (xs.take k)) ∧ Below w.heap.size w wr) (fun _ i _ => n - (intOf i).toNat)
  case atStart => exact ⟨0, Nat.zero_le _, rfl, left - n, rfl, by omega, by show left - n = _; simp [sumBy], Below.refl _ _⟩
  case round =>
    obtain ⟨k, hk, rfl, lf, rfl, ⟨hl1, hl2⟩, hlf, hbb⟩ := hrel
    by_cases hkn : k < n
    · obtain ⟨b, off, rfl, hlt, hc⟩ := Ho.out (by have := Hn.out; omega)
      obtain ⟨x, hx, ⟨c0, c1, c2, c3⟩, bx⟩ := hc k (by have := Hn.out; omega)
      have Hx := Lib.hid hx
      have Hbx := Lib.hid bx
      clear hx hc bx
      have d0 := (hbb.cell (p := ⟨b, off + k * 4, none⟩) hlt.2).trans c0
      have d1 := (hbb.cell (p := ⟨b, off + k * 4 + 1, none⟩) hlt.2).trans c1
      have d2 := (hbb.cell (p := ⟨b, off + k * 4 + 2, none⟩) hlt.2).trans c2
      have d3 := (hbb.cell (p := ⟨b, off + k * 4 + 3, none⟩) hlt.2).trans c3
      have D0 := Lib.hid c0
      have D1 := Lib.hid c1
      have D2 := Lib.hid c2
      have D3 := Lib.hid c3
      clear c0 c1 c2 c3
      have hx0 := szItem_nonneg x
      by_cases hf : szItem x ≤ lf
      · go_wp2_with fail
        with_reducible refine (szItem_c wr (x := x) Hbx.out hl1 hf).mono ?_
        rintro e w1 ⟨rfl, hb1⟩
        have hbb1 : Below w.heap.size w w1 := hbb.trans (hb1.mono hbb.size)
        clear hb1 hbb d0 d1 d2 d3
        go_wp2
        go_roundw
        case rel => exact ⟨k + 1, by omega, by go_num, lf - szItem x, rfl, by omega, by show lf - szItem x = _; rw [sumBy_snoc szItem Hx.out, hlf.out]; omega, hbb1⟩
        case measure => simp [intOf]; omega
      · go_wp2_with fail
        with_reducible refine (szItem_no wr (x := x) Hbx.out ⟨hl2, hl1⟩ (by omega)).mono ?_
        rintro e w1 ⟨rfl, hb1⟩
        have hbb1 : Below w.heap.size w w1 := hbb.trans (hb1.mono hbb.size)
        clear hb1 hbb d0 d1 d2 d3
        go_wp2
        go_ret
        exact ⟨rfl, hbb1⟩
    · exfalso
      have h6 := hlf.out
      rw [List.take_of_length_le (by have := Hn.out; omega)] at h6
      have := H2'.out
      omega
theorem Tryz.infoItem : (Tryz.prog.info? 72).map (fun i => (i.zero, i.size, i.bytes)) = some (some (vItem zItem), 4, 40) := by kernel_rfl
theorem toItemS_c {w : World} {A : Nat} {xs : List ItemT} {v : Value} (ha : RdItemS A w v xs) (hl : szItemS xs ≤ 1048576) :
    Calls Tryz.prog 34 #[v] w fun e w' => ∃ u, e = .returned u ∧ OwnItemS w.heap.size w' u xs ∧ Below w.heap.size w w' := by
  have hl2 : xs.length ≤ 1048576 := by have := szItemS_len xs; omega
  have hle := ha.le
  have hok := ha.2
  obtain ⟨ao, cap, rfl, ho⟩ := eItem_open ha
  obtain ⟨n, hn⟩ : ∃ n, n = xs.length := ⟨_, rfl⟩
  rw [← hn]
  have Hn := Lib.hid hn
  have Ho := Lib.hid ho
  have Hok := Lib.hid hok
  have hle' : n ≤ 9223372036854775807 := by omega
  clear hok ho hn hle ha
  have hn2 : n ≤ 1048576 := by have := Hn.out; omega
  obtain ⟨i0, hi, hz0, hz1, hz2⟩ := info_parts Tryz.infoItem
  clear hl hl2 hle'
  go_enter Tryz.func34, Tryz.ntmps34
  go_wp2_with (first | (at_make; refine wpList_make_full _ rfl _ _ 30 rfl w.heap.size 72 i0 (vItem zItem) 4 Tryz.underlying30 hi hz0 hz1 _ _ _ _ n rfl rfl rfl rfl ?b1 ?b2 (Nat.le_refl _) ?_))
  case b1 => first | omega | (rw [hz2]; omega)
  case b2 => unfold maxLen; omega
  intro w1 hown hgr
  have hb1 : Below w.heap.size w w1 := (Below.refl _ _).grown hgr (Nat.le_refl _) (fun k hk => by cases hk)
  have hown0 : OwnItemS w.heap.size w1 (.slice (some ⟨w.heap.size, 0, none⟩) n n) (xs.take 0 ++ List.replicate (n - 0) zItem) := by
    refine ⟨?_, fun x hx => ?_⟩
    · have hown2 : w1.ownsRow w.heap.size 72 eItem.sz (.slice (some ⟨w.heap.size, 0, none⟩) n n) n (madeCells (vItem zItem).cells (n * eItem.sz)).toList := hown
      rw [Elt.all_made (E := eItem) (z := zItem) (zv := vItem zItem) (by decide) rfl n] at hown2; simpa using hown2
    · simp at hx; obtain ⟨_, rfl⟩ := hx; exact ok_zItem
  have hs1 : w.heap.size < w1.heap.size := (hown0.lt _ rfl).2
  clear hown hgr
  go_wp2
  go_loopw [4] (fun i wr => ∃ k : Nat, k ≤ n ∧ i = .int .i64 k ∧ OwnItemS w.heap.size wr (.slice (some ⟨w.heap.size, 0, none⟩) n n) (xs.take k ++ List.replicate (n - k) zItem) ∧ Below w.heap.size w wr) (fun i _ => n - (intOf i).toNat)
  case atStart => exact ⟨0, Nat.zero_le _, rfl, hown0, hb1⟩
  case round =>
    obtain ⟨k, hk, rfl, hw, hb⟩ := hrel
    by_cases hkn : k < n
    · obtain ⟨b, off, rfl, hlt, hc⟩ := Ho.out (by have := Hn.out; omega)
      obtain ⟨x, hx, ⟨c0, c1, c2, c3⟩, bx⟩ := hc k (by have := Hn.out; omega)
      have Hx := Lib.hid hx
      have Hbx := Lib.hid bx
      clear hx hc bx hb1 hown0
      have d0 := (hb.cell (p := ⟨b, off + k * 4, none⟩) hlt.2).trans c0
      have d1 := (hb.cell (p := ⟨b, off + k * 4 + 1, none⟩) hlt.2).trans c1
      have d2 := (hb.cell (p := ⟨b, off + k * 4 + 2, none⟩) hlt.2).trans c2
      have d3 := (hb.cell (p := ⟨b, off + k * 4 + 3, none⟩) hlt.2).trans c3
      clear c0 c1 c2 c3
      go_wp2_with fail
      with_reducible refine (toItem_c wr (x := x) Hbx.out).mono ?_
      rintro e w2 ⟨rfl, hb2⟩
      have hw2 := hw.below hb2 (Nat.le_refl _)
      have hb3 : Below w.heap.size w w2 := hb.trans (hb2.mono hb.size)
      have hlen : n = (xs.take k ++ List.replicate (n - k) zItem).length := by have := Hn.out; simp; omega
      have hst := Own.storeE (E := eItem) (by decide) hw2 hlen hkn Hbx.out
      obtain ⟨⟨y0, hy0⟩, hf0⟩ := Own.cellE (E := eItem) hw2 hlen (k := k) (j := 0) hkn (by decide)
      obtain ⟨⟨y1, hy1⟩, hf1⟩ := Own.cellE (E := eItem) hw2 hlen (k := k) (j := 1) hkn (by decide)
      obtain ⟨⟨y2, hy2⟩, hf2⟩ := Own.cellE (E := eItem) hw2 hlen (k := k) (j := 2) hkn (by decide)
      obtain ⟨⟨y3, hy3⟩, hf3⟩ := Own.cellE (E := eItem) hw2 hlen (k := k) (j := 3) hkn (by decide)
      simp only [show eItem.sz = 4 from rfl, Nat.add_zero] at hy0 hf0 hy1 hf1 hy2 hf2 hy3 hf3
      have Hst := Lib.hid hst
      have Hb3 := Lib.hid hb3
      clear hst hlen hb hb2 hw hw2 hb3 d0 d1 d2 d3
      go_wp2
      go_roundw
      case rel => exact ⟨k + 1, by omega, by go_num, by have h := Hst.out.1; rw [set_take_repl Hx.out Hn.out hkn] at h; exact h, ((((Hb3.out).setCell (Nat.le_refl _) _).setCell (Nat.le_refl _) _).setCell (Nat.le_refl _) _).setCell (Nat.le_refl _) _⟩
      case measure => simp [intOf]; omega
    · go_wp2
      go_ret
      refine ⟨_, rfl, ?_, hb⟩
      have := Hn.out
      rw [List.take_of_length_le (by omega), show n - k = 0 by omega] at hw
      simpa using hw
theorem eqItemS_c {xs : List ItemT} {va vb : Value} {w : World} {A B : Nat} (ha : RdItemS A w va xs) (hb : RdItemS B w vb xs) :
    Calls Tryz.prog 38 #[va, vb] w fun e w' => e = .returned (.bool true) ∧ Below w.heap.size w w' := by
  obtain ⟨bo, bcap, rfl, hob⟩ := eItem_open hb
  have Hob := Lib.hid hob
  clear hob hb
  have hle := ha.le
  have hok := ha.2
  obtain ⟨ao, cap, rfl, ho⟩ := eItem_open ha
  obtain ⟨n, hn⟩ : ∃ n, n = xs.length := ⟨_, rfl⟩
  rw [← hn]
  have Hn := Lib.hid hn
  have Ho := Lib.hid ho
  have Hok := Lib.hid hok
  have hle' : n ≤ 9223372036854775807 := by omega
  clear hok ho hn hle ha
  go_enter Tryz.func38, Tryz.ntmps38
  go_wp2
  go_loopw [5] (fun i wr => ∃ k : Nat, k ≤ n ∧ i = .int .i64 k ∧ Below w.heap.size w wr) (fun i _ => n - (intOf i).toNat)
  case atStart => exact ⟨0, Nat.zero_le _, rfl, Below.refl _ _⟩
  case round =>
    obtain ⟨k, hk, rfl, hbb⟩ := hrel
    by_cases hkn : k < n
    · obtain ⟨b, off, rfl, hlt, hc⟩ := Ho.out (by have := Hn.out; omega)
      obtain ⟨x, hx, ⟨c0, c1, c2, c3⟩, bx⟩ := hc k (by have := Hn.out; omega)
      have Hx := Lib.hid hx
      have d0 := (hbb.cell (p := ⟨b, off + k * 4, none⟩) hlt.2).trans c0
      have d1 := (hbb.cell (p := ⟨b, off + k * 4 + 1, none⟩) hlt.2).trans c1
      have d2 := (hbb.cell (p := ⟨b, off + k * 4 + 2, none⟩) hlt.2).trans c2
      have d3 := (hbb.cell (p := ⟨b, off + k * 4 + 3, none⟩) hlt.2).trans c3
      clear hx hc bx c0 c1 c2 c3
      obtain ⟨b2, off2, rfl, hlt2, hc⟩ := Hob.out (by have := Hn.out; omega)
      obtain ⟨x2, hx2, ⟨c0, c1, c2, c3⟩, bx⟩ := hc k (by have := Hn.out; omega)
      obtain rfl : x = x2 := Option.some.inj (Hx.out.symm.trans hx2)
      have f0 := (hbb.cell (p := ⟨b2, off2 + k * 4, none⟩) hlt2.2).trans c0
      have f1 := (hbb.cell (p := ⟨b2, off2 + k * 4 + 1, none⟩) hlt2.2).trans c1
      have f2 := (hbb.cell (p := ⟨b2, off2 + k * 4 + 2, none⟩) hlt2.2).trans c2
      have f3 := (hbb.cell (p := ⟨b2, off2 + k * 4 + 3, none⟩) hlt2.2).trans c3
      clear hx2 hc bx c0 c1 c2 c3
      go_wp2_with fail
      go_still_tail 8, (by kernel_rfl)
      change wpList _ _ _ _ _ wr.drew
      have hbd : Below w.heap.size w wr.drew := ⟨hbb.os, hbb.tape, hbb.output, hbb.size, hbb.block⟩
      clear hbb d0 f0 d1 f1 d2 f2 d3 f3
      generalize wr.drew = w2 at hbd ⊢
      go_wp2_with fail
      with_reducible refine (eqItem_c w2 x).mono ?_
      rintro e w3 ⟨rfl, hb3⟩
      have hbb1 : Below w.heap.size w w3 := hbd.trans (hb3.mono hbd.size)
      clear hb3 hbd
      go_wp2
      go_roundw
      case rel => exact ⟨k + 1, by omega, by go_num, hbb1⟩
      case measure => simp [intOf]; omega
    · go_wp2
      go_ret
      exact ⟨rfl, hbb⟩
theorem openFItemS {H : Type} {enc : TypeId × Value → H} {w : World} {v : Value} {fuel : Nat} {y : DataW H × List MemPlace} (h : DataW.trod enc Tryz.prog w 0 (fun _ => true) true fuel 22 [v] = some y) : ∃ xs, RdItemS w.heap.size w v xs := by
  refine open_rdF (E := eItem) (e := 107) Tryz.underlying22 (by kernel_rfl) (fun n cs y hl hf => ?_) (by decide) h
  match cs, hl with
  | [e0, e1, e2, e3], _ =>
    obtain ⟨n1, hq⟩ := trod_fields Tryz.underlying107 [(9, 0, 1), (2, 1, 1), (105, 2, 2)] (by kernel_rfl) hf
    obtain ⟨z0, t0⟩ := hq 0 _ _ _ rfl
    obtain ⟨a0, ha0, b0⟩ := trodS (v := e0) Tryz.underlying9 t0
    subst ha0
    obtain ⟨z1, t1⟩ := hq 1 _ _ _ rfl
    obtain ⟨a1, ha1, b1⟩ := trodI (v := e1) Tryz.underlying2 t1
    subst ha1
    obtain ⟨z2, t2⟩ := hq 2 _ _ _ rfl
    obtain ⟨n4, hq2⟩ := trod_fields (cs := [e2, e3]) Tryz.underlying105 [(2, 0, 1), (2, 1, 1)] (by kernel_rfl) t2
    obtain ⟨z2_0, t2_0⟩ := hq2 0 _ _ _ rfl
    obtain ⟨a2, ha2, b2⟩ := trodI (v := e2) Tryz.underlying2 t2_0
    subst ha2
    obtain ⟨z2_1, t2_1⟩ := hq2 1 _ _ _ rfl
    obtain ⟨a3, ha3, b3⟩ := trodI (v := e3) Tryz.underlying2 t2_1
    subst ha3
    exact ⟨⟨a0, a1, a2, a3⟩, rfl, b0, b1, b2, b3⟩
theorem openItemS {H : Type} {enc : TypeId × Value → H} {w : World} {r : Reach} {b0 : Nat} {v : Value} {d : DataW H} {ps : List MemPlace} (hok : Value.okWide Tryz.prog w r b0 22 v)
    (h : DataW.Trod enc Tryz.prog w 0 (fun _ => true) true 22 v d ps) : ∃ xs, RdItemS w.heap.size w v xs := by
  obtain ⟨a, len, cap, rfl⟩ := okWide_slice Tryz.underlying22 hok
  obtain ⟨fuel, hf⟩ := h
  exact openFItemS hf
theorem szLayout_c {w : World} {A : Nat} {xs : List ItemT} {v : Value} {wd left : Int} (ha : RdItemS A w v xs) (h1 : left ≤ 1048576) (h2 : szItemS xs ≤ left) :
    Calls Tryz.prog 6 #[.agg #[.int .i64 wd, v], .int .i64 left] w fun e w' => e = .returned (.int .i64 (left - szItemS xs)) ∧ Below w.heap.size w w' := by
  have h3 := szItemS_nonneg xs
  have hb0 : Below w.heap.size w (w.alloc (.cells #[.int .i64 wd, v] 24)) := (Below.refl _ _).alloc (Nat.le_refl _) _
  have Hb0 := Lib.hid hb0
  have Ha0 := Lib.hid (Rds.onn ha hb0)
  obtain ⟨ao, cap, rfl⟩ := ha.shape
  have H2 := Lib.hid h2
  have hl : ¬ left - szItemS xs < 0 := by omega
  clear ha hb0 h2
  go_enter Tryz.func6, Tryz.ntmps6
  go_wp2_with fail
  with_reducible refine (szItemS_c Ha0.out h1 H2.out).mono ?_
  rintro e w1 ⟨rfl, hb1⟩
  have hb2 := Hb0.out.trans (hb1.mono Hb0.out.size)
  clear hb1
  go_wp2
  go_ret
  exact ⟨rfl, hb2⟩
theorem szLayout_no {w : World} {A : Nat} {xs : List ItemT} {v : Value} {wd left : Int} (ha : RdItemS A w v xs) (h0 : 0 ≤ left ∧ left ≤ 1048576) (h2 : ¬ szItemS xs ≤ left) :
    Calls Tryz.prog 6 #[.agg #[.int .i64 wd, v], .int .i64 left] w fun e w' => e = .returned (.int .i64 (-1)) ∧ Below w.heap.size w w' := by
  have hb0 : Below w.heap.size w (w.alloc (.cells #[.int .i64 wd, v] 24)) := (Below.refl _ _).alloc (Nat.le_refl _) _
  have Hb0 := Lib.hid hb0
  have Ha0 := Lib.hid (Rds.onn ha hb0)
  obtain ⟨ao, cap, rfl⟩ := ha.shape
  have H2 := Lib.hid h2
  have H0 := Lib.hid h0
  clear ha hb0 h2 h0
  go_enter Tryz.func6, Tryz.ntmps6
  go_wp2_with fail
  with_reducible refine (szItemS_no Ha0.out H0.out (Int.not_le.2 H2.out)).mono ?_
  rintro e w1 ⟨rfl, hb1⟩
  have hb2 := Hb0.out.trans (hb1.mono Hb0.out.size)
  clear hb1
  go_wp2
  go_ret
  exact ⟨rfl, hb2⟩
theorem toLayout_c {w : World} {A : Nat} {xs : List ItemT} {v : Value} {wd : Int} (ha : RdItemS A w v xs) (hl : szItemS xs ≤ 1048576) :
    Calls Tryz.prog 9 #[.agg #[.int .i64 wd, v]] w fun e w' => ∃ u, e = .returned (.agg #[.int .i64 wd, u]) ∧ OwnItemS w.heap.size w' u xs ∧ Below w.heap.size w w' := by
  obtain ⟨W, hW⟩ : ∃ W, W = ((w.alloc (.cells #[.int .i64 wd, v] 24)).alloc (.cells #[.int .i64 0, .slice none 0 0] 32)).alloc (.cells #[.int .i64 wd, .slice none 0 0] 32) := ⟨_, rfl⟩
  have hs1 : (w.alloc (.cells #[.int .i64 wd, v] 24)).heap.size = w.heap.size + 1 := by simp
  have hs2 : ((w.alloc (.cells #[.int .i64 wd, v] 24)).alloc (.cells #[.int .i64 0, .slice none 0 0] 32)).heap.size = w.heap.size + 1 + 1 := by simp
  have hb0 : Below w.heap.size w W := by rw [hW]; exact (((Below.refl w.heap.size w).alloc (Nat.le_refl _) _).alloc (by simp) _).alloc (by simp; omega) _
  have hB1 : Box W (w.heap.size + 1) [.int .i64 0, .slice none 0 0] := by
    have h := (Box.new (w.alloc (.cells #[.int .i64 wd, v] 24)) [.int .i64 0, .slice none 0 0] 32).alloc (.cells #[.int .i64 wd, .slice none 0 0] 32)
    rw [hs1] at h
    rw [hW]; exact h
  have hB2 : Box W (w.heap.size + 1 + 1) [.int .i64 wd, .slice none 0 0] := by
    have h := Box.new ((w.alloc (.cells #[.int .i64 wd, v] 24)).alloc (.cells #[.int .i64 0, .slice none 0 0] 32)) [.int .i64 wd, .slice none 0 0] 32
    rw [hs2] at h
    rw [hW]; exact h
  have ha0 := Rds.onn ha hb0
  obtain ⟨ao, cap, rfl⟩ := ha.shape
  have Ha0 := Lib.hid ha0
  have Hb0 := Lib.hid hb0
  have HB1 := Lib.hid hB1
  have HB2 := Lib.hid hB2
  have HW := Lib.hid hW
  clear ha ha0 hb0 hB1 hB2 hW hs1 hs2
  go_enter Tryz.func9, Tryz.ntmps9
  go_wp2_with fail
  rw [← HW.out]
  with_reducible refine (toItemS_c Ha0.out hl).mono ?_
  rintro e w1 ⟨u, rfl, hu, hb1⟩
  have hx1 := HB1.out.on hb1
  have hx2 := HB2.out.on hb1
  have hl2 := HB2.out.lt
  have d1 := hx1.cell 0 _ rfl
  have f1 := hx1.free 0
  have d1' := hx1.cell 1 _ rfl
  have f1' := hx1.free 1
  have d2 := hx2.cell 0 _ rfl
  have d2' := hx2.cell 1 _ rfl
  have f2 := hx2.free 1
  obtain ⟨uo, uc, rfl⟩ := hu.shape
  have hlt := hu.lt
  have hsz := Hb0.out.size
  have hsw : w.heap.size + 1 + 1 < W.heap.size := hl2
  have hne2 : ∀ g, (Value.slice uo xs.length uc).ownBlock = some g → w.heap.size + 1 + 1 < g := fun g hg => by have := (hlt g hg).1; omega
  have hu1 := hu.kept (grown_setC w1 ⟨w.heap.size + 1 + 1, 1, none⟩ (.slice uo xs.length uc)) (.inr (fun h => by have h9 := hne2 _ h; simp only at h9; omega))
  have hu2 := hu1.kept (grown_setC _ ⟨w.heap.size + 1, 0, none⟩ (.int .i64 wd)) (.inr (fun h => by have h9 := hne2 _ h; simp only at h9; omega))
  have hu3 := hu2.kept (grown_setC _ ⟨w.heap.size + 1, 1, none⟩ (.slice uo xs.length uc)) (.inr (fun h => by have h9 := hne2 _ h; simp only at h9; omega))
  have Hu := Lib.hid (hu3.mono hsz)
  have hb2 := Hb0.out.trans (hb1.mono hsz)
  have Hb1 := Lib.hid (((hb2.setCell (p := ⟨w.heap.size + 1 + 1, 1, none⟩) (by show w.heap.size ≤ w.heap.size + 1 + 1; omega) (.slice uo xs.length uc)).setCell (p := ⟨w.heap.size + 1, 0, none⟩) (by show w.heap.size ≤ w.heap.size + 1; omega) (.int .i64 wd)).setCell (p := ⟨w.heap.size + 1, 1, none⟩) (by show w.heap.size ≤ w.heap.size + 1; omega) (.slice uo xs.length uc))
  have g0 := (((hx1.other (p := ⟨w.heap.size + 1 + 1, 1, none⟩) (by show w.heap.size + 1 + 1 ≠ w.heap.size + 1; omega) (.slice uo xs.length uc)).set1 (j := 0) (by simp) (.int .i64 wd)).set1 (j := 1) (by simp) (.slice uo xs.length uc))
  have g00 := g0.cell 0 (.int .i64 wd) rfl
  have g01 := g0.cell 1 (.slice uo xs.length uc) rfl
  clear hx1 hx2 hu hb1 hlt hu1 hu2 hu3 hb2 hne2 g0
  go_wp2
  exact bodyPost_ret (v := .agg #[.int .i64 wd, .slice uo xs.length uc]) (by simp [results, Tryz.results9, go_sem, g00, g01]) rfl ⟨_, rfl, Hu.out, Hb1.out⟩
theorem eqLayout_c {w : World} {A B : Nat} {xs : List ItemT} {v u : Value} {wd : Int} (ha : RdItemS A w v xs) (hb : RdItemS B w u xs) :
    Calls Tryz.prog 12 #[.agg #[.int .i64 wd, v], .agg #[.int .i64 wd, u]] w fun e w' => e = .returned (.bool true) ∧ Below w.heap.size w w' := by
  have hb0 : Below w.heap.size w ((w.alloc (.cells #[.int .i64 wd, v] 32)).alloc (.cells #[.int .i64 wd, u] 32)) := ((Below.refl _ _).alloc (Nat.le_refl _) _).alloc (by simp) _
  have Hb0 := Lib.hid hb0
  have Ha0 := Lib.hid (Rds.onn ha hb0)
  have Hu0 := Lib.hid (Rds.onn hb hb0)
  obtain ⟨ao, cap, rfl⟩ := ha.shape
  obtain ⟨bo, bcap, rfl⟩ := hb.shape
  clear ha hb hb0
  go_enter Tryz.func12, Tryz.ntmps12
  go_wp2_with fail
  with_reducible refine (eqItemS_c Ha0.out Hu0.out).mono ?_
  rintro e w1 ⟨rfl, hb1⟩
  have hb2 := Hb0.out.trans (hb1.mono Hb0.out.size)
  clear hb1
  go_wp2
  go_ret
  exact ⟨rfl, hb2⟩
theorem openLayout {H : Type} {enc : TypeId × Value → H} {w : World} {r : Reach} {b0 : Nat} {v : Value} {d : DataW H} {ps : List MemPlace} (hok : Value.okWide Tryz.prog w r b0 24 v)
    (h : DataW.Trod enc Tryz.prog w 0 (fun _ => true) true 24 v d ps) : ∃ (wd : Int) (u : Value) (xs : List ItemT), v = .agg #[.int .i64 wd, u] ∧ (-9223372036854775808 ≤ wd ∧ wd ≤ 9223372036854775807) ∧ RdItemS w.heap.size w u xs := by
  obtain ⟨cs, rfl, hsz⟩ := okWide_struct Tryz.underlying24 hok
  obtain ⟨c0, c1, rfl⟩ := Go.Joins.array2 (hsz.trans (by kernel_rfl))
  obtain ⟨fuel, hf⟩ := h
  obtain ⟨m, hq⟩ := trod_fields Tryz.underlying24 [(2, 0, 1), (22, 1, 1)] (by kernel_rfl) hf
  obtain ⟨z0, t0⟩ := hq 0 _ _ _ rfl
  obtain ⟨z1, t1⟩ := hq 1 _ _ _ rfl
  have t0' : DataW.trod enc Tryz.prog w 0 (fun _ => true) true m 2 [c0] = some z0 := t0
  have t1' : DataW.trod enc Tryz.prog w 0 (fun _ => true) true m 22 [c1] = some z1 := t1
  obtain ⟨a0, rfl, b0⟩ := trodI Tryz.underlying2 t0'
  obtain ⟨xs, hxs⟩ := openFItemS t1'
  exact ⟨a0, c1, xs, rfl, b0, hxs⟩
end Go.Proofs.YtfieilbcdhbigaaGreatDoor
