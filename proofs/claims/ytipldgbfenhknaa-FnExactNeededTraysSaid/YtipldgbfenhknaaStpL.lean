/- Steps in the laws' helpers. No condition. -/
import Derived.Test.YtipldgbfenhknaaNest
import Derived.Test.YtipldgbfenhknaaInts
namespace Go.Proofs.Ytipldgbfenhknaa
open Go.ChangeShapes Go.WideShapes Go.ChangeAt Go.RowKit
set_option linter.unusedVariables false
set_option maxRecDepth 100000
structure FieldT where
  ff : Int
  ft : Int
abbrev vField (x : FieldT) : Value := .agg #[.int .i64 x.ff, .int .i64 x.ft]
abbrev lField (x : FieldT) : Value := .agg #[.int .i64 x.ff, .int .i64 x.ft]
def okField (x : FieldT) : Prop := (-9223372036854775808 ≤ x.ff ∧ x.ff ≤ 9223372036854775807) ∧ (-9223372036854775808 ≤ x.ft ∧ x.ft ≤ 9223372036854775807)
def eField : Elt FieldT := { sz := 2, cells := fun x => [.int .i64 x.ff, .int .i64 x.ft], ok := okField, len := fun _ => rfl, one := fun x u hu => by simp at hu; rcases hu with rfl | rfl <;> rfl }
def zField : FieldT := ⟨0, 0⟩
theorem ok_zField : okField zField := by unfold okField zField; exact ⟨⟨by decide, by decide⟩, ⟨by decide, by decide⟩⟩
abbrev RdFieldS (B : Nat) (w : World) (v : Value) (x : List FieldT) : Prop := Rds eField B w v x
abbrev OwnFieldS (base : Nat) (w : World) (v : Value) (x : List FieldT) : Prop := Own eField 42 base w v x
abbrev OwnTFieldS (base top : Nat) (w : World) (v : Value) (x : List FieldT) : Prop := OwnT eField 42 base top w v x
def szField (x : FieldT) : Int := 0
theorem szField_nonneg (x : FieldT) : 0 ≤ szField x := by unfold szField; omega
def szFieldS (x : List FieldT) : Int := x.length + sumBy szField x
theorem szFieldS_nonneg (x : List FieldT) : 0 ≤ szFieldS x := by unfold szFieldS; have := sumBy_nonneg szField_nonneg x; omega
def cntFieldS (x : List FieldT) : Nat := 2 * x.length
theorem cntFieldS_le (x : List FieldT) : (cntFieldS x : Int) ≤ 16 * szFieldS x := by unfold szFieldS cntFieldS; have := sumBy_nonneg szField_nonneg x; omega
theorem szFieldS_len (x : List FieldT) : (x.length : Int) ≤ szFieldS x := by unfold szFieldS; have := sumBy_nonneg szField_nonneg x; omega
theorem eField_open {w : World} {B : Nat} {v : Value} {xs : List FieldT} (h : Rds eField B w v xs) : ∃ ao cap, v = .slice ao xs.length cap ∧
    (0 < xs.length → ∃ b off, ao = some ⟨b, off, none⟩ ∧ (b < B ∧ b < w.heap.size) ∧ ∀ k, k < xs.length → ∃ x, xs[k]? = some x ∧ (w.cell? ⟨b, off + k * 2, none⟩ = some (.int .i64 x.ff) ∧ w.cell? ⟨b, off + k * 2 + 1, none⟩ = some (.int .i64 x.ft)) ∧ okField x) := by
  rcases Rds.cases h with ⟨rfl, ao, cap, rfl, _⟩ | ⟨b, off, cap, rfl, hlt, hc⟩
  · exact ⟨ao, cap, rfl, fun h => absurd h (by simp)⟩
  · refine ⟨_, cap, rfl, fun _ => ⟨b, off, rfl, hlt, fun k hk => ?_⟩⟩
    obtain ⟨h1, h2⟩ := hc k xs[k] (by simp [hk])
    refine ⟨xs[k], by simp [hk], ⟨?_, ?_⟩, h1⟩
    · exact h2 0 (by decide)
    · have := h2 1 (by decide); rw [← Nat.add_assoc] at this; exact this
theorem toField_c (w : World) {x : FieldT} (a : okField x) :
    Calls Try.prog 28 #[lField x] w fun e w' => e = .returned (vField x) ∧ Below w.heap.size w w' := by
  clear a
  go_enter Try.func28, Try.ntmps28
  go_wp2
  exact bodyPost_ret (v := vField x) (by simp [results, Try.results28, go_sem]) rfl ⟨rfl, (((Below.refl _ _).alloc (Nat.le_refl _) _).alloc (by simp) _).alloc (by simp; omega) _⟩
theorem eqField_c (w : World) (x : FieldT) :
    Calls Try.prog 35 #[vField x, vField x] w fun e w' => e = .returned (.bool true) ∧ Below w.heap.size w w' := by
  go_enter Try.func35, Try.ntmps35
  go_wp2
  go_ret
  exact ⟨rfl, ((Below.refl _ _).alloc (Nat.le_refl _) _).alloc (by simp) _⟩
theorem openField {H : Type} {enc : TypeId × Value → H} {w : World} {r : Reach} {b0 : Nat} {v : Value} {d : DataW H} {ps : List MemPlace} (hok : Value.okWide Try.prog w r b0 36 v)
    (h : DataW.Trod enc Try.prog w 0 (fun _ => true) true 36 v d ps) : ∃ x, v = lField x ∧ okField x := by
  obtain ⟨v0, v1, y0, y1, n, rfl, _, _, ht0, ht1⟩ := Go.Joins.open_agg2 Try.underlying36 (by kernel_rfl) (by kernel_rfl) hok h
  obtain ⟨a0, rfl, b0⟩ := trodI Try.underlying2 ht0
  obtain ⟨a1, rfl, b1⟩ := trodI Try.underlying2 ht1
  exact ⟨⟨a0, a1⟩, rfl, b0, b1⟩
structure StepT where
  kd : Int
  ta : Int
  tb : Int
  tc : Int
  ff : Int
  ft : Int
  sf : Int
  st : Int
  tx : ByteArray
abbrev vStep (x : StepT) : Value := .agg #[.int .i64 x.kd, .int .i64 x.ta, .int .i64 x.tb, .int .i64 x.tc, .int .i64 x.ff, .int .i64 x.ft, .int .i64 x.sf, .int .i64 x.st, .string x.tx]
abbrev lStep (x : StepT) : Value := .agg #[.int .i64 x.kd, .int .i64 x.ta, .int .i64 x.tb, .int .i64 x.tc, .int .i64 x.ff, .int .i64 x.ft, .int .i64 x.sf, .int .i64 x.st, .string x.tx]
def okStep (x : StepT) : Prop := (-9223372036854775808 ≤ x.kd ∧ x.kd ≤ 9223372036854775807) ∧ (-9223372036854775808 ≤ x.ta ∧ x.ta ≤ 9223372036854775807) ∧ (-9223372036854775808 ≤ x.tb ∧ x.tb ≤ 9223372036854775807) ∧ (-9223372036854775808 ≤ x.tc ∧ x.tc ≤ 9223372036854775807) ∧ (-9223372036854775808 ≤ x.ff ∧ x.ff ≤ 9223372036854775807) ∧ (-9223372036854775808 ≤ x.ft ∧ x.ft ≤ 9223372036854775807) ∧ (-9223372036854775808 ≤ x.sf ∧ x.sf ≤ 9223372036854775807) ∧ (-9223372036854775808 ≤ x.st ∧ x.st ≤ 9223372036854775807) ∧ x.tx.size ≤ 9223372036854775807
def eStep : Elt StepT := { sz := 9, cells := fun x => [.int .i64 x.kd, .int .i64 x.ta, .int .i64 x.tb, .int .i64 x.tc, .int .i64 x.ff, .int .i64 x.ft, .int .i64 x.sf, .int .i64 x.st, .string x.tx], ok := okStep, len := fun _ => rfl, one := fun x u hu => by simp at hu; rcases hu with rfl | rfl | rfl | rfl | rfl | rfl | rfl | rfl | rfl <;> rfl }
def zStep : StepT := ⟨0, 0, 0, 0, 0, 0, 0, 0, ⟨#[]⟩⟩
theorem ok_zStep : okStep zStep := by unfold okStep zStep; exact ⟨⟨by decide, by decide⟩, ⟨by decide, by decide⟩, ⟨by decide, by decide⟩, ⟨by decide, by decide⟩, ⟨by decide, by decide⟩, ⟨by decide, by decide⟩, ⟨by decide, by decide⟩, ⟨by decide, by decide⟩, Nat.zero_le _⟩
abbrev RdStepS (B : Nat) (w : World) (v : Value) (x : List StepT) : Prop := Rds eStep B w v x
abbrev OwnStepS (base : Nat) (w : World) (v : Value) (x : List StepT) : Prop := Own eStep 44 base w v x
abbrev OwnTStepS (base top : Nat) (w : World) (v : Value) (x : List StepT) : Prop := OwnT eStep 44 base top w v x
def szStep (x : StepT) : Int := (x.tx.size : Int)
theorem szStep_nonneg (x : StepT) : 0 ≤ szStep x := by unfold szStep; omega
def szStepS (x : List StepT) : Int := x.length + sumBy szStep x
theorem szStepS_nonneg (x : List StepT) : 0 ≤ szStepS x := by unfold szStepS; have := sumBy_nonneg szStep_nonneg x; omega
def cntStepS (x : List StepT) : Nat := 9 * x.length
theorem cntStepS_le (x : List StepT) : (cntStepS x : Int) ≤ 16 * szStepS x := by unfold szStepS cntStepS; have := sumBy_nonneg szStep_nonneg x; omega
theorem szStepS_len (x : List StepT) : (x.length : Int) ≤ szStepS x := by unfold szStepS; have := sumBy_nonneg szStep_nonneg x; omega
theorem eStep_open {w : World} {B : Nat} {v : Value} {xs : List StepT} (h : Rds eStep B w v xs) : ∃ ao cap, v = .slice ao xs.length cap ∧
    (0 < xs.length → ∃ b off, ao = some ⟨b, off, none⟩ ∧ (b < B ∧ b < w.heap.size) ∧ ∀ k, k < xs.length → ∃ x, xs[k]? = some x ∧ (w.cell? ⟨b, off + k * 9, none⟩ = some (.int .i64 x.kd) ∧ w.cell? ⟨b, off + k * 9 + 1, none⟩ = some (.int .i64 x.ta) ∧ w.cell? ⟨b, off + k * 9 + 2, none⟩ = some (.int .i64 x.tb) ∧ w.cell? ⟨b, off + k * 9 + 3, none⟩ = some (.int .i64 x.tc) ∧ w.cell? ⟨b, off + k * 9 + 4, none⟩ = some (.int .i64 x.ff) ∧ w.cell? ⟨b, off + k * 9 + 5, none⟩ = some (.int .i64 x.ft) ∧ w.cell? ⟨b, off + k * 9 + 6, none⟩ = some (.int .i64 x.sf) ∧ w.cell? ⟨b, off + k * 9 + 7, none⟩ = some (.int .i64 x.st) ∧ w.cell? ⟨b, off + k * 9 + 8, none⟩ = some (.string x.tx)) ∧ okStep x) := by
  rcases Rds.cases h with ⟨rfl, ao, cap, rfl, _⟩ | ⟨b, off, cap, rfl, hlt, hc⟩
  · exact ⟨ao, cap, rfl, fun h => absurd h (by simp)⟩
  · refine ⟨_, cap, rfl, fun _ => ⟨b, off, rfl, hlt, fun k hk => ?_⟩⟩
    obtain ⟨h1, h2⟩ := hc k xs[k] (by simp [hk])
    refine ⟨xs[k], by simp [hk], ⟨?_, ?_, ?_, ?_, ?_, ?_, ?_, ?_, ?_⟩, h1⟩
    · exact h2 0 (by decide)
    · have := h2 1 (by decide); rw [← Nat.add_assoc] at this; exact this
    · have := h2 2 (by decide); rw [← Nat.add_assoc] at this; exact this
    · have := h2 3 (by decide); rw [← Nat.add_assoc] at this; exact this
    · have := h2 4 (by decide); rw [← Nat.add_assoc] at this; exact this
    · have := h2 5 (by decide); rw [← Nat.add_assoc] at this; exact this
    · have := h2 6 (by decide); rw [← Nat.add_assoc] at this; exact this
    · have := h2 7 (by decide); rw [← Nat.add_assoc] at this; exact this
    · have := h2 8 (by decide); rw [← Nat.add_assoc] at this; exact this
theorem toStep_c (w : World) {x : StepT} (a : okStep x) :
    Calls Try.prog 17 #[lStep x] w fun e w' => e = .returned (vStep x) ∧ Below w.heap.size w w' := by
  have Ha := Lib.hid a
  clear a
  go_enter Try.func17, Try.ntmps17
  go_wp2_with fail
  with_reducible refine (toField_c _ (x := ⟨x.ff, x.ft⟩) (by have h := Ha.out; unfold okStep at h; unfold okField; exact ⟨h.2.2.2.2.1, h.2.2.2.2.2.1⟩)).mono ?_
  rintro e w1 ⟨rfl, hb1⟩
  have hB1 := ((((Below.refl _ _).alloc (Nat.le_refl _) _).alloc (by simp) _).alloc (by simp; omega) _).trans (hb1.mono (by simp; omega))
  have HB1 := Lib.hid hB1
  have hz1_0 : w.heap.size < w1.heap.size := by have := hb1.size; (try simp at this); (try have := HB1.out.size); omega
  have hz1_1 : w.heap.size + 1 < w1.heap.size := by have := hb1.size; (try simp at this); (try have := HB1.out.size); omega
  have hz1_2 : w.heap.size + 1 + 1 < w1.heap.size := by have := hb1.size; (try simp at this); (try have := HB1.out.size); omega
  obtain ⟨hc1, hf1⟩ := bcell hb1
  clear hb1 hB1
  go_wp2_with fail
  with_reducible refine (toField_c _ (x := ⟨x.sf, x.st⟩) (by have h := Ha.out; unfold okStep at h; unfold okField; exact ⟨h.2.2.2.2.2.2.1, h.2.2.2.2.2.2.2.1⟩)).mono ?_
  rintro e w2 ⟨rfl, hb2⟩
  have hB2 := (below_run (a := 0) (g := w.heap.size + 2) (by omega) [.int .i64 x.ff, .int .i64 x.ft] _ 4 HB1.out).trans (hb2.mono (by have := HB1.out.size; simp; omega))
  have HB2 := Lib.hid hB2
  have hz2_0 : w.heap.size < w2.heap.size := by have := hb2.size; (try simp at this); (try have := HB2.out.size); omega
  have hz2_1 : w.heap.size + 1 < w2.heap.size := by have := hb2.size; (try simp at this); (try have := HB2.out.size); omega
  have hz2_2 : w.heap.size + 1 + 1 < w2.heap.size := by have := hb2.size; (try simp at this); (try have := HB2.out.size); omega
  obtain ⟨hc2, hf2⟩ := bcell hb2
  clear hb2 hB2
  go_wp2
  exact bodyPost_ret (v := vStep x) (by simp [results, Try.results17, go_sem, hc2, hz2_0, hz2_1, hz2_2, hc1, hz1_0, hz1_1, hz1_2]) rfl ⟨rfl, (below_run (a := 0) (g := w.heap.size + 1 + 1) (by omega) [.int .i64 x.sf, .int .i64 x.st, .string x.tx] _ 6 HB2.out).run (g := w.heap.size + 1) (by omega) [_, _, _, _, _, _, _, _, _]⟩
theorem eqStep_c (w : World) (x : StepT) :
    Calls Try.prog 22 #[vStep x, vStep x] w fun e w' => e = .returned (.bool true) ∧ Below w.heap.size w w' := by
  go_enter Try.func22, Try.ntmps22
  go_wp2_with fail
  with_reducible refine (eqField_c _ ⟨x.ff, x.ft⟩).mono ?_
  rintro e w1 ⟨rfl, hb1⟩
  have hB1 := (((Below.refl _ _).alloc (Nat.le_refl _) _).alloc (by simp) _).trans (hb1.mono (by simp; omega))
  have HB1 := Lib.hid hB1
  have hz1_0 : w.heap.size < w1.heap.size := by have h9 := hb1.size; (try simp at h9); omega
  have hz1_1 : w.heap.size + 1 < w1.heap.size := by have h9 := hb1.size; (try simp at h9); omega
  obtain ⟨hc1, hf1⟩ := bcell hb1
  clear hb1
  go_wp2_with fail
  with_reducible refine (eqField_c _ ⟨x.sf, x.st⟩).mono ?_
  rintro e w2 ⟨rfl, hb2⟩
  have hB2 := hB1.trans (hb2.mono hB1.size)
  have HB2 := Lib.hid hB2
  have hz2_0 : w.heap.size < w2.heap.size := by have h9 := hb2.size; (try simp at h9); have h8 := hz1_0; omega
  have hz2_1 : w.heap.size + 1 < w2.heap.size := by have h9 := hb2.size; (try simp at h9); have h8 := hz1_1; omega
  obtain ⟨hc2, hf2⟩ := bcell hb2
  clear hb2 hB2
  go_wp2
  go_ret
  exact ⟨rfl, HB2.out⟩
theorem szStep_c (w : World) {x : StepT} {left : Int} (a : okStep x) (h1 : left ≤ 1048576) (h2 : szStep x ≤ left) :
    Calls Try.prog 13 #[lStep x, .int .i64 left] w fun e w' => e = .returned (.int .i64 (left - szStep x)) ∧ Below w.heap.size w w' := by
  unfold szStep at *
  clear a
  go_enter Try.func13, Try.ntmps13
  go_wp2
  go_ret
  exact ⟨rfl, (Below.refl _ _).alloc (Nat.le_refl _) _⟩
theorem szStep_no (w : World) {x : StepT} {left : Int} (a : okStep x) (h0 : 0 ≤ left ∧ left ≤ 1048576) (h2 : ¬ szStep x ≤ left) :
    Calls Try.prog 13 #[lStep x, .int .i64 left] w fun e w' => e = .returned (.int .i64 (-1)) ∧ Below w.heap.size w w' := by
  unfold szStep at *
  have hs : (x.tx.size : Int) ≤ 9223372036854775807 := by have h := a; unfold okStep at h; omega
  clear a
  go_enter Try.func13, Try.ntmps13
  go_wp2
  go_ret
  exact ⟨rfl, (Below.refl _ _).alloc (Nat.le_refl _) _⟩
theorem szStepS_c {w : World} {A : Nat} {xs : List StepT} {v : Value} {left : Int} (ha : RdStepS A w v xs) (h1 : left ≤ 1048576) (h2 : szStepS xs ≤ left) :
    Calls Try.prog 4 #[v, .int .i64 left] w fun e w' => e = .returned (.int .i64 (left - szStepS xs)) ∧ Below w.heap.size w w' := by
  have hle := ha.le
  have hok := ha.2
  obtain ⟨ao, cap, rfl, ho⟩ := eStep_open ha
  obtain ⟨n, hn⟩ : ∃ n, n = xs.length := ⟨_, rfl⟩
  rw [← hn]
  have Hn := Lib.hid hn
  have Ho := Lib.hid ho
  have Hok := Lib.hid hok
  have hle' : n ≤ 9223372036854775807 := by omega
  clear hok ho hn hle ha
  have h2' : n + sumBy szStep xs ≤ left := by have := Hn.out; unfold szStepS at h2; omega
  have h3 := sumBy_nonneg szStep_nonneg xs
  have H2 := Lib.hid h2
  clear h2
  go_enter Try.func4, Try.ntmps4
  go_wp2
  go_loopw [1, 5] (fun l i wr => ∃ k : Nat, k ≤ n ∧ i = .int .i64 k ∧ ∃ lf : Int, l = .int .i64 lf ∧ (lf ≤ 1048576 ∧ 0 ≤ lf) ∧ Hid (lf = left - n - sumBy szStep (xs.take k)) ∧ Below w.heap.size w wr) (fun _ i _ => n - (intOf i).toNat)
  case atStart => exact ⟨0, Nat.zero_le _, rfl, left - n, rfl, by omega, by show left - n = _; simp [sumBy], Below.refl _ _⟩
  case round =>
    obtain ⟨k, hk, rfl, lf, rfl, ⟨hl1, hl2⟩, hlf, hbb⟩ := hrel
    by_cases hkn : k < n
    · obtain ⟨b, off, rfl, hlt, hc⟩ := Ho.out (by have := Hn.out; omega)
      obtain ⟨x, hx, ⟨c0, c1, c2, c3, c4, c5, c6, c7, c8⟩, bx⟩ := hc k (by have := Hn.out; omega)
      have Hx := Lib.hid hx
      have Hbx := Lib.hid bx
      clear hx hc bx
      have d0 := (hbb.cell (p := ⟨b, off + k * 9, none⟩) hlt.2).trans c0
      have d1 := (hbb.cell (p := ⟨b, off + k * 9 + 1, none⟩) hlt.2).trans c1
      have d2 := (hbb.cell (p := ⟨b, off + k * 9 + 2, none⟩) hlt.2).trans c2
      have d3 := (hbb.cell (p := ⟨b, off + k * 9 + 3, none⟩) hlt.2).trans c3
      have d4 := (hbb.cell (p := ⟨b, off + k * 9 + 4, none⟩) hlt.2).trans c4
      have d5 := (hbb.cell (p := ⟨b, off + k * 9 + 5, none⟩) hlt.2).trans c5
      have d6 := (hbb.cell (p := ⟨b, off + k * 9 + 6, none⟩) hlt.2).trans c6
      have d7 := (hbb.cell (p := ⟨b, off + k * 9 + 7, none⟩) hlt.2).trans c7
      have d8 := (hbb.cell (p := ⟨b, off + k * 9 + 8, none⟩) hlt.2).trans c8
      have D0 := Lib.hid c0
      have D1 := Lib.hid c1
      have D2 := Lib.hid c2
      have D3 := Lib.hid c3
      have D4 := Lib.hid c4
      have D5 := Lib.hid c5
      have D6 := Lib.hid c6
      have D7 := Lib.hid c7
      have D8 := Lib.hid c8
      clear c0 c1 c2 c3 c4 c5 c6 c7 c8
      have hx0 := szStep_nonneg x
      have hf : szStep x ≤ lf := by rw [hlf.out]; have h4 := sumBy_snoc szStep Hx.out; have h5 := sumBy_take_le szStep_nonneg xs (k + 1); omega
      go_wp2_with fail
      with_reducible refine (szStep_c wr (x := x) Hbx.out hl1 hf).mono ?_
      rintro e w1 ⟨rfl, hb1⟩
      have hbb1 : Below w.heap.size w w1 := hbb.trans (hb1.mono hbb.size)
      clear hb1 hbb d0 d1 d2 d3 d4 d5 d6 d7 d8
      go_wp2
      go_roundw
      case rel => exact ⟨k + 1, by omega, by go_num, lf - szStep x, rfl, by omega, by show lf - szStep x = _; rw [sumBy_snoc szStep Hx.out, hlf.out]; omega, hbb1⟩
      case measure => simp [intOf]; omega
    · go_wp2
      go_ret
      refine ⟨ret_int ?_, hbb⟩
      rw [hlf.out, List.take_of_length_le (by have := Hn.out; omega)]; unfold szStepS; have := Hn.out; omega
theorem szStepS_no {w : World} {A : Nat} {xs : List StepT} {v : Value} {left : Int} (ha : RdStepS A w v xs) (h0 : 0 ≤ left ∧ left ≤ 1048576) (h2 : ¬ szStepS xs ≤ left) :
    Calls Try.prog 4 #[v, .int .i64 left] w fun e w' => e = .returned (.int .i64 (-1)) ∧ Below w.heap.size w w' := by
  have h1 := h0.2
  have h00 := h0.1
  have hle := ha.le
  have hok := ha.2
  obtain ⟨ao, cap, rfl, ho⟩ := eStep_open ha
  obtain ⟨n, hn⟩ : ∃ n, n = xs.length := ⟨_, rfl⟩
  rw [← hn]
  have Hn := Lib.hid hn
  have Ho := Lib.hid ho
  have Hok := Lib.hid hok
  have hle' : n ≤ 9223372036854775807 := by omega
  clear hok ho hn hle ha
  have h2' : ¬ n + sumBy szStep xs ≤ left := by have := Hn.out; unfold szStepS at h2; omega
  have H2 := Lib.hid h2
  have H2' := Lib.hid h2'
  clear h2 h0 h2'
  by_cases hb : left < n
  · clear H2'
    go_enter Try.func4, Try.ntmps4
    go_wp2
    go_ret
    exact ⟨rfl, Below.refl _ _⟩
  go_enter Try.func4, Try.ntmps4
  go_wp2
  go_loopw [1, 5] (fun l i wr => ∃ k : Nat, k ≤ n ∧ i = .int .i64 k ∧ ∃ lf : Int, l = .int .i64 lf ∧ (lf ≤ 1048576 ∧ 0 ≤ lf) ∧ Hid (lf = left - n - sumBy szStep (xs.take k)) ∧ Below w.heap.size w wr) (fun _ i _ => n - (intOf i).toNat)
  case atStart => exact ⟨0, Nat.zero_le _, rfl, left - n, rfl, by omega, by show left - n = _; simp [sumBy], Below.refl _ _⟩
  case round =>
    obtain ⟨k, hk, rfl, lf, rfl, ⟨hl1, hl2⟩, hlf, hbb⟩ := hrel
    by_cases hkn : k < n
    · obtain ⟨b, off, rfl, hlt, hc⟩ := Ho.out (by have := Hn.out; omega)
      obtain ⟨x, hx, ⟨c0, c1, c2, c3, c4, c5, c6, c7, c8⟩, bx⟩ := hc k (by have := Hn.out; omega)
      have Hx := Lib.hid hx
      have Hbx := Lib.hid bx
      clear hx hc bx
      have d0 := (hbb.cell (p := ⟨b, off + k * 9, none⟩) hlt.2).trans c0
      have d1 := (hbb.cell (p := ⟨b, off + k * 9 + 1, none⟩) hlt.2).trans c1
      have d2 := (hbb.cell (p := ⟨b, off + k * 9 + 2, none⟩) hlt.2).trans c2
      have d3 := (hbb.cell (p := ⟨b, off + k * 9 + 3, none⟩) hlt.2).trans c3
      have d4 := (hbb.cell (p := ⟨b, off + k * 9 + 4, none⟩) hlt.2).trans c4
      have d5 := (hbb.cell (p := ⟨b, off + k * 9 + 5, none⟩) hlt.2).trans c5
      have d6 := (hbb.cell (p := ⟨b, off + k * 9 + 6, none⟩) hlt.2).trans c6
      have d7 := (hbb.cell (p := ⟨b, off + k * 9 + 7, none⟩) hlt.2).trans c7
      have d8 := (hbb.cell (p := ⟨b, off + k * 9 + 8, none⟩) hlt.2).trans c8
      have D0 := Lib.hid c0
      have D1 := Lib.hid c1
      have D2 := Lib.hid c2
      have D3 := Lib.hid c3
      have D4 := Lib.hid c4
      have D5 := Lib.hid c5
      have D6 := Lib.hid c6
      have D7 := Lib.hid c7
      have D8 := Lib.hid c8
      clear c0 c1 c2 c3 c4 c5 c6 c7 c8
      have hx0 := szStep_nonneg x
      by_cases hf : szStep x ≤ lf
      · go_wp2_with fail
        with_reducible refine (szStep_c wr (x := x) Hbx.out hl1 hf).mono ?_
        rintro e w1 ⟨rfl, hb1⟩
        have hbb1 : Below w.heap.size w w1 := hbb.trans (hb1.mono hbb.size)
        clear hb1 hbb d0 d1 d2 d3 d4 d5 d6 d7 d8
        go_wp2
        go_roundw
        case rel => exact ⟨k + 1, by omega, by go_num, lf - szStep x, rfl, by omega, by show lf - szStep x = _; rw [sumBy_snoc szStep Hx.out, hlf.out]; omega, hbb1⟩
        case measure => simp [intOf]; omega
      · go_wp2_with fail
        with_reducible refine (szStep_no wr (x := x) Hbx.out ⟨hl2, hl1⟩ (by omega)).mono ?_
        rintro e w1 ⟨rfl, hb1⟩
        have hbb1 : Below w.heap.size w w1 := hbb.trans (hb1.mono hbb.size)
        clear hb1 hbb d0 d1 d2 d3 d4 d5 d6 d7 d8
        go_wp2
        go_ret
        exact ⟨rfl, hbb1⟩
    · exfalso
      have h6 := hlf.out
      rw [List.take_of_length_le (by have := Hn.out; omega)] at h6
      have := H2'.out
      omega
theorem Try.infoStep : (Try.prog.info? 44).map (fun i => (i.zero, i.size, i.bytes)) = some (some (vStep zStep), 9, 80) := by kernel_rfl
theorem toStepS_c {w : World} {A : Nat} {xs : List StepT} {v : Value} (ha : RdStepS A w v xs) (hl : szStepS xs ≤ 1048576) :
    Calls Try.prog 6 #[v] w fun e w' => ∃ u, e = .returned u ∧ OwnStepS w.heap.size w' u xs ∧ Below w.heap.size w w' := by
  have hl2 : xs.length ≤ 1048576 := by have := szStepS_len xs; omega
  have hle := ha.le
  have hok := ha.2
  obtain ⟨ao, cap, rfl, ho⟩ := eStep_open ha
  obtain ⟨n, hn⟩ : ∃ n, n = xs.length := ⟨_, rfl⟩
  rw [← hn]
  have Hn := Lib.hid hn
  have Ho := Lib.hid ho
  have Hok := Lib.hid hok
  have hle' : n ≤ 9223372036854775807 := by omega
  clear hok ho hn hle ha
  have hn2 : n ≤ 1048576 := by have := Hn.out; omega
  obtain ⟨i0, hi, hz0, hz1, hz2⟩ := info_parts Try.infoStep
  clear hl hl2 hle'
  go_enter Try.func6, Try.ntmps6
  go_wp2_with (first | (at_make; refine wpList_make_full _ rfl _ _ 27 rfl w.heap.size 44 i0 (vStep zStep) 9 Try.underlying27 hi hz0 hz1 _ _ _ _ n rfl rfl rfl rfl ?b1 ?b2 (Nat.le_refl _) ?_))
  case b1 => first | omega | (rw [hz2]; omega)
  case b2 => unfold maxLen; omega
  intro w1 hown hgr
  have hb1 : Below w.heap.size w w1 := (Below.refl _ _).grown hgr (Nat.le_refl _) (fun k hk => by cases hk)
  have hown0 : OwnStepS w.heap.size w1 (.slice (some ⟨w.heap.size, 0, none⟩) n n) (xs.take 0 ++ List.replicate (n - 0) zStep) := by
    refine ⟨?_, fun x hx => ?_⟩
    · have hown2 : w1.ownsRow w.heap.size 44 eStep.sz (.slice (some ⟨w.heap.size, 0, none⟩) n n) n (madeCells (vStep zStep).cells (n * eStep.sz)).toList := hown
      rw [Elt.all_made (E := eStep) (z := zStep) (zv := vStep zStep) (by decide) rfl n] at hown2; simpa using hown2
    · simp at hx; obtain ⟨_, rfl⟩ := hx; exact ok_zStep
  have hs1 : w.heap.size < w1.heap.size := (hown0.lt _ rfl).2
  clear hown hgr
  go_wp2
  go_loopw [4] (fun i wr => ∃ k : Nat, k ≤ n ∧ i = .int .i64 k ∧ OwnStepS w.heap.size wr (.slice (some ⟨w.heap.size, 0, none⟩) n n) (xs.take k ++ List.replicate (n - k) zStep) ∧ Below w.heap.size w wr) (fun i _ => n - (intOf i).toNat)
  case atStart => exact ⟨0, Nat.zero_le _, rfl, hown0, hb1⟩
  case round =>
    obtain ⟨k, hk, rfl, hw, hb⟩ := hrel
    by_cases hkn : k < n
    · obtain ⟨b, off, rfl, hlt, hc⟩ := Ho.out (by have := Hn.out; omega)
      obtain ⟨x, hx, ⟨c0, c1, c2, c3, c4, c5, c6, c7, c8⟩, bx⟩ := hc k (by have := Hn.out; omega)
      have Hx := Lib.hid hx
      have Hbx := Lib.hid bx
      clear hx hc bx hb1 hown0
      have d0 := (hb.cell (p := ⟨b, off + k * 9, none⟩) hlt.2).trans c0
      have d1 := (hb.cell (p := ⟨b, off + k * 9 + 1, none⟩) hlt.2).trans c1
      have d2 := (hb.cell (p := ⟨b, off + k * 9 + 2, none⟩) hlt.2).trans c2
      have d3 := (hb.cell (p := ⟨b, off + k * 9 + 3, none⟩) hlt.2).trans c3
      have d4 := (hb.cell (p := ⟨b, off + k * 9 + 4, none⟩) hlt.2).trans c4
      have d5 := (hb.cell (p := ⟨b, off + k * 9 + 5, none⟩) hlt.2).trans c5
      have d6 := (hb.cell (p := ⟨b, off + k * 9 + 6, none⟩) hlt.2).trans c6
      have d7 := (hb.cell (p := ⟨b, off + k * 9 + 7, none⟩) hlt.2).trans c7
      have d8 := (hb.cell (p := ⟨b, off + k * 9 + 8, none⟩) hlt.2).trans c8
      clear c0 c1 c2 c3 c4 c5 c6 c7 c8
      go_wp2_with fail
      with_reducible refine (toStep_c wr (x := x) Hbx.out).mono ?_
      rintro e w2 ⟨rfl, hb2⟩
      have hw2 := hw.below hb2 (Nat.le_refl _)
      have hb3 : Below w.heap.size w w2 := hb.trans (hb2.mono hb.size)
      have hlen : n = (xs.take k ++ List.replicate (n - k) zStep).length := by have := Hn.out; simp; omega
      have hst := Own.storeE (E := eStep) (by decide) hw2 hlen hkn Hbx.out
      obtain ⟨⟨y0, hy0⟩, hf0⟩ := Own.cellE (E := eStep) hw2 hlen (k := k) (j := 0) hkn (by decide)
      obtain ⟨⟨y1, hy1⟩, hf1⟩ := Own.cellE (E := eStep) hw2 hlen (k := k) (j := 1) hkn (by decide)
      obtain ⟨⟨y2, hy2⟩, hf2⟩ := Own.cellE (E := eStep) hw2 hlen (k := k) (j := 2) hkn (by decide)
      obtain ⟨⟨y3, hy3⟩, hf3⟩ := Own.cellE (E := eStep) hw2 hlen (k := k) (j := 3) hkn (by decide)
      obtain ⟨⟨y4, hy4⟩, hf4⟩ := Own.cellE (E := eStep) hw2 hlen (k := k) (j := 4) hkn (by decide)
      obtain ⟨⟨y5, hy5⟩, hf5⟩ := Own.cellE (E := eStep) hw2 hlen (k := k) (j := 5) hkn (by decide)
      obtain ⟨⟨y6, hy6⟩, hf6⟩ := Own.cellE (E := eStep) hw2 hlen (k := k) (j := 6) hkn (by decide)
      obtain ⟨⟨y7, hy7⟩, hf7⟩ := Own.cellE (E := eStep) hw2 hlen (k := k) (j := 7) hkn (by decide)
      obtain ⟨⟨y8, hy8⟩, hf8⟩ := Own.cellE (E := eStep) hw2 hlen (k := k) (j := 8) hkn (by decide)
      simp only [show eStep.sz = 9 from rfl, Nat.add_zero] at hy0 hf0 hy1 hf1 hy2 hf2 hy3 hf3 hy4 hf4 hy5 hf5 hy6 hf6 hy7 hf7 hy8 hf8
      have Hst := Lib.hid hst
      have Hb3 := Lib.hid hb3
      clear hst hlen hb hb2 hw hw2 hb3 d0 d1 d2 d3 d4 d5 d6 d7 d8
      go_wp2
      go_roundw
      case rel => exact ⟨k + 1, by omega, by go_num, by have h := Hst.out.1; rw [set_take_repl Hx.out Hn.out hkn] at h; exact h, (((((((((Hb3.out).setCell (Nat.le_refl _) _).setCell (Nat.le_refl _) _).setCell (Nat.le_refl _) _).setCell (Nat.le_refl _) _).setCell (Nat.le_refl _) _).setCell (Nat.le_refl _) _).setCell (Nat.le_refl _) _).setCell (Nat.le_refl _) _).setCell (Nat.le_refl _) _⟩
      case measure => simp [intOf]; omega
    · go_wp2
      go_ret
      refine ⟨_, rfl, ?_, hb⟩
      have := Hn.out
      rw [List.take_of_length_le (by omega), show n - k = 0 by omega] at hw
      simpa using hw
theorem eqStepS_c {xs : List StepT} {va vb : Value} {w : World} {A B : Nat} (ha : RdStepS A w va xs) (hb : RdStepS B w vb xs) :
    Calls Try.prog 9 #[va, vb] w fun e w' => e = .returned (.bool true) ∧ Below w.heap.size w w' := by
  obtain ⟨bo, bcap, rfl, hob⟩ := eStep_open hb
  have Hob := Lib.hid hob
  clear hob hb
  have hle := ha.le
  have hok := ha.2
  obtain ⟨ao, cap, rfl, ho⟩ := eStep_open ha
  obtain ⟨n, hn⟩ : ∃ n, n = xs.length := ⟨_, rfl⟩
  rw [← hn]
  have Hn := Lib.hid hn
  have Ho := Lib.hid ho
  have Hok := Lib.hid hok
  have hle' : n ≤ 9223372036854775807 := by omega
  clear hok ho hn hle ha
  go_enter Try.func9, Try.ntmps9
  go_wp2
  go_loopw [5] (fun i wr => ∃ k : Nat, k ≤ n ∧ i = .int .i64 k ∧ Below w.heap.size w wr) (fun i _ => n - (intOf i).toNat)
  case atStart => exact ⟨0, Nat.zero_le _, rfl, Below.refl _ _⟩
  case round =>
    obtain ⟨k, hk, rfl, hbb⟩ := hrel
    by_cases hkn : k < n
    · obtain ⟨b, off, rfl, hlt, hc⟩ := Ho.out (by have := Hn.out; omega)
      obtain ⟨x, hx, ⟨c0, c1, c2, c3, c4, c5, c6, c7, c8⟩, bx⟩ := hc k (by have := Hn.out; omega)
      have Hx := Lib.hid hx
      have d0 := (hbb.cell (p := ⟨b, off + k * 9, none⟩) hlt.2).trans c0
      have d1 := (hbb.cell (p := ⟨b, off + k * 9 + 1, none⟩) hlt.2).trans c1
      have d2 := (hbb.cell (p := ⟨b, off + k * 9 + 2, none⟩) hlt.2).trans c2
      have d3 := (hbb.cell (p := ⟨b, off + k * 9 + 3, none⟩) hlt.2).trans c3
      have d4 := (hbb.cell (p := ⟨b, off + k * 9 + 4, none⟩) hlt.2).trans c4
      have d5 := (hbb.cell (p := ⟨b, off + k * 9 + 5, none⟩) hlt.2).trans c5
      have d6 := (hbb.cell (p := ⟨b, off + k * 9 + 6, none⟩) hlt.2).trans c6
      have d7 := (hbb.cell (p := ⟨b, off + k * 9 + 7, none⟩) hlt.2).trans c7
      have d8 := (hbb.cell (p := ⟨b, off + k * 9 + 8, none⟩) hlt.2).trans c8
      clear hx hc bx c0 c1 c2 c3 c4 c5 c6 c7 c8
      obtain ⟨b2, off2, rfl, hlt2, hc⟩ := Hob.out (by have := Hn.out; omega)
      obtain ⟨x2, hx2, ⟨c0, c1, c2, c3, c4, c5, c6, c7, c8⟩, bx⟩ := hc k (by have := Hn.out; omega)
      obtain rfl : x = x2 := Option.some.inj (Hx.out.symm.trans hx2)
      have f0 := (hbb.cell (p := ⟨b2, off2 + k * 9, none⟩) hlt2.2).trans c0
      have f1 := (hbb.cell (p := ⟨b2, off2 + k * 9 + 1, none⟩) hlt2.2).trans c1
      have f2 := (hbb.cell (p := ⟨b2, off2 + k * 9 + 2, none⟩) hlt2.2).trans c2
      have f3 := (hbb.cell (p := ⟨b2, off2 + k * 9 + 3, none⟩) hlt2.2).trans c3
      have f4 := (hbb.cell (p := ⟨b2, off2 + k * 9 + 4, none⟩) hlt2.2).trans c4
      have f5 := (hbb.cell (p := ⟨b2, off2 + k * 9 + 5, none⟩) hlt2.2).trans c5
      have f6 := (hbb.cell (p := ⟨b2, off2 + k * 9 + 6, none⟩) hlt2.2).trans c6
      have f7 := (hbb.cell (p := ⟨b2, off2 + k * 9 + 7, none⟩) hlt2.2).trans c7
      have f8 := (hbb.cell (p := ⟨b2, off2 + k * 9 + 8, none⟩) hlt2.2).trans c8
      clear hx2 hc bx c0 c1 c2 c3 c4 c5 c6 c7 c8
      go_wp2_with fail
      go_still_tail 8, (by kernel_rfl)
      change wpList _ _ _ _ _ wr.drew
      have hbd : Below w.heap.size w wr.drew := ⟨hbb.os, hbb.tape, hbb.output, hbb.size, hbb.block⟩
      clear hbb d0 f0 d1 f1 d2 f2 d3 f3 d4 f4 d5 f5 d6 f6 d7 f7 d8 f8
      generalize wr.drew = w2 at hbd ⊢
      go_wp2_with fail
      with_reducible refine (eqStep_c w2 x).mono ?_
      rintro e w3 ⟨rfl, hb3⟩
      have hbb1 : Below w.heap.size w w3 := hbd.trans (hb3.mono hbd.size)
      clear hb3 hbd
      go_wp2
      go_roundw
      case rel => exact ⟨k + 1, by omega, by go_num, hbb1⟩
      case measure => simp [intOf]; omega
    · go_wp2
      go_ret
      exact ⟨rfl, hbb⟩
theorem openStepS {H : Type} {enc : TypeId × Value → H} {w : World} {r : Reach} {b0 : Nat} {v : Value} {d : DataW H} {ps : List MemPlace} (hok : Value.okWide Try.prog w r b0 22 v)
    (h : DataW.Trod enc Try.prog w 0 (fun _ => true) true 22 v d ps) : ∃ xs, RdStepS w.heap.size w v xs := by
  refine open_rdG (E := eStep) (e := 38) Try.underlying22 (by kernel_rfl) (fun n cs y hl hf => ?_) (by decide) hok h
  match cs, hl with
  | [e0, e1, e2, e3, e4, e5, e6, e7, e8], _ =>
    obtain ⟨n1, hq⟩ := trod_fields Try.underlying38 [(2, 0, 1), (2, 1, 1), (2, 2, 1), (2, 3, 1), (36, 4, 2), (36, 6, 2), (9, 8, 1)] (by kernel_rfl) hf
    obtain ⟨z0, t0⟩ := hq 0 _ _ _ rfl
    obtain ⟨a0, ha0, b0⟩ := trodI (v := e0) Try.underlying2 t0
    subst ha0
    obtain ⟨z1, t1⟩ := hq 1 _ _ _ rfl
    obtain ⟨a1, ha1, b1⟩ := trodI (v := e1) Try.underlying2 t1
    subst ha1
    obtain ⟨z2, t2⟩ := hq 2 _ _ _ rfl
    obtain ⟨a2, ha2, b2⟩ := trodI (v := e2) Try.underlying2 t2
    subst ha2
    obtain ⟨z3, t3⟩ := hq 3 _ _ _ rfl
    obtain ⟨a3, ha3, b3⟩ := trodI (v := e3) Try.underlying2 t3
    subst ha3
    obtain ⟨z4, t4⟩ := hq 4 _ _ _ rfl
    obtain ⟨n6, hq4⟩ := trod_fields (cs := [e4, e5]) Try.underlying36 [(2, 0, 1), (2, 1, 1)] (by kernel_rfl) t4
    obtain ⟨z4_0, t4_0⟩ := hq4 0 _ _ _ rfl
    obtain ⟨a4, ha4, b4⟩ := trodI (v := e4) Try.underlying2 t4_0
    subst ha4
    obtain ⟨z4_1, t4_1⟩ := hq4 1 _ _ _ rfl
    obtain ⟨a5, ha5, b5⟩ := trodI (v := e5) Try.underlying2 t4_1
    subst ha5
    obtain ⟨z5, t5⟩ := hq 5 _ _ _ rfl
    obtain ⟨n7, hq5⟩ := trod_fields (cs := [e6, e7]) Try.underlying36 [(2, 0, 1), (2, 1, 1)] (by kernel_rfl) t5
    obtain ⟨z5_0, t5_0⟩ := hq5 0 _ _ _ rfl
    obtain ⟨a6, ha6, b6⟩ := trodI (v := e6) Try.underlying2 t5_0
    subst ha6
    obtain ⟨z5_1, t5_1⟩ := hq5 1 _ _ _ rfl
    obtain ⟨a7, ha7, b7⟩ := trodI (v := e7) Try.underlying2 t5_1
    subst ha7
    obtain ⟨z6, t6⟩ := hq 6 _ _ _ rfl
    obtain ⟨a8, ha8, b8⟩ := trodS (v := e8) Try.underlying9 t6
    subst ha8
    exact ⟨⟨a0, a1, a2, a3, a4, a5, a6, a7, a8⟩, rfl, b0, b1, b2, b3, b4, b5, b6, b7, b8⟩
end Go.Proofs.Ytipldgbfenhknaa
