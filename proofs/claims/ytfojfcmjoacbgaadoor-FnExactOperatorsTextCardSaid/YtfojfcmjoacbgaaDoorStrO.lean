/- Operators in the laws' helpers. No condition. -/
import Derived.Test.YtfojfcmjoacbgaaDoorStr
import Derived.Test.YtfojfcmjoacbgaaDoorMark
namespace Go.Proofs.YtfojfcmjoacbgaaDoor
open Go.ChangeShapes Go.WideShapes Go.ChangeAt Go.RowKit
set_option linter.unusedVariables false
set_option maxRecDepth 100000
structure OperatorT where
  nm : ByteArray
  skills : Int
abbrev vOperator (x : OperatorT) : Value := .agg #[.string x.nm, .int .i64 x.skills]
abbrev lOperator (x : OperatorT) : Value := .agg #[.string x.nm, .int .i64 x.skills]
def okOperator (x : OperatorT) : Prop := x.nm.size ≤ 9223372036854775807 ∧ (-9223372036854775808 ≤ x.skills ∧ x.skills ≤ 9223372036854775807)
def eOperator : Elt OperatorT := { sz := 2, cells := fun x => [.string x.nm, .int .i64 x.skills], ok := okOperator, len := fun _ => rfl, one := fun x u hu => by simp at hu; rcases hu with rfl | rfl <;> rfl }
def zOperator : OperatorT := ⟨⟨#[]⟩, 0⟩
theorem ok_zOperator : okOperator zOperator := by unfold okOperator zOperator; exact ⟨Nat.zero_le _, ⟨by decide, by decide⟩⟩
abbrev RdOperatorS (B : Nat) (w : World) (v : Value) (x : List OperatorT) : Prop := Rds eOperator B w v x
abbrev OwnOperatorS (base : Nat) (w : World) (v : Value) (x : List OperatorT) : Prop := Own eOperator 59 base w v x
abbrev OwnTOperatorS (base top : Nat) (w : World) (v : Value) (x : List OperatorT) : Prop := OwnT eOperator 59 base top w v x
def szOperator (x : OperatorT) : Int := (x.nm.size : Int)
theorem szOperator_nonneg (x : OperatorT) : 0 ≤ szOperator x := by unfold szOperator; omega
def szOperatorS (x : List OperatorT) : Int := x.length + sumBy szOperator x
theorem szOperatorS_nonneg (x : List OperatorT) : 0 ≤ szOperatorS x := by unfold szOperatorS; have := sumBy_nonneg szOperator_nonneg x; omega
def cntOperatorS (x : List OperatorT) : Nat := 2 * x.length
theorem cntOperatorS_le (x : List OperatorT) : (cntOperatorS x : Int) ≤ 16 * szOperatorS x := by unfold szOperatorS cntOperatorS; have := sumBy_nonneg szOperator_nonneg x; omega
theorem szOperatorS_len (x : List OperatorT) : (x.length : Int) ≤ szOperatorS x := by unfold szOperatorS; have := sumBy_nonneg szOperator_nonneg x; omega
theorem eOperator_open {w : World} {B : Nat} {v : Value} {xs : List OperatorT} (h : Rds eOperator B w v xs) : ∃ ao cap, v = .slice ao xs.length cap ∧
    (0 < xs.length → ∃ b off, ao = some ⟨b, off, none⟩ ∧ (b < B ∧ b < w.heap.size) ∧ ∀ k, k < xs.length → ∃ x, xs[k]? = some x ∧ (w.cell? ⟨b, off + k * 2, none⟩ = some (.string x.nm) ∧ w.cell? ⟨b, off + k * 2 + 1, none⟩ = some (.int .i64 x.skills)) ∧ okOperator x) := by
  rcases Rds.cases h with ⟨rfl, ao, cap, rfl, _⟩ | ⟨b, off, cap, rfl, hlt, hc⟩
  · exact ⟨ao, cap, rfl, fun h => absurd h (by simp)⟩
  · refine ⟨_, cap, rfl, fun _ => ⟨b, off, rfl, hlt, fun k hk => ?_⟩⟩
    obtain ⟨h1, h2⟩ := hc k xs[k] (by simp [hk])
    refine ⟨xs[k], by simp [hk], ⟨?_, ?_⟩, h1⟩
    · exact h2 0 (by decide)
    · have := h2 1 (by decide); rw [← Nat.add_assoc] at this; exact this
theorem toOperator_c (w : World) {x : OperatorT} (a : okOperator x) :
    Calls Tryd.prog 40 #[lOperator x] w fun e w' => e = .returned (vOperator x) ∧ Below w.heap.size w w' := by
  clear a
  go_enter Tryd.func40, Tryd.ntmps40
  go_wp2
  exact bodyPost_ret (v := vOperator x) (by simp [results, Tryd.results40, go_sem]) rfl ⟨rfl, (((Below.refl _ _).alloc (Nat.le_refl _) _).alloc (by simp) _).alloc (by simp; omega) _⟩
theorem eqOperator_c (w : World) (x : OperatorT) :
    Calls Tryd.prog 42 #[vOperator x, vOperator x] w fun e w' => e = .returned (.bool true) ∧ Below w.heap.size w w' := by
  go_enter Tryd.func42, Tryd.ntmps42
  go_wp2
  go_ret
  exact ⟨rfl, ((Below.refl _ _).alloc (Nat.le_refl _) _).alloc (by simp) _⟩
theorem szOperator_c (w : World) {x : OperatorT} {left : Int} (a : okOperator x) (h1 : left ≤ 1048576) (h2 : szOperator x ≤ left) :
    Calls Tryd.prog 37 #[lOperator x, .int .i64 left] w fun e w' => e = .returned (.int .i64 (left - szOperator x)) ∧ Below w.heap.size w w' := by
  unfold szOperator at *
  clear a
  go_enter Tryd.func37, Tryd.ntmps37
  go_wp2
  go_ret
  exact ⟨rfl, (Below.refl _ _).alloc (Nat.le_refl _) _⟩
theorem szOperator_no (w : World) {x : OperatorT} {left : Int} (a : okOperator x) (h0 : 0 ≤ left ∧ left ≤ 1048576) (h2 : ¬ szOperator x ≤ left) :
    Calls Tryd.prog 37 #[lOperator x, .int .i64 left] w fun e w' => e = .returned (.int .i64 (-1)) ∧ Below w.heap.size w w' := by
  unfold szOperator at *
  have hs : (x.nm.size : Int) ≤ 9223372036854775807 := by have := a.1; omega
  clear a
  go_enter Tryd.func37, Tryd.ntmps37
  go_wp2
  go_ret
  exact ⟨rfl, (Below.refl _ _).alloc (Nat.le_refl _) _⟩
theorem szOperatorS_c {w : World} {A : Nat} {xs : List OperatorT} {v : Value} {left : Int} (ha : RdOperatorS A w v xs) (h1 : left ≤ 1048576) (h2 : szOperatorS xs ≤ left) :
    Calls Tryd.prog 9 #[v, .int .i64 left] w fun e w' => e = .returned (.int .i64 (left - szOperatorS xs)) ∧ Below w.heap.size w w' := by
  have hle := ha.le
  have hok := ha.2
  obtain ⟨ao, cap, rfl, ho⟩ := eOperator_open ha
  obtain ⟨n, hn⟩ : ∃ n, n = xs.length := ⟨_, rfl⟩
  rw [← hn]
  have Hn := Lib.hid hn
  have Ho := Lib.hid ho
  have Hok := Lib.hid hok
  have hle' : n ≤ 9223372036854775807 := by omega
  clear hok ho hn hle ha
  have h2' : n + sumBy szOperator xs ≤ left := by have := Hn.out; unfold szOperatorS at h2; omega
  have h3 := sumBy_nonneg szOperator_nonneg xs
  have H2 := Lib.hid h2
  clear h2
  go_enter Tryd.func9, Tryd.ntmps9
  go_wp2
  go_loopw [1, 5] (fun l i wr => ∃ k : Nat, k ≤ n ∧ i = .int .i64 k ∧ ∃ lf : Int, l = .int .i64 lf ∧ (lf ≤ 1048576 ∧ 0 ≤ lf) ∧ Hid (lf = left - n - sumBy szOperator (xs.take k)) ∧ Below w.heap.size w wr) (fun _ i _ => n - (intOf i).toNat)
  case atStart => exact ⟨0, Nat.zero_le _, rfl, left - n, rfl, by omega, by show left - n = _; simp [sumBy], Below.refl _ _⟩
  case round =>
    obtain ⟨k, hk, rfl, lf, rfl, ⟨hl1, hl2⟩, hlf, hbb⟩ := hrel
    by_cases hkn : k < n
    · obtain ⟨b, off, rfl, hlt, hc⟩ := Ho.out (by have := Hn.out; omega)
      obtain ⟨x, hx, ⟨c0, c1⟩, bx⟩ := hc k (by have := Hn.out; omega)
      have Hx := Lib.hid hx
      have Hbx := Lib.hid bx
      clear hx hc bx
      have d0 := (hbb.cell (p := ⟨b, off + k * 2, none⟩) hlt.2).trans c0
      have d1 := (hbb.cell (p := ⟨b, off + k * 2 + 1, none⟩) hlt.2).trans c1
      have D0 := Lib.hid c0
      have D1 := Lib.hid c1
      clear c0 c1
      have hx0 := szOperator_nonneg x
      have hf : szOperator x ≤ lf := by rw [hlf.out]; have h4 := sumBy_snoc szOperator Hx.out; have h5 := sumBy_take_le szOperator_nonneg xs (k + 1); omega
      go_wp2_with fail
      with_reducible refine (szOperator_c wr (x := x) Hbx.out hl1 hf).mono ?_
      rintro e w1 ⟨rfl, hb1⟩
      have hbb1 : Below w.heap.size w w1 := hbb.trans (hb1.mono hbb.size)
      clear hb1 hbb d0 d1
      go_wp2
      go_roundw
      case rel => exact ⟨k + 1, by omega, by go_num, lf - szOperator x, rfl, by omega, by show lf - szOperator x = _; rw [sumBy_snoc szOperator Hx.out, hlf.out]; omega, hbb1⟩
      case measure => simp [intOf]; omega
    · go_wp2
      go_ret
      refine ⟨ret_int ?_, hbb⟩
      rw [hlf.out, List.take_of_length_le (by have := Hn.out; omega)]; unfold szOperatorS; have := Hn.out; omega
theorem szOperatorS_no {w : World} {A : Nat} {xs : List OperatorT} {v : Value} {left : Int} (ha : RdOperatorS A w v xs) (h0 : 0 ≤ left ∧ left ≤ 1048576) (h2 : ¬ szOperatorS xs ≤ left) :
    Calls Tryd.prog 9 #[v, .int .i64 left] w fun e w' => e = .returned (.int .i64 (-1)) ∧ Below w.heap.size w w' := by
  have h1 := h0.2
  have h00 := h0.1
  have hle := ha.le
  have hok := ha.2
  obtain ⟨ao, cap, rfl, ho⟩ := eOperator_open ha
  obtain ⟨n, hn⟩ : ∃ n, n = xs.length := ⟨_, rfl⟩
  rw [← hn]
  have Hn := Lib.hid hn
  have Ho := Lib.hid ho
  have Hok := Lib.hid hok
  have hle' : n ≤ 9223372036854775807 := by omega
  clear hok ho hn hle ha
  have h2' : ¬ n + sumBy szOperator xs ≤ left := by have := Hn.out; unfold szOperatorS at h2; omega
  have H2 := Lib.hid h2
  have H2' := Lib.hid h2'
  clear h2 h0 h2'
  by_cases hb : left < n
  · clear H2'
    go_enter Tryd.func9, Tryd.ntmps9
    go_wp2
    go_ret
    exact ⟨rfl, Below.refl _ _⟩
  go_enter Tryd.func9, Tryd.ntmps9
  go_wp2
  go_loopw [1, 5] (fun l i wr => ∃ k : Nat, k ≤ n ∧ i = .int .i64 k ∧ ∃ lf : Int, l = .int .i64 lf ∧ (lf ≤ 1048576 ∧ 0 ≤ lf) ∧ Hid (lf = left - n - sumBy szOperator (xs.take k)) ∧ Below w.heap.size w wr) (fun _ i _ => n - (intOf i).toNat)
  case atStart => exact ⟨0, Nat.zero_le _, rfl, left - n, rfl, by omega, by show left - n = _; simp [sumBy], Below.refl _ _⟩
  case round =>
    obtain ⟨k, hk, rfl, lf, rfl, ⟨hl1, hl2⟩, hlf, hbb⟩ := hrel
    by_cases hkn : k < n
    · obtain ⟨b, off, rfl, hlt, hc⟩ := Ho.out (by have := Hn.out; omega)
      obtain ⟨x, hx, ⟨c0, c1⟩, bx⟩ := hc k (by have := Hn.out; omega)
      have Hx := Lib.hid hx
      have Hbx := Lib.hid bx
      clear hx hc bx
      have d0 := (hbb.cell (p := ⟨b, off + k * 2, none⟩) hlt.2).trans c0
      have d1 := (hbb.cell (p := ⟨b, off + k * 2 + 1, none⟩) hlt.2).trans c1
      have D0 := Lib.hid c0
      have D1 := Lib.hid c1
      clear c0 c1
      have hx0 := szOperator_nonneg x
      by_cases hf : szOperator x ≤ lf
      · go_wp2_with fail
        with_reducible refine (szOperator_c wr (x := x) Hbx.out hl1 hf).mono ?_
        rintro e w1 ⟨rfl, hb1⟩
        have hbb1 : Below w.heap.size w w1 := hbb.trans (hb1.mono hbb.size)
        clear hb1 hbb d0 d1
        go_wp2
        go_roundw
        case rel => exact ⟨k + 1, by omega, by go_num, lf - szOperator x, rfl, by omega, by show lf - szOperator x = _; rw [sumBy_snoc szOperator Hx.out, hlf.out]; omega, hbb1⟩
        case measure => simp [intOf]; omega
      · go_wp2_with fail
        with_reducible refine (szOperator_no wr (x := x) Hbx.out ⟨hl2, hl1⟩ (by omega)).mono ?_
        rintro e w1 ⟨rfl, hb1⟩
        have hbb1 : Below w.heap.size w w1 := hbb.trans (hb1.mono hbb.size)
        clear hb1 hbb d0 d1
        go_wp2
        go_ret
        exact ⟨rfl, hbb1⟩
    · exfalso
      have h6 := hlf.out
      rw [List.take_of_length_le (by have := Hn.out; omega)] at h6
      have := H2'.out
      omega
theorem Tryd.infoOperator : (Tryd.prog.info? 59).map (fun i => (i.zero, i.size, i.bytes)) = some (some (vOperator zOperator), 2, 24) := by kernel_rfl
theorem toOperatorS_c {w : World} {A : Nat} {xs : List OperatorT} {v : Value} (ha : RdOperatorS A w v xs) (hl : szOperatorS xs ≤ 1048576) :
    Calls Tryd.prog 11 #[v] w fun e w' => ∃ u, e = .returned u ∧ OwnOperatorS w.heap.size w' u xs ∧ Below w.heap.size w w' := by
  have hl2 : xs.length ≤ 1048576 := by have := szOperatorS_len xs; omega
  have hle := ha.le
  have hok := ha.2
  obtain ⟨ao, cap, rfl, ho⟩ := eOperator_open ha
  obtain ⟨n, hn⟩ : ∃ n, n = xs.length := ⟨_, rfl⟩
  rw [← hn]
  have Hn := Lib.hid hn
  have Ho := Lib.hid ho
  have Hok := Lib.hid hok
  have hle' : n ≤ 9223372036854775807 := by omega
  clear hok ho hn hle ha
  have hn2 : n ≤ 1048576 := by have := Hn.out; omega
  obtain ⟨i0, hi, hz0, hz1, hz2⟩ := info_parts Tryd.infoOperator
  clear hl hl2 hle'
  go_enter Tryd.func11, Tryd.ntmps11
  go_wp2_with (first | (at_make; refine wpList_make_full _ rfl _ _ 27 rfl w.heap.size 59 i0 (vOperator zOperator) 2 Tryd.underlying27 hi hz0 hz1 _ _ _ _ n rfl rfl rfl rfl ?b1 ?b2 (Nat.le_refl _) ?_))
  case b1 => first | omega | (rw [hz2]; omega)
  case b2 => unfold maxLen; omega
  intro w1 hown hgr
  have hb1 : Below w.heap.size w w1 := (Below.refl _ _).grown hgr (Nat.le_refl _) (fun k hk => by cases hk)
  have hown0 : OwnOperatorS w.heap.size w1 (.slice (some ⟨w.heap.size, 0, none⟩) n n) (xs.take 0 ++ List.replicate (n - 0) zOperator) := by
    refine ⟨?_, fun x hx => ?_⟩
    · have hown2 : w1.ownsRow w.heap.size 59 eOperator.sz (.slice (some ⟨w.heap.size, 0, none⟩) n n) n (madeCells (vOperator zOperator).cells (n * eOperator.sz)).toList := hown
      rw [Elt.all_made (E := eOperator) (z := zOperator) (zv := vOperator zOperator) (by decide) rfl n] at hown2; simpa using hown2
    · simp at hx; obtain ⟨_, rfl⟩ := hx; exact ok_zOperator
  have hs1 : w.heap.size < w1.heap.size := (hown0.lt _ rfl).2
  clear hown hgr
  go_wp2
  go_loopw [4] (fun i wr => ∃ k : Nat, k ≤ n ∧ i = .int .i64 k ∧ OwnOperatorS w.heap.size wr (.slice (some ⟨w.heap.size, 0, none⟩) n n) (xs.take k ++ List.replicate (n - k) zOperator) ∧ Below w.heap.size w wr) (fun i _ => n - (intOf i).toNat)
  case atStart => exact ⟨0, Nat.zero_le _, rfl, hown0, hb1⟩
  case round =>
    obtain ⟨k, hk, rfl, hw, hb⟩ := hrel
    by_cases hkn : k < n
    · obtain ⟨b, off, rfl, hlt, hc⟩ := Ho.out (by have := Hn.out; omega)
      obtain ⟨x, hx, ⟨c0, c1⟩, bx⟩ := hc k (by have := Hn.out; omega)
      have Hx := Lib.hid hx
      have Hbx := Lib.hid bx
      clear hx hc bx hb1 hown0
      have d0 := (hb.cell (p := ⟨b, off + k * 2, none⟩) hlt.2).trans c0
      have d1 := (hb.cell (p := ⟨b, off + k * 2 + 1, none⟩) hlt.2).trans c1
      clear c0 c1
      go_wp2_with fail
      with_reducible refine (toOperator_c wr (x := x) Hbx.out).mono ?_
      rintro e w2 ⟨rfl, hb2⟩
      have hw2 := hw.below hb2 (Nat.le_refl _)
      have hb3 : Below w.heap.size w w2 := hb.trans (hb2.mono hb.size)
      have hlen : n = (xs.take k ++ List.replicate (n - k) zOperator).length := by have := Hn.out; simp; omega
      have hst := Own.storeE (E := eOperator) (by decide) hw2 hlen hkn Hbx.out
      obtain ⟨⟨y0, hy0⟩, hf0⟩ := Own.cellE (E := eOperator) hw2 hlen (k := k) (j := 0) hkn (by decide)
      obtain ⟨⟨y1, hy1⟩, hf1⟩ := Own.cellE (E := eOperator) hw2 hlen (k := k) (j := 1) hkn (by decide)
      simp only [show eOperator.sz = 2 from rfl, Nat.add_zero] at hy0 hf0 hy1 hf1
      have Hst := Lib.hid hst
      have Hb3 := Lib.hid hb3
      clear hst hlen hb hb2 hw hw2 hb3 d0 d1
      go_wp2
      go_roundw
      case rel => exact ⟨k + 1, by omega, by go_num, by have h := Hst.out.1; rw [set_take_repl Hx.out Hn.out hkn] at h; exact h, ((Hb3.out).setCell (Nat.le_refl _) _).setCell (Nat.le_refl _) _⟩
      case measure => simp [intOf]; omega
    · go_wp2
      go_ret
      refine ⟨_, rfl, ?_, hb⟩
      have := Hn.out
      rw [List.take_of_length_le (by omega), show n - k = 0 by omega] at hw
      simpa using hw
theorem eqOperatorS_c {xs : List OperatorT} {va vb : Value} {w : World} {A B : Nat} (ha : RdOperatorS A w va xs) (hb : RdOperatorS B w vb xs) :
    Calls Tryd.prog 13 #[va, vb] w fun e w' => e = .returned (.bool true) ∧ Below w.heap.size w w' := by
  obtain ⟨bo, bcap, rfl, hob⟩ := eOperator_open hb
  have Hob := Lib.hid hob
  clear hob hb
  have hle := ha.le
  have hok := ha.2
  obtain ⟨ao, cap, rfl, ho⟩ := eOperator_open ha
  obtain ⟨n, hn⟩ : ∃ n, n = xs.length := ⟨_, rfl⟩
  rw [← hn]
  have Hn := Lib.hid hn
  have Ho := Lib.hid ho
  have Hok := Lib.hid hok
  have hle' : n ≤ 9223372036854775807 := by omega
  clear hok ho hn hle ha
  go_enter Tryd.func13, Tryd.ntmps13
  go_wp2
  go_loopw [5] (fun i wr => ∃ k : Nat, k ≤ n ∧ i = .int .i64 k ∧ Below w.heap.size w wr) (fun i _ => n - (intOf i).toNat)
  case atStart => exact ⟨0, Nat.zero_le _, rfl, Below.refl _ _⟩
  case round =>
    obtain ⟨k, hk, rfl, hbb⟩ := hrel
    by_cases hkn : k < n
    · obtain ⟨b, off, rfl, hlt, hc⟩ := Ho.out (by have := Hn.out; omega)
      obtain ⟨x, hx, ⟨c0, c1⟩, bx⟩ := hc k (by have := Hn.out; omega)
      have Hx := Lib.hid hx
      have d0 := (hbb.cell (p := ⟨b, off + k * 2, none⟩) hlt.2).trans c0
      have d1 := (hbb.cell (p := ⟨b, off + k * 2 + 1, none⟩) hlt.2).trans c1
      clear hx hc bx c0 c1
      obtain ⟨b2, off2, rfl, hlt2, hc⟩ := Hob.out (by have := Hn.out; omega)
      obtain ⟨x2, hx2, ⟨c0, c1⟩, bx⟩ := hc k (by have := Hn.out; omega)
      obtain rfl : x = x2 := Option.some.inj (Hx.out.symm.trans hx2)
      have f0 := (hbb.cell (p := ⟨b2, off2 + k * 2, none⟩) hlt2.2).trans c0
      have f1 := (hbb.cell (p := ⟨b2, off2 + k * 2 + 1, none⟩) hlt2.2).trans c1
      clear hx2 hc bx c0 c1
      go_wp2_with fail
      go_still_tail 8, (by kernel_rfl)
      change wpList _ _ _ _ _ wr.drew
      have hbd : Below w.heap.size w wr.drew := ⟨hbb.os, hbb.tape, hbb.output, hbb.size, hbb.block⟩
      clear hbb d0 f0 d1 f1
      generalize wr.drew = w2 at hbd ⊢
      go_wp2_with fail
      with_reducible refine (eqOperator_c w2 x).mono ?_
      rintro e w3 ⟨rfl, hb3⟩
      have hbb1 : Below w.heap.size w w3 := hbd.trans (hb3.mono hbd.size)
      clear hb3 hbd
      go_wp2
      go_roundw
      case rel => exact ⟨k + 1, by omega, by go_num, hbb1⟩
      case measure => simp [intOf]; omega
    · go_wp2
      go_ret
      exact ⟨rfl, hbb⟩
theorem openOperatorS {H : Type} {enc : TypeId × Value → H} {w : World} {r : Reach} {b0 : Nat} {v : Value} {d : DataW H} {ps : List MemPlace} (hok : Value.okWide Tryd.prog w r b0 24 v)
    (h : DataW.Trod enc Tryd.prog w 0 (fun _ => true) true 24 v d ps) : ∃ xs, RdOperatorS w.heap.size w v xs := by
  refine open_rdK (E := eOperator) Tryd.underlying24 Tryd.underlying58 (by kernel_rfl) (by kernel_rfl) (by kernel_rfl) (fun n vs hl hf => ?_) (by decide) hok h
  obtain ⟨u0, y0, hu0, ht0⟩ := hf 0 _ rfl
  obtain ⟨u1, y1, hu1, ht1⟩ := hf 1 _ rfl
  obtain ⟨a0, rfl, b0⟩ := trodS Tryd.underlying9 ht0
  obtain ⟨a1, rfl, b1⟩ := trodI Tryd.underlying2 ht1
  match vs, hl with
  | [e0, e1], _ =>
    simp only [List.getElem?_cons_zero, List.getElem?_cons_succ, Option.some.injEq] at hu0 hu1
    subst hu0
    subst hu1
    exact ⟨⟨a0, a1⟩, rfl, b0, b1⟩
theorem openOperator {H : Type} {enc : TypeId × Value → H} {w : World} {r : Reach} {b0 : Nat} {v : Value} {d : DataW H} {ps : List MemPlace} (hok : Value.okWide Tryd.prog w r b0 58 v)
    (h : DataW.Trod enc Tryd.prog w 0 (fun _ => true) true 58 v d ps) : ∃ x, v = lOperator x ∧ okOperator x := by
  obtain ⟨v0, v1, y0, y1, n, rfl, _, _, ht0, ht1⟩ := Go.Joins.open_agg2 Tryd.underlying58 (by kernel_rfl) (by kernel_rfl) hok h
  obtain ⟨a0, rfl, b0⟩ := trodS Tryd.underlying9 ht0
  obtain ⟨a1, rfl, b1⟩ := trodI Tryd.underlying2 ht1
  exact ⟨⟨a0, a1⟩, rfl, b0, b1⟩
def sameOperator (x y : OperatorT) : Bool := x.nm.toList == y.nm.toList && (x.skills == y.skills)
theorem neq_Operator (x y : OperatorT) (w : World) : (binOp .neq 59 (vOperator x) (vOperator y)).run Tryd.prog w = .ok (.bool (!sameOperator x y)) w := by
  have hS : Tryd.prog.underlying 59 = some (.struct (Tryd.prog.fieldsOf 59)) := by kernel_rfl
  have hp : Tryd.prog.stoodInHeld 59 = false := by kernel_rfl
  rw [run_neq_struct, show (10000 : Nat) = 9999 + 1 from rfl, run_equalIn_agg w 9999 59 _ _ hS hp]
  simp only [Program.fieldsOf, Tryd.underlying59]
  go_simp
  unfold sameOperator
  by_cases h0 : x.nm.toList = y.nm.toList <;> by_cases h1 : x.skills = y.skills <;> simp [h0, h1]
theorem sameOperator_iff (x y : OperatorT) : sameOperator x y = true ↔ x = y := by
  unfold sameOperator
  obtain ⟨x0, x1⟩ := x
  obtain ⟨y0, y1⟩ := y
  simp only [Bool.and_eq_true, beq_iff_eq, OperatorT.mk.injEq, toList_inj]
instance : DecidableEq OperatorT := fun x y => decidable_of_iff (sameOperator x y = true) (sameOperator_iff x y)
theorem neqOperator_run {x y : OperatorT} (w : World) {b : Bool} (h : (!sameOperator x y) = b) : (binOp .neq 59 (vOperator x) (vOperator y)).run Tryd.prog w = .ok (.bool b) w := by rw [neq_Operator, h]
theorem sSameOperators_c {xs ys : List OperatorT} {va vb : Value} {w : World} {A B : Nat} (ha : RdOperatorS A w va xs) (hb : RdOperatorS B w vb ys) :
    Calls Tryd.prog 29 #[va, vb] w fun e w' => e = .returned (.bool (decide (xs = ys))) ∧ Below w.heap.size w w' := by
  have hle := ha.le
  have hleb := hb.le
  obtain ⟨ao, cap, rfl, ho⟩ := eOperator_open ha
  obtain ⟨bo, bcap, rfl, hob⟩ := eOperator_open hb
  obtain ⟨n, hn⟩ : ∃ n, n = xs.length := ⟨_, rfl⟩
  obtain ⟨m, hm⟩ : ∃ m, m = ys.length := ⟨_, rfl⟩
  rw [← hn, ← hm]
  have Hn := Lib.hid hn
  have Hm := Lib.hid hm
  have Ho := Lib.hid ho
  have Hob := Lib.hid hob
  have hle' : n ≤ 9223372036854775807 := by omega
  have hle2 : m ≤ 9223372036854775807 := by omega
  clear ho hob hn hm hle hleb ha hb
  by_cases hnm : n = m
  · subst hnm
    go_enter Tryd.func29, Tryd.ntmps29
    go_wp2
    go_loopw [5] (fun i wr => ∃ k : Nat, k ≤ n ∧ i = .int .i64 k ∧ Hid (xs.take k = ys.take k) ∧ Below w.heap.size w wr) (fun i _ => n - (intOf i).toNat)
    case atStart => exact ⟨0, Nat.zero_le _, rfl, rfl, Below.refl _ _⟩
    case round =>
      obtain ⟨k, hk, rfl, hp, hbb⟩ := hrel
      by_cases hkn : k < n
      · obtain ⟨b, off, rfl, hlt, hc⟩ := Ho.out (by have := Hn.out; omega)
        obtain ⟨x, hx, ⟨c0, c1⟩, bx⟩ := hc k (by have := Hn.out; omega)
        have Hx := Lib.hid hx
        have d0 := (hbb.cell (p := ⟨b, off + k * 2, none⟩) hlt.2).trans c0
        have d1 := (hbb.cell (p := ⟨b, off + k * 2 + 1, none⟩) hlt.2).trans c1
        clear hx hc bx c0 c1
        obtain ⟨b2, off2, rfl, hlt2, hc⟩ := Hob.out (by have := Hm.out; omega)
        obtain ⟨y, hy, ⟨c0, c1⟩, bx⟩ := hc k (by have := Hm.out; omega)
        have Hy := Lib.hid hy
        have f0 := (hbb.cell (p := ⟨b2, off2 + k * 2, none⟩) hlt2.2).trans c0
        have f1 := (hbb.cell (p := ⟨b2, off2 + k * 2 + 1, none⟩) hlt2.2).trans c1
        clear hy hc bx c0 c1
        cases hs : sameOperator x y with
        | true =>
          have hr := fun w => neqOperator_run (x := x) (y := y) w (b := false) (by rw [hs]; rfl)
          have Hs := Lib.hid hs
          clear hs
          go_wp2
          go_quiet (fail)
          clear hr
          go_wp2
          go_roundw
          case rel => exact ⟨k + 1, by omega, by go_num, take_eq_succ hp.out Hx.out Hy.out ((sameOperator_iff _ _).1 Hs.out), hbb.drewNy _⟩
          case measure => simp [intOf]; omega
        | false =>
          have hr := fun w => neqOperator_run (x := x) (y := y) w (b := true) (by rw [hs]; rfl)
          have Hs := Lib.hid hs
          clear hs
          go_wp2
          go_quiet (fail)
          clear hr
          go_wp2
          go_ret
          refine ⟨ret_bool (Eq.symm (decide_eq_false fun h => ?_)), hbb.drewNy _⟩
          have h2 := ne_of_at Hx.out Hy.out (fun h3 => by have := Hs.out; rw [h3, (sameOperator_iff _ _).2 rfl] at this; cases this)
          exact h2 h
      · go_wp2
        go_ret
        refine ⟨ret_bool (Eq.symm (decide_eq_true ?_)), hbb⟩
        have h1 := hp.out
        rw [List.take_of_length_le (by have := Hn.out; omega), List.take_of_length_le (by have := Hm.out; omega)] at h1
        exact h1
  · have hne : ¬ xs = ys := fun e => hnm (by have h1 := Hn.out; have h2 := Hm.out; rw [e] at h1; omega)
    have hne2 : ((n : Int) != (m : Int)) = true := by simpa using fun h : (n : Int) = m => hnm (by omega)
    have Hne := Lib.hid hne
    clear hne hnm
    go_enter Tryd.func29, Tryd.ntmps29
    go_wp2
    go_ret
    exact ⟨ret_bool (by simpa using Hne.out), Below.refl _ _⟩
theorem equalOperators_c {xs ys : List OperatorT} {va vb : Value} {w : World} {A B : Nat} (ha : RdOperatorS A w va xs) (hb : RdOperatorS B w vb ys) :
    Calls Tryd.prog 63 #[va, vb] w fun e w' => e = .returned (.bool (decide (xs = ys))) ∧ Below w.heap.size w w' := by
  have hle := ha.le
  have hleb := hb.le
  obtain ⟨ao, cap, rfl, ho⟩ := eOperator_open ha
  obtain ⟨bo, bcap, rfl, hob⟩ := eOperator_open hb
  obtain ⟨n, hn⟩ : ∃ n, n = xs.length := ⟨_, rfl⟩
  obtain ⟨m, hm⟩ : ∃ m, m = ys.length := ⟨_, rfl⟩
  rw [← hn, ← hm]
  have Hn := Lib.hid hn
  have Hm := Lib.hid hm
  have Ho := Lib.hid ho
  have Hob := Lib.hid hob
  have hle' : n ≤ 9223372036854775807 := by omega
  have hle2 : m ≤ 9223372036854775807 := by omega
  clear ho hob hn hm hle hleb ha hb
  by_cases hnm : n = m
  · subst hnm
    go_enter Tryd.func63, Tryd.ntmps63
    go_wp2
    go_loopw [13] (fun i wr => ∃ k : Nat, k ≤ n ∧ i = .int .i64 k ∧ Hid (xs.take k = ys.take k) ∧ Below w.heap.size w wr) (fun i _ => n - (intOf i).toNat)
    case atStart => exact ⟨0, Nat.zero_le _, rfl, rfl, Below.refl _ _⟩
    case round =>
      obtain ⟨k, hk, rfl, hp, hbb⟩ := hrel
      by_cases hkn : k < n
      · obtain ⟨b, off, rfl, hlt, hc⟩ := Ho.out (by have := Hn.out; omega)
        obtain ⟨x, hx, ⟨c0, c1⟩, bx⟩ := hc k (by have := Hn.out; omega)
        have Hx := Lib.hid hx
        have d0 := (hbb.cell (p := ⟨b, off + k * 2, none⟩) hlt.2).trans c0
        have d1 := (hbb.cell (p := ⟨b, off + k * 2 + 1, none⟩) hlt.2).trans c1
        clear hx hc bx c0 c1
        obtain ⟨b2, off2, rfl, hlt2, hc⟩ := Hob.out (by have := Hm.out; omega)
        obtain ⟨y, hy, ⟨c0, c1⟩, bx⟩ := hc k (by have := Hm.out; omega)
        have Hy := Lib.hid hy
        have f0 := (hbb.cell (p := ⟨b2, off2 + k * 2, none⟩) hlt2.2).trans c0
        have f1 := (hbb.cell (p := ⟨b2, off2 + k * 2 + 1, none⟩) hlt2.2).trans c1
        clear hy hc bx c0 c1
        cases hs : sameOperator x y with
        | true =>
          have hr := fun w => neqOperator_run (x := x) (y := y) w (b := false) (by rw [hs]; rfl)
          have Hs := Lib.hid hs
          clear hs
          go_wp2
          go_quiet (fail)
          clear hr
          go_wp2
          go_roundw
          case rel => exact ⟨k + 1, by omega, by go_num, take_eq_succ hp.out Hx.out Hy.out ((sameOperator_iff _ _).1 Hs.out), hbb.drewNy _⟩
          case measure => simp [intOf]; omega
        | false =>
          have hr := fun w => neqOperator_run (x := x) (y := y) w (b := true) (by rw [hs]; rfl)
          have Hs := Lib.hid hs
          clear hs
          go_wp2
          go_quiet (fail)
          clear hr
          go_wp2
          go_ret
          refine ⟨ret_bool (Eq.symm (decide_eq_false fun h => ?_)), hbb.drewNy _⟩
          have h2 := ne_of_at Hx.out Hy.out (fun h3 => by have := Hs.out; rw [h3, (sameOperator_iff _ _).2 rfl] at this; cases this)
          exact h2 h
      · go_wp2
        go_ret
        refine ⟨ret_bool (Eq.symm (decide_eq_true ?_)), hbb⟩
        have h1 := hp.out
        rw [List.take_of_length_le (by have := Hn.out; omega), List.take_of_length_le (by have := Hm.out; omega)] at h1
        exact h1
  · have hne : ¬ xs = ys := fun e => hnm (by have h1 := Hn.out; have h2 := Hm.out; rw [e] at h1; omega)
    have hne2 : ((n : Int) != (m : Int)) = true := by simpa using fun h : (n : Int) = m => hnm (by omega)
    have Hne := Lib.hid hne
    clear hne hnm
    go_enter Tryd.func63, Tryd.ntmps63
    go_wp2
    go_ret
    exact ⟨ret_bool (by simpa using Hne.out), Below.refl _ _⟩

theorem SameOperators_c {xs ys : List OperatorT} {va vb : Value} {w : World} {A B : Nat} (ha : RdOperatorS A w va xs) (hb : RdOperatorS B w vb ys) :
    Calls Tryd.prog 31 #[va, vb] w fun e w' => e = .returned (.bool (decide (xs = ys))) ∧ Below w.heap.size w w' := by
  obtain ⟨ao, cap, rfl⟩ := ha.shape
  obtain ⟨bo, bcap, rfl⟩ := hb.shape
  have Ha := Lib.hid ha
  have Hb := Lib.hid hb
  clear ha hb
  go_enter Tryd.func31, Tryd.ntmps31
  go_wp2_with fail
  with_reducible refine (equalOperators_c Ha.out Hb.out).mono ?_
  rintro e w1 ⟨rfl, hb1⟩
  go_wp2
  go_ret
  exact ⟨ret_bool (by simp), hb1⟩
end Go.Proofs.YtfojfcmjoacbgaaDoor
