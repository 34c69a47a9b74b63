/- Faults and reports in the laws' helpers, each by its contract. No condition. -/
import Derived.Test.YtahkkdkdaedioaaDoorStr
import Derived.Test.YtahkkdkdaedioaaDoorInts
namespace Go.Proofs.YtahkkdkdaedioaaDoor
open Go.ChangeShapes Go.WideShapes Go.ChangeAt Go.RowKit
set_option linter.unusedVariables false
set_option maxRecDepth 100000
structure FaultT where
  kind : Int
  card : Int
  place : Int
  digit : Int
abbrev vFault (x : FaultT) : Value := .agg #[.int .i64 x.kind, .int .i64 x.card, .int .i64 x.place, .int .i64 x.digit]
abbrev lFault (x : FaultT) : Value := .agg #[.int .i64 x.kind, .int .i64 x.card, .int .i64 x.place, .int .i64 x.digit]
def okFault (x : FaultT) : Prop := (-9223372036854775808 ≤ x.kind ∧ x.kind ≤ 9223372036854775807) ∧ (-9223372036854775808 ≤ x.card ∧ x.card ≤ 9223372036854775807) ∧ (-9223372036854775808 ≤ x.place ∧ x.place ≤ 9223372036854775807) ∧ (-9223372036854775808 ≤ x.digit ∧ x.digit ≤ 9223372036854775807)
def eFault : Elt FaultT := { sz := 4, cells := fun x => [.int .i64 x.kind, .int .i64 x.card, .int .i64 x.place, .int .i64 x.digit], ok := okFault, len := fun _ => rfl, one := fun x u hu => by simp at hu; rcases hu with rfl | rfl | rfl | rfl <;> rfl }
def zFault : FaultT := ⟨0, 0, 0, 0⟩
theorem ok_zFault : okFault zFault := by unfold okFault zFault; exact ⟨⟨by decide, by decide⟩, ⟨by decide, by decide⟩, ⟨by decide, by decide⟩, ⟨by decide, by decide⟩⟩
abbrev RdFaultS (B : Nat) (w : World) (v : Value) (x : List FaultT) : Prop := Rds eFault B w v x
abbrev OwnFaultS (base : Nat) (w : World) (v : Value) (x : List FaultT) : Prop := Own eFault 40 base w v x
abbrev OwnTFaultS (base top : Nat) (w : World) (v : Value) (x : List FaultT) : Prop := OwnT eFault 40 base top w v x
def szFault (x : FaultT) : Int := 0
theorem szFault_nonneg (x : FaultT) : 0 ≤ szFault x := by unfold szFault; omega
def szFaultS (x : List FaultT) : Int := x.length + sumBy szFault x
theorem szFaultS_nonneg (x : List FaultT) : 0 ≤ szFaultS x := by unfold szFaultS; have := sumBy_nonneg szFault_nonneg x; omega
def cntFaultS (x : List FaultT) : Nat := 4 * x.length
theorem cntFaultS_le (x : List FaultT) : (cntFaultS x : Int) ≤ 16 * szFaultS x := by unfold szFaultS cntFaultS; have := sumBy_nonneg szFault_nonneg x; omega
theorem szFaultS_len (x : List FaultT) : (x.length : Int) ≤ szFaultS x := by unfold szFaultS; have := sumBy_nonneg szFault_nonneg x; omega
theorem eFault_open {w : World} {B : Nat} {v : Value} {xs : List FaultT} (h : Rds eFault B w v xs) : ∃ ao cap, v = .slice ao xs.length cap ∧
    (0 < xs.length → ∃ b off, ao = some ⟨b, off, none⟩ ∧ (b < B ∧ b < w.heap.size) ∧ ∀ k, k < xs.length → ∃ x, xs[k]? = some x ∧ (w.cell? ⟨b, off + k * 4, none⟩ = some (.int .i64 x.kind) ∧ w.cell? ⟨b, off + k * 4 + 1, none⟩ = some (.int .i64 x.card) ∧ w.cell? ⟨b, off + k * 4 + 2, none⟩ = some (.int .i64 x.place) ∧ w.cell? ⟨b, off + k * 4 + 3, none⟩ = some (.int .i64 x.digit)) ∧ okFault x) := by
  rcases Rds.cases h with ⟨rfl, ao, cap, rfl, _⟩ | ⟨b, off, cap, rfl, hlt, hc⟩
  · exact ⟨ao, cap, rfl, fun h => absurd h (by simp)⟩
  · refine ⟨_, cap, rfl, fun _ => ⟨b, off, rfl, hlt, fun k hk => ?_⟩⟩
    obtain ⟨h1, h2⟩ := hc k xs[k] (by simp [hk])
    refine ⟨xs[k], by simp [hk], ⟨?_, ?_, ?_, ?_⟩, h1⟩
    · exact h2 0 (by decide)
    · have := h2 1 (by decide); rw [← Nat.add_assoc] at this; exact this
    · have := h2 2 (by decide); rw [← Nat.add_assoc] at this; exact this
    · have := h2 3 (by decide); rw [← Nat.add_assoc] at this; exact this
theorem eqFault_c (w : World) (x : FaultT) :
    Calls Tryd.prog 48 #[vFault x, vFault x] w fun e w' => e = .returned (.bool true) ∧ Below w.heap.size w w' := by
  go_enter Tryd.func48, Tryd.ntmps48
  go_wp2
  go_ret
  exact ⟨rfl, ((Below.refl _ _).alloc (Nat.le_refl _) _).alloc (by simp) _⟩
theorem eqFaultS_c {xs : List FaultT} {va vb : Value} {w : World} {A B : Nat} (ha : RdFaultS A w va xs) (hb : RdFaultS B w vb xs) :
    Calls Tryd.prog 22 #[va, vb] w fun e w' => e = .returned (.bool true) ∧ Below w.heap.size w w' := by
  obtain ⟨bo, bcap, rfl, hob⟩ := eFault_open hb
  have Hob := Lib.hid hob
  clear hob hb
  have hle := ha.le
  have hok := ha.2
  obtain ⟨ao, cap, rfl, ho⟩ := eFault_open ha
  obtain ⟨n, hn⟩ : ∃ n, n = xs.length := ⟨_, rfl⟩
  rw [← hn]
  have Hn := Lib.hid hn
  have Ho := Lib.hid ho
  have Hok := Lib.hid hok
  have hle' : n ≤ 9223372036854775807 := by omega
  clear hok ho hn hle ha
  go_enter Tryd.func22, Tryd.ntmps22
  go_wp2
  go_loopw [5] (fun i wr => ∃ k : Nat, k ≤ n ∧ i = .int .i64 k ∧ Below w.heap.size w wr) (fun i _ => n - (intOf i).toNat)
  case atStart => exact ⟨0, Nat.zero_le _, rfl, Below.refl _ _⟩
  case round =>
    obtain ⟨k, hk, rfl, hbb⟩ := hrel
    by_cases hkn : k < n
    · obtain ⟨b, off, rfl, hlt, hc⟩ := Ho.out (by have := Hn.out; omega)
      obtain ⟨x, hx, ⟨c0, c1, c2, c3⟩, bx⟩ := hc k (by have := Hn.out; omega)
      have Hx := Lib.hid hx
      have d0 := (hbb.cell (p := ⟨b, off + k * 4, none⟩) hlt.2).trans c0
      have d1 := (hbb.cell (p := ⟨b, off + k * 4 + 1, none⟩) hlt.2).trans c1
      have d2 := (hbb.cell (p := ⟨b, off + k * 4 + 2, none⟩) hlt.2).trans c2
      have d3 := (hbb.cell (p := ⟨b, off + k * 4 + 3, none⟩) hlt.2).trans c3
      clear hx hc bx c0 c1 c2 c3
      obtain ⟨b2, off2, rfl, hlt2, hc⟩ := Hob.out (by have := Hn.out; omega)
      obtain ⟨x2, hx2, ⟨c0, c1, c2, c3⟩, bx⟩ := hc k (by have := Hn.out; omega)
      obtain rfl : x = x2 := Option.some.inj (Hx.out.symm.trans hx2)
      have f0 := (hbb.cell (p := ⟨b2, off2 + k * 4, none⟩) hlt2.2).trans c0
      have f1 := (hbb.cell (p := ⟨b2, off2 + k * 4 + 1, none⟩) hlt2.2).trans c1
      have f2 := (hbb.cell (p := ⟨b2, off2 + k * 4 + 2, none⟩) hlt2.2).trans c2
      have f3 := (hbb.cell (p := ⟨b2, off2 + k * 4 + 3, none⟩) hlt2.2).trans c3
      clear hx2 hc bx c0 c1 c2 c3
      go_wp2_with fail
      go_still_tail 8, (by kernel_rfl)
      change wpList _ _ _ _ _ wr.drew
      have hbd : Below w.heap.size w wr.drew := ⟨hbb.os, hbb.tape, hbb.output, hbb.size, hbb.block⟩
      clear hbb d0 f0 d1 f1 d2 f2 d3 f3
      generalize wr.drew = w2 at hbd ⊢
      go_wp2_with fail
      with_reducible refine (eqFault_c w2 x).mono ?_
      rintro e w3 ⟨rfl, hb3⟩
      have hbb1 : Below w.heap.size w w3 := hbd.trans (hb3.mono hbd.size)
      clear hb3 hbd
      go_wp2
      go_roundw
      case rel => exact ⟨k + 1, by omega, by go_num, hbb1⟩
      case measure => simp [intOf]; omega
    · go_wp2
      go_ret
      exact ⟨rfl, hbb⟩
structure ReportT where
  count : Int
  sum : Int
  digits : Int
abbrev vReport (x : ReportT) : Value := .agg #[.int .i64 x.count, .int .i64 x.sum, .int .i64 x.digits]
abbrev lReport (x : ReportT) : Value := .agg #[.int .i64 x.count, .int .i64 x.sum, .int .i64 x.digits]
def okReport (x : ReportT) : Prop := (-9223372036854775808 ≤ x.count ∧ x.count ≤ 9223372036854775807) ∧ (-9223372036854775808 ≤ x.sum ∧ x.sum ≤ 9223372036854775807) ∧ (-9223372036854775808 ≤ x.digits ∧ x.digits ≤ 9223372036854775807)
def eReport : Elt ReportT := { sz := 3, cells := fun x => [.int .i64 x.count, .int .i64 x.sum, .int .i64 x.digits], ok := okReport, len := fun _ => rfl, one := fun x u hu => by simp at hu; rcases hu with rfl | rfl | rfl <;> rfl }
def zReport : ReportT := ⟨0, 0, 0⟩
theorem ok_zReport : okReport zReport := by unfold okReport zReport; exact ⟨⟨by decide, by decide⟩, ⟨by decide, by decide⟩, ⟨by decide, by decide⟩⟩
abbrev RdReportS (B : Nat) (w : World) (v : Value) (x : List ReportT) : Prop := Rds eReport B w v x
abbrev OwnReportS (base : Nat) (w : World) (v : Value) (x : List ReportT) : Prop := Own eReport 29 base w v x
abbrev OwnTReportS (base top : Nat) (w : World) (v : Value) (x : List ReportT) : Prop := OwnT eReport 29 base top w v x
def szReport (x : ReportT) : Int := 0
theorem szReport_nonneg (x : ReportT) : 0 ≤ szReport x := by unfold szReport; omega
def szReportS (x : List ReportT) : Int := x.length + sumBy szReport x
theorem szReportS_nonneg (x : List ReportT) : 0 ≤ szReportS x := by unfold szReportS; have := sumBy_nonneg szReport_nonneg x; omega
def cntReportS (x : List ReportT) : Nat := 3 * x.length
theorem cntReportS_le (x : List ReportT) : (cntReportS x : Int) ≤ 16 * szReportS x := by unfold szReportS cntReportS; have := sumBy_nonneg szReport_nonneg x; omega
theorem szReportS_len (x : List ReportT) : (x.length : Int) ≤ szReportS x := by unfold szReportS; have := sumBy_nonneg szReport_nonneg x; omega
theorem eReport_open {w : World} {B : Nat} {v : Value} {xs : List ReportT} (h : Rds eReport B w v xs) : ∃ ao cap, v = .slice ao xs.length cap ∧
    (0 < xs.length → ∃ b off, ao = some ⟨b, off, none⟩ ∧ (b < B ∧ b < w.heap.size) ∧ ∀ k, k < xs.length → ∃ x, xs[k]? = some x ∧ (w.cell? ⟨b, off + k * 3, none⟩ = some (.int .i64 x.count) ∧ w.cell? ⟨b, off + k * 3 + 1, none⟩ = some (.int .i64 x.sum) ∧ w.cell? ⟨b, off + k * 3 + 2, none⟩ = some (.int .i64 x.digits)) ∧ okReport x) := by
  rcases Rds.cases h with ⟨rfl, ao, cap, rfl, _⟩ | ⟨b, off, cap, rfl, hlt, hc⟩
  · exact ⟨ao, cap, rfl, fun h => absurd h (by simp)⟩
  · refine ⟨_, cap, rfl, fun _ => ⟨b, off, rfl, hlt, fun k hk => ?_⟩⟩
    obtain ⟨h1, h2⟩ := hc k xs[k] (by simp [hk])
    refine ⟨xs[k], by simp [hk], ⟨?_, ?_, ?_⟩, h1⟩
    · exact h2 0 (by decide)
    · have := h2 1 (by decide); rw [← Nat.add_assoc] at this; exact this
    · have := h2 2 (by decide); rw [← Nat.add_assoc] at this; exact this
theorem toReport_c (w : World) {x : ReportT} (a : okReport x) :
    Calls Tryd.prog 19 #[lReport x] w fun e w' => e = .returned (vReport x) ∧ Below w.heap.size w w' := by
  clear a
  go_enter Tryd.func19, Tryd.ntmps19
  go_wp2
  exact bodyPost_ret (v := vReport x) (by simp [results, Tryd.results19, go_sem]) rfl ⟨rfl, (((Below.refl _ _).alloc (Nat.le_refl _) _).alloc (by simp) _).alloc (by simp; omega) _⟩
theorem openReport {H : Type} {enc : TypeId × Value → H} {w : World} {r : Reach} {b0 : Nat} {v : Value} {d : DataW H} {ps : List MemPlace} (hok : Value.okWide Tryd.prog w r b0 43 v)
    (h : DataW.Trod enc Tryd.prog w 0 (fun _ => true) true 43 v d ps) : ∃ x, v = lReport x ∧ okReport x := by
  obtain ⟨v0, v1, v2, y0, y1, y2, n, rfl, _, _, ht0, ht1, ht2⟩ := Go.Joins.open_agg3 Tryd.underlying43 (by kernel_rfl) (by kernel_rfl) hok h
  obtain ⟨a0, rfl, b0⟩ := trodI Tryd.underlying2 ht0
  obtain ⟨a1, rfl, b1⟩ := trodI Tryd.underlying2 ht1
  obtain ⟨a2, rfl, b2⟩ := trodI Tryd.underlying2 ht2
  exact ⟨⟨a0, a1, a2⟩, rfl, b0, b1, b2⟩
end Go.Proofs.YtahkkdkdaedioaaDoor
