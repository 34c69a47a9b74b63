/- Pays in the laws' helpers. No condition. -/
import Derived.Test.YtlcmliibdfclnaaStr
namespace Go.Proofs.Ytlcmliibdfclnaa
open Go.ChangeShapes Go.WideShapes Go.ChangeAt Go.RowKit
set_option linter.unusedVariables false
structure PayT where
  hours : Int
  gross : Int
  tax : Int
  net : Int
abbrev vPay (x : PayT) : Value := .agg #[.int .i64 x.hours, .int .i64 x.gross, .int .i64 x.tax, .int .i64 x.net]
abbrev lPay (x : PayT) : Value := .agg #[.int .i64 x.hours, .int .i64 x.gross, .int .i64 x.tax, .int .i64 x.net]
def okPay (x : PayT) : Prop := (-9223372036854775808 ≤ x.hours ∧ x.hours ≤ 9223372036854775807) ∧ (-9223372036854775808 ≤ x.gross ∧ x.gross ≤ 9223372036854775807) ∧ (-9223372036854775808 ≤ x.tax ∧ x.tax ≤ 9223372036854775807) ∧ (-9223372036854775808 ≤ x.net ∧ x.net ≤ 9223372036854775807)
def ePay : Elt PayT := { sz := 4, cells := fun x => [.int .i64 x.hours, .int .i64 x.gross, .int .i64 x.tax, .int .i64 x.net], ok := okPay, len := fun _ => rfl, one := fun x u hu => by simp at hu; rcases hu with rfl | rfl | rfl | rfl <;> rfl }
def zPay : PayT := ⟨0, 0, 0, 0⟩
theorem ok_zPay : okPay zPay := by unfold okPay zPay; exact ⟨⟨by decide, by decide⟩, ⟨by decide, by decide⟩, ⟨by decide, by decide⟩, ⟨by decide, by decide⟩⟩
abbrev RdPayS (B : Nat) (w : World) (v : Value) (x : List PayT) : Prop := Rds ePay B w v x
abbrev OwnPayS (base : Nat) (w : World) (v : Value) (x : List PayT) : Prop := Own ePay 40 base w v x
abbrev OwnTPayS (base top : Nat) (w : World) (v : Value) (x : List PayT) : Prop := OwnT ePay 40 base top w v x
def szPay (x : PayT) : Int := 0
theorem szPay_nonneg (x : PayT) : 0 ≤ szPay x := by unfold szPay; omega
def szPayS (x : List PayT) : Int := x.length + sumBy szPay x
theorem szPayS_nonneg (x : List PayT) : 0 ≤ szPayS x := by unfold szPayS; have := sumBy_nonneg szPay_nonneg x; omega
def cntPayS (x : List PayT) : Nat := 4 * x.length
theorem cntPayS_le (x : List PayT) : (cntPayS x : Int) ≤ 16 * szPayS x := by unfold szPayS cntPayS; have := sumBy_nonneg szPay_nonneg x; omega
theorem szPayS_len (x : List PayT) : (x.length : Int) ≤ szPayS x := by unfold szPayS; have := sumBy_nonneg szPay_nonneg x; omega
theorem ePay_open {w : World} {B : Nat} {v : Value} {xs : List PayT} (h : Rds ePay B w v xs) : ∃ ao cap, v = .slice ao xs.length cap ∧
    (0 < xs.length → ∃ b off, ao = some ⟨b, off, none⟩ ∧ (b < B ∧ b < w.heap.size) ∧ ∀ k, k < xs.length → ∃ x, xs[k]? = some x ∧ (w.cell? ⟨b, off + k * 4, none⟩ = some (.int .i64 x.hours) ∧ w.cell? ⟨b, off + k * 4 + 1, none⟩ = some (.int .i64 x.gross) ∧ w.cell? ⟨b, off + k * 4 + 2, none⟩ = some (.int .i64 x.tax) ∧ w.cell? ⟨b, off + k * 4 + 3, none⟩ = some (.int .i64 x.net)) ∧ okPay x) := by
  rcases Rds.cases h with ⟨rfl, ao, cap, rfl, _⟩ | ⟨b, off, cap, rfl, hlt, hc⟩
  · exact ⟨ao, cap, rfl, fun h => absurd h (by simp)⟩
  · refine ⟨_, cap, rfl, fun _ => ⟨b, off, rfl, hlt, fun k hk => ?_⟩⟩
    obtain ⟨h1, h2⟩ := hc k xs[k] (by simp [hk])
    refine ⟨xs[k], by simp [hk], ⟨?_, ?_, ?_, ?_⟩, h1⟩
    · exact h2 0 (by decide)
    · have := h2 1 (by decide); rw [← Nat.add_assoc] at this; exact this
    · have := h2 2 (by decide); rw [← Nat.add_assoc] at this; exact this
    · have := h2 3 (by decide); rw [← Nat.add_assoc] at this; exact this
theorem toPay_c (w : World) {x : PayT} (a : okPay x) :
    Calls Try.prog 43 #[lPay x] w fun e w' => e = .returned (vPay x) ∧ Below w.heap.size w w' := by
  clear a
  go_enter Try.func43, Try.ntmps43
  go_wp2
  exact bodyPost_ret (v := vPay x) (by simp [results, Try.results43, go_sem]) rfl ⟨rfl, (((Below.refl _ _).alloc (Nat.le_refl _) _).alloc (by simp) _).alloc (by simp; omega) _⟩
theorem eqPay_c (w : World) (x : PayT) :
    Calls Try.prog 25 #[vPay x, vPay x] w fun e w' => e = .returned (.bool true) ∧ Below w.heap.size w w' := by
  go_enter Try.func25, Try.ntmps25
  go_wp2
  go_ret
  exact ⟨rfl, ((Below.refl _ _).alloc (Nat.le_refl _) _).alloc (by simp) _⟩
theorem szPayS_c {w : World} {A : Nat} {xs : List PayT} {v : Value} {left : Int} (ha : RdPayS A w v xs) (h1 : left ≤ 1048576) (h2 : szPayS xs ≤ left) :
    Calls Try.prog 21 #[v, .int .i64 left] w fun e w' => e = .returned (.int .i64 (left - szPayS xs)) ∧ Below w.heap.size w w' := by
  have hz : szPayS xs = xs.length := by unfold szPayS; rw [sumBy_zero (f := szPay) (fun _ => rfl)]; omega
  rw [hz] at h2 ⊢
  clear hz
  have hle := ha.le
  have hok := ha.2
  obtain ⟨ao, cap, rfl, ho⟩ := ePay_open ha
  obtain ⟨n, hn⟩ : ∃ n, n = xs.length := ⟨_, rfl⟩
  rw [← hn]
  have Hn := Lib.hid hn
  have Ho := Lib.hid ho
  have Hok := Lib.hid hok
  have hle' : n ≤ 9223372036854775807 := by omega
  clear hok ho hn hle ha
  have h2' : (n : Int) ≤ left := by have := Hn.out; omega
  clear h2
  go_enter Try.func21, Try.ntmps21
  go_wp2
  go_ret
  exact ⟨rfl, Below.refl _ _⟩
theorem szPayS_no {w : World} {A : Nat} {xs : List PayT} {v : Value} {left : Int} (ha : RdPayS A w v xs) (h0 : 0 ≤ left ∧ left ≤ 1048576) (h2 : ¬ szPayS xs ≤ left) :
    Calls Try.prog 21 #[v, .int .i64 left] w fun e w' => e = .returned (.int .i64 (-1)) ∧ Below w.heap.size w w' := by
  have hz : szPayS xs = xs.length := by unfold szPayS; rw [sumBy_zero (f := szPay) (fun _ => rfl)]; omega
  rw [hz] at h2
  clear hz
  have h01 := h0.1
  have h02 := h0.2
  have hle := ha.le
  have hok := ha.2
  obtain ⟨ao, cap, rfl, ho⟩ := ePay_open ha
  obtain ⟨n, hn⟩ : ∃ n, n = xs.length := ⟨_, rfl⟩
  rw [← hn]
  have Hn := Lib.hid hn
  have Ho := Lib.hid ho
  have Hok := Lib.hid hok
  have hle' : n ≤ 9223372036854775807 := by omega
  clear hok ho hn hle ha
  have h2' : left < (n : Int) := by have := Hn.out; omega
  clear h2 h0
  go_enter Try.func21, Try.ntmps21
  go_wp2
  go_ret
  exact ⟨rfl, Below.refl _ _⟩
theorem Try.infoPay : (Try.prog.info? 40).map (fun i => (i.zero, i.size, i.bytes)) = some (some (vPay zPay), 4, 32) := by kernel_rfl
theorem toPayS_c {w : World} {A : Nat} {xs : List PayT} {v : Value} (ha : RdPayS A w v xs) (hl : szPayS xs ≤ 1048576) :
    Calls Try.prog 23 #[v] w fun e w' => ∃ u, e = .returned u ∧ OwnPayS w.heap.size w' u xs ∧ Below w.heap.size w w' := by
  have hl2 : xs.length ≤ 1048576 := by have := szPayS_len xs; omega
  have hle := ha.le
  have hok := ha.2
  obtain ⟨ao, cap, rfl, ho⟩ := ePay_open ha
  obtain ⟨n, hn⟩ : ∃ n, n = xs.length := ⟨_, rfl⟩
  rw [← hn]
  have Hn := Lib.hid hn
  have Ho := Lib.hid ho
  have Hok := Lib.hid hok
  have hle' : n ≤ 9223372036854775807 := by omega
  clear hok ho hn hle ha
  have hn2 : n ≤ 1048576 := by have := Hn.out; omega
  obtain ⟨i0, hi, hz0, hz1, hz2⟩ := info_parts Try.infoPay
  clear hl hl2 hle'
  go_enter Try.func23, Try.ntmps23
  go_wp2_with (first | (at_make; refine wpList_make_full _ rfl _ _ 43 rfl w.heap.size 40 i0 (vPay zPay) 4 Try.underlying43 hi hz0 hz1 _ _ _ _ n rfl rfl rfl rfl ?b1 ?b2 (Nat.le_refl _) ?_))
  case b1 => first | omega | (rw [hz2]; omega)
  case b2 => unfold maxLen; omega
  intro w1 hown hgr
  have hb1 : Below w.heap.size w w1 := (Below.refl _ _).grown hgr (Nat.le_refl _) (fun k hk => by cases hk)
  have hown0 : OwnPayS w.heap.size w1 (.slice (some ⟨w.heap.size, 0, none⟩) n n) (xs.take 0 ++ List.replicate (n - 0) zPay) := by
    refine ⟨?_, fun x hx => ?_⟩
    · have hown2 : w1.ownsRow w.heap.size 40 ePay.sz (.slice (some ⟨w.heap.size, 0, none⟩) n n) n (madeCells (vPay zPay).cells (n * ePay.sz)).toList := hown
      rw [Elt.all_made (E := ePay) (z := zPay) (zv := vPay zPay) (by decide) rfl n] at hown2; simpa using hown2
    · simp at hx; obtain ⟨_, rfl⟩ := hx; exact ok_zPay
  have hs1 : w.heap.size < w1.heap.size := (hown0.lt _ rfl).2
  clear hown hgr
  go_wp2
  go_loopw [4] (fun i wr => ∃ k : Nat, k ≤ n ∧ i = .int .i64 k ∧ OwnPayS w.heap.size wr (.slice (some ⟨w.heap.size, 0, none⟩) n n) (xs.take k ++ List.replicate (n - k) zPay) ∧ Below w.heap.size w wr) (fun i _ => n - (intOf i).toNat)
  case atStart => exact ⟨0, Nat.zero_le _, rfl, hown0, hb1⟩
  case round =>
    obtain ⟨k, hk, rfl, hw, hb⟩ := hrel
    by_cases hkn : k < n
    · obtain ⟨b, off, rfl, hlt, hc⟩ := Ho.out (by have := Hn.out; omega)
      obtain ⟨x, hx, ⟨c0, c1, c2, c3⟩, bx⟩ := hc k (by have := Hn.out; omega)
      have Hx := Lib.hid hx
      have Hbx := Lib.hid bx
      clear hx hc bx hb1 hown0
      have d0 := (hb.cell (p := ⟨b, off + k * 4, none⟩) hlt.2).trans c0
      have d1 := (hb.cell (p := ⟨b, off + k * 4 + 1, none⟩) hlt.2).trans c1
      have d2 := (hb.cell (p := ⟨b, off + k * 4 + 2, none⟩) hlt.2).trans c2
      have d3 := (hb.cell (p := ⟨b, off + k * 4 + 3, none⟩) hlt.2).trans c3
      clear c0 c1 c2 c3
      go_wp2_with fail
      with_reducible refine (toPay_c wr (x := x) Hbx.out).mono ?_
      rintro e w2 ⟨rfl, hb2⟩
      have hw2 := hw.below hb2 (Nat.le_refl _)
      have hb3 : Below w.heap.size w w2 := hb.trans (hb2.mono hb.size)
      have hlen : n = (xs.take k ++ List.replicate (n - k) zPay).length := by have := Hn.out; simp; omega
      have hst := Own.storeE (E := ePay) (by decide) hw2 hlen hkn Hbx.out
      obtain ⟨⟨y0, hy0⟩, hf0⟩ := Own.cellE (E := ePay) hw2 hlen (k := k) (j := 0) hkn (by decide)
      obtain ⟨⟨y1, hy1⟩, hf1⟩ := Own.cellE (E := ePay) hw2 hlen (k := k) (j := 1) hkn (by decide)
      obtain ⟨⟨y2, hy2⟩, hf2⟩ := Own.cellE (E := ePay) hw2 hlen (k := k) (j := 2) hkn (by decide)
      obtain ⟨⟨y3, hy3⟩, hf3⟩ := Own.cellE (E := ePay) hw2 hlen (k := k) (j := 3) hkn (by decide)
      simp only [show ePay.sz = 4 from rfl, Nat.add_zero] at hy0 hf0 hy1 hf1 hy2 hf2 hy3 hf3
      have Hst := Lib.hid hst
      have Hb3 := Lib.hid hb3
      clear hst hlen hb hb2 hw hw2 hb3 d0 d1 d2 d3
      go_wp2
      go_roundw
      case rel => exact ⟨k + 1, by omega, by go_num, by have h := Hst.out.1; rw [set_take_repl Hx.out Hn.out hkn] at h; exact h, ((((Hb3.out).setCell (Nat.le_refl _) _).setCell (Nat.le_refl _) _).setCell (Nat.le_refl _) _).setCell (Nat.le_refl _) _⟩
      case measure => simp [intOf]; omega
    · go_wp2
      go_ret
      refine ⟨_, rfl, ?_, hb⟩
      have := Hn.out
      rw [List.take_of_length_le (by omega), show n - k = 0 by omega] at hw
      simpa using hw
theorem eqPayS_c {xs : List PayT} {va vb : Value} {w : World} {A B : Nat} (ha : RdPayS A w va xs) (hb : RdPayS B w vb xs) :
    Calls Try.prog 26 #[va, vb] w fun e w' => e = .returned (.bool true) ∧ Below w.heap.size w w' := by
  obtain ⟨bo, bcap, rfl, hob⟩ := ePay_open hb
  have Hob := Lib.hid hob
  clear hob hb
  have hle := ha.le
  have hok := ha.2
  obtain ⟨ao, cap, rfl, ho⟩ := ePay_open ha
  obtain ⟨n, hn⟩ : ∃ n, n = xs.length := ⟨_, rfl⟩
  rw [← hn]
  have Hn := Lib.hid hn
  have Ho := Lib.hid ho
  have Hok := Lib.hid hok
  have hle' : n ≤ 9223372036854775807 := by omega
  clear hok ho hn hle ha
  go_enter Try.func26, Try.ntmps26
  go_wp2
  go_loopw [5] (fun i wr => ∃ k : Nat, k ≤ n ∧ i = .int .i64 k ∧ Below w.heap.size w wr) (fun i _ => n - (intOf i).toNat)
  case atStart => exact ⟨0, Nat.zero_le _, rfl, Below.refl _ _⟩
  case round =>
    obtain ⟨k, hk, rfl, hbb⟩ := hrel
    by_cases hkn : k < n
    · obtain ⟨b, off, rfl, hlt, hc⟩ := Ho.out (by have := Hn.out; omega)
      obtain ⟨x, hx, ⟨c0, c1, c2, c3⟩, bx⟩ := hc k (by have := Hn.out; omega)
      have Hx := Lib.hid hx
      have d0 := (hbb.cell (p := ⟨b, off + k * 4, none⟩) hlt.2).trans c0
      have d1 := (hbb.cell (p := ⟨b, off + k * 4 + 1, none⟩) hlt.2).trans c1
      have d2 := (hbb.cell (p := ⟨b, off + k * 4 + 2, none⟩) hlt.2).trans c2
      have d3 := (hbb.cell (p := ⟨b, off + k * 4 + 3, none⟩) hlt.2).trans c3
      clear hx hc bx c0 c1 c2 c3
      obtain ⟨b2, off2, rfl, hlt2, hc⟩ := Hob.out (by have := Hn.out; omega)
      obtain ⟨x2, hx2, ⟨c0, c1, c2, c3⟩, bx⟩ := hc k (by have := Hn.out; omega)
      obtain rfl : x = x2 := Option.some.inj (Hx.out.symm.trans hx2)
      have f0 := (hbb.cell (p := ⟨b2, off2 + k * 4, none⟩) hlt2.2).trans c0
      have f1 := (hbb.cell (p := ⟨b2, off2 + k * 4 + 1, none⟩) hlt2.2).trans c1
      have f2 := (hbb.cell (p := ⟨b2, off2 + k * 4 + 2, none⟩) hlt2.2).trans c2
      have f3 := (hbb.cell (p := ⟨b2, off2 + k * 4 + 3, none⟩) hlt2.2).trans c3
      clear hx2 hc bx c0 c1 c2 c3
      go_wp2_with fail
      go_still_tail 8, (by kernel_rfl)
      change wpList _ _ _ _ _ wr.drew
      have hbd : Below w.heap.size w wr.drew := ⟨hbb.os, hbb.tape, hbb.output, hbb.size, hbb.block⟩
      clear hbb d0 f0 d1 f1 d2 f2 d3 f3
      generalize wr.drew = w2 at hbd ⊢
      go_wp2_with fail
      with_reducible refine (eqPay_c w2 x).mono ?_
      rintro e w3 ⟨rfl, hb3⟩
      have hbb1 : Below w.heap.size w w3 := hbd.trans (hb3.mono hbd.size)
      clear hb3 hbd
      go_wp2
      go_roundw
      case rel => exact ⟨k + 1, by omega, by go_num, hbb1⟩
      case measure => simp [intOf]; omega
    · go_wp2
      go_ret
      exact ⟨rfl, hbb⟩
theorem openPayS {H : Type} {enc : TypeId × Value → H} {w : World} {r : Reach} {b0 : Nat} {v : Value} {d : DataW H} {ps : List MemPlace} (hok : Value.okWide Try.prog w r b0 37 v)
    (h : DataW.Trod enc Try.prog w 0 (fun _ => true) true 37 v d ps) : ∃ xs, RdPayS w.heap.size w v xs := by
  refine open_rdK (E := ePay) Try.underlying37 Try.underlying63 (by kernel_rfl) (by kernel_rfl) (by kernel_rfl) (fun n vs hl hf => ?_) (by decide) hok h
  obtain ⟨u0, y0, hu0, ht0⟩ := hf 0 _ rfl
  obtain ⟨u1, y1, hu1, ht1⟩ := hf 1 _ rfl
  obtain ⟨u2, y2, hu2, ht2⟩ := hf 2 _ rfl
  obtain ⟨u3, y3, hu3, ht3⟩ := hf 3 _ rfl
  obtain ⟨a0, rfl, b0⟩ := trodI Try.underlying2 ht0
  obtain ⟨a1, rfl, b1⟩ := trodI Try.underlying2 ht1
  obtain ⟨a2, rfl, b2⟩ := trodI Try.underlying2 ht2
  obtain ⟨a3, rfl, b3⟩ := trodI Try.underlying2 ht3
  match vs, hl with
  | [e0, e1, e2, e3], _ =>
    simp only [List.getElem?_cons_zero, List.getElem?_cons_succ, Option.some.injEq] at hu0 hu1 hu2 hu3
    subst hu0
    subst hu1
    subst hu2
    subst hu3
    exact ⟨⟨a0, a1, a2, a3⟩, rfl, b0, b1, b2, b3⟩
theorem openPay {H : Type} {enc : TypeId × Value → H} {w : World} {r : Reach} {b0 : Nat} {v : Value} {d : DataW H} {ps : List MemPlace} (hok : Value.okWide Try.prog w r b0 63 v)
    (h : DataW.Trod enc Try.prog w 0 (fun _ => true) true 63 v d ps) : ∃ x, v = lPay x ∧ okPay x := by
  obtain ⟨v0, v1, v2, v3, y0, y1, y2, y3, n, rfl, _, _, ht0, ht1, ht2, ht3⟩ := Go.Joins.open_agg4 Try.underlying63 (by kernel_rfl) (by kernel_rfl) hok h
  obtain ⟨a0, rfl, b0⟩ := trodI Try.underlying2 ht0
  obtain ⟨a1, rfl, b1⟩ := trodI Try.underlying2 ht1
  obtain ⟨a2, rfl, b2⟩ := trodI Try.underlying2 ht2
  obtain ⟨a3, rfl, b3⟩ := trodI Try.underlying2 ht3
  exact ⟨⟨a0, a1, a2, a3⟩, rfl, b0, b1, b2, b3⟩
end Go.Proofs.Ytlcmliibdfclnaa
