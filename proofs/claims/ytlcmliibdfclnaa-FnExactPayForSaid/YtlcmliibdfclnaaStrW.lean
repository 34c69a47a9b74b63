/- Workers in the laws' helpers. No condition. -/
import Derived.Test.YtlcmliibdfclnaaStr
namespace Go.Proofs.Ytlcmliibdfclnaa
open Go.ChangeShapes Go.WideShapes Go.ChangeAt Go.RowKit
set_option linter.unusedVariables false
structure WorkerT where
  nm : ByteArray
  rate : Int
  tax : Int
abbrev vWorker (x : WorkerT) : Value := .agg #[.string x.nm, .int .i64 x.rate, .int .i64 x.tax]
abbrev lWorker (x : WorkerT) : Value := .agg #[.string x.nm, .int .i64 x.rate, .int .i64 x.tax]
def okWorker (x : WorkerT) : Prop := x.nm.size ≤ 9223372036854775807 ∧ (-9223372036854775808 ≤ x.rate ∧ x.rate ≤ 9223372036854775807) ∧ (-9223372036854775808 ≤ x.tax ∧ x.tax ≤ 9223372036854775807)
def eWorker : Elt WorkerT := { sz := 3, cells := fun x => [.string x.nm, .int .i64 x.rate, .int .i64 x.tax], ok := okWorker, len := fun _ => rfl, one := fun x u hu => by simp at hu; rcases hu with rfl | rfl | rfl <;> rfl }
def zWorker : WorkerT := ⟨⟨#[]⟩, 0, 0⟩
theorem ok_zWorker : okWorker zWorker := by unfold okWorker zWorker; exact ⟨Nat.zero_le _, ⟨by decide, by decide⟩, ⟨by decide, by decide⟩⟩
abbrev RdWorkerS (B : Nat) (w : World) (v : Value) (x : List WorkerT) : Prop := Rds eWorker B w v x
abbrev OwnWorkerS (base : Nat) (w : World) (v : Value) (x : List WorkerT) : Prop := Own eWorker 52 base w v x
abbrev OwnTWorkerS (base top : Nat) (w : World) (v : Value) (x : List WorkerT) : Prop := OwnT eWorker 52 base top w v x
def szWorker (x : WorkerT) : Int := (x.nm.size : Int)
theorem szWorker_nonneg (x : WorkerT) : 0 ≤ szWorker x := by unfold szWorker; omega
def szWorkerS (x : List WorkerT) : Int := x.length + sumBy szWorker x
theorem szWorkerS_nonneg (x : List WorkerT) : 0 ≤ szWorkerS x := by unfold szWorkerS; have := sumBy_nonneg szWorker_nonneg x; omega
def cntWorkerS (x : List WorkerT) : Nat := 3 * x.length
theorem cntWorkerS_le (x : List WorkerT) : (cntWorkerS x : Int) ≤ 16 * szWorkerS x := by unfold szWorkerS cntWorkerS; have := sumBy_nonneg szWorker_nonneg x; omega
theorem szWorkerS_len (x : List WorkerT) : (x.length : Int) ≤ szWorkerS x := by unfold szWorkerS; have := sumBy_nonneg szWorker_nonneg x; omega
theorem eWorker_open {w : World} {B : Nat} {v : Value} {xs : List WorkerT} (h : Rds eWorker B w v xs) : ∃ ao cap, v = .slice ao xs.length cap ∧
    (0 < xs.length → ∃ b off, ao = some ⟨b, off, none⟩ ∧ (b < B ∧ b < w.heap.size) ∧ ∀ k, k < xs.length → ∃ x, xs[k]? = some x ∧ (w.cell? ⟨b, off + k * 3, none⟩ = some (.string x.nm) ∧ w.cell? ⟨b, off + k * 3 + 1, none⟩ = some (.int .i64 x.rate) ∧ w.cell? ⟨b, off + k * 3 + 2, none⟩ = some (.int .i64 x.tax)) ∧ okWorker x) := by
  rcases Rds.cases h with ⟨rfl, ao, cap, rfl, _⟩ | ⟨b, off, cap, rfl, hlt, hc⟩
  · exact ⟨ao, cap, rfl, fun h => absurd h (by simp)⟩
  · refine ⟨_, cap, rfl, fun _ => ⟨b, off, rfl, hlt, fun k hk => ?_⟩⟩
    obtain ⟨h1, h2⟩ := hc k xs[k] (by simp [hk])
    refine ⟨xs[k], by simp [hk], ⟨?_, ?_, ?_⟩, h1⟩
    · exact h2 0 (by decide)
    · have := h2 1 (by decide); rw [← Nat.add_assoc] at this; exact this
    · have := h2 2 (by decide); rw [← Nat.add_assoc] at this; exact this
theorem toWorker_c (w : World) {x : WorkerT} (a : okWorker x) :
    Calls Try.prog 29 #[lWorker x] w fun e w' => e = .returned (vWorker x) ∧ Below w.heap.size w w' := by
  clear a
  go_enter Try.func29, Try.ntmps29
  go_wp2
  exact bodyPost_ret (v := vWorker x) (by simp [results, Try.results29, go_sem]) rfl ⟨rfl, (((Below.refl _ _).alloc (Nat.le_refl _) _).alloc (by simp) _).alloc (by simp; omega) _⟩
theorem eqWorker_c (w : World) (x : WorkerT) :
    Calls Try.prog 41 #[vWorker x, vWorker x] w fun e w' => e = .returned (.bool true) ∧ Below w.heap.size w w' := by
  go_enter Try.func41, Try.ntmps41
  go_wp2
  go_ret
  exact ⟨rfl, ((Below.refl _ _).alloc (Nat.le_refl _) _).alloc (by simp) _⟩
theorem szWorker_c (w : World) {x : WorkerT} {left : Int} (a : okWorker x) (h1 : left ≤ 1048576) (h2 : szWorker x ≤ left) :
    Calls Try.prog 27 #[lWorker x, .int .i64 left] w fun e w' => e = .returned (.int .i64 (left - szWorker x)) ∧ Below w.heap.size w w' := by
  unfold szWorker at *
  clear a
  go_enter Try.func27, Try.ntmps27
  go_wp2
  go_ret
  exact ⟨rfl, (Below.refl _ _).alloc (Nat.le_refl _) _⟩
theorem szWorker_no (w : World) {x : WorkerT} {left : Int} (a : okWorker x) (h0 : 0 ≤ left ∧ left ≤ 1048576) (h2 : ¬ szWorker x ≤ left) :
    Calls Try.prog 27 #[lWorker x, .int .i64 left] w fun e w' => e = .returned (.int .i64 (-1)) ∧ Below w.heap.size w w' := by
  unfold szWorker at *
  have hs : (x.nm.size : Int) ≤ 9223372036854775807 := by have := a.1; omega
  clear a
  go_enter Try.func27, Try.ntmps27
  go_wp2
  go_ret
  exact ⟨rfl, (Below.refl _ _).alloc (Nat.le_refl _) _⟩
theorem szWorkerS_c {w : World} {A : Nat} {xs : List WorkerT} {v : Value} {left : Int} (ha : RdWorkerS A w v xs) (h1 : left ≤ 1048576) (h2 : szWorkerS xs ≤ left) :
    Calls Try.prog 16 #[v, .int .i64 left] w fun e w' => e = .returned (.int .i64 (left - szWorkerS xs)) ∧ Below w.heap.size w w' := by
  have hle := ha.le
  have hok := ha.2
  obtain ⟨ao, cap, rfl, ho⟩ := eWorker_open ha
  obtain ⟨n, hn⟩ : ∃ n, n = xs.length := ⟨_, rfl⟩
  rw [← hn]
  have Hn := Lib.hid hn
  have Ho := Lib.hid ho
  have Hok := Lib.hid hok
  have hle' : n ≤ 9223372036854775807 := by omega
  clear hok ho hn hle ha
  have h2' : n + sumBy szWorker xs ≤ left := by have := Hn.out; unfold szWorkerS at h2; omega
  have h3 := sumBy_nonneg szWorker_nonneg xs
  have H2 := Lib.hid h2
  clear h2
  go_enter Try.func16, Try.ntmps16
  go_wp2
  go_loopw [1, 5] (fun l i wr => ∃ k : Nat, k ≤ n ∧ i = .int .i64 k ∧ ∃ lf : Int, l = .int .i64 lf ∧ (lf ≤ 1048576 ∧ 0 ≤ lf) ∧ Hid (lf = left - n - sumBy szWorker (xs.take k)) ∧ Below w.heap.size w wr) (fun _ i _ => n - (intOf i).toNat)
  case atStart => exact ⟨0, Nat.zero_le _, rfl, left - n, rfl, by omega, by show left - n = _; simp [sumBy], Below.refl _ _⟩
  case round =>
    obtain ⟨k, hk, rfl, lf, rfl, ⟨hl1, hl2⟩, hlf, hbb⟩ := hrel
    by_cases hkn : k < n
    · obtain ⟨b, off, rfl, hlt, hc⟩ := Ho.out (by have := Hn.out; omega)
      obtain ⟨x, hx, ⟨c0, c1, c2⟩, bx⟩ := hc k (by have := Hn.out; omega)
      have Hx := Lib.hid hx
      have Hbx := Lib.hid bx
      clear hx hc bx
      have d0 := (hbb.cell (p := ⟨b, off + k * 3, none⟩) hlt.2).trans c0
      have d1 := (hbb.cell (p := ⟨b, off + k * 3 + 1, none⟩) hlt.2).trans c1
      have d2 := (hbb.cell (p := ⟨b, off + k * 3 + 2, none⟩) hlt.2).trans c2
      have D0 := Lib.hid c0
      have D1 := Lib.hid c1
      have D2 := Lib.hid c2
      clear c0 c1 c2
      have hx0 := szWorker_nonneg x
      have hf : szWorker x ≤ lf := by rw [hlf.out]; have h4 := sumBy_snoc szWorker Hx.out; have h5 := sumBy_take_le szWorker_nonneg xs (k + 1); omega
      go_wp2_with fail
      with_reducible refine (szWorker_c wr (x := x) Hbx.out hl1 hf).mono ?_
      rintro e w1 ⟨rfl, hb1⟩
      have hbb1 : Below w.heap.size w w1 := hbb.trans (hb1.mono hbb.size)
      clear hb1 hbb d0 d1 d2
      go_wp2
      go_roundw
      case rel => exact ⟨k + 1, by omega, by go_num, lf - szWorker x, rfl, by omega, by show lf - szWorker x = _; rw [sumBy_snoc szWorker Hx.out, hlf.out]; omega, hbb1⟩
      case measure => simp [intOf]; omega
    · go_wp2
      go_ret
      refine ⟨ret_int ?_, hbb⟩
      rw [hlf.out, List.take_of_length_le (by have := Hn.out; omega)]; unfold szWorkerS; have := Hn.out; omega
theorem szWorkerS_no {w : World} {A : Nat} {xs : List WorkerT} {v : Value} {left : Int} (ha : RdWorkerS A w v xs) (h0 : 0 ≤ left ∧ left ≤ 1048576) (h2 : ¬ szWorkerS xs ≤ left) :
    Calls Try.prog 16 #[v, .int .i64 left] w fun e w' => e = .returned (.int .i64 (-1)) ∧ Below w.heap.size w w' := by
  have h1 := h0.2
  have h00 := h0.1
  have hle := ha.le
  have hok := ha.2
  obtain ⟨ao, cap, rfl, ho⟩ := eWorker_open ha
  obtain ⟨n, hn⟩ : ∃ n, n = xs.length := ⟨_, rfl⟩
  rw [← hn]
  have Hn := Lib.hid hn
  have Ho := Lib.hid ho
  have Hok := Lib.hid hok
  have hle' : n ≤ 9223372036854775807 := by omega
  clear hok ho hn hle ha
  have h2' : ¬ n + sumBy szWorker xs ≤ left := by have := Hn.out; unfold szWorkerS at h2; omega
  have H2 := Lib.hid h2
  have H2' := Lib.hid h2'
  clear h2 h0 h2'
  by_cases hb : left < n
  · clear H2'
    go_enter Try.func16, Try.ntmps16
    go_wp2
    go_ret
    exact ⟨rfl, Below.refl _ _⟩
  go_enter Try.func16, Try.ntmps16
  go_wp2
  go_loopw [1, 5] (fun l i wr => ∃ k : Nat, k ≤ n ∧ i = .int .i64 k ∧ ∃ lf : Int, l = .int .i64 lf ∧ (lf ≤ 1048576 ∧ 0 ≤ lf) ∧ Hid (lf = left - n - sumBy szWorker (xs.take k)) ∧ Below w.heap.size w wr) (fun _ i _ => n - (intOf i).toNat)
  case atStart => exact ⟨0, Nat.zero_le _, rfl, left - n, rfl, by omega, by show left - n = _; simp [sumBy], Below.refl _ _⟩
  case round =>
    obtain ⟨k, hk, rfl, lf, rfl, ⟨hl1, hl2⟩, hlf, hbb⟩ := hrel
    by_cases hkn : k < n
    · obtain ⟨b, off, rfl, hlt, hc⟩ := Ho.out (by have := Hn.out; omega)
      obtain ⟨x, hx, ⟨c0, c1, c2⟩, bx⟩ := hc k (by have := Hn.out; omega)
      have Hx := Lib.hid hx
      have Hbx := Lib.hid bx
      clear hx hc bx
      have d0 := (hbb.cell (p := ⟨b, off + k * 3, none⟩) hlt.2).trans c0
      have d1 := (hbb.cell (p := ⟨b, off + k * 3 + 1, none⟩) hlt.2).trans c1
      have d2 := (hbb.cell (p := ⟨b, off + k * 3 + 2, none⟩) hlt.2).trans c2
      have D0 := Lib.hid c0
      have D1 := Lib.hid c1
      have D2 := Lib.hid c2
      clear c0 c1 c2
      have hx0 := szWorker_nonneg x
      by_cases hf : szWorker x ≤ lf
      · go_wp2_with fail
        with_reducible refine (szWorker_c wr (x := x) Hbx.out hl1 hf).mono ?_
        rintro e w1 ⟨rfl, hb1⟩
        have hbb1 : Below w.heap.size w w1 := hbb.trans (hb1.mono hbb.size)
        clear hb1 hbb d0 d1 d2
        go_wp2
        go_roundw
        case rel => exact ⟨k + 1, by omega, by go_num, lf - szWorker x, rfl, by omega, by show lf - szWorker x = _; rw [sumBy_snoc szWorker Hx.out, hlf.out]; omega, hbb1⟩
        case measure => simp [intOf]; omega
      · go_wp2_with fail
        with_reducible refine (szWorker_no wr (x := x) Hbx.out ⟨hl2, hl1⟩ (by omega)).mono ?_
        rintro e w1 ⟨rfl, hb1⟩
        have hbb1 : Below w.heap.size w w1 := hbb.trans (hb1.mono hbb.size)
        clear hb1 hbb d0 d1 d2
        go_wp2
        go_ret
        exact ⟨rfl, hbb1⟩
    · exfalso
      have h6 := hlf.out
      rw [List.take_of_length_le (by have := Hn.out; omega)] at h6
      have := H2'.out
      omega
theorem Try.infoWorker : (Try.prog.info? 52).map (fun i => (i.zero, i.size, i.bytes)) = some (some (vWorker zWorker), 3, 32) := by kernel_rfl
theorem toWorkerS_c {w : World} {A : Nat} {xs : List WorkerT} {v : Value} (ha : RdWorkerS A w v xs) (hl : szWorkerS xs ≤ 1048576) :
    Calls Try.prog 18 #[v] w fun e w' => ∃ u, e = .returned u ∧ OwnWorkerS w.heap.size w' u xs ∧ Below w.heap.size w w' := by
  have hl2 : xs.length ≤ 1048576 := by have := szWorkerS_len xs; omega
  have hle := ha.le
  have hok := ha.2
  obtain ⟨ao, cap, rfl, ho⟩ := eWorker_open ha
  obtain ⟨n, hn⟩ : ∃ n, n = xs.length := ⟨_, rfl⟩
  rw [← hn]
  have Hn := Lib.hid hn
  have Ho := Lib.hid ho
  have Hok := Lib.hid hok
  have hle' : n ≤ 9223372036854775807 := by omega
  clear hok ho hn hle ha
  have hn2 : n ≤ 1048576 := by have := Hn.out; omega
  obtain ⟨i0, hi, hz0, hz1, hz2⟩ := info_parts Try.infoWorker
  clear hl hl2 hle'
  go_enter Try.func18, Try.ntmps18
  go_wp2_with (first | (at_make; refine wpList_make_full _ rfl _ _ 34 rfl w.heap.size 52 i0 (vWorker zWorker) 3 Try.underlying34 hi hz0 hz1 _ _ _ _ n rfl rfl rfl rfl ?b1 ?b2 (Nat.le_refl _) ?_))
  case b1 => first | omega | (rw [hz2]; omega)
  case b2 => unfold maxLen; omega
  intro w1 hown hgr
  have hb1 : Below w.heap.size w w1 := (Below.refl _ _).grown hgr (Nat.le_refl _) (fun k hk => by cases hk)
  have hown0 : OwnWorkerS w.heap.size w1 (.slice (some ⟨w.heap.size, 0, none⟩) n n) (xs.take 0 ++ List.replicate (n - 0) zWorker) := by
    refine ⟨?_, fun x hx => ?_⟩
    · have hown2 : w1.ownsRow w.heap.size 52 eWorker.sz (.slice (some ⟨w.heap.size, 0, none⟩) n n) n (madeCells (vWorker zWorker).cells (n * eWorker.sz)).toList := hown
      rw [Elt.all_made (E := eWorker) (z := zWorker) (zv := vWorker zWorker) (by decide) rfl n] at hown2; simpa using hown2
    · simp at hx; obtain ⟨_, rfl⟩ := hx; exact ok_zWorker
  have hs1 : w.heap.size < w1.heap.size := (hown0.lt _ rfl).2
  clear hown hgr
  go_wp2
  go_loopw [4] (fun i wr => ∃ k : Nat, k ≤ n ∧ i = .int .i64 k ∧ OwnWorkerS w.heap.size wr (.slice (some ⟨w.heap.size, 0, none⟩) n n) (xs.take k ++ List.replicate (n - k) zWorker) ∧ Below w.heap.size w wr) (fun i _ => n - (intOf i).toNat)
  case atStart => exact ⟨0, Nat.zero_le _, rfl, hown0, hb1⟩
  case round =>
    obtain ⟨k, hk, rfl, hw, hb⟩ := hrel
    by_cases hkn : k < n
    · obtain ⟨b, off, rfl, hlt, hc⟩ := Ho.out (by have := Hn.out; omega)
      obtain ⟨x, hx, ⟨c0, c1, c2⟩, bx⟩ := hc k (by have := Hn.out; omega)
      have Hx := Lib.hid hx
      have Hbx := Lib.hid bx
      clear hx hc bx hb1 hown0
      have d0 := (hb.cell (p := ⟨b, off + k * 3, none⟩) hlt.2).trans c0
      have d1 := (hb.cell (p := ⟨b, off + k * 3 + 1, none⟩) hlt.2).trans c1
      have d2 := (hb.cell (p := ⟨b, off + k * 3 + 2, none⟩) hlt.2).trans c2
      clear c0 c1 c2
      go_wp2_with fail
      with_reducible refine (toWorker_c wr (x := x) Hbx.out).mono ?_
      rintro e w2 ⟨rfl, hb2⟩
      have hw2 := hw.below hb2 (Nat.le_refl _)
      have hb3 : Below w.heap.size w w2 := hb.trans (hb2.mono hb.size)
      have hlen : n = (xs.take k ++ List.replicate (n - k) zWorker).length := by have := Hn.out; simp; omega
      have hst := Own.storeE (E := eWorker) (by decide) hw2 hlen hkn Hbx.out
      obtain ⟨⟨y0, hy0⟩, hf0⟩ := Own.cellE (E := eWorker) hw2 hlen (k := k) (j := 0) hkn (by decide)
      obtain ⟨⟨y1, hy1⟩, hf1⟩ := Own.cellE (E := eWorker) hw2 hlen (k := k) (j := 1) hkn (by decide)
      obtain ⟨⟨y2, hy2⟩, hf2⟩ := Own.cellE (E := eWorker) hw2 hlen (k := k) (j := 2) hkn (by decide)
      simp only [show eWorker.sz = 3 from rfl, Nat.add_zero] at hy0 hf0 hy1 hf1 hy2 hf2
      have Hst := Lib.hid hst
      have Hb3 := Lib.hid hb3
      clear hst hlen hb hb2 hw hw2 hb3 d0 d1 d2
      go_wp2
      go_roundw
      case rel => exact ⟨k + 1, by omega, by go_num, by have h := Hst.out.1; rw [set_take_repl Hx.out Hn.out hkn] at h; exact h, (((Hb3.out).setCell (Nat.le_refl _) _).setCell (Nat.le_refl _) _).setCell (Nat.le_refl _) _⟩
      case measure => simp [intOf]; omega
    · go_wp2
      go_ret
      refine ⟨_, rfl, ?_, hb⟩
      have := Hn.out
      rw [List.take_of_length_le (by omega), show n - k = 0 by omega] at hw
      simpa using hw
theorem eqWorkerS_c {xs : List WorkerT} {va vb : Value} {w : World} {A B : Nat} (ha : RdWorkerS A w va xs) (hb : RdWorkerS B w vb xs) :
    Calls Try.prog 20 #[va, vb] w fun e w' => e = .returned (.bool true) ∧ Below w.heap.size w w' := by
  obtain ⟨bo, bcap, rfl, hob⟩ := eWorker_open hb
  have Hob := Lib.hid hob
  clear hob hb
  have hle := ha.le
  have hok := ha.2
  obtain ⟨ao, cap, rfl, ho⟩ := eWorker_open ha
  obtain ⟨n, hn⟩ : ∃ n, n = xs.length := ⟨_, rfl⟩
  rw [← hn]
  have Hn := Lib.hid hn
  have Ho := Lib.hid ho
  have Hok := Lib.hid hok
  have hle' : n ≤ 9223372036854775807 := by omega
  clear hok ho hn hle ha
  go_enter Try.func20, Try.ntmps20
  go_wp2
  go_loopw [5] (fun i wr => ∃ k : Nat, k ≤ n ∧ i = .int .i64 k ∧ Below w.heap.size w wr) (fun i _ => n - (intOf i).toNat)
  case atStart => exact ⟨0, Nat.zero_le _, rfl, Below.refl _ _⟩
  case round =>
    obtain ⟨k, hk, rfl, hbb⟩ := hrel
    by_cases hkn : k < n
    · obtain ⟨b, off, rfl, hlt, hc⟩ := Ho.out (by have := Hn.out; omega)
      obtain ⟨x, hx, ⟨c0, c1, c2⟩, bx⟩ := hc k (by have := Hn.out; omega)
      have Hx := Lib.hid hx
      have d0 := (hbb.cell (p := ⟨b, off + k * 3, none⟩) hlt.2).trans c0
      have d1 := (hbb.cell (p := ⟨b, off + k * 3 + 1, none⟩) hlt.2).trans c1
      have d2 := (hbb.cell (p := ⟨b, off + k * 3 + 2, none⟩) hlt.2).trans c2
      clear hx hc bx c0 c1 c2
      obtain ⟨b2, off2, rfl, hlt2, hc⟩ := Hob.out (by have := Hn.out; omega)
      obtain ⟨x2, hx2, ⟨c0, c1, c2⟩, bx⟩ := hc k (by have := Hn.out; omega)
      obtain rfl : x = x2 := Option.some.inj (Hx.out.symm.trans hx2)
      have f0 := (hbb.cell (p := ⟨b2, off2 + k * 3, none⟩) hlt2.2).trans c0
      have f1 := (hbb.cell (p := ⟨b2, off2 + k * 3 + 1, none⟩) hlt2.2).trans c1
      have f2 := (hbb.cell (p := ⟨b2, off2 + k * 3 + 2, none⟩) hlt2.2).trans c2
      clear hx2 hc bx c0 c1 c2
      go_wp2_with fail
      go_still_tail 8, (by kernel_rfl)
      change wpList _ _ _ _ _ wr.drew
      have hbd : Below w.heap.size w wr.drew := ⟨hbb.os, hbb.tape, hbb.output, hbb.size, hbb.block⟩
      clear hbb d0 f0 d1 f1 d2 f2
      generalize wr.drew = w2 at hbd ⊢
      go_wp2_with fail
      with_reducible refine (eqWorker_c w2 x).mono ?_
      rintro e w3 ⟨rfl, hb3⟩
      have hbb1 : Below w.heap.size w w3 := hbd.trans (hb3.mono hbd.size)
      clear hb3 hbd
      go_wp2
      go_roundw
      case rel => exact ⟨k + 1, by omega, by go_num, hbb1⟩
      case measure => simp [intOf]; omega
    · go_wp2
      go_ret
      exact ⟨rfl, hbb⟩
theorem openWorkerS {H : Type} {enc : TypeId × Value → H} {w : World} {r : Reach} {b0 : Nat} {v : Value} {d : DataW H} {ps : List MemPlace} (hok : Value.okWide Try.prog w r b0 31 v)
    (h : DataW.Trod enc Try.prog w 0 (fun _ => true) true 31 v d ps) : ∃ xs, RdWorkerS w.heap.size w v xs := by
  refine open_rdK (E := eWorker) Try.underlying31 Try.underlying49 (by kernel_rfl) (by kernel_rfl) (by kernel_rfl) (fun n vs hl hf => ?_) (by decide) hok h
  obtain ⟨u0, y0, hu0, ht0⟩ := hf 0 _ rfl
  obtain ⟨u1, y1, hu1, ht1⟩ := hf 1 _ rfl
  obtain ⟨u2, y2, hu2, ht2⟩ := hf 2 _ rfl
  obtain ⟨a0, rfl, b0⟩ := trodS Try.underlying9 ht0
  obtain ⟨a1, rfl, b1⟩ := trodI Try.underlying2 ht1
  obtain ⟨a2, rfl, b2⟩ := trodI Try.underlying2 ht2
  match vs, hl with
  | [e0, e1, e2], _ =>
    simp only [List.getElem?_cons_zero, List.getElem?_cons_succ, Option.some.injEq] at hu0 hu1 hu2
    subst hu0
    subst hu1
    subst hu2
    exact ⟨⟨a0, a1, a2⟩, rfl, b0, b1, b2⟩
theorem openWorker {H : Type} {enc : TypeId × Value → H} {w : World} {r : Reach} {b0 : Nat} {v : Value} {d : DataW H} {ps : List MemPlace} (hok : Value.okWide Try.prog w r b0 49 v)
    (h : DataW.Trod enc Try.prog w 0 (fun _ => true) true 49 v d ps) : ∃ x, v = lWorker x ∧ okWorker x := by
  obtain ⟨v0, v1, v2, y0, y1, y2, n, rfl, _, _, ht0, ht1, ht2⟩ := Go.Joins.open_agg3 Try.underlying49 (by kernel_rfl) (by kernel_rfl) hok h
  obtain ⟨a0, rfl, b0⟩ := trodS Try.underlying9 ht0
  obtain ⟨a1, rfl, b1⟩ := trodI Try.underlying2 ht1
  obtain ⟨a2, rfl, b2⟩ := trodI Try.underlying2 ht2
  exact ⟨⟨a0, a1, a2⟩, rfl, b0, b1, b2⟩
end Go.Proofs.Ytlcmliibdfclnaa
