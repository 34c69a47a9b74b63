/- Cards in the laws' helpers: their size, equality, a copy, marks. No condition. -/
import Derived.Test.YtfieilbcdhbigaaGreatDoorMatO
import Derived.Test.YtfieilbcdhbigaaGreatDoorQB
namespace Go.Proofs.YtfieilbcdhbigaaGreatDoor
open Go.ChangeShapes Go.WideShapes Go.ChangeAt Go.RowKit Go.Sort
set_option linter.unusedVariables false
set_option maxRecDepth 100000
/-- A []Card that reads as lists of holes. -/
abbrev RdCardS (B : Nat) (w : World) (v : Value) (xss : List (List Int)) : Prop := RdInt64SS B w v xss
abbrev szCardS (x : List (List Int)) : Int := szInt64SS x
abbrev cntCardS (x : List (List Int)) : Nat := cntInt64SS x
abbrev mkCardS (k : Int) (x : List (List Int)) : List (List Int) := mkInt64SS k x
theorem cntCardS_le (x : List (List Int)) : (cntCardS x : Int) ≤ 16 * szCardS x := cntInt64SS_le x
theorem szCardS_nonneg (x : List (List Int)) : 0 ≤ szCardS x := szInt64SS_nonneg x
theorem szCardS_len (x : List (List Int)) : (x.length : Int) ≤ szCardS x := szInt64SS_len x
abbrev OwnTCardS (base tp : Nat) (w : World) (v : Value) (xss : List (List Int)) : Prop := OwnTM 67 base tp w v xss
def OwnCardS (base : Nat) (w : World) (v : Value) (xss : List (List Int)) : Prop := OwnTM 67 base w.heap.size w v xss
theorem OwnCardS.top {base : Nat} {w : World} {v : Value} {x : List (List Int)} (h : OwnCardS base w v x) : OwnTCardS base w.heap.size w v x := h
theorem OwnCardS.rds {base : Nat} {w : World} {v : Value} {x : List (List Int)} (h : OwnCardS base w v x) : RdCardS w.heap.size w v x := OwnTM.rds h
theorem szCard_c {xs : List Int} {v : Value} {w : World} {A : Nat} (left : Int) (ha : RdI A w v xs) (h0 : 0 ≤ left) (h1 : left ≤ 1048576) :
    Calls Tryz.prog 31 #[.agg #[v], .int .i64 left] w fun e w' => e = .returned (.int .i64 (if left < xs.length then -1 else left - xs.length)) ∧ Below w.heap.size w w' := by
  have hle := ha.le
  have hb0 : Below w.heap.size w (w.alloc (.cells #[v] 61)) := (Below.refl _ _).alloc (Nat.le_refl _) _
  have ha0 := Rds.onn ha hb0
  obtain ⟨ao, cap, rfl⟩ := ha.shape
  have Ha0 := Lib.hid ha0
  have Hb0 := Lib.hid hb0
  clear ha ha0 hb0
  by_cases h : left < xs.length
  · have Hc := Lib.hid (szI left Ha0.out h0 h1)
    rw [if_pos h] at Hc ⊢
    go_enter Tryz.func31, Tryz.ntmps31
    go_wp2_with fail
    with_reducible refine Hc.out.mono ?_
    rintro e w1 ⟨rfl, rfl⟩
    go_wp2
    go_ret
    exact ⟨rfl, Hb0.out⟩
  · have Hc := Lib.hid (szI left Ha0.out h0 h1)
    rw [if_neg h] at Hc ⊢
    have hq : ¬ left - (xs.length : Int) < 0 := by omega
    go_enter Tryz.func31, Tryz.ntmps31
    go_wp2_with fail
    with_reducible refine Hc.out.mono ?_
    rintro e w1 ⟨rfl, rfl⟩
    go_wp2
    go_ret
    exact ⟨rfl, Hb0.out⟩
theorem szCardS_c {xss : List (List Int)} {v : Value} {w : World} {A : Nat} {left : Int} (ha : RdCardS A w v xss) (h1 : left ≤ 1048576) (h2 : szCardS xss ≤ left) :
    Calls Tryz.prog 7 #[v, .int .i64 left] w fun e w' => e = .returned (.int .i64 (left - szCardS xss)) ∧ Below w.heap.size w w' := by
  have hle := ha.le
  obtain ⟨ao, cap, rfl, ho⟩ := ha.open
  obtain ⟨n, hn⟩ : ∃ n, n = xss.length := ⟨_, rfl⟩
  rw [← hn]
  have Hn := Lib.hid hn
  have Ho := Lib.hid ho
  have hle' : n ≤ 9223372036854775807 := by omega
  have h2' : n + sumBy (fun r => (r.length : Int)) xss ≤ left := by unfold szCardS szInt64SS at h2; omega
  have h3 := sumBy_nonneg (f := fun r : List Int => (r.length : Int)) (fun r => by omega) xss
  have H2 := Lib.hid h2'
  have h4 : (n : Int) ≤ left := by omega
  clear ho hn hle ha h2 h2' h3
  go_enter Tryz.func7, Tryz.ntmps7
  go_wp2
  go_loopw [1, 5] (fun l i wr => ∃ k : Nat, k ≤ n ∧ i = .int .i64 k ∧ ∃ lf : Int, l = .int .i64 lf ∧ (lf ≤ 1048576 ∧ 0 ≤ lf) ∧ Hid (lf = left - n - sumBy (fun r => (r.length : Int)) (xss.take k)) ∧ Below w.heap.size w wr) (fun _ i _ => n - (intOf i).toNat)
  case atStart => exact ⟨0, Nat.zero_le _, rfl, left - n, rfl, by omega, by show left - n = _; simp [sumBy], Below.refl _ _⟩
  case round =>
    obtain ⟨k, hk, rfl, lf, rfl, ⟨hl1, hl2⟩, hlf, hb⟩ := hrel
    by_cases hkn : k < n
    · obtain ⟨b, off, rfl, hlt, hc⟩ := Ho.out (by have := Hn.out; omega)
      obtain ⟨x, ro, rc, hx, hcell, hrd⟩ := hc k (by have := Hn.out; omega)
      replace hcell := (hb.cell (p := ⟨b, off + k, none⟩) hlt.2).trans hcell
      have Hx := Lib.hid hx
      have Hrd := Lib.hid (Rds.onn hrd hb)
      have hf : (x.length : Int) ≤ lf := by
        rw [hlf.out]
        have h4 := sumBy_snoc (fun r : List Int => (r.length : Int)) hx
        have h5 := sumBy_take_le (f := fun r : List Int => (r.length : Int)) (fun r => by omega) xss (k + 1)
        have := H2.out
        omega
      have Hb := Lib.hid hb
      clear hx hc hrd hb
      go_wp2_with fail
      with_reducible refine (szCard_c lf Hrd.out hl2 hl1).mono ?_
      rw [if_neg (by omega)]
      rintro e w1 ⟨rfl, hb1⟩
      have Hb1 := Lib.hid (Hb.out.trans (hb1.mono Hb.out.size))
      clear hb1 hcell
      go_wp2
      go_roundw
      case rel => exact ⟨k + 1, by omega, by go_num, lf - x.length, rfl, by omega, by show lf - x.length = _; rw [sumBy_snoc (fun r : List Int => (r.length : Int)) Hx.out, hlf.out]; omega, Hb1.out⟩
      case measure => simp [intOf]; omega
    · go_wp2
      go_ret
      refine ⟨ret_int ?_, hb⟩
      rw [hlf.out, List.take_of_length_le (by have := Hn.out; omega)]; unfold szCardS szInt64SS; have := Hn.out; omega
theorem szCardS_no {xss : List (List Int)} {v : Value} {w : World} {A : Nat} {left : Int} (ha : RdCardS A w v xss) (h0 : 0 ≤ left ∧ left ≤ 1048576) (h2 : ¬ szCardS xss ≤ left) :
    Calls Tryz.prog 7 #[v, .int .i64 left] w fun e w' => e = .returned (.int .i64 (-1)) ∧ Below w.heap.size w w' := by
  have h1 := h0.2
  have h00 := h0.1
  have hle := ha.le
  obtain ⟨ao, cap, rfl, ho⟩ := ha.open
  obtain ⟨n, hn⟩ : ∃ n, n = xss.length := ⟨_, rfl⟩
  rw [← hn]
  have Hn := Lib.hid hn
  have Ho := Lib.hid ho
  have hle' : n ≤ 9223372036854775807 := by omega
  have h2' : ¬ n + sumBy (fun r => (r.length : Int)) xss ≤ left := by unfold szCardS szInt64SS at h2; omega
  have H2 := Lib.hid h2'
  clear ho hn hle ha h2 h0 h2'
  by_cases hb : left < n
  · clear H2
    go_enter Tryz.func7, Tryz.ntmps7
    go_wp2
    go_ret
    exact ⟨rfl, Below.refl _ _⟩
  go_enter Tryz.func7, Tryz.ntmps7
  go_wp2
  go_loopw [1, 5] (fun l i wr => ∃ k : Nat, k ≤ n ∧ i = .int .i64 k ∧ ∃ lf : Int, l = .int .i64 lf ∧ (lf ≤ 1048576 ∧ 0 ≤ lf) ∧ Hid (lf = left - n - sumBy (fun r => (r.length : Int)) (xss.take k)) ∧ Below w.heap.size w wr) (fun _ i _ => n - (intOf i).toNat)
  case atStart => exact ⟨0, Nat.zero_le _, rfl, left - n, rfl, by omega, by show left - n = _; simp [sumBy], Below.refl _ _⟩
  case round =>
    obtain ⟨k, hk, rfl, lf, rfl, ⟨hl1, hl2⟩, hlf, hb⟩ := hrel
    by_cases hkn : k < n
    · obtain ⟨b, off, rfl, hlt, hc⟩ := Ho.out (by have := Hn.out; omega)
      obtain ⟨x, ro, rc, hx, hcell, hrd⟩ := hc k (by have := Hn.out; omega)
      replace hcell := (hb.cell (p := ⟨b, off + k, none⟩) hlt.2).trans hcell
      have Hx := Lib.hid hx
      have Hrd := Lib.hid (Rds.onn hrd hb)
      have Hb := Lib.hid hb
      clear hx hc hrd hb
      by_cases hf : lf < x.length
      · go_wp2_with fail
        with_reducible refine (szCard_c lf Hrd.out hl2 hl1).mono ?_
        rw [if_pos hf]
        rintro e w1 ⟨rfl, hb1⟩
        have Hb1 := Lib.hid (Hb.out.trans (hb1.mono Hb.out.size))
        clear hb1 hcell
        go_wp2
        go_ret
        exact ⟨rfl, Hb1.out⟩
      · go_wp2_with fail
        with_reducible refine (szCard_c lf Hrd.out hl2 hl1).mono ?_
        rw [if_neg (by omega)]
        rintro e w1 ⟨rfl, hb1⟩
        have Hb1 := Lib.hid (Hb.out.trans (hb1.mono Hb.out.size))
        clear hb1 hcell
        go_wp2
        go_roundw
        case rel => exact ⟨k + 1, by omega, by go_num, lf - x.length, rfl, by omega, by show lf - x.length = _; rw [sumBy_snoc (fun r : List Int => (r.length : Int)) Hx.out, hlf.out]; omega, Hb1.out⟩
        case measure => simp [intOf]; omega
    · exfalso
      have h6 := hlf.out
      rw [List.take_of_length_le (by have := Hn.out; omega)] at h6
      have := H2.out
      omega
theorem eqCard_c {xs : List Int} {va vb : Value} {w : World} {A B : Nat} (ha : RdI A w va xs) (hb : RdI B w vb xs) :
    Calls Tryz.prog 39 #[.agg #[va], .agg #[vb]] w fun e w' => e = .returned (.bool true) ∧ Below w.heap.size w w' := by
  have hb0 : Below w.heap.size w ((w.alloc (.cells #[va] 67)).alloc (.cells #[vb] 67)) := ((Below.refl _ _).alloc (Nat.le_refl _) _).alloc (by simp) _
  have ha0 := Rds.onn ha hb0
  have hb0' := Rds.onn hb hb0
  obtain ⟨ao, cap, rfl⟩ := ha.shape
  obtain ⟨bo, bcap, rfl⟩ := hb.shape
  have Hc := Lib.hid (eqI_same ha0 hb0')
  have Hb0 := Lib.hid hb0
  clear ha hb ha0 hb0 hb0'
  go_enter Tryz.func39, Tryz.ntmps39
  go_wp2_with fail
  with_reducible refine Hc.out.mono ?_
  rintro e w1 ⟨rfl, m, rfl⟩
  have Hb1 := Lib.hid (Hb0.out.drewNy m)
  clear Hb0 Hc
  generalize World.drewN _ m = w2 at Hb1 ⊢
  go_wp2
  go_ret
  exact ⟨rfl, Hb1.out⟩
theorem eqCardS_c {xss : List (List Int)} {va vb : Value} {w : World} {A B : Nat} (ha : RdCardS A w va xss) (hb : RdCardS B w vb xss) :
    Calls Tryz.prog 13 #[va, vb] w fun e w' => e = .returned (.bool true) ∧ Below w.heap.size w w' := by
  obtain ⟨bo, bcap, rfl, hob⟩ := hb.open
  have Hob := Lib.hid hob
  clear hob hb
  have hle := ha.le
  obtain ⟨ao, cap, rfl, ho⟩ := ha.open
  obtain ⟨n, hn⟩ : ∃ n, n = xss.length := ⟨_, rfl⟩
  rw [← hn]
  have Hn := Lib.hid hn
  have Ho := Lib.hid ho
  have hle' : n ≤ 9223372036854775807 := by omega
  clear ho hn hle ha
  go_enter Tryz.func13, Tryz.ntmps13
  go_wp2
  go_loopw [5] (fun i wr => ∃ k : Nat, k ≤ n ∧ i = .int .i64 k ∧ Below w.heap.size w wr) (fun i _ => n - (intOf i).toNat)
  case atStart => exact ⟨0, Nat.zero_le _, rfl, Below.refl _ _⟩
  case round =>
    obtain ⟨k, hk, rfl, hb⟩ := hrel
    by_cases hkn : k < n
    · obtain ⟨b, off, rfl, hlt, hc⟩ := Ho.out (by have := Hn.out; omega)
      obtain ⟨x, ro, rc, hx, hcell, hrd⟩ := hc k (by have := Hn.out; omega)
      have Hx := Lib.hid hx
      obtain ⟨b2, off2, rfl, hlt2, hc2⟩ := Hob.out (by have := Hn.out; omega)
      obtain ⟨x2, ro2, rc2, hx2, hcell2, hrd2⟩ := hc2 k (by have := Hn.out; omega)
      obtain rfl : x = x2 := Option.some.inj (Hx.out.symm.trans hx2)
      replace hcell := (hb.cell (p := ⟨b, off + k, none⟩) hlt.2).trans hcell
      replace hcell2 := (hb.cell (p := ⟨b2, off2 + k, none⟩) hlt2.2).trans hcell2
      have Hrd := Lib.hid (Rds.onn hrd hb)
      have Hrd2 := Lib.hid (Rds.onn hrd2 hb)
      have Hb := Lib.hid hb
      have f1 := cell_regrown hcell
      have f2 := cell_regrown hcell2
      clear hx hc hrd hx2 hc2 hrd2 hb hcell hcell2
      go_wp2
      refine wp_region_quiet_below (by kernel_rfl) (by kernel_rfl) ?_
      repeat ((with_reducible refine wpQuiet_step (fun K hK => ?_)); go_simp; first | ((with_reducible refine hK _ ?_); clear hK K) | (apply Exists.intro; refine ⟨fun _ => ?_, hK _ ?_⟩; ((go_at_call 39; exact qb_below (eqCard_c (Hrd.out.regrown (Nat.le_refl _) _ _) (Hrd2.out.regrown (Nat.le_refl _) _ _)))); clear hK K))
      refine wpQuiet_nil ?_
      intro _ hw'
      obtain ⟨⟨dq, osq⟩, hw''⟩ := hw'
      subst hw''
      have hbq := below_regrown wr dq osq
      generalize grow (redrawn wr dq) osq = wq at hbq ⊢
      have Hb1 := Lib.hid (Hb.out.trans (hbq.mono Hb.out.size))
      clear hbq f1 f2
      go_wp2
      go_roundw
      case rel => exact ⟨k + 1, by omega, by go_num, Hb1.out⟩
      case measure => simp [intOf]; omega
    · go_wp2
      go_ret
      exact ⟨rfl, hb⟩
end Go.Proofs.YtfieilbcdhbigaaGreatDoor
