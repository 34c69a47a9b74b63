/- Cards in the laws' helpers: their size, equality, a copy, marks. Cards in the laws' helpers: copied, marked, held. Items and layouts in the laws' helpers. Valid layouts: in plain words, and the program's test by its contract. Valid layouts and the places of items: the reference's, each by its contract. Cards and decks: which are valid, which are the same; the program's and the reference's. Cards and decks: which are valid, which are the same; the reference's. Valid layouts: the program's test by its contract. No condition. -/
import Derived.Test.YtfieilbcdhbigaaGreatDoorMP10
import Derived.Test.YtfieilbcdhbigaaGreatDoorMP3
import Derived.Test.YtfieilbcdhbigaaGreatDoorMP9
import Derived.Test.YtfieilbcdhbigaaGreatDoorMP2
namespace Go.Proofs.YtfieilbcdhbigaaGreatDoor
open Go.ChangeShapes Go.WideShapes Go.ChangeAt Go.RowKit Go.Sort
set_option linter.unusedVariables false
set_option maxRecDepth 100000
/-- A []Card that reads as lists of holes. -/
abbrev RdCardS (B : Nat) (w : World) (v : Value) (xss : List (List Int)) : Prop := RdInt64SS B w v xss
abbrev szCardS (x : List (List Int)) : Int := szInt64SS x
abbrev cntCardS (x : List (List Int)) : Nat := cntInt64SS x
abbrev mkCardS (k : Int) (x : List (List Int)) : List (List Int) := mkInt64SS k x
theorem cntCardS_le (x : List (List Int)) : (cntCardS x : Int) ≤ 16 * szCardS x := cntInt64SS_le x
theorem szCardS_nonneg (x : List (List Int)) : 0 ≤ szCardS x := szInt64SS_nonneg x
theorem szCardS_len (x : List (List Int)) : (x.length : Int) ≤ szCardS x := szInt64SS_len x
abbrev OwnTCardS (base tp : Nat) (w : World) (v : Value) (xss : List (List Int)) : Prop := OwnTM 67 base tp w v xss
def OwnCardS (base : Nat) (w : World) (v : Value) (xss : List (List Int)) : Prop := OwnTM 67 base w.heap.size w v xss
theorem OwnCardS.top {base : Nat} {w : World} {v : Value} {x : List (List Int)} (h : OwnCardS base w v x) : OwnTCardS base w.heap.size w v x := h
theorem OwnCardS.rds {base : Nat} {w : World} {v : Value} {x : List (List Int)} (h : OwnCardS base w v x) : RdCardS w.heap.size w v x := OwnTM.rds h
theorem szCard_c {xs : List Int} {v : Value} {w : World} {A : Nat} (left : Int) (ha : RdI A w v xs) (h0 : 0 ≤ left) (h1 : left ≤ 1048576) :
    Calls Tryz.prog 31 #[.agg #[v], .int .i64 left] w fun e w' => e = .returned (.int .i64 (if left < xs.length then -1 else left - xs.length)) ∧ Below w.heap.size w w' := by
  have hle := ha.le
  have hb0 : Below w.heap.size w (w.alloc (.cells #[v] 61)) := (Below.refl _ _).alloc (Nat.le_refl _) _
  have ha0 := Rds.onn ha hb0
  obtain ⟨ao, cap, rfl⟩ := ha.shape
  have Ha0 := Lib.hid ha0
  have Hb0 := Lib.hid hb0
  clear ha ha0 hb0
  by_cases h : left < xs.length
  · have Hc := Lib.hid (szI left Ha0.out h0 h1)
    rw [if_pos h] at Hc ⊢
    go_enter Tryz.func31, Tryz.ntmps31
    go_wp2_with fail
    with_reducible refine Hc.out.mono ?_
    rintro e w1 ⟨rfl, rfl⟩
    go_wp2
    go_ret
    exact ⟨rfl, Hb0.out⟩
  · have Hc := Lib.hid (szI left Ha0.out h0 h1)
    rw [if_neg h] at Hc ⊢
    have hq : ¬ left - (xs.length : Int) < 0 := by omega
    go_enter Tryz.func31, Tryz.ntmps31
    go_wp2_with fail
    with_reducible refine Hc.out.mono ?_
    rintro e w1 ⟨rfl, rfl⟩
    go_wp2
    go_ret
    exact ⟨rfl, Hb0.out⟩
theorem szCardS_c {xss : List (List Int)} {v : Value} {w : World} {A : Nat} {left : Int} (ha : RdCardS A w v xss) (h1 : left ≤ 1048576) (h2 : szCardS xss ≤ left) :
    Calls Tryz.prog 7 #[v, .int .i64 left] w fun e w' => e = .returned (.int .i64 (left - szCardS xss)) ∧ Below w.heap.size w w' := by
  have hle := ha.le
  obtain ⟨ao, cap, rfl, ho⟩ := ha.open
  obtain ⟨n, hn⟩ : ∃ n, n = xss.length := ⟨_, rfl⟩
  rw [← hn]
  have Hn := Lib.hid hn
  have Ho := Lib.hid ho
  have hle' : n ≤ 9223372036854775807 := by omega
  have h2' : n + sumBy (fun r => (r.length : Int)) xss ≤ left := by unfold szCardS szInt64SS at h2; omega
  have h3 := sumBy_nonneg (f := fun r : List Int => (r.length : Int)) (fun r => by omega) xss
  have H2 := Lib.hid h2'
  have h4 : (n : Int) ≤ left := by omega
  clear ho hn hle ha h2 h2' h3
  go_enter Tryz.func7, Tryz.ntmps7
  go_wp2
  go_loopw [1, 5] (fun l i wr => ∃ k : Nat, k ≤ n ∧ i = .int .i64 k ∧ ∃ lf : Int, l = .int .i64 lf ∧ (lf ≤ 1048576 ∧ 0 ≤ lf) ∧ Hid (lf = left - n - sumBy (fun r => (r.length : Int)) (xss.take k)) ∧ Below w.heap.size w wr) (fun _ i _ => n - (intOf i).toNat)
  case atStart => exact ⟨0, Nat.zero_le _, rfl, left - n, rfl, by omega, by show left - n = _; simp [sumBy], Below.refl _ _⟩
  case round =>
    obtain ⟨k, hk, rfl, lf, rfl, ⟨hl1, hl2⟩, hlf, hb⟩ := hrel
    by_cases hkn : k < n
    · obtain ⟨b, off, rfl, hlt, hc⟩ := Ho.out (by have := Hn.out; omega)
      obtain ⟨x, ro, rc, hx, hcell, hrd⟩ := hc k (by have := Hn.out; omega)
      replace hcell := (hb.cell (p := ⟨b, off + k, none⟩) hlt.2).trans hcell
      have Hx := Lib.hid hx
      have Hrd := Lib.hid (Rds.onn hrd hb)
      have hf : (x.length : Int) ≤ lf := by
        rw [hlf.out]
        have h4 := sumBy_snoc (fun r : List Int => (r.length : Int)) hx
        have h5 := sumBy_take_le (f := fun r : List Int => (r.length : Int)) (fun r => by omega) xss (k + 1)
        have := H2.out
        omega
      have Hb := Lib.hid hb
      clear hx hc hrd hb
      go_wp2_with fail
      with_reducible refine (szCard_c lf Hrd.out hl2 hl1).mono ?_
      rw [if_neg (by omega)]
      rintro e w1 ⟨rfl, hb1⟩
      have Hb1 := Lib.hid (Hb.out.trans (hb1.mono Hb.out.size))
      clear hb1 hcell
      go_wp2
      go_roundw
      case rel => exact ⟨k + 1, by omega, by go_num, lf - x.length, rfl, by omega, by show lf - x.length = _; rw [sumBy_snoc (fun r : List Int => (r.length : Int)) Hx.out, hlf.out]; omega, Hb1.out⟩
      case measure => simp [intOf]; omega
    · go_wp2
      go_ret
      refine ⟨ret_int ?_, hb⟩
      rw [hlf.out, List.take_of_length_le (by have := Hn.out; omega)]; unfold szCardS szInt64SS; have := Hn.out; omega
theorem szCardS_no {xss : List (List Int)} {v : Value} {w : World} {A : Nat} {left : Int} (ha : RdCardS A w v xss) (h0 : 0 ≤ left ∧ left ≤ 1048576) (h2 : ¬ szCardS xss ≤ left) :
    Calls Tryz.prog 7 #[v, .int .i64 left] w fun e w' => e = .returned (.int .i64 (-1)) ∧ Below w.heap.size w w' := by
  have h1 := h0.2
  have h00 := h0.1
  have hle := ha.le
  obtain ⟨ao, cap, rfl, ho⟩ := ha.open
  obtain ⟨n, hn⟩ : ∃ n, n = xss.length := ⟨_, rfl⟩
  rw [← hn]
  have Hn := Lib.hid hn
  have Ho := Lib.hid ho
  have hle' : n ≤ 9223372036854775807 := by omega
  have h2' : ¬ n + sumBy (fun r => (r.length : Int)) xss ≤ left := by unfold szCardS szInt64SS at h2; omega
  have H2 := Lib.hid h2'
  clear ho hn hle ha h2 h0 h2'
  by_cases hb : left < n
  · clear H2
    go_enter Tryz.func7, Tryz.ntmps7
    go_wp2
    go_ret
    exact ⟨rfl, Below.refl _ _⟩
  go_enter Tryz.func7, Tryz.ntmps7
  go_wp2
  go_loopw [1, 5] (fun l i wr => ∃ k : Nat, k ≤ n ∧ i = .int .i64 k ∧ ∃ lf : Int, l = .int .i64 lf ∧ (lf ≤ 1048576 ∧ 0 ≤ lf) ∧ Hid (lf = left - n - sumBy (fun r => (r.length : Int)) (xss.take k)) ∧ Below w.heap.size w wr) (fun _ i _ => n - (intOf i).toNat)
  case atStart => exact ⟨0, Nat.zero_le _, rfl, left - n, rfl, by omega, by show left - n = _; simp [sumBy], Below.refl _ _⟩
  case round =>
    obtain ⟨k, hk, rfl, lf, rfl, ⟨hl1, hl2⟩, hlf, hb⟩ := hrel
    by_cases hkn : k < n
    · obtain ⟨b, off, rfl, hlt, hc⟩ := Ho.out (by have := Hn.out; omega)
      obtain ⟨x, ro, rc, hx, hcell, hrd⟩ := hc k (by have := Hn.out; omega)
      replace hcell := (hb.cell (p := ⟨b, off + k, none⟩) hlt.2).trans hcell
      have Hx := Lib.hid hx
      have Hrd := Lib.hid (Rds.onn hrd hb)
      have Hb := Lib.hid hb
      clear hx hc hrd hb
      by_cases hf : lf < x.length
      · go_wp2_with fail
        with_reducible refine (szCard_c lf Hrd.out hl2 hl1).mono ?_
        rw [if_pos hf]
        rintro e w1 ⟨rfl, hb1⟩
        have Hb1 := Lib.hid (Hb.out.trans (hb1.mono Hb.out.size))
        clear hb1 hcell
        go_wp2
        go_ret
        exact ⟨rfl, Hb1.out⟩
      · go_wp2_with fail
        with_reducible refine (szCard_c lf Hrd.out hl2 hl1).mono ?_
        rw [if_neg (by omega)]
        rintro e w1 ⟨rfl, hb1⟩
        have Hb1 := Lib.hid (Hb.out.trans (hb1.mono Hb.out.size))
        clear hb1 hcell
        go_wp2
        go_roundw
        case rel => exact ⟨k + 1, by omega, by go_num, lf - x.length, rfl, by omega, by show lf - x.length = _; rw [sumBy_snoc (fun r : List Int => (r.length : Int)) Hx.out, hlf.out]; omega, Hb1.out⟩
        case measure => simp [intOf]; omega
    · exfalso
      have h6 := hlf.out
      rw [List.take_of_length_le (by have := Hn.out; omega)] at h6
      have := H2.out
      omega
theorem eqCard_c {xs : List Int} {va vb : Value} {w : World} {A B : Nat} (ha : RdI A w va xs) (hb : RdI B w vb xs) :
    Calls Tryz.prog 39 #[.agg #[va], .agg #[vb]] w fun e w' => e = .returned (.bool true) ∧ Below w.heap.size w w' := by
  have hb0 : Below w.heap.size w ((w.alloc (.cells #[va] 67)).alloc (.cells #[vb] 67)) := ((Below.refl _ _).alloc (Nat.le_refl _) _).alloc (by simp) _
  have ha0 := Rds.onn ha hb0
  have hb0' := Rds.onn hb hb0
  obtain ⟨ao, cap, rfl⟩ := ha.shape
  obtain ⟨bo, bcap, rfl⟩ := hb.shape
  have Hc := Lib.hid (eqI_same ha0 hb0')
  have Hb0 := Lib.hid hb0
  clear ha hb ha0 hb0 hb0'
  go_enter Tryz.func39, Tryz.ntmps39
  go_wp2_with fail
  with_reducible refine Hc.out.mono ?_
  rintro e w1 ⟨rfl, m, rfl⟩
  have Hb1 := Lib.hid (Hb0.out.drewNy m)
  clear Hb0 Hc
  generalize World.drewN _ m = w2 at Hb1 ⊢
  go_wp2
  go_ret
  exact ⟨rfl, Hb1.out⟩
theorem eqCardS_c {xss : List (List Int)} {va vb : Value} {w : World} {A B : Nat} (ha : RdCardS A w va xss) (hb : RdCardS B w vb xss) :
    Calls Tryz.prog 13 #[va, vb] w fun e w' => e = .returned (.bool true) ∧ Below w.heap.size w w' := by
  obtain ⟨bo, bcap, rfl, hob⟩ := hb.open
  have Hob := Lib.hid hob
  clear hob hb
  have hle := ha.le
  obtain ⟨ao, cap, rfl, ho⟩ := ha.open
  obtain ⟨n, hn⟩ : ∃ n, n = xss.length := ⟨_, rfl⟩
  rw [← hn]
  have Hn := Lib.hid hn
  have Ho := Lib.hid ho
  have hle' : n ≤ 9223372036854775807 := by omega
  clear ho hn hle ha
  go_enter Tryz.func13, Tryz.ntmps13
  go_wp2
  go_loopw [5] (fun i wr => ∃ k : Nat, k ≤ n ∧ i = .int .i64 k ∧ Below w.heap.size w wr) (fun i _ => n - (intOf i).toNat)
  case atStart => exact ⟨0, Nat.zero_le _, rfl, Below.refl _ _⟩
  case round =>
    obtain ⟨k, hk, rfl, hb⟩ := hrel
    by_cases hkn : k < n
    · obtain ⟨b, off, rfl, hlt, hc⟩ := Ho.out (by have := Hn.out; omega)
      obtain ⟨x, ro, rc, hx, hcell, hrd⟩ := hc k (by have := Hn.out; omega)
      have Hx := Lib.hid hx
      obtain ⟨b2, off2, rfl, hlt2, hc2⟩ := Hob.out (by have := Hn.out; omega)
      obtain ⟨x2, ro2, rc2, hx2, hcell2, hrd2⟩ := hc2 k (by have := Hn.out; omega)
      obtain rfl : x = x2 := Option.some.inj (Hx.out.symm.trans hx2)
      replace hcell := (hb.cell (p := ⟨b, off + k, none⟩) hlt.2).trans hcell
      replace hcell2 := (hb.cell (p := ⟨b2, off2 + k, none⟩) hlt2.2).trans hcell2
      have Hrd := Lib.hid (Rds.onn hrd hb)
      have Hrd2 := Lib.hid (Rds.onn hrd2 hb)
      have Hb := Lib.hid hb
      have f1 := cell_regrown hcell
      have f2 := cell_regrown hcell2
      clear hx hc hrd hx2 hc2 hrd2 hb hcell hcell2
      go_wp2
      refine wp_region_quiet_below (by kernel_rfl) (by kernel_rfl) ?_
      repeat ((with_reducible refine wpQuiet_step (fun K hK => ?_)); go_simp; first | ((with_reducible refine hK _ ?_); clear hK K) | (apply Exists.intro; refine ⟨fun _ => ?_, hK _ ?_⟩; ((go_at_call 39; exact qb_below (eqCard_c (Hrd.out.regrown (Nat.le_refl _) _ _) (Hrd2.out.regrown (Nat.le_refl _) _ _)))); clear hK K))
      refine wpQuiet_nil ?_
      intro _ hw'
      obtain ⟨⟨dq, osq⟩, hw''⟩ := hw'
      subst hw''
      have hbq := below_regrown wr dq osq
      generalize grow (redrawn wr dq) osq = wq at hbq ⊢
      have Hb1 := Lib.hid (Hb.out.trans (hbq.mono Hb.out.size))
      clear hbq f1 f2
      go_wp2
      go_roundw
      case rel => exact ⟨k + 1, by omega, by go_num, Hb1.out⟩
      case measure => simp [intOf]; omega
    · go_wp2
      go_ret
      exact ⟨rfl, hb⟩
end Go.Proofs.YtfieilbcdhbigaaGreatDoor
namespace Go.Proofs.YtfieilbcdhbigaaGreatDoor
open Go.ChangeShapes Go.WideShapes Go.ChangeAt Go.RowKit
set_option linter.unusedVariables false
set_option maxRecDepth 100000
theorem grown_setC (w : World) (a : Addr) (u : Value) : w.grownBy (w.setCell a u) (some a.block) :=
  ⟨rfl, rfl, rfl, by simp [World.setCell], fun k hk hne => Below.heap_setCell _ _ _ _ (fun e => hne (by rw [e]))⟩
theorem Tryz.infoCard : (Tryz.prog.info? 67).map (fun i => (i.zero, i.size, i.bytes)) = some (some (.agg #[.slice none 0 0]), 1, 24) := by kernel_rfl
theorem toCard_c {xs : List Int} {v : Value} {w : World} {A : Nat} (ha : RdI A w v xs) (hl : xs.length ≤ 1048576) :
    Calls Tryz.prog 35 #[.agg #[v]] w fun e w' => ∃ u, e = .returned (.agg #[u]) ∧ Own eI 2 w.heap.size w' u xs ∧ Below w.heap.size w w' := by
  obtain ⟨W, hW⟩ : ∃ W, W = ((w.alloc (.cells #[v] 61)).alloc (.cells #[.slice none 0 0] 67)).alloc (.cells #[.slice none 0 0] 67) := ⟨_, rfl⟩
  have hs1 : (w.alloc (.cells #[v] 61)).heap.size = w.heap.size + 1 := by simp
  have hs2 : ((w.alloc (.cells #[v] 61)).alloc (.cells #[.slice none 0 0] 67)).heap.size = w.heap.size + 1 + 1 := by simp
  have hb0 : Below w.heap.size w W := by rw [hW]; exact (((Below.refl w.heap.size w).alloc (Nat.le_refl _) _).alloc (by simp) _).alloc (by simp; omega) _
  have hB1 : Box W (w.heap.size + 1) [.slice none 0 0] := by
    have h := (Box.new (w.alloc (.cells #[v] 61)) [.slice none 0 0] 67).alloc (.cells #[.slice none 0 0] 67)
    rw [hs1] at h
    rw [hW]; exact h
  have hB2 : Box W (w.heap.size + 1 + 1) [.slice none 0 0] := by
    have h := Box.new ((w.alloc (.cells #[v] 61)).alloc (.cells #[.slice none 0 0] 67)) [.slice none 0 0] 67
    rw [hs2] at h
    rw [hW]; exact h
  have ha0 := Rds.onn ha hb0
  obtain ⟨ao, cap, rfl⟩ := ha.shape
  have Ha0 := Lib.hid ha0
  have Hb0 := Lib.hid hb0
  have HB1 := Lib.hid hB1
  have HB2 := Lib.hid hB2
  have HW := Lib.hid hW
  clear ha ha0 hb0 hB1 hB2 hW hs1 hs2
  go_enter Tryz.func35, Tryz.ntmps35
  go_wp2_with fail
  rw [← HW.out]
  with_reducible refine (toI Ha0.out hl).mono ?_
  rintro e w1 ⟨u, rfl, hu, hb1⟩
  have hx1 := HB1.out.on hb1
  have hx2 := HB2.out.on hb1
  have hl2 := HB2.out.lt
  have d1 := hx1.cell 0 _ rfl
  have f1 := hx1.free 0
  have d2 := hx2.cell 0 _ rfl
  have f2 := hx2.free 0
  obtain ⟨uo, uc, rfl⟩ := hu.shape
  have g0 := ((hx1.other (p := ⟨w.heap.size + 1 + 1, 0, none⟩) (by show w.heap.size + 1 + 1 ≠ w.heap.size + 1; omega) (.slice uo xs.length uc)).set1 (j := 0) (by simp) (.slice uo xs.length uc)).cell 0 (.slice uo xs.length uc) rfl
  have hlt := hu.lt
  have hsz := Hb0.out.size
  have hu2 := (hu.kept (grown_setC w1 ⟨w.heap.size + 1 + 1, 0, none⟩ (.slice uo xs.length uc)) (.inr (fun h => by have h9 := (hlt _ h).1; simp only at h9; omega))).kept (grown_setC _ ⟨w.heap.size + 1, 0, none⟩ (.slice uo xs.length uc)) (.inr (fun h => by have h9 := (hlt _ h).1; simp only at h9; omega))
  have Hu := Lib.hid (hu2.mono hsz)
  have hb2 := Hb0.out.trans (hb1.mono hsz)
  have Hb1 := Lib.hid ((hb2.setCell (p := ⟨w.heap.size + 1 + 1, 0, none⟩) (by show w.heap.size ≤ w.heap.size + 1 + 1; omega) (.slice uo xs.length uc)).setCell (p := ⟨w.heap.size + 1, 0, none⟩) (by show w.heap.size ≤ w.heap.size + 1; omega) (.slice uo xs.length uc))
  clear hx1 hx2 hu hb1 hlt hu2 hb2
  go_wp2
  exact bodyPost_ret (v := .agg #[.slice uo xs.length uc]) (by simp [results, Tryz.results35, go_sem, g0]) rfl ⟨_, rfl, Hu.out, Hb1.out⟩
theorem toCardS_c {w : World} {A : Nat} {xss : List (List Int)} {v : Value} (ha : RdCardS A w v xss) (hl : szCardS xss ≤ 1048576) :
    Calls Tryz.prog 10 #[v] w fun e w' => ∃ u, e = .returned u ∧ OwnCardS w.heap.size w' u xss ∧ Below w.heap.size w w' := by
  have hl2 : xss.length ≤ 1048576 := by have := szCardS_len xss; omega
  have hrow : ∀ (k : Nat) (x : List Int), xss[k]? = some x → x.length ≤ 1048576 := by
    intro k x hx
    have h4 := sumBy_snoc (fun r : List Int => (r.length : Int)) hx
    have h5 := sumBy_take_le (f := fun r : List Int => (r.length : Int)) (fun r => by omega) xss (k + 1)
    have h6 := sumBy_nonneg (f := fun r : List Int => (r.length : Int)) (fun r => by omega) (xss.take k)
    unfold szCardS szInt64SS at hl
    omega
  have ha := ha.tight
  have hle := ha.le
  obtain ⟨ao, cap, rfl, ho⟩ := ha.open
  obtain ⟨n, hn⟩ : ∃ n, n = xss.length := ⟨_, rfl⟩
  rw [← hn]
  have Hn := Lib.hid hn
  have Ho := Lib.hid ho
  have Hrow := Lib.hid hrow
  have hle' : n ≤ 1048576 := by omega
  obtain ⟨i0, hi, hz0, hz1, hz2⟩ := info_parts Tryz.infoCard
  clear ho hn hle ha hl hl2 hrow
  go_enter Tryz.func10, Tryz.ntmps10
  go_wp2_with (first | (at_make; refine wpList_make_full _ rfl _ _ 34 rfl w.heap.size 67 i0 (.agg #[.slice none 0 0]) 1 Tryz.underlying34 hi hz0 hz1 _ _ _ _ n rfl rfl rfl rfl ?b1 ?b2 (Nat.le_refl _) ?_))
  case b1 => first | omega | (rw [hz2]; omega)
  case b2 => unfold maxLen; omega
  intro w1 hown hgr
  have hb1 : Below w.heap.size w w1 := (Below.refl _ _).grown hgr (Nat.le_refl _) (fun k hk => by cases hk)
  have hown0 : OwnTM 67 w.heap.size w1.heap.size w1 (.slice (some ⟨w.heap.size, 0, none⟩) n n) (xss.take 0 ++ List.replicate (n - 0) []) := by
    have h1 : Own eS 67 w.heap.size w1 (.slice (some ⟨w.heap.size, 0, none⟩) n n) (List.replicate n ⟨none, 0, 0⟩) := by
      refine ⟨?_, fun x hx => trivial⟩
      have hown2 : w1.ownsRow w.heap.size 67 eS.sz (.slice (some ⟨w.heap.size, 0, none⟩) n n) n (madeCells (Value.agg #[.slice none 0 0]).cells (n * eS.sz)).toList := by rw [show n * eS.sz = n from Nat.mul_one n]; exact hown
      rw [Elt.all_made (E := eS) (z := ⟨none, 0, 0⟩) (zv := Value.agg #[.slice none 0 0]) (by decide) rfl n] at hown2
      simpa using hown2
    refine ⟨List.replicate n ⟨none, 0, 0⟩, h1.top, by simp, ?_, ?_, ?_⟩
    · intro i h xs e1 e2
      simp only [List.take_zero, List.nil_append, Nat.sub_zero] at e2
      rw [List.getElem?_replicate] at e1 e2
      by_cases hi : i < n
      · rw [if_pos hi] at e1 e2; cases e1; cases e2; exact ⟨Own.nil _ _ _ _, fun k hk => by cases hk⟩
      · rw [if_neg hi] at e1; cases e1
    · intro i h e1
      rw [List.getElem?_replicate] at e1
      by_cases hi : i < n
      · rw [if_pos hi] at e1; cases e1; intro g _ hg; cases hg
      · rw [if_neg hi] at e1; cases e1
    · intro i j h h' _ e1 e2
      rw [List.getElem?_replicate] at e1
      by_cases hi : i < n
      · rw [if_pos hi] at e1; cases e1; intro g hg; cases hg
      · rw [if_neg hi] at e1; cases e1
  clear hown hgr
  go_wp2
  go_loopw [4] (fun i wr => ∃ k : Nat, k ≤ n ∧ i = .int .i64 k ∧ OwnTM 67 w.heap.size wr.heap.size wr (.slice (some ⟨w.heap.size, 0, none⟩) n n) (xss.take k ++ List.replicate (n - k) []) ∧ Below w.heap.size w wr) (fun i _ => n - (intOf i).toNat)
  case atStart => exact ⟨0, Nat.zero_le _, rfl, hown0, hb1⟩
  case round =>
    obtain ⟨k, hk, rfl, hw, hb⟩ := hrel
    by_cases hkn : k < n
    · obtain ⟨b, off, rfl, hlt, hc⟩ := Ho.out (by have := Hn.out; omega)
      obtain ⟨x, ro, rc, hx, hcell, hrd⟩ := hc k (by have := Hn.out; omega)
      have hrd2 := hrd.below hb (Nat.le_refl _)
      have hl3 := Hrow.out k x hx
      have Hx := Lib.hid hx
      clear hx hc hrd hb1 hown0
      have d := (hb.cell (p := ⟨b, off + k, none⟩) hlt.2).trans hcell
      clear hcell
      have Hrd := Lib.hid hrd2
      clear hrd2
      have hb0 := hb.size
      go_wp2_with fail
      with_reducible refine (toCard_c Hrd.out hl3).mono ?_
      rintro e w2 ⟨u, rfl, hu, hb2⟩
      have hw2 := hw.below hb2 (Nat.le_refl _)
      have hb3 : Below w.heap.size w w2 := hb.trans (hb2.mono hb0)
      have hlen : n = (xss.take k ++ List.replicate (n - k) []).length := by have := Hn.out; simp; omega
      obtain ⟨uo, uc, rfl⟩ := hu.shape
      obtain ⟨⟨y, hy⟩, hf, ho, hg⟩ := hw2.put hlen hkn hu hb0 hb2.size
      have Hst := Lib.hid ho
      have Hb3 := Lib.hid hb3
      clear ho hlen hb hb2 hw hw2 hb3 d hu hg
      go_wp2
      go_roundw
      case rel => exact ⟨k + 1, by omega, by go_num, by have h := Hst.out; rw [set_take_rows Hx.out Hn.out hkn] at h; simpa using h, Hb3.out.setCell (Nat.le_refl _) _⟩
      case measure => simp [intOf]; omega
    · go_wp2
      go_ret
      refine ⟨_, rfl, ?_, hb⟩
      have := Hn.out
      rw [List.take_of_length_le (by omega), show n - k = 0 by omega] at hw
      simpa [OwnCardS] using hw
theorem markCardS_c {xss : List (List Int)} {base top : Nat} {v : Value} {w : World} (k : Int) (ha : OwnTCardS base top w v xss) (hk : 0 ≤ k) (hl : k + cntCardS xss ≤ 9223372036854775807) :
    Calls Tryz.prog 22 #[v, .int .i64 k] w fun e w' => e = .returned (.int .i64 (k + cntCardS xss)) ∧ OwnTCardS base top w' v (mkCardS k xss) ∧ Within base top w w' := by
  have hle := ha.rds.le
  obtain ⟨ao, cap, rfl⟩ := ha.shape
  obtain ⟨n, hn⟩ : ∃ n, n = xss.length := ⟨_, rfl⟩
  have hcnt : (cntCardS xss : Int) = sumBy (fun r : List Int => (r.length : Int)) xss := by unfold cntCardS cntInt64SS; have := sumBy_nonneg (f := fun r : List Int => (r.length : Int)) (fun r => by omega) xss; omega
  rw [hcnt] at hl ⊢
  rw [← hn] at ha ⊢
  have Hn := Lib.hid hn
  have Hl := Lib.hid hl
  have hle' : n ≤ 9223372036854775807 := by omega
  clear hn hle hl hcnt
  go_enter Tryz.func22, Tryz.ntmps22
  go_wp2
  go_loopw [1, 5] (fun c i wr => ∃ j : Nat, j ≤ n ∧ i = .int .i64 j ∧ ∃ s : Int, c = .int .i64 (k + s) ∧ s = sumBy (fun r : List Int => (r.length : Int)) (xss.take j) ∧ 0 ≤ s ∧ OwnTM 67 base top wr (.slice ao n cap) (mkRows k (xss.take j) ++ xss.drop j) ∧ Within base top w wr) (fun _ i _ => n - (intOf i).toNat)
  case atStart => exact ⟨0, Nat.zero_le _, rfl, 0, by simp, by simp [sumBy], by omega, by simpa [mkRows] using ha, Within.refl _ _ _⟩
  case round =>
    obtain ⟨j, hj, rfl, s, rfl, hs, hs0, hw, hwi⟩ := hrel
    clear ha
    by_cases hjn : j < n
    · have hlen : (mkRows k (xss.take j) ++ xss.drop j).length = n := by have := Hn.out; rw [List.length_append, mkRows_length]; simp; omega
      obtain ⟨g, cp, hv, hg1, hg2, hg3⟩ := hw.addr (by omega)
      obtain ⟨hv1, hv2, hv3⟩ := Value.slice.inj hv
      subst hv1; subst hv3
      clear hv2
      have hx : xss[j]? = some (xss[j]'(by have := Hn.out; omega)) := List.getElem?_eq_getElem _
      generalize xss[j]'(by have := Hn.out; omega) = x at hx
      have hx2 : (mkRows k (xss.take j) ++ xss.drop j)[j]? = some x := by
        have h0 : (mkRows k (xss.take j)).length = j := by rw [mkRows_length]; have := Hn.out; simp; omega
        rw [List.getElem?_append_right (by omega), h0, Nat.sub_self, List.getElem?_drop, Nat.add_zero]; exact hx
      obtain ⟨ro, rc, hcell, hown, hback⟩ := hw.row hx2
      have h4 := sumBy_snoc (fun r : List Int => (r.length : Int)) hx
      have h5 := sumBy_take_le (f := fun r : List Int => (r.length : Int)) (fun r => by omega) xss (j + 1)
      have hl2 : (k + s) + x.length ≤ 9223372036854775807 := by have := Hl.out; omega
      have Hx := Lib.hid hx
      have ho1 := hown.1
      have ho2 := hown.2
      have Ho1 := Lib.hid ho1
      have Ho2 := Lib.hid ho2
      have Hback := Lib.hid hback
      have Hs := Lib.hid hs
      have Hwi := Lib.hid hwi
      clear hx hx2 hown ho1 ho2 hback hs hw hv hwi h4 h5 hlen
      go_wp2_with fail
      with_reducible refine (markI (k + s) Ho1.out (by omega) hl2).mono ?_
      rintro e w2 ⟨rfl, ho, hg, hz⟩
      have ht := Hback.out w2 _ ⟨ho, Ho2.out⟩ hg
      rw [Hs.out, mkRows_set Hx.out] at ht
      have Ht := Lib.hid ht
      have hwi2 : Within base top w w2 := Hwi.out.trans (Within.of_grown hg fun q hq => ⟨(Ho1.out.lt q hq).1, Ho2.out q hq⟩)
      have Hwi2 := Lib.hid hwi2
      clear ho hg ht hwi2 hz
      go_wp2
      go_roundw
      case rel => exact ⟨j + 1, by omega, by go_num, s + x.length, by go_num, by rw [sumBy_snoc (fun r : List Int => (r.length : Int)) Hx.out, ← Hs.out], by omega, Ht.out, Hwi2.out⟩
      case measure => simp [intOf]; omega
    · go_wp2
      go_ret
      have := Hn.out
      rw [List.take_of_length_le (by omega)] at hs
      rw [List.take_of_length_le (by omega), List.drop_of_length_le (by omega), List.append_nil] at hw
      exact ⟨ret_int (by rw [hs]), hw, hwi⟩
end Go.Proofs.YtfieilbcdhbigaaGreatDoor
namespace Go.Proofs.YtfieilbcdhbigaaGreatDoor
open Go.ChangeShapes Go.WideShapes Go.ChangeAt Go.RowKit
set_option linter.unusedVariables false
set_option maxRecDepth 100000
structure FieldT where
  ff : Int
  ft : Int
abbrev vField (x : FieldT) : Value := .agg #[.int .i64 x.ff, .int .i64 x.ft]
abbrev lField (x : FieldT) : Value := .agg #[.int .i64 x.ff, .int .i64 x.ft]
def okField (x : FieldT) : Prop := (-9223372036854775808 ≤ x.ff ∧ x.ff ≤ 9223372036854775807) ∧ (-9223372036854775808 ≤ x.ft ∧ x.ft ≤ 9223372036854775807)
def eField : Elt FieldT := { sz := 2, cells := fun x => [.int .i64 x.ff, .int .i64 x.ft], ok := okField, len := fun _ => rfl, one := fun x u hu => by simp at hu; rcases hu with rfl | rfl <;> rfl }
def zField : FieldT := ⟨0, 0⟩
theorem ok_zField : okField zField := by unfold okField zField; exact ⟨⟨by decide, by decide⟩, ⟨by decide, by decide⟩⟩
abbrev RdFieldS (B : Nat) (w : World) (v : Value) (x : List FieldT) : Prop := Rds eField B w v x
abbrev OwnFieldS (base : Nat) (w : World) (v : Value) (x : List FieldT) : Prop := Own eField 70 base w v x
abbrev OwnTFieldS (base top : Nat) (w : World) (v : Value) (x : List FieldT) : Prop := OwnT eField 70 base top w v x
def szField (x : FieldT) : Int := 0
theorem szField_nonneg (x : FieldT) : 0 ≤ szField x := by unfold szField; omega
def szFieldS (x : List FieldT) : Int := x.length + sumBy szField x
theorem szFieldS_nonneg (x : List FieldT) : 0 ≤ szFieldS x := by unfold szFieldS; have := sumBy_nonneg szField_nonneg x; omega
def cntFieldS (x : List FieldT) : Nat := 2 * x.length
theorem cntFieldS_le (x : List FieldT) : (cntFieldS x : Int) ≤ 16 * szFieldS x := by unfold szFieldS cntFieldS; have := sumBy_nonneg szField_nonneg x; omega
theorem szFieldS_len (x : List FieldT) : (x.length : Int) ≤ szFieldS x := by unfold szFieldS; have := sumBy_nonneg szField_nonneg x; omega
theorem eField_open {w : World} {B : Nat} {v : Value} {xs : List FieldT} (h : Rds eField B w v xs) : ∃ ao cap, v = .slice ao xs.length cap ∧
    (0 < xs.length → ∃ b off, ao = some ⟨b, off, none⟩ ∧ (b < B ∧ b < w.heap.size) ∧ ∀ k, k < xs.length → ∃ x, xs[k]? = some x ∧ (w.cell? ⟨b, off + k * 2, none⟩ = some (.int .i64 x.ff) ∧ w.cell? ⟨b, off + k * 2 + 1, none⟩ = some (.int .i64 x.ft)) ∧ okField x) := by
  rcases Rds.cases h with ⟨rfl, ao, cap, rfl, _⟩ | ⟨b, off, cap, rfl, hlt, hc⟩
  · exact ⟨ao, cap, rfl, fun h => absurd h (by simp)⟩
  · refine ⟨_, cap, rfl, fun _ => ⟨b, off, rfl, hlt, fun k hk => ?_⟩⟩
    obtain ⟨h1, h2⟩ := hc k xs[k] (by simp [hk])
    refine ⟨xs[k], by simp [hk], ⟨?_, ?_⟩, h1⟩
    · exact h2 0 (by decide)
    · have := h2 1 (by decide); rw [← Nat.add_assoc] at this; exact this
theorem toField_c (w : World) {x : FieldT} (a : okField x) :
    Calls Tryz.prog 93 #[lField x] w fun e w' => e = .returned (vField x) ∧ Below w.heap.size w w' := by
  clear a
  go_enter Tryz.func93, Tryz.ntmps93
  go_wp2
  exact bodyPost_ret (v := vField x) (by simp [results, Tryz.results93, go_sem]) rfl ⟨rfl, (((Below.refl _ _).alloc (Nat.le_refl _) _).alloc (by simp) _).alloc (by simp; omega) _⟩
theorem eqField_c (w : World) (x : FieldT) :
    Calls Tryz.prog 103 #[vField x, vField x] w fun e w' => e = .returned (.bool true) ∧ Below w.heap.size w w' := by
  go_enter Tryz.func103, Tryz.ntmps103
  go_wp2
  go_ret
  exact ⟨rfl, ((Below.refl _ _).alloc (Nat.le_refl _) _).alloc (by simp) _⟩
theorem openField {H : Type} {enc : TypeId × Value → H} {w : World} {r : Reach} {b0 : Nat} {v : Value} {d : DataW H} {ps : List MemPlace} (hok : Value.okWide Tryz.prog w r b0 105 v)
    (h : DataW.Trod enc Tryz.prog w 0 (fun _ => true) true 105 v d ps) : ∃ x, v = lField x ∧ okField x := by
  obtain ⟨v0, v1, y0, y1, n, rfl, _, _, ht0, ht1⟩ := Go.Joins.open_agg2 Tryz.underlying105 (by kernel_rfl) (by kernel_rfl) hok h
  obtain ⟨a0, rfl, b0⟩ := trodI Tryz.underlying2 ht0
  obtain ⟨a1, rfl, b1⟩ := trodI Tryz.underlying2 ht1
  exact ⟨⟨a0, a1⟩, rfl, b0, b1⟩
structure ItemT where
  nm : ByteArray
  kd : Int
  ff : Int
  ft : Int
abbrev vItem (x : ItemT) : Value := .agg #[.string x.nm, .int .i64 x.kd, .int .i64 x.ff, .int .i64 x.ft]
abbrev lItem (x : ItemT) : Value := .agg #[.string x.nm, .int .i64 x.kd, .int .i64 x.ff, .int .i64 x.ft]
def okItem (x : ItemT) : Prop := x.nm.size ≤ 9223372036854775807 ∧ (-9223372036854775808 ≤ x.kd ∧ x.kd ≤ 9223372036854775807) ∧ (-9223372036854775808 ≤ x.ff ∧ x.ff ≤ 9223372036854775807) ∧ (-9223372036854775808 ≤ x.ft ∧ x.ft ≤ 9223372036854775807)
def eItem : Elt ItemT := { sz := 4, cells := fun x => [.string x.nm, .int .i64 x.kd, .int .i64 x.ff, .int .i64 x.ft], ok := okItem, len := fun _ => rfl, one := fun x u hu => by simp at hu; rcases hu with rfl | rfl | rfl | rfl <;> rfl }
def zItem : ItemT := ⟨⟨#[]⟩, 0, 0, 0⟩
theorem ok_zItem : okItem zItem := by unfold okItem zItem; exact ⟨Nat.zero_le _, ⟨by decide, by decide⟩, ⟨by decide, by decide⟩, ⟨by decide, by decide⟩⟩
abbrev RdItemS (B : Nat) (w : World) (v : Value) (x : List ItemT) : Prop := Rds eItem B w v x
abbrev OwnItemS (base : Nat) (w : World) (v : Value) (x : List ItemT) : Prop := Own eItem 72 base w v x
abbrev OwnTItemS (base top : Nat) (w : World) (v : Value) (x : List ItemT) : Prop := OwnT eItem 72 base top w v x
def szItem (x : ItemT) : Int := (x.nm.size : Int)
theorem szItem_nonneg (x : ItemT) : 0 ≤ szItem x := by unfold szItem; omega
def szItemS (x : List ItemT) : Int := x.length + sumBy szItem x
theorem szItemS_nonneg (x : List ItemT) : 0 ≤ szItemS x := by unfold szItemS; have := sumBy_nonneg szItem_nonneg x; omega
def cntItemS (x : List ItemT) : Nat := 4 * x.length
theorem cntItemS_le (x : List ItemT) : (cntItemS x : Int) ≤ 16 * szItemS x := by unfold szItemS cntItemS; have := sumBy_nonneg szItem_nonneg x; omega
theorem szItemS_len (x : List ItemT) : (x.length : Int) ≤ szItemS x := by unfold szItemS; have := sumBy_nonneg szItem_nonneg x; omega
theorem eItem_open {w : World} {B : Nat} {v : Value} {xs : List ItemT} (h : Rds eItem B w v xs) : ∃ ao cap, v = .slice ao xs.length cap ∧
    (0 < xs.length → ∃ b off, ao = some ⟨b, off, none⟩ ∧ (b < B ∧ b < w.heap.size) ∧ ∀ k, k < xs.length → ∃ x, xs[k]? = some x ∧ (w.cell? ⟨b, off + k * 4, none⟩ = some (.string x.nm) ∧ w.cell? ⟨b, off + k * 4 + 1, none⟩ = some (.int .i64 x.kd) ∧ w.cell? ⟨b, off + k * 4 + 2, none⟩ = some (.int .i64 x.ff) ∧ w.cell? ⟨b, off + k * 4 + 3, none⟩ = some (.int .i64 x.ft)) ∧ okItem x) := by
  rcases Rds.cases h with ⟨rfl, ao, cap, rfl, _⟩ | ⟨b, off, cap, rfl, hlt, hc⟩
  · exact ⟨ao, cap, rfl, fun h => absurd h (by simp)⟩
  · refine ⟨_, cap, rfl, fun _ => ⟨b, off, rfl, hlt, fun k hk => ?_⟩⟩
    obtain ⟨h1, h2⟩ := hc k xs[k] (by simp [hk])
    refine ⟨xs[k], by simp [hk], ⟨?_, ?_, ?_, ?_⟩, h1⟩
    · exact h2 0 (by decide)
    · have := h2 1 (by decide); rw [← Nat.add_assoc] at this; exact this
    · have := h2 2 (by decide); rw [← Nat.add_assoc] at this; exact this
    · have := h2 3 (by decide); rw [← Nat.add_assoc] at this; exact this
theorem toItem_c (w : World) {x : ItemT} (a : okItem x) :
    Calls Tryz.prog 67 #[lItem x] w fun e w' => e = .returned (vItem x) ∧ Below w.heap.size w w' := by
  have Ha := Lib.hid a
  clear a
  go_enter Tryz.func67, Tryz.ntmps67
  go_wp2_with fail
  with_reducible refine (toField_c _ (x := ⟨x.ff, x.ft⟩) (by have h := Ha.out; unfold okItem at h; unfold okField; exact ⟨h.2.2.1, h.2.2.2⟩)).mono ?_
  rintro e w1 ⟨rfl, hb1⟩
  have hB1 := ((((Below.refl _ _).alloc (Nat.le_refl _) _).alloc (by simp) _).alloc (by simp; omega) _).trans (hb1.mono (by simp; omega))
  have HB1 := Lib.hid hB1
  have hz1_0 : w.heap.size < w1.heap.size := by have := hb1.size; (try simp at this); (try have := HB1.out.size); omega
  have hz1_1 : w.heap.size + 1 < w1.heap.size := by have := hb1.size; (try simp at this); (try have := HB1.out.size); omega
  have hz1_2 : w.heap.size + 1 + 1 < w1.heap.size := by have := hb1.size; (try simp at this); (try have := HB1.out.size); omega
  obtain ⟨hc1, hf1⟩ := bcell hb1
  clear hb1 hB1
  go_wp2
  exact bodyPost_ret (v := vItem x) (by simp [results, Tryz.results67, go_sem, hc1]) rfl ⟨rfl, (below_run (a := 0) (g := w.heap.size + 1 + 1) (by omega) [.int .i64 x.ff, .int .i64 x.ft] _ 2 HB1.out).run (g := w.heap.size + 1) (by omega) [_, _, _, _]⟩
theorem eqItem_c (w : World) (x : ItemT) :
    Calls Tryz.prog 73 #[vItem x, vItem x] w fun e w' => e = .returned (.bool true) ∧ Below w.heap.size w w' := by
  go_enter Tryz.func73, Tryz.ntmps73
  go_wp2_with fail
  with_reducible refine (eqField_c _ ⟨x.ff, x.ft⟩).mono ?_
  rintro e w1 ⟨rfl, hb1⟩
  have hB1 := (((Below.refl _ _).alloc (Nat.le_refl _) _).alloc (by simp) _).trans (hb1.mono (by simp; omega))
  have HB1 := Lib.hid hB1
  have hz1_0 : w.heap.size < w1.heap.size := by have h9 := hb1.size; (try simp at h9); omega
  have hz1_1 : w.heap.size + 1 < w1.heap.size := by have h9 := hb1.size; (try simp at h9); omega
  obtain ⟨hc1, hf1⟩ := bcell hb1
  clear hb1 hB1
  go_wp2
  go_ret
  exact ⟨rfl, HB1.out⟩
theorem szItem_c (w : World) {x : ItemT} {left : Int} (a : okItem x) (h1 : left ≤ 1048576) (h2 : szItem x ≤ left) :
    Calls Tryz.prog 61 #[lItem x, .int .i64 left] w fun e w' => e = .returned (.int .i64 (left - szItem x)) ∧ Below w.heap.size w w' := by
  unfold szItem at *
  clear a
  go_enter Tryz.func61, Tryz.ntmps61
  go_wp2
  go_ret
  exact ⟨rfl, (Below.refl _ _).alloc (Nat.le_refl _) _⟩
theorem szItem_no (w : World) {x : ItemT} {left : Int} (a : okItem x) (h0 : 0 ≤ left ∧ left ≤ 1048576) (h2 : ¬ szItem x ≤ left) :
    Calls Tryz.prog 61 #[lItem x, .int .i64 left] w fun e w' => e = .returned (.int .i64 (-1)) ∧ Below w.heap.size w w' := by
  unfold szItem at *
  have hs : (x.nm.size : Int) ≤ 9223372036854775807 := by have h := a; unfold okItem at h; omega
  clear a
  go_enter Tryz.func61, Tryz.ntmps61
  go_wp2
  go_ret
  exact ⟨rfl, (Below.refl _ _).alloc (Nat.le_refl _) _⟩
theorem szItemS_c {w : World} {A : Nat} {xs : List ItemT} {v : Value} {left : Int} (ha : RdItemS A w v xs) (h1 : left ≤ 1048576) (h2 : szItemS xs ≤ left) :
    Calls Tryz.prog 30 #[v, .int .i64 left] w fun e w' => e = .returned (.int .i64 (left - szItemS xs)) ∧ Below w.heap.size w w' := by
  have hle := ha.le
  have hok := ha.2
  obtain ⟨ao, cap, rfl, ho⟩ := eItem_open ha
  obtain ⟨n, hn⟩ : ∃ n, n = xs.length := ⟨_, rfl⟩
  rw [← hn]
  have Hn := Lib.hid hn
  have Ho := Lib.hid ho
  have Hok := Lib.hid hok
  have hle' : n ≤ 9223372036854775807 := by omega
  clear hok ho hn hle ha
  have h2' : n + sumBy szItem xs ≤ left := by have := Hn.out; unfold szItemS at h2; omega
  have h3 := sumBy_nonneg szItem_nonneg xs
  have H2 := Lib.hid h2
  clear h2
  go_enter Tryz.func30, Tryz.ntmps30
  go_wp2
  go_loopw [1, 5] (fun l i wr => ∃ k : Nat, k ≤ n ∧ i = .int .i64 k ∧ ∃ lf : Int, l = .int .i64 lf ∧ (lf ≤ 1048576 ∧ 0 ≤ lf) ∧ Hid (lf = left - n - sumBy szItem (xs.take k)) ∧ Below w.heap.size w wr) (fun _ i _ => n - (intOf i).toNat)
  case atStart => exact ⟨0, Nat.zero_le _, rfl, left - n, rfl, by omega, by show left - n = _; simp [sumBy], Below.refl _ _⟩
  case round =>
    obtain ⟨k, hk, rfl, lf, rfl, ⟨hl1, hl2⟩, hlf, hbb⟩ := hrel
    by_cases hkn : k < n
    · obtain ⟨b, off, rfl, hlt, hc⟩ := Ho.out (by have := Hn.out; omega)
      obtain ⟨x, hx, ⟨c0, c1, c2, c3⟩, bx⟩ := hc k (by have := Hn.out; omega)
      have Hx := Lib.hid hx
      have Hbx := Lib.hid bx
      clear hx hc bx
      have d0 := (hbb.cell (p := ⟨b, off + k * 4, none⟩) hlt.2).trans c0
      have d1 := (hbb.cell (p := ⟨b, off + k * 4 + 1, none⟩) hlt.2).trans c1
      have d2 := (hbb.cell (p := ⟨b, off + k * 4 + 2, none⟩) hlt.2).trans c2
      have d3 := (hbb.cell (p := ⟨b, off + k * 4 + 3, none⟩) hlt.2).trans c3
      have D0 := Lib.hid c0
      have D1 := Lib.hid c1
      have D2 := Lib.hid c2
      have D3 := Lib.hid c3
      clear c0 c1 c2 c3
      have hx0 := szItem_nonneg x
      have hf : szItem x ≤ lf := by rw [hlf.out]; have h4 := sumBy_snoc szItem Hx.out; have h5 := sumBy_take_le szItem_nonneg xs (k + 1); omega
      go_wp2_with fail
      with_reducible refine (szItem_c wr (x := x) Hbx.out hl1 hf).mono ?_
      rintro e w1 ⟨rfl, hb1⟩
      have hbb1 : Below w.heap.size w w1 := hbb.trans (hb1.mono hbb.size)
      clear hb1 hbb d0 d1 d2 d3
      go_wp2
      go_roundw
      case rel => exact ⟨k + 1, by omega, by go_num, lf - szItem x, rfl, by omega, by show lf - szItem x = _; rw [sumBy_snoc szItem Hx.out, hlf.out]; omega, hbb1⟩
      case measure => simp [intOf]; omega
    · go_wp2
      go_ret
      refine ⟨ret_int ?_, hbb⟩
      rw [hlf.out, List.take_of_length_le (by have := Hn.out; omega)]; unfold szItemS; have := Hn.out; omega
theorem szItemS_no {w : World} {A : Nat} {xs : List ItemT} {v : Value} {left : Int} (ha : RdItemS A w v xs) (h0 : 0 ≤ left ∧ left ≤ 1048576) (h2 : ¬ szItemS xs ≤ left) :
    Calls Tryz.prog 30 #[v, .int .i64 left] w fun e w' => e = .returned (.int .i64 (-1)) ∧ Below w.heap.size w w' := by
  have h1 := h0.2
  have h00 := h0.1
  have hle := ha.le
  have hok := ha.2
  obtain ⟨ao, cap, rfl, ho⟩ := eItem_open ha
  obtain ⟨n, hn⟩ : ∃ n, n = xs.length := ⟨_, rfl⟩
  rw [← hn]
  have Hn := Lib.hid hn
  have Ho := Lib.hid ho
  have Hok := Lib.hid hok
  have hle' : n ≤ 9223372036854775807 := by omega
  clear hok ho hn hle ha
  have h2' : ¬ n + sumBy szItem xs ≤ left := by have := Hn.out; unfold szItemS at h2; omega
  have H2 := Lib.hid h2
  have H2' := Lib.hid h2'
  clear h2 h0 h2'
  by_cases hb : left < n
  · clear H2'
    go_enter Tryz.func30, Tryz.ntmps30
    go_wp2
    go_ret
    exact ⟨rfl, Below.refl _ _⟩
  go_enter Tryz.func30, Tryz.ntmps30
  go_wp2
  go_loopw [1, 5] (fun l i wr => ∃ k : Nat, k ≤ n ∧ i = .int .i64 k ∧ ∃ lf : Int, l = .int .i64 lf ∧ (lf ≤ 1048576 ∧ 0 ≤ lf) ∧ Hid (lf = left - n - sumBy szItem (xs.take k)) ∧ Below w.heap.size w wr) (fun _ i _ => n - (intOf i).toNat)
  case atStart => exact ⟨0, Nat.zero_le _, rfl, left - n, rfl, by omega, by show left - n = _; simp [sumBy], Below.refl _ _⟩
  case round =>
    obtain ⟨k, hk, rfl, lf, rfl, ⟨hl1, hl2⟩, hlf, hbb⟩ := hrel
    by_cases hkn : k < n
    · obtain ⟨b, off, rfl, hlt, hc⟩ := Ho.out (by have := Hn.out; omega)
      obtain ⟨x, hx, ⟨c0, c1, c2, c3⟩, bx⟩ := hc k (by have := Hn.out; omega)
      have Hx := Lib.hid hx
      have Hbx := Lib.hid bx
      clear hx hc bx
      have d0 := (hbb.cell (p := ⟨b, off + k * 4, none⟩) hlt.2).trans c0
      have d1 := (hbb.cell (p := ⟨b, off + k * 4 + 1, none⟩) hlt.2).trans c1
      have d2 := (hbb.cell (p := ⟨b, off + k * 4 + 2, none⟩) hlt.2).trans c2
      have d3 := (hbb.cell (p := ⟨b, off + k * 4 + 3, none⟩) hlt.2).trans c3
      have D0 := Lib.hid c0
      have D1 := Lib.hid c1
      have D2 := Lib.hid c2
      have D3 := Lib.hid c3
      clear c0 c1 c2 c3
      have hx0 := szItem_nonneg x
      by_cases hf : szItem x ≤ lf
      · go_wp2_with fail
        with_reducible refine (szItem_c wr (x := x) Hbx.out hl1 hf).mono ?_
        rintro e w1 ⟨rfl, hb1⟩
        have hbb1 : Below w.heap.size w w1 := hbb.trans (hb1.mono hbb.size)
        clear hb1 hbb d0 d1 d2 d3
        go_wp2
        go_roundw
        case rel => exact ⟨k + 1, by omega, by go_num, lf - szItem x, rfl, by omega, by show lf - szItem x = _; rw [sumBy_snoc szItem Hx.out, hlf.out]; omega, hbb1⟩
        case measure => simp [intOf]; omega
      · go_wp2_with fail
        with_reducible refine (szItem_no wr (x := x) Hbx.out ⟨hl2, hl1⟩ (by omega)).mono ?_
        rintro e w1 ⟨rfl, hb1⟩
        have hbb1 : Below w.heap.size w w1 := hbb.trans (hb1.mono hbb.size)
        clear hb1 hbb d0 d1 d2 d3
        go_wp2
        go_ret
        exact ⟨rfl, hbb1⟩
    · exfalso
      have h6 := hlf.out
      rw [List.take_of_length_le (by have := Hn.out; omega)] at h6
      have := H2'.out
      omega
theorem Tryz.infoItem : (Tryz.prog.info? 72).map (fun i => (i.zero, i.size, i.bytes)) = some (some (vItem zItem), 4, 40) := by kernel_rfl
theorem toItemS_c {w : World} {A : Nat} {xs : List ItemT} {v : Value} (ha : RdItemS A w v xs) (hl : szItemS xs ≤ 1048576) :
    Calls Tryz.prog 34 #[v] w fun e w' => ∃ u, e = .returned u ∧ OwnItemS w.heap.size w' u xs ∧ Below w.heap.size w w' := by
  have hl2 : xs.length ≤ 1048576 := by have := szItemS_len xs; omega
  have hle := ha.le
  have hok := ha.2
  obtain ⟨ao, cap, rfl, ho⟩ := eItem_open ha
  obtain ⟨n, hn⟩ : ∃ n, n = xs.length := ⟨_, rfl⟩
  rw [← hn]
  have Hn := Lib.hid hn
  have Ho := Lib.hid ho
  have Hok := Lib.hid hok
  have hle' : n ≤ 9223372036854775807 := by omega
  clear hok ho hn hle ha
  have hn2 : n ≤ 1048576 := by have := Hn.out; omega
  obtain ⟨i0, hi, hz0, hz1, hz2⟩ := info_parts Tryz.infoItem
  clear hl hl2 hle'
  go_enter Tryz.func34, Tryz.ntmps34
  go_wp2_with (first | (at_make; refine wpList_make_full _ rfl _ _ 30 rfl w.heap.size 72 i0 (vItem zItem) 4 Tryz.underlying30 hi hz0 hz1 _ _ _ _ n rfl rfl rfl rfl ?b1 ?b2 (Nat.le_refl _) ?_))
  case b1 => first | omega | (rw [hz2]; omega)
  case b2 => unfold maxLen; omega
  intro w1 hown hgr
  have hb1 : Below w.heap.size w w1 := (Below.refl _ _).grown hgr (Nat.le_refl _) (fun k hk => by cases hk)
  have hown0 : OwnItemS w.heap.size w1 (.slice (some ⟨w.heap.size, 0, none⟩) n n) (xs.take 0 ++ List.replicate (n - 0) zItem) := by
    refine ⟨?_, fun x hx => ?_⟩
    · have hown2 : w1.ownsRow w.heap.size 72 eItem.sz (.slice (some ⟨w.heap.size, 0, none⟩) n n) n (madeCells (vItem zItem).cells (n * eItem.sz)).toList := hown
      rw [Elt.all_made (E := eItem) (z := zItem) (zv := vItem zItem) (by decide) rfl n] at hown2; simpa using hown2
    · simp at hx; obtain ⟨_, rfl⟩ := hx; exact ok_zItem
  have hs1 : w.heap.size < w1.heap.size := (hown0.lt _ rfl).2
  clear hown hgr
  go_wp2
  go_loopw [4] (fun i wr => ∃ k : Nat, k ≤ n ∧ i = .int .i64 k ∧ OwnItemS w.heap.size wr (.slice (some ⟨w.heap.size, 0, none⟩) n n) (xs.take k ++ List.replicate (n - k) zItem) ∧ Below w.heap.size w wr) (fun i _ => n - (intOf i).toNat)
  case atStart => exact ⟨0, Nat.zero_le _, rfl, hown0, hb1⟩
  case round =>
    obtain ⟨k, hk, rfl, hw, hb⟩ := hrel
    by_cases hkn : k < n
    · obtain ⟨b, off, rfl, hlt, hc⟩ := Ho.out (by have := Hn.out; omega)
      obtain ⟨x, hx, ⟨c0, c1, c2, c3⟩, bx⟩ := hc k (by have := Hn.out; omega)
      have Hx := Lib.hid hx
      have Hbx := Lib.hid bx
      clear hx hc bx hb1 hown0
      have d0 := (hb.cell (p := ⟨b, off + k * 4, none⟩) hlt.2).trans c0
      have d1 := (hb.cell (p := ⟨b, off + k * 4 + 1, none⟩) hlt.2).trans c1
      have d2 := (hb.cell (p := ⟨b, off + k * 4 + 2, none⟩) hlt.2).trans c2
      have d3 := (hb.cell (p := ⟨b, off + k * 4 + 3, none⟩) hlt.2).trans c3
      clear c0 c1 c2 c3
      go_wp2_with fail
      with_reducible refine (toItem_c wr (x := x) Hbx.out).mono ?_
      rintro e w2 ⟨rfl, hb2⟩
      have hw2 := hw.below hb2 (Nat.le_refl _)
      have hb3 : Below w.heap.size w w2 := hb.trans (hb2.mono hb.size)
      have hlen : n = (xs.take k ++ List.replicate (n - k) zItem).length := by have := Hn.out; simp; omega
      have hst := Own.storeE (E := eItem) (by decide) hw2 hlen hkn Hbx.out
      obtain ⟨⟨y0, hy0⟩, hf0⟩ := Own.cellE (E := eItem) hw2 hlen (k := k) (j := 0) hkn (by decide)
      obtain ⟨⟨y1, hy1⟩, hf1⟩ := Own.cellE (E := eItem) hw2 hlen (k := k) (j := 1) hkn (by decide)
      obtain ⟨⟨y2, hy2⟩, hf2⟩ := Own.cellE (E := eItem) hw2 hlen (k := k) (j := 2) hkn (by decide)
      obtain ⟨⟨y3, hy3⟩, hf3⟩ := Own.cellE (E := eItem) hw2 hlen (k := k) (j := 3) hkn (by decide)
      simp only [show eItem.sz = 4 from rfl, Nat.add_zero] at hy0 hf0 hy1 hf1 hy2 hf2 hy3 hf3
      have Hst := Lib.hid hst
      have Hb3 := Lib.hid hb3
      clear hst hlen hb hb2 hw hw2 hb3 d0 d1 d2 d3
      go_wp2
      go_roundw
      case rel => exact ⟨k + 1, by omega, by go_num, by have h := Hst.out.1; rw [set_take_repl Hx.out Hn.out hkn] at h; exact h, ((((Hb3.out).setCell (Nat.le_refl _) _).setCell (Nat.le_refl _) _).setCell (Nat.le_refl _) _).setCell (Nat.le_refl _) _⟩
      case measure => simp [intOf]; omega
    · go_wp2
      go_ret
      refine ⟨_, rfl, ?_, hb⟩
      have := Hn.out
      rw [List.take_of_length_le (by omega), show n - k = 0 by omega] at hw
      simpa using hw
theorem eqItemS_c {xs : List ItemT} {va vb : Value} {w : World} {A B : Nat} (ha : RdItemS A w va xs) (hb : RdItemS B w vb xs) :
    Calls Tryz.prog 38 #[va, vb] w fun e w' => e = .returned (.bool true) ∧ Below w.heap.size w w' := by
  obtain ⟨bo, bcap, rfl, hob⟩ := eItem_open hb
  have Hob := Lib.hid hob
  clear hob hb
  have hle := ha.le
  have hok := ha.2
  obtain ⟨ao, cap, rfl, ho⟩ := eItem_open ha
  obtain ⟨n, hn⟩ : ∃ n, n = xs.length := ⟨_, rfl⟩
  rw [← hn]
  have Hn := Lib.hid hn
  have Ho := Lib.hid ho
  have Hok := Lib.hid hok
  have hle' : n ≤ 9223372036854775807 := by omega
  clear hok ho hn hle ha
  go_enter Tryz.func38, Tryz.ntmps38
  go_wp2
  go_loopw [5] (fun i wr => ∃ k : Nat, k ≤ n ∧ i = .int .i64 k ∧ Below w.heap.size w wr) (fun i _ => n - (intOf i).toNat)
  case atStart => exact ⟨0, Nat.zero_le _, rfl, Below.refl _ _⟩
  case round =>
    obtain ⟨k, hk, rfl, hbb⟩ := hrel
    by_cases hkn : k < n
    · obtain ⟨b, off, rfl, hlt, hc⟩ := Ho.out (by have := Hn.out; omega)
      obtain ⟨x, hx, ⟨c0, c1, c2, c3⟩, bx⟩ := hc k (by have := Hn.out; omega)
      have Hx := Lib.hid hx
      have d0 := (hbb.cell (p := ⟨b, off + k * 4, none⟩) hlt.2).trans c0
      have d1 := (hbb.cell (p := ⟨b, off + k * 4 + 1, none⟩) hlt.2).trans c1
      have d2 := (hbb.cell (p := ⟨b, off + k * 4 + 2, none⟩) hlt.2).trans c2
      have d3 := (hbb.cell (p := ⟨b, off + k * 4 + 3, none⟩) hlt.2).trans c3
      clear hx hc bx c0 c1 c2 c3
      obtain ⟨b2, off2, rfl, hlt2, hc⟩ := Hob.out (by have := Hn.out; omega)
      obtain ⟨x2, hx2, ⟨c0, c1, c2, c3⟩, bx⟩ := hc k (by have := Hn.out; omega)
      obtain rfl : x = x2 := Option.some.inj (Hx.out.symm.trans hx2)
      have f0 := (hbb.cell (p := ⟨b2, off2 + k * 4, none⟩) hlt2.2).trans c0
      have f1 := (hbb.cell (p := ⟨b2, off2 + k * 4 + 1, none⟩) hlt2.2).trans c1
      have f2 := (hbb.cell (p := ⟨b2, off2 + k * 4 + 2, none⟩) hlt2.2).trans c2
      have f3 := (hbb.cell (p := ⟨b2, off2 + k * 4 + 3, none⟩) hlt2.2).trans c3
      clear hx2 hc bx c0 c1 c2 c3
      go_wp2_with fail
      go_still_tail 8, (by kernel_rfl)
      change wpList _ _ _ _ _ wr.drew
      have hbd : Below w.heap.size w wr.drew := ⟨hbb.os, hbb.tape, hbb.output, hbb.size, hbb.block⟩
      clear hbb d0 f0 d1 f1 d2 f2 d3 f3
      generalize wr.drew = w2 at hbd ⊢
      go_wp2_with fail
      with_reducible refine (eqItem_c w2 x).mono ?_
      rintro e w3 ⟨rfl, hb3⟩
      have hbb1 : Below w.heap.size w w3 := hbd.trans (hb3.mono hbd.size)
      clear hb3 hbd
      go_wp2
      go_roundw
      case rel => exact ⟨k + 1, by omega, by go_num, hbb1⟩
      case measure => simp [intOf]; omega
    · go_wp2
      go_ret
      exact ⟨rfl, hbb⟩
theorem openFItemS {H : Type} {enc : TypeId × Value → H} {w : World} {v : Value} {fuel : Nat} {y : DataW H × List MemPlace} (h : DataW.trod enc Tryz.prog w 0 (fun _ => true) true fuel 22 [v] = some y) : ∃ xs, RdItemS w.heap.size w v xs := by
  refine open_rdF (E := eItem) (e := 107) Tryz.underlying22 (by kernel_rfl) (fun n cs y hl hf => ?_) (by decide) h
  match cs, hl with
  | [e0, e1, e2, e3], _ =>
    obtain ⟨n1, hq⟩ := trod_fields Tryz.underlying107 [(9, 0, 1), (2, 1, 1), (105, 2, 2)] (by kernel_rfl) hf
    obtain ⟨z0, t0⟩ := hq 0 _ _ _ rfl
    obtain ⟨a0, ha0, b0⟩ := trodS (v := e0) Tryz.underlying9 t0
    subst ha0
    obtain ⟨z1, t1⟩ := hq 1 _ _ _ rfl
    obtain ⟨a1, ha1, b1⟩ := trodI (v := e1) Tryz.underlying2 t1
    subst ha1
    obtain ⟨z2, t2⟩ := hq 2 _ _ _ rfl
    obtain ⟨n4, hq2⟩ := trod_fields (cs := [e2, e3]) Tryz.underlying105 [(2, 0, 1), (2, 1, 1)] (by kernel_rfl) t2
    obtain ⟨z2_0, t2_0⟩ := hq2 0 _ _ _ rfl
    obtain ⟨a2, ha2, b2⟩ := trodI (v := e2) Tryz.underlying2 t2_0
    subst ha2
    obtain ⟨z2_1, t2_1⟩ := hq2 1 _ _ _ rfl
    obtain ⟨a3, ha3, b3⟩ := trodI (v := e3) Tryz.underlying2 t2_1
    subst ha3
    exact ⟨⟨a0, a1, a2, a3⟩, rfl, b0, b1, b2, b3⟩
theorem openItemS {H : Type} {enc : TypeId × Value → H} {w : World} {r : Reach} {b0 : Nat} {v : Value} {d : DataW H} {ps : List MemPlace} (hok : Value.okWide Tryz.prog w r b0 22 v)
    (h : DataW.Trod enc Tryz.prog w 0 (fun _ => true) true 22 v d ps) : ∃ xs, RdItemS w.heap.size w v xs := by
  obtain ⟨a, len, cap, rfl⟩ := okWide_slice Tryz.underlying22 hok
  obtain ⟨fuel, hf⟩ := h
  exact openFItemS hf
theorem szLayout_c {w : World} {A : Nat} {xs : List ItemT} {v : Value} {wd left : Int} (ha : RdItemS A w v xs) (h1 : left ≤ 1048576) (h2 : szItemS xs ≤ left) :
    Calls Tryz.prog 6 #[.agg #[.int .i64 wd, v], .int .i64 left] w fun e w' => e = .returned (.int .i64 (left - szItemS xs)) ∧ Below w.heap.size w w' := by
  have h3 := szItemS_nonneg xs
  have hb0 : Below w.heap.size w (w.alloc (.cells #[.int .i64 wd, v] 24)) := (Below.refl _ _).alloc (Nat.le_refl _) _
  have Hb0 := Lib.hid hb0
  have Ha0 := Lib.hid (Rds.onn ha hb0)
  obtain ⟨ao, cap, rfl⟩ := ha.shape
  have H2 := Lib.hid h2
  have hl : ¬ left - szItemS xs < 0 := by omega
  clear ha hb0 h2
  go_enter Tryz.func6, Tryz.ntmps6
  go_wp2_with fail
  with_reducible refine (szItemS_c Ha0.out h1 H2.out).mono ?_
  rintro e w1 ⟨rfl, hb1⟩
  have hb2 := Hb0.out.trans (hb1.mono Hb0.out.size)
  clear hb1
  go_wp2
  go_ret
  exact ⟨rfl, hb2⟩
theorem szLayout_no {w : World} {A : Nat} {xs : List ItemT} {v : Value} {wd left : Int} (ha : RdItemS A w v xs) (h0 : 0 ≤ left ∧ left ≤ 1048576) (h2 : ¬ szItemS xs ≤ left) :
    Calls Tryz.prog 6 #[.agg #[.int .i64 wd, v], .int .i64 left] w fun e w' => e = .returned (.int .i64 (-1)) ∧ Below w.heap.size w w' := by
  have hb0 : Below w.heap.size w (w.alloc (.cells #[.int .i64 wd, v] 24)) := (Below.refl _ _).alloc (Nat.le_refl _) _
  have Hb0 := Lib.hid hb0
  have Ha0 := Lib.hid (Rds.onn ha hb0)
  obtain ⟨ao, cap, rfl⟩ := ha.shape
  have H2 := Lib.hid h2
  have H0 := Lib.hid h0
  clear ha hb0 h2 h0
  go_enter Tryz.func6, Tryz.ntmps6
  go_wp2_with fail
  with_reducible refine (szItemS_no Ha0.out H0.out (Int.not_le.2 H2.out)).mono ?_
  rintro e w1 ⟨rfl, hb1⟩
  have hb2 := Hb0.out.trans (hb1.mono Hb0.out.size)
  clear hb1
  go_wp2
  go_ret
  exact ⟨rfl, hb2⟩
theorem toLayout_c {w : World} {A : Nat} {xs : List ItemT} {v : Value} {wd : Int} (ha : RdItemS A w v xs) (hl : szItemS xs ≤ 1048576) :
    Calls Tryz.prog 9 #[.agg #[.int .i64 wd, v]] w fun e w' => ∃ u, e = .returned (.agg #[.int .i64 wd, u]) ∧ OwnItemS w.heap.size w' u xs ∧ Below w.heap.size w w' := by
  obtain ⟨W, hW⟩ : ∃ W, W = ((w.alloc (.cells #[.int .i64 wd, v] 24)).alloc (.cells #[.int .i64 0, .slice none 0 0] 32)).alloc (.cells #[.int .i64 wd, .slice none 0 0] 32) := ⟨_, rfl⟩
  have hs1 : (w.alloc (.cells #[.int .i64 wd, v] 24)).heap.size = w.heap.size + 1 := by simp
  have hs2 : ((w.alloc (.cells #[.int .i64 wd, v] 24)).alloc (.cells #[.int .i64 0, .slice none 0 0] 32)).heap.size = w.heap.size + 1 + 1 := by simp
  have hb0 : Below w.heap.size w W := by rw [hW]; exact (((Below.refl w.heap.size w).alloc (Nat.le_refl _) _).alloc (by simp) _).alloc (by simp; omega) _
  have hB1 : Box W (w.heap.size + 1) [.int .i64 0, .slice none 0 0] := by
    have h := (Box.new (w.alloc (.cells #[.int .i64 wd, v] 24)) [.int .i64 0, .slice none 0 0] 32).alloc (.cells #[.int .i64 wd, .slice none 0 0] 32)
    rw [hs1] at h
    rw [hW]; exact h
  have hB2 : Box W (w.heap.size + 1 + 1) [.int .i64 wd, .slice none 0 0] := by
    have h := Box.new ((w.alloc (.cells #[.int .i64 wd, v] 24)).alloc (.cells #[.int .i64 0, .slice none 0 0] 32)) [.int .i64 wd, .slice none 0 0] 32
    rw [hs2] at h
    rw [hW]; exact h
  have ha0 := Rds.onn ha hb0
  obtain ⟨ao, cap, rfl⟩ := ha.shape
  have Ha0 := Lib.hid ha0
  have Hb0 := Lib.hid hb0
  have HB1 := Lib.hid hB1
  have HB2 := Lib.hid hB2
  have HW := Lib.hid hW
  clear ha ha0 hb0 hB1 hB2 hW hs1 hs2
  go_enter Tryz.func9, Tryz.ntmps9
  go_wp2_with fail
  rw [← HW.out]
  with_reducible refine (toItemS_c Ha0.out hl).mono ?_
  rintro e w1 ⟨u, rfl, hu, hb1⟩
  have hx1 := HB1.out.on hb1
  have hx2 := HB2.out.on hb1
  have hl2 := HB2.out.lt
  have d1 := hx1.cell 0 _ rfl
  have f1 := hx1.free 0
  have d1' := hx1.cell 1 _ rfl
  have f1' := hx1.free 1
  have d2 := hx2.cell 0 _ rfl
  have d2' := hx2.cell 1 _ rfl
  have f2 := hx2.free 1
  obtain ⟨uo, uc, rfl⟩ := hu.shape
  have hlt := hu.lt
  have hsz := Hb0.out.size
  have hsw : w.heap.size + 1 + 1 < W.heap.size := hl2
  have hne2 : ∀ g, (Value.slice uo xs.length uc).ownBlock = some g → w.heap.size + 1 + 1 < g := fun g hg => by have := (hlt g hg).1; omega
  have hu1 := hu.kept (grown_setC w1 ⟨w.heap.size + 1 + 1, 1, none⟩ (.slice uo xs.length uc)) (.inr (fun h => by have h9 := hne2 _ h; simp only at h9; omega))
  have hu2 := hu1.kept (grown_setC _ ⟨w.heap.size + 1, 0, none⟩ (.int .i64 wd)) (.inr (fun h => by have h9 := hne2 _ h; simp only at h9; omega))
  have hu3 := hu2.kept (grown_setC _ ⟨w.heap.size + 1, 1, none⟩ (.slice uo xs.length uc)) (.inr (fun h => by have h9 := hne2 _ h; simp only at h9; omega))
  have Hu := Lib.hid (hu3.mono hsz)
  have hb2 := Hb0.out.trans (hb1.mono hsz)
  have Hb1 := Lib.hid (((hb2.setCell (p := ⟨w.heap.size + 1 + 1, 1, none⟩) (by show w.heap.size ≤ w.heap.size + 1 + 1; omega) (.slice uo xs.length uc)).setCell (p := ⟨w.heap.size + 1, 0, none⟩) (by show w.heap.size ≤ w.heap.size + 1; omega) (.int .i64 wd)).setCell (p := ⟨w.heap.size + 1, 1, none⟩) (by show w.heap.size ≤ w.heap.size + 1; omega) (.slice uo xs.length uc))
  have g0 := (((hx1.other (p := ⟨w.heap.size + 1 + 1, 1, none⟩) (by show w.heap.size + 1 + 1 ≠ w.heap.size + 1; omega) (.slice uo xs.length uc)).set1 (j := 0) (by simp) (.int .i64 wd)).set1 (j := 1) (by simp) (.slice uo xs.length uc))
  have g00 := g0.cell 0 (.int .i64 wd) rfl
  have g01 := g0.cell 1 (.slice uo xs.length uc) rfl
  clear hx1 hx2 hu hb1 hlt hu1 hu2 hu3 hb2 hne2 g0
  go_wp2
  exact bodyPost_ret (v := .agg #[.int .i64 wd, .slice uo xs.length uc]) (by simp [results, Tryz.results9, go_sem, g00, g01]) rfl ⟨_, rfl, Hu.out, Hb1.out⟩
theorem eqLayout_c {w : World} {A B : Nat} {xs : List ItemT} {v u : Value} {wd : Int} (ha : RdItemS A w v xs) (hb : RdItemS B w u xs) :
    Calls Tryz.prog 12 #[.agg #[.int .i64 wd, v], .agg #[.int .i64 wd, u]] w fun e w' => e = .returned (.bool true) ∧ Below w.heap.size w w' := by
  have hb0 : Below w.heap.size w ((w.alloc (.cells #[.int .i64 wd, v] 32)).alloc (.cells #[.int .i64 wd, u] 32)) := ((Below.refl _ _).alloc (Nat.le_refl _) _).alloc (by simp) _
  have Hb0 := Lib.hid hb0
  have Ha0 := Lib.hid (Rds.onn ha hb0)
  have Hu0 := Lib.hid (Rds.onn hb hb0)
  obtain ⟨ao, cap, rfl⟩ := ha.shape
  obtain ⟨bo, bcap, rfl⟩ := hb.shape
  clear ha hb hb0
  go_enter Tryz.func12, Tryz.ntmps12
  go_wp2_with fail
  with_reducible refine (eqItemS_c Ha0.out Hu0.out).mono ?_
  rintro e w1 ⟨rfl, hb1⟩
  have hb2 := Hb0.out.trans (hb1.mono Hb0.out.size)
  clear hb1
  go_wp2
  go_ret
  exact ⟨rfl, hb2⟩
theorem openLayout {H : Type} {enc : TypeId × Value → H} {w : World} {r : Reach} {b0 : Nat} {v : Value} {d : DataW H} {ps : List MemPlace} (hok : Value.okWide Tryz.prog w r b0 24 v)
    (h : DataW.Trod enc Tryz.prog w 0 (fun _ => true) true 24 v d ps) : ∃ (wd : Int) (u : Value) (xs : List ItemT), v = .agg #[.int .i64 wd, u] ∧ (-9223372036854775808 ≤ wd ∧ wd ≤ 9223372036854775807) ∧ RdItemS w.heap.size w u xs := by
  obtain ⟨cs, rfl, hsz⟩ := okWide_struct Tryz.underlying24 hok
  obtain ⟨c0, c1, rfl⟩ := Go.Joins.array2 (hsz.trans (by kernel_rfl))
  obtain ⟨fuel, hf⟩ := h
  obtain ⟨m, hq⟩ := trod_fields Tryz.underlying24 [(2, 0, 1), (22, 1, 1)] (by kernel_rfl) hf
  obtain ⟨z0, t0⟩ := hq 0 _ _ _ rfl
  obtain ⟨z1, t1⟩ := hq 1 _ _ _ rfl
  have t0' : DataW.trod enc Tryz.prog w 0 (fun _ => true) true m 2 [c0] = some z0 := t0
  have t1' : DataW.trod enc Tryz.prog w 0 (fun _ => true) true m 22 [c1] = some z1 := t1
  obtain ⟨a0, rfl, b0⟩ := trodI Tryz.underlying2 t0'
  obtain ⟨xs, hxs⟩ := openFItemS t1'
  exact ⟨a0, c1, xs, rfl, b0, hxs⟩
end Go.Proofs.YtfieilbcdhbigaaGreatDoor
namespace Go.Proofs.YtfieilbcdhbigaaGreatDoor
open Go.ChangeShapes Go.WideShapes Go.ChangeAt Go.RowKit
set_option linter.unusedVariables false
set_option maxRecDepth 100000
structure ItOk (x : ItemT) (w : Int) : Prop where
  nm : nameB x.nm = true
  ff : fieldP x.ff x.ft w
  kd : x.kd = 1 ∨ x.kd = 2 ∧ x.ft - x.ff ≤ 12
instance (x : ItemT) (w : Int) : Decidable (ItOk x w) :=
  decidable_of_iff (nameB x.nm = true ∧ fieldP x.ff x.ft w ∧ (x.kd = 1 ∨ x.kd = 2 ∧ x.ft - x.ff ≤ 12)) ⟨fun ⟨a, b, c⟩ => ⟨a, b, c⟩, fun ⟨a, b, c⟩ => ⟨a, b, c⟩⟩
def itB (x : ItemT) (w : Int) : Bool := decide (ItOk x w)
theorem itB_no {x : ItemT} {w : Int} (h : ItOk x w → False) : itB x w = false := decide_eq_false h
theorem itB_yes {x : ItemT} {w : Int} (h : ItOk x w) : itB x w = true := decide_eq_true h
def meetP (x y : ItemT) : Prop := (if x.ff < y.ff then y.ff else x.ff) < (if x.ft < y.ft then x.ft else y.ft)
instance (x y : ItemT) : Decidable (meetP x y) := inferInstanceAs (Decidable ((_ : Int) < _))
/-- two items have a name or a column in common -/
def clI (x y : ItemT) : Bool := (x.nm.toList == y.nm.toList) || decide (meetP x y)
theorem meet_iff {x y : ItemT} {w : Int} (hx : fieldP x.ff x.ft w) (hy : fieldP y.ff y.ft w) : meetP x y ↔ y.ff < x.ft ∧ x.ff < y.ft := by
  obtain ⟨_, a, _⟩ := hx
  obtain ⟨_, b, _⟩ := hy
  unfold meetP
  split <;> split <;> omega
def layG (xs : List ItemT) (w : Int) (j : Nat) : Bool := match xs[j]? with
  | some x => itB x w && !((xs.take j).any (clI x))
  | none => true
def layB (w : Int) (xs : List ItemT) : Bool := decide (1 ≤ w ∧ w ≤ 20) && ((List.range xs.length).all (layG xs w) && decide (xs.length ≤ 12))
theorem layG_of {xs : List ItemT} {w : Int} {j : Nat} {x : ItemT} (h : xs[j]? = some x) : layG xs w j = (itB x w && !((xs.take j).any (clI x))) := by unfold layG; rw [h]
theorem layB_width {xs : List ItemT} {w : Int} (h : ¬ (1 ≤ w ∧ w ≤ 20)) : layB w xs = false := by unfold layB; rw [decide_eq_false h]; rfl
theorem layB_long {xs : List ItemT} {w : Int} (h : ¬ xs.length ≤ 12) : layB w xs = false := by unfold layB; rw [decide_eq_false h, Bool.and_false, Bool.and_false]
theorem layB_no {xs : List ItemT} {w : Int} {j : Nat} (hj : j < xs.length) (h : layG xs w j = false) : layB w xs = false := by
  unfold layB
  have : (List.range xs.length).all (layG xs w) = false := by
    rw [List.all_eq_false]; exact ⟨j, List.mem_range.2 hj, by rw [h]; decide⟩
  rw [this, Bool.false_and, Bool.and_false]
theorem layB_end {xs : List ItemT} {w : Int} (hw : 1 ≤ w ∧ w ≤ 20) (h : ∀ j, j < xs.length → layG xs w j = true) : layB w xs = decide (xs.length ≤ 12) := by
  unfold layB
  have : (List.range xs.length).all (layG xs w) = true := by
    rw [List.all_eq_true]; exact fun j hj => h j (List.mem_range.1 hj)
  rw [this, decide_eq_true hw]; rfl
theorem layB_parts {xs : List ItemT} {w : Int} (h : layB w xs = true) : (1 ≤ w ∧ w ≤ 20) ∧ xs.length ≤ 12 ∧ ∀ x ∈ xs, ItOk x w := by
  unfold layB at h
  rw [Bool.and_eq_true, Bool.and_eq_true, decide_eq_true_eq, decide_eq_true_eq, List.all_eq_true] at h
  refine ⟨h.1, h.2.2, fun x hx => ?_⟩
  obtain ⟨j, hj, rfl⟩ := List.mem_iff_getElem.1 hx
  have h1 := h.2.1 j (List.mem_range.2 hj)
  rw [layG_of (x := xs[j]) (by simp [hj]), Bool.and_eq_true] at h1
  exact of_decide_eq_true h1.1
/-- the place of an item; -1 if there is none -/
def idxN (xs : List ItemT) (nm : ByteArray) : Option Nat := xs.findIdx? (fun x => x.nm.toList == nm.toList)
def idxI (xs : List ItemT) (nm : ByteArray) : Int := match idxN xs nm with
  | some k => k
  | none => -1
theorem idx_found {xs : List ItemT} {nm : ByteArray} {k : Nat} {x : ItemT} (hx : xs[k]? = some x) (h : (x.nm.toList == nm.toList) = true) (hno : (xs.take k).any (fun x => x.nm.toList == nm.toList) = false) : idxI xs nm = k := by
  have hk := at_lt hx
  have h1 : idxN xs nm = some k := by
    unfold idxN
    rw [List.findIdx?_eq_some_iff_getElem]
    rw [List.getElem?_eq_getElem hk] at hx
    refine ⟨hk, by rw [Option.some.inj hx]; exact h, fun j hj => ?_⟩
    have h2 := List.any_eq_false.1 hno xs[j] (by rw [List.mem_take_iff_getElem]; exact ⟨j, by omega, rfl⟩)
    exact h2
  unfold idxI; rw [h1]
theorem idx_none {xs : List ItemT} {nm : ByteArray} (hno : xs.any (fun x => x.nm.toList == nm.toList) = false) : idxI xs nm = -1 := by
  have h1 : idxN xs nm = none := by
    unfold idxN
    rw [List.findIdx?_eq_none_iff]
    intro x hx
    have := List.any_eq_false.1 hno x hx
    simpa using this
  unfold idxI; rw [h1]
theorem idx_at {xs : List ItemT} {nm : ByteArray} (h : ¬ idxI xs nm < 0) : ∃ (k : Nat) (x : ItemT), idxI xs nm = k ∧ xs[k]? = some x := by
  unfold idxI at h ⊢
  cases hq : idxN xs nm with
  | none => rw [hq] at h; exact absurd (by decide) h
  | some k =>
    have h1 := (List.findIdx?_eq_some_iff_getElem.1 hq).1
    exact ⟨k, xs[k], rfl, by simp [h1]⟩
theorem idx_ge (xs : List ItemT) (nm : ByteArray) : -1 ≤ idxI xs nm := by
  unfold idxI
  cases idxN xs nm with
  | none => exact Int.le_refl _
  | some k => simp only; omega
end Go.Proofs.YtfieilbcdhbigaaGreatDoor
namespace Go.Proofs.YtfieilbcdhbigaaGreatDoor
open Go.ChangeShapes Go.WideShapes Go.ChangeAt Go.RowKit Go.Sort
set_option linter.unusedVariables false
set_option maxRecDepth 100000
theorem l04Item_c (x : ItemT) (c9 : Int) (w : World) (a : okItem x) (hc : 0 ≤ c9 ∧ c9 ≤ 1000) {b off : Nat} (c0 : w.cell? ⟨b, off, none⟩ = some (.string x.nm)) (c1 : w.cell? ⟨b, off + 1, none⟩ = some (.int .i64 x.kd))
    (c2 : w.cell? ⟨b, off + 2, none⟩ = some (.int .i64 x.ff)) (c3 : w.cell? ⟨b, off + 3, none⟩ = some (.int .i64 x.ft)) (hbl : b < w.heap.size) :
    Calls Tryz.prog 116 #[.pointer (some ⟨b, off, none⟩), .int .i64 c9] w fun e w' => e = .returned (.bool (itB x c9)) ∧ Below w.heap.size w w' := by
  have hs : x.nm.size ≤ 9223372036854775807 := a.1
  have Hc := Lib.hid hc
  clear a hc
  go_enter Tryz.func116, Tryz.ntmps116
  go_wp2_with fail
  with_reducible refine (sIsName_c x.nm _ hs).mono ?_
  cases h1 : nameB x.nm with
  | false =>
    have H1 := Lib.hid h1
    clear h1
    rintro e w' ⟨rfl, rfl⟩
    go_wp2
    go_ret
    exact ⟨ret_bool (itB_no fun h => by have h9 := h.nm; rw [H1.out] at h9; cases h9).symm, Below.refl _ _⟩
  | true =>
    have H1 := Lib.hid h1
    clear h1
    rintro e w' ⟨rfl, rfl⟩
    by_cases hk : 1 ≤ x.kd ∧ x.kd ≤ 2
    · have Hk := Lib.hid hk
      clear hk
      go_wp2_with fail
      with_reducible refine (l00In_yes _ _ _ _ Hk.out.1 Hk.out.2).mono ?_
      rintro e w' ⟨rfl, rfl⟩
      go_wp2_with fail
      with_reducible refine (l02Field_c x.ff x.ft c9 _ Hc.out).mono ?_
      by_cases h2 : fieldP x.ff x.ft c9
      · have H2 := Lib.hid h2
        have h3 : 0 ≤ x.ff ∧ x.ff < x.ft ∧ x.ft ≤ 1000 := by have := Hc.out; unfold fieldP at h2; omega
        obtain ⟨h4, h5, h6⟩ := h3
        rw [decide_eq_true h2]
        clear h2
        rintro e w1 ⟨rfl, hb⟩
        have d1 := (hb.cell (p := ⟨b, off + 1, none⟩) hbl).trans c1
        have d2 := (hb.cell (p := ⟨b, off + 2, none⟩) hbl).trans c2
        have d3 := (hb.cell (p := ⟨b, off + 3, none⟩) hbl).trans c3
        clear c0 c1 c2 c3
        have Hb := Lib.hid hb
        clear hb
        by_cases hk1 : x.kd = 1
        · have e : itB x c9 = true := itB_yes ⟨H1.out, H2.out, .inl hk1⟩
          have E := Lib.hid e
          have q1 : (x.kd == 1) = true := by simpa using hk1
          clear e
          go_wp2
          go_quiet (fail)
          go_wp2
          go_ret
          rw [E.out]
          exact ⟨rfl, Hb.out.drewNy _⟩
        · have hk2 : x.kd = 2 := by have := Hk.out; omega
          have e : itB x c9 = decide (x.ft - x.ff ≤ 12) := by
            by_cases hl : x.ft - x.ff ≤ 12
            · rw [decide_eq_true hl]; exact itB_yes ⟨H1.out, H2.out, .inr ⟨hk2, hl⟩⟩
            · rw [decide_eq_false hl]; exact itB_no fun h => h.kd.elim hk1 (fun h => hl h.2)
          have E := Lib.hid e
          have q1 : (x.kd == 1) = false := by simpa using hk1
          clear e hk2
          go_wp2
          go_quiet (fail)
          go_wp2
          go_ret
          rw [E.out]
          exact ⟨rfl, Hb.out.drewNy _⟩
      · have H2 := Lib.hid h2
        rw [decide_eq_false h2]
        clear h2
        rintro e w1 ⟨rfl, hb⟩
        go_wp2
        go_ret
        exact ⟨ret_bool (itB_no fun h => H2.out h.ff).symm, hb⟩
    · have Hk := Lib.hid hk
      have hk9 : x.kd < 1 ∨ 2 < x.kd := by omega
      have Hk9 := Lib.hid hk9
      clear hk hk9
      go_wp2_with fail
      with_reducible refine (l00In_no _ _ _ _ Hk9.out).mono ?_
      rintro e w' ⟨rfl, rfl⟩
      go_wp2
      go_ret
      exact ⟨ret_bool (itB_no fun h => Hk.out (by have := h.kd; omega)).symm, Below.refl _ _⟩
theorem l04Meet_c (f1 t1 f2 t2 : Int) (w : World) : Calls Tryz.prog 117 #[.agg #[.int .i64 f1, .int .i64 t1], .agg #[.int .i64 f2, .int .i64 t2]] w fun e w' => e = .returned (.bool (decide (f1 < t2 ∧ f2 < t1))) ∧ Below w.heap.size w w' := by
  have hb2 : Below w.heap.size w ((w.alloc (.cells #[.int .i64 f1, .int .i64 t1] 70)).alloc (.cells #[.int .i64 f2, .int .i64 t2] 70)) := ((Below.refl _ _).alloc (Nat.le_refl _) _).alloc (by simp) _
  have Hb2 := Lib.hid hb2
  clear hb2
  obtain ⟨t, ht⟩ : ∃ t, t = decide (f1 < t2 ∧ f2 < t1) := ⟨_, rfl⟩
  rw [← ht]
  by_cases h1 : f1 < t2
  · have E : Hid (t = decide (f2 < t1)) := Lib.hid (by rw [ht]; simp [h1])
    clear ht
    go_enter Tryz.func117, Tryz.ntmps117
    go_wp2
    go_ret
    rw [E.out]
    exact ⟨rfl, Hb2.out⟩
  · have E : Hid (t = false) := Lib.hid (by rw [ht]; simp [h1])
    clear ht
    go_enter Tryz.func117, Tryz.ntmps117
    go_wp2
    go_ret
    rw [E.out]
    exact ⟨rfl, Hb2.out⟩
set_option maxHeartbeats 2000000 in
theorem l04Ok_c {xs : List ItemT} {v : Value} {w : World} {A B : Nat} (wd : Int) (hP : Box w B [.int .i64 wd, v]) (ha : RdItemS A w v xs) :
    Calls Tryz.prog 90 #[.pointer (some ⟨B, 0, none⟩)] w fun e w' => e = .returned (.bool (layB wd xs)) ∧ Below w.heap.size w w' := by
  have hle := ha.le
  obtain ⟨ao, cap, rfl, ho⟩ := eItem_open ha
  obtain ⟨n, hn⟩ : ∃ n, n = xs.length := ⟨_, rfl⟩
  rw [← hn] at hP ho hle
  have Hn := Lib.hid hn
  have Ho := Lib.hid ho
  have HP := Lib.hid hP
  have hle' : n ≤ 9223372036854775807 := by omega
  have p0 := HP.out.cell 0 _ rfl
  clear ho hn hle ha hP
  by_cases hw : 1 ≤ wd ∧ wd ≤ 20
  · have Hw := Lib.hid hw
    have hw0 : 0 ≤ wd ∧ wd ≤ 1000 := by omega
    have Hw0 := Lib.hid hw0
    clear hw hw0
    go_enter Tryz.func90, Tryz.ntmps90
    go_wp2_with fail
    with_reducible refine (l00In_yes _ _ _ _ Hw.out.1 Hw.out.2).mono ?_
    rintro e w' ⟨rfl, rfl⟩
    clear p0
    go_wp2
    go_loopw [3] (fun i wr => ∃ k : Nat, k ≤ n ∧ i = .int .i64 k ∧ Hid (∀ j, j < k → layG xs wd j = true) ∧ Below w.heap.size w wr) (fun i _ => n - (intOf i).toNat)
    case atStart => exact ⟨0, Nat.zero_le _, rfl, fun j h => absurd h (Nat.not_lt_zero _), Below.refl _ _⟩
    case round =>
      obtain ⟨k, hk, rfl, hp, hbb⟩ := hrel
      have HPr := Lib.hid (HP.out.on hbb)
      have p0 := HPr.out.cell 0 _ rfl
      have p1 := HPr.out.cell 1 _ rfl
      by_cases hkn : k < n
      · obtain ⟨b, off, rfl, hlt, hc⟩ := Ho.out (by have := Hn.out; omega)
        obtain ⟨x, hx, ⟨c0, c1, c2, c3⟩, bx⟩ := hc k (by have := Hn.out; omega)
        have Hc := Lib.hid hc
        have Hx := Lib.hid hx
        have Hbx := Lib.hid bx
        have hbl : b < wr.heap.size := by have := hbb.size; omega
        have c0 := (hbb.cell (p := ⟨b, off + k * 4, none⟩) hlt.2).trans c0
        have c1 := (hbb.cell (p := ⟨b, off + k * 4 + 1, none⟩) hlt.2).trans c1
        have c2 := (hbb.cell (p := ⟨b, off + k * 4 + 2, none⟩) hlt.2).trans c2
        have c3 := (hbb.cell (p := ⟨b, off + k * 4 + 3, none⟩) hlt.2).trans c3
        have C0 := Lib.hid c0
        have C1 := Lib.hid c1
        have C2 := Lib.hid c2
        have C3 := Lib.hid c3
        have hit := fun q os => l04Item_c x wd (grow (redrawn wr q) os) Hbx.out Hw0.out (cell_regrown C0.out q os) (cell_regrown C1.out q os) (cell_regrown C2.out q os) (cell_regrown C3.out q os) (Nat.lt_of_lt_of_le hbl (below_regrown wr q os).size)
        have Hit := Lib.hid hit
        have Hbb := Lib.hid hbb
        have hlb : b < w.heap.size := hlt.2
        clear hx hc bx c0 c1 c2 c3 hit hbb hlt
        cases hv : itB x wd with
        | false =>
          rw [hv] at Hit
          have Hv := Lib.hid hv
          clear hv
          have f0 := cell_regrown p0
          have f1 := cell_regrown p1
          go_upto_region 6 with fail
          refine wp_region_quiet_below (by kernel_rfl) (by kernel_rfl) ?_
          repeat ((with_reducible refine wpQuiet_step (fun K hK => ?_)); go_simp; first | ((with_reducible refine hK _ ?_); clear hK K) | (apply Exists.intro; refine ⟨fun _ => ?_, hK _ ?_⟩; ((first | (go_at_call 116; with_reducible exact qb_below (Hit.out _ _)))); clear hK K))
          refine wpQuiet_nil ?_
          intro _ hw'
          obtain ⟨⟨dq, osq⟩, hw''⟩ := hw'
          subst hw''
          have hbq := below_regrown wr dq osq
          generalize grow (redrawn wr dq) osq = wq at hbq ⊢
          have hb := Hbb.out.trans (hbq.mono Hbb.out.size)
          clear hbq f0 f1 p0 p1
          go_wp2
          go_ret
          exact ⟨ret_bool (layB_no (j := k) (by have := Hn.out; omega) (by rw [layG_of Hx.out, Hv.out]; rfl)).symm, hb⟩
        | true =>
          rw [hv] at Hit
          have Hv := Lib.hid hv
          clear hv
          have f0 := cell_regrown p0
          have f1 := cell_regrown p1
          go_upto_region 6 with fail
          refine wp_region_quiet_below (by kernel_rfl) (by kernel_rfl) ?_
          repeat ((with_reducible refine wpQuiet_step (fun K hK => ?_)); go_simp; first | ((with_reducible refine hK _ ?_); clear hK K) | (apply Exists.intro; refine ⟨fun _ => ?_, hK _ ?_⟩; ((first | (go_at_call 116; with_reducible exact qb_below (Hit.out _ _)))); clear hK K))
          refine wpQuiet_nil ?_
          intro _ hw'
          obtain ⟨⟨dq, osq⟩, hw''⟩ := hw'
          subst hw''
          have hbq := below_regrown wr dq osq
          generalize grow (redrawn wr dq) osq = wq at hbq ⊢
          have hb := Hbb.out.trans (hbq.mono Hbb.out.size)
          have Hbq := Lib.hid hb
          clear hb hbq f0 f1 p0 p1 Hit
          go_wp2
          go_loopw [4] (fun i wr => ∃ q : Nat, q ≤ k ∧ i = .int .i64 q ∧ Hid ((xs.take q).any (clI x) = false) ∧ Below w.heap.size w wr) (fun i _ => k - (intOf i).toNat)
          case atStart => exact ⟨0, Nat.zero_le _, rfl, rfl, Hbq.out⟩
          case round =>
            obtain ⟨q, hq, rfl, hpq, hbb⟩ := hrel
            by_cases hqk : q < k
            · obtain ⟨y, hy, ⟨e0, e1, e2, e3⟩, _⟩ := Hc.out q (by have := Hn.out; omega)
              obtain ⟨x', hx', ⟨c0, c1, c2, c3⟩, _⟩ := Hc.out k (by have := Hn.out; omega)
              obtain rfl : x' = x := by have := Hx.out; rw [hx'] at this; exact Option.some.inj this
              have g0 := (hbb.cell (p := ⟨b, off + q * 4, none⟩) hlb).trans e0
              have g2 := (hbb.cell (p := ⟨b, off + q * 4 + 2, none⟩) hlb).trans e2
              have g3 := (hbb.cell (p := ⟨b, off + q * 4 + 3, none⟩) hlb).trans e3
              have d0 := (hbb.cell (p := ⟨b, off + k * 4, none⟩) hlb).trans c0
              have d2 := (hbb.cell (p := ⟨b, off + k * 4 + 2, none⟩) hlb).trans c2
              have d3 := (hbb.cell (p := ⟨b, off + k * 4 + 3, none⟩) hlb).trans c3
              have p1 := (HP.out.on hbb).cell 1 _ rfl
              have Hy := Lib.hid hy
              have hgy := hp.out q hqk
              rw [layG_of hy, Bool.and_eq_true] at hgy
              have oy : ItOk y wd := of_decide_eq_true hgy.1
              have ox : ItOk x' wd := of_decide_eq_true Hv.out
              have hm := meet_iff ox.ff oy.ff
              have hqn : q < n := by omega
              have Hbb := Lib.hid hbb
              have Hm := Lib.hid hm
              clear hy hx' e0 e1 e2 e3 c0 c1 c2 c3 hgy oy ox hm hbb
              have f0 := cell_regrown g0
              have f2 := cell_regrown g2
              have f3 := cell_regrown g3
              have h0 := cell_regrown d0
              have h2 := cell_regrown d2
              have h3 := cell_regrown d3
              have r1 := cell_regrown p1
              have hmt := Lib.hid (fun q os => l04Meet_c y.ff y.ft x'.ff x'.ft (grow (redrawn wr q) os))
              cases he : (y.nm.toList == x'.nm.toList) with
              | true =>
                have hcl : clI x' y = true := by unfold clI; rw [show (x'.nm.toList == y.nm.toList) = true by rw [beq_iff_eq] at he ⊢; exact he.symm]; rfl
                have Hcl := Lib.hid hcl
                have he2 : y.nm.toList = x'.nm.toList := by simpa using he
                have He2 := Lib.hid he2
                clear hcl he2
                go_upto_region 11 with fail
                refine wp_region_quiet_below (by kernel_rfl) (by kernel_rfl) ?_
                repeat ((with_reducible refine wpQuiet_step (fun K hK => ?_)); go_simp; first | ((with_reducible refine hK _ ?_); clear hK K) | (apply Exists.intro; refine ⟨fun _ => ?_, hK _ ?_⟩; ((first | (go_at_call 117; with_reducible exact qb_below (hmt.out _ _)))); clear hK K))
                refine wpQuiet_nil ?_
                intro _ hw'
                obtain ⟨⟨dq, osq⟩, hw''⟩ := hw'
                subst hw''
                have hbq := below_regrown wr dq osq
                generalize grow (redrawn wr dq) osq = wq at hbq ⊢
                have hb := Hbb.out.trans (hbq.mono Hbb.out.size)
                clear hbq f0 f2 f3 h0 h2 h3 r1
                go_wp2
                go_ret
                refine ⟨ret_bool (layB_no (j := k) (by have := Hn.out; omega) ?_).symm, hb⟩
                rw [layG_of Hx.out, Hv.out]
                have : (xs.take k).any (clI x') = true := List.any_eq_true.2 ⟨y, List.mem_of_getElem? (i := q) (by rw [List.getElem?_take, if_pos hqk]; exact Hy.out), Hcl.out⟩
                rw [this]; rfl
              | false =>
                have hcl : clI x' y = decide (y.ff < x'.ft ∧ x'.ff < y.ft) := by
                  unfold clI
                  rw [show (x'.nm.toList == y.nm.toList) = false by rw [beq_eq_false_iff_ne] at he ⊢; exact fun h => he h.symm]
                  rw [Bool.false_or]
                  exact decide_eq_decide.2 Hm.out
                have Hcl := Lib.hid hcl
                clear hcl
                obtain ⟨t, ht⟩ : ∃ t, t = decide (y.ff < x'.ft ∧ x'.ff < y.ft) := ⟨_, rfl⟩
                rw [← ht] at Hcl hmt
                clear ht
                go_upto_region 11 with fail
                refine wp_region_quiet_below (by kernel_rfl) (by kernel_rfl) ?_
                repeat ((with_reducible refine wpQuiet_step (fun K hK => ?_)); go_simp; first | ((with_reducible refine hK _ ?_); clear hK K) | (apply Exists.intro; refine ⟨fun _ => ?_, hK _ ?_⟩; ((first | (go_at_call 117; with_reducible exact qb_below (hmt.out _ _)))); clear hK K))
                refine wpQuiet_nil ?_
                intro _ hw'
                obtain ⟨⟨dq, osq⟩, hw''⟩ := hw'
                subst hw''
                have hbq := below_regrown wr dq osq
                generalize grow (redrawn wr dq) osq = wq at hbq ⊢
                have hb := Hbb.out.trans (hbq.mono Hbb.out.size)
                have Hb := Lib.hid hb
                clear hb hbq f0 f2 f3 h0 h2 h3 r1 g0 g2 g3 d0 d2 d3 p1
                cases t with
                | true =>
                  go_wp2
                  go_ret
                  refine ⟨ret_bool (layB_no (j := k) (by have := Hn.out; omega) ?_).symm, Hb.out⟩
                  rw [layG_of Hx.out, Hv.out]
                  have : (xs.take k).any (clI x') = true := List.any_eq_true.2 ⟨y, List.mem_of_getElem? (i := q) (by rw [List.getElem?_take, if_pos hqk]; exact Hy.out), Hcl.out⟩
                  rw [this]; rfl
                | false =>
                  go_wp2
                  go_roundw
                  case rel => exact ⟨q + 1, by omega, by go_num, by show _ = false; rw [take_snoc Hy.out, List.any_append, hpq.out]; simp [Hcl.out], Hb.out⟩
                  case measure => simp [intOf]; omega
            · go_wp2
              go_roundw
              case rel =>
                refine ⟨k + 1, by omega, by go_num, ?_, hbb⟩
                intro j hj
                by_cases e : j < k
                · exact hp.out j e
                · obtain rfl : j = k := by omega
                  obtain rfl : q = j := by omega
                  rw [layG_of Hx.out, Hv.out, hpq.out]; rfl
              case measure => simp [intOf]; omega
      · go_wp2
        go_ret
        refine ⟨ret_bool ?_, hbb⟩
        rw [layB_end Hw.out (fun j hj => hp.out j (by have := Hn.out; omega)), ← Hn.out]
        exact decide_eq_decide.2 (by omega)
  · have Hw := Lib.hid hw
    have Hw9 := Lib.hid (show wd < 1 ∨ 20 < wd by omega)
    clear hw
    go_enter Tryz.func90, Tryz.ntmps90
    go_wp2_with fail
    with_reducible refine (l00In_no _ _ _ _ Hw9.out).mono ?_
    rintro e w' ⟨rfl, rfl⟩
    go_wp2
    go_ret
    exact ⟨ret_bool (layB_width Hw.out).symm, Below.refl _ _⟩
theorem l04Find_c {xs : List ItemT} {v : Value} {w : World} {A B : Nat} (wd : Int) (nm : ByteArray) (hP : Box w B [.int .i64 wd, v]) (ha : RdItemS A w v xs) :
    Calls Tryz.prog 64 #[.pointer (some ⟨B, 0, none⟩), .string nm] w fun e w' => e = .returned (.int .i64 (idxI xs nm)) ∧ w = w' := by
  have hle := ha.le
  obtain ⟨ao, cap, rfl, ho⟩ := eItem_open ha
  obtain ⟨n, hn⟩ : ∃ n, n = xs.length := ⟨_, rfl⟩
  rw [← hn] at hP ho hle
  have Hn := Lib.hid hn
  have Ho := Lib.hid ho
  have hle' : n ≤ 9223372036854775807 := by omega
  have p1 := hP.cell 1 _ rfl
  clear ho hn hle ha hP
  go_enter Tryz.func64, Tryz.ntmps64
  go_wp2
  go_loop [5] (fun i => ∃ k : Nat, k ≤ n ∧ i = .int .i64 k ∧ Hid ((xs.take k).any (fun x => x.nm.toList == nm.toList) = false)) (fun i => n - (intOf i).toNat)
  case atStart => exact ⟨0, Nat.zero_le _, rfl, rfl⟩
  case round =>
    obtain ⟨k, hk, rfl, hp⟩ := hrel
    by_cases hkn : k < n
    · obtain ⟨b, off, rfl, hlt, hc⟩ := Ho.out (by have := Hn.out; omega)
      obtain ⟨y, hy, ⟨c0, c1, c2, c3⟩, bx⟩ := hc k (by have := Hn.out; omega)
      have Hy := Lib.hid hy
      clear hy hc bx c1 c2 c3
      cases hq : (y.nm.toList == nm.toList) with
      | true =>
        have Hq := Lib.hid hq
        have hq2 : y.nm.toList = nm.toList := by simpa using hq
        go_wp2
        go_ret
        exact ⟨ret_int (idx_found Hy.out Hq.out hp.out).symm, rfl⟩
      | false =>
        have Hq := Lib.hid hq
        go_wp2
        go_round
        case rel => exact ⟨k + 1, by omega, by go_num, by show _ = false; rw [take_snoc Hy.out, List.any_append, hp.out]; simpa using Hq.out⟩
        case measure => simp [intOf]; omega
    · go_wp2
      go_ret
      have hq := hp.out
      rw [List.take_of_length_le (by have := Hn.out; omega)] at hq
      exact ⟨ret_int (idx_none hq).symm, rfl⟩
end Go.Proofs.YtfieilbcdhbigaaGreatDoor
namespace Go.Proofs.YtfieilbcdhbigaaGreatDoor
open Go.ChangeShapes Go.WideShapes Go.ChangeAt Go.RowKit Go.Sort
set_option linter.unusedVariables false
set_option maxRecDepth 100000
def badHole (x : Int) : Bool := !decide (0 ≤ x ∧ x ≤ 4095)
def cardB (h : List Int) : Bool := decide (1 ≤ h.length ∧ h.length ≤ 20) && !h.any badHole
def okAt (d : List (List Int)) (c : List Int) : Bool := cardB c && decide (c.length = (d.headD []).length)
def deckB (d : List (List Int)) : Bool := d.all (okAt d) && decide (d.length ≤ 40)
theorem deckB_parts {d : List (List Int)} (h : deckB d = true) : d.length ≤ 40 ∧ ∀ c ∈ d, cardB c = true ∧ c.length = (d.headD []).length := by
  unfold deckB at h
  rw [Bool.and_eq_true, decide_eq_true_eq, List.all_eq_true] at h
  refine ⟨h.2, fun c hc => ?_⟩
  have := h.1 c hc
  unfold okAt at this
  rw [Bool.and_eq_true, decide_eq_true_eq] at this
  exact this
theorem all_take_snoc {α : Type} {d : List α} {k : Nat} {x : α} (p : α → Bool) (h : d[k]? = some x) : (d.take (k + 1)).all p = ((d.take k).all p && p x) := by
  rw [take_snoc h, List.all_append]; simp
theorem all_not {α : Type} {d : List α} {k : Nat} {x : α} {p : α → Bool} (h : d[k]? = some x) (hp : p x = false) : d.all p = false := by
  rw [List.all_eq_false]
  exact ⟨x, List.mem_of_getElem? h, by rw [hp]; decide⟩
theorem head_of {d : List (List Int)} {x : List Int} (h : d[0]? = some x) : d.headD [] = x := by
  cases d with
  | nil => cases h
  | cons a b => exact Option.some.inj h
theorem columns_c {ao : Option Addr} {n cap : Nat} {w : World} (hn : n ≤ 9223372036854775807) :
    Calls Tryz.prog 95 #[.agg #[.slice ao n cap]] w fun e w' => e = .returned (.int .i64 n) ∧ Below w.heap.size w w' := by
  go_enter Tryz.func95, Tryz.ntmps95
  go_wp2_with fail
  with_reducible refine (size_any0 hn).mono ?_
  rintro e w1 ⟨rfl, rfl⟩
  go_wp2
  go_ret
  exact ⟨rfl, (Below.refl _ _).alloc (Nat.le_refl _) _⟩
theorem clo_badHole (x : Int) (w : World) (_h : okInt64 x) : Calls Tryz.prog 125 #[.int .i64 x] w fun e w' => e = .returned (.bool (badHole x)) ∧ w = w' := by
  go_enter Tryz.func125, Tryz.ntmps125
  go_wp2_with fail
  refine (inside_any _ _ _ _).mono ?_
  rintro e w' ⟨rfl, rfl⟩
  go_wp2
  go_ret
  exact ⟨ret_bool (by unfold badHole; simp), rfl⟩
theorem indexFunc_badHole {xs : List Int} {v : Value} {w : World} {A : Nat} (ha : RdI A w v xs) :
    Calls Tryz.prog 128 #[v, .func (.func 125) #[] #[]] w fun e w' => (∃ r : Int, e = .returned (.int .i64 r) ∧ -1 ≤ r ∧ (0 ≤ r ↔ xs.any badHole = true)) ∧ w = w' := by
  have hle := ha.le
  obtain ⟨ao, cap, rfl, ho⟩ := ha.open
  obtain ⟨l, hl⟩ : ∃ l, l = xs.length := ⟨_, rfl⟩
  rw [← hl]
  have Hl := Lib.hid hl
  have Ho := Lib.hid ho
  have hl' : l ≤ 9223372036854775807 := by omega
  clear ho hl hle ha
  go_enter Tryz.func128, Tryz.ntmps128
  go_wp2
  go_loop [8] (fun i => ∃ k : Nat, k ≤ l ∧ i = .int .i64 k ∧ Hid ((xs.take k).any badHole = false)) (fun i => l - (intOf i).toNat)
  case atStart => exact ⟨0, Nat.zero_le _, rfl, rfl⟩
  case round =>
    obtain ⟨k, hk, rfl, hp⟩ := hrel
    by_cases hkn : k < l
    · obtain ⟨b, off, rfl, hlt, hc⟩ := Ho.out (by have := Hl.out; omega)
      obtain ⟨x, hx, hcx, bx⟩ := hc k (by have := Hl.out; omega)
      have Hx := Lib.hid hx
      have Hb := Lib.hid bx
      clear hx hc bx
      cases hq : badHole x with
      | true =>
        have Hq := Lib.hid hq
        clear hq
        go_wp2_with (go_at_call 125; refine (clo_badHole x _ Hb.out).mono ?_; rw [Hq.out]; rintro e w' ⟨rfl, rfl⟩)
        go_ret
        refine ⟨⟨_, rfl, by omega, ?_⟩, rfl⟩
        have : xs.any badHole = true := List.any_eq_true.2 ⟨x, List.mem_of_getElem? Hx.out, Hq.out⟩
        simp [this]
      | false =>
        have Hq := Lib.hid hq
        clear hq
        go_wp2_with (go_at_call 125; refine (clo_badHole x _ Hb.out).mono ?_; rw [Hq.out]; rintro e w' ⟨rfl, rfl⟩)
        go_round
        case rel => exact ⟨k + 1, by omega, by go_num, by show _ = false; rw [take_snoc Hx.out, List.any_append, hp.out]; simp [Hq.out]⟩
        case measure => simp [intOf]; omega
    · go_wp2
      go_ret
      refine ⟨⟨_, rfl, by omega, ?_⟩, rfl⟩
      have hq := hp.out
      rw [List.take_of_length_le (by have := Hl.out; omega)] at hq
      exact any_end hq
theorem any_badHole {xs : List Int} {v : Value} {w : World} {A : Nat} (ha : RdI A w v xs) :
    Calls Tryz.prog 99 #[v, .func (.func 125) #[] #[]] w fun e w' => e = .returned (.bool (xs.any badHole)) ∧ w = w' := by
  have Ha := Lib.hid ha
  obtain ⟨ao, cap, rfl⟩ := ha.shape
  clear ha
  go_enter Tryz.func99, Tryz.ntmps99
  go_wp2_with fail
  refine (indexFunc_badHole Ha.out).mono ?_
  rintro e w' ⟨⟨r, rfl, hr, hi⟩, rfl⟩
  have Hi := Lib.hid hi
  clear hi
  go_wp2
  go_ret
  refine ⟨ret_bool ?_, rfl⟩
  rw [Bool.eq_iff_iff, decide_eq_true_iff]
  exact Hi.out
theorem ValidCard_c {xs : List Int} {v : Value} {w : World} {A : Nat} (ha : RdI A w v xs) :
    Calls Tryz.prog 96 #[.agg #[v]] w fun e w' => e = .returned (.bool (cardB xs)) ∧ Below w.heap.size w w' := by
  have hle := ha.le
  have hb0 : Below w.heap.size w (w.alloc (.cells #[v] 67)) := (Below.refl _ _).alloc (Nat.le_refl _) _
  have hB0 : Box (w.alloc (.cells #[v] 67)) w.heap.size [v] := Box.new w [v] 67
  have ha0 := Rds.onn ha hb0
  obtain ⟨ao, cap, rfl⟩ := ha.shape
  have Ha0 := Lib.hid ha0
  have Hb0 := Lib.hid hb0
  have HB0 := Lib.hid hB0
  obtain ⟨n, hn⟩ : ∃ n, n = xs.length := ⟨_, rfl⟩
  obtain ⟨W0, hW0⟩ : ∃ W0, W0 = w.alloc (.cells #[.slice ao xs.length cap] 67) := ⟨_, rfl⟩
  rw [← hW0] at Ha0 Hb0 HB0
  unfold cardB
  rw [← hn] at Ha0 HB0 hle hW0 ⊢
  have HW0 := Lib.hid hW0
  clear ha ha0 hb0 hB0 hW0 hn
  have hcol := fun W => columns_c (ao := ao) (n := n) (cap := cap) (w := W) hle
  have Hcol := Lib.hid hcol
  clear hcol
  by_cases hc : 1 ≤ n ∧ n ≤ 20
  · rw [decide_eq_true hc, Bool.true_and]
    have hci : (1 : Int) ≤ (n : Int) ∧ (n : Int) ≤ 20 := by omega
    have Hci := Lib.hid hci
    clear hci hc
    go_enter Tryz.func96, Tryz.ntmps96
    go_wp2_with fail
    rw [← HW0.out]
    with_reducible refine (Hcol.out _).mono ?_
    rintro e w1 ⟨rfl, hb1⟩
    have hB1 := HB0.out.on hb1
    have q0 := hB1.cell 0 _ rfl
    have Ha1 := Lib.hid (Rds.onn Ha0.out hb1)
    have Hb1 := Lib.hid (Hb0.out.trans (hb1.mono Hb0.out.size))
    clear hB1 hb1
    go_wp2_with fail
    with_reducible refine (inside_any _ _ _ _).mono ?_
    rw [decide_eq_true Hci.out]
    rintro e w2 ⟨rfl, rfl⟩
    go_wp2_with fail
    with_reducible refine (any_badHole Ha1.out).mono ?_
    rintro e w3 ⟨rfl, rfl⟩
    go_wp2
    go_ret
    exact ⟨rfl, Hb1.out⟩
  · rw [decide_eq_false hc, Bool.false_and]
    have hci : ¬ ((1 : Int) ≤ (n : Int) ∧ (n : Int) ≤ 20) := by omega
    have Hci := Lib.hid hci
    clear hci hc
    go_enter Tryz.func96, Tryz.ntmps96
    go_wp2_with fail
    rw [← HW0.out]
    with_reducible refine (Hcol.out _).mono ?_
    rintro e w1 ⟨rfl, hb1⟩
    have Hb1 := Lib.hid (Hb0.out.trans (hb1.mono Hb0.out.size))
    clear hb1
    go_wp2_with fail
    with_reducible refine (inside_any _ _ _ _).mono ?_
    rw [decide_eq_false Hci.out]
    rintro e w2 ⟨rfl, rfl⟩
    go_wp2
    go_ret
    exact ⟨rfl, Hb1.out⟩
set_option maxHeartbeats 1000000 in
theorem ValidDeck_c {xss : List (List Int)} {v : Value} {w : World} {A : Nat} (ha : RdInt64SS A w v xss) :
    Calls Tryz.prog 70 #[v] w fun e w' => e = .returned (.bool (deckB xss)) ∧ Below w.heap.size w w' := by
  have hle := ha.le
  obtain ⟨ao, cap, rfl, ho⟩ := ha.open
  obtain ⟨n, hn⟩ : ∃ n, n = xss.length := ⟨_, rfl⟩
  have hdk : deckB xss = (xss.all (okAt xss) && decide (n ≤ 40)) := by unfold deckB; rw [hn]
  rw [hdk, ← hn]
  have Hn := Lib.hid hn
  have Ho := Lib.hid ho
  have hle' : n ≤ 9223372036854775807 := by omega
  clear ho hn hle ha hdk
  go_enter Tryz.func70, Tryz.ntmps70
  go_wp2
  go_loopw [7] (fun i wr => ∃ k : Nat, k ≤ n ∧ i = .int .i64 k ∧ Hid ((xss.take k).all (okAt xss) = true) ∧ Below w.heap.size w wr) (fun i _ => n - (intOf i).toNat)
  case atStart => exact ⟨0, Nat.zero_le _, rfl, Lib.hid (by simp), Below.refl _ _⟩
  case round =>
    obtain ⟨k, hk, rfl, hp, hb⟩ := hrel
    by_cases hkn : k < n
    · obtain ⟨b, off, rfl, hlt, hc⟩ := Ho.out (by have := Hn.out; omega)
      obtain ⟨x, ro, rc, hx, hcell, hrd⟩ := hc k (by have := Hn.out; omega)
      obtain ⟨y, qo, qc, hy, hcell0, hrd0⟩ := hc 0 (by have := Hn.out; omega)
      have hyl := hrd0.le
      have hxl := hrd.le
      have hh := head_of hy
      replace hcell := (hb.cell (p := ⟨b, off + k, none⟩) hlt.2).trans hcell
      replace hcell0 := (hb.cell (p := ⟨b, off + 0, none⟩) hlt.2).trans hcell0
      obtain ⟨T, hT⟩ : ∃ T, T = wr.alloc (.cells #[.slice ro x.length rc] 67) := ⟨_, rfl⟩
      have hbT : Below wr.heap.size wr T := by rw [hT]; exact (Below.refl _ _).alloc (Nat.le_refl _) _
      have hBT : Box T wr.heap.size [.slice ro x.length rc] := by rw [hT]; exact Box.new wr [.slice ro x.length rc] _
      have f0 := cell_regrown (hBT.cell 0 _ rfl)
      have hbl := World.block_lt_of_cell? wr _ hcell0
      have f1 := cell_regrown ((hbT.cell (p := ⟨b, off, none⟩) hbl).trans hcell0)
      have hkni : (k : Int) < (n : Int) := by omega
      have hn0 : 0 < n := by omega
      have hok : okAt xss x = (cardB x && decide (x.length = y.length)) := by unfold okAt; rw [hh]
      have hval := ValidCard_c (Rds.onn (Rds.onn hrd hb) hbT)
      have hvalA := fun d os => ValidCard_c (w := grow (redrawn T d) os) (A := T.heap.size) (xs := x) (Rds.regrown (Rds.onn (Rds.onn hrd hb) hbT) (Nat.le_refl _) d os)
      have hst := all_take_snoc (okAt xss) hx
      have hno := fun h => all_not (p := okAt xss) hx h
      have Hb := Lib.hid hb
      have HbT := Lib.hid hbT
      have HT := Lib.hid hT
      have HvalA := Lib.hid hvalA
      have Hok := Lib.hid hok
      have Hst := Lib.hid hst
      have Hno := Lib.hid hno
      clear hc hx hy hrd hrd0 hb hbT hBT hT hval hvalA hok hst hno hh
      cases hcb : cardB x with
      | false =>
        rw [hcb] at HvalA Hok
        rw [Bool.false_and] at Hok
        clear hcb
        go_upto_region 4 with fail
        rw [← HT.out]
        clear hcell hcell0
        refine wp_region_quiet_below (by kernel_rfl) (by kernel_rfl) ?_
        repeat ((with_reducible refine wpQuiet_step (fun K hK => ?_)); go_simp; first | ((with_reducible refine hK _ ?_); clear hK K) | (apply Exists.intro; refine ⟨fun _ => ?_, hK _ ?_⟩; ((first | (go_at_call 96; with_reducible exact qb_below (HvalA.out _ _)))); clear hK K))
        refine wpQuiet_nil ?_
        intro _ hw'
        obtain ⟨⟨dq, osq⟩, hw''⟩ := hw'
        subst hw''
        have hbq := below_regrown T dq osq
        generalize grow (redrawn T dq) osq = wq at hbq ⊢
        have Hb1 := Lib.hid (Hb.out.trans ((HbT.out.trans (hbq.mono HbT.out.size)).mono Hb.out.size))
        clear hbq f0 f1
        go_wp2
        go_ret
        exact ⟨by rw [Hno.out Hok.out]; rfl, Hb1.out⟩
      | true =>
        rw [hcb] at HvalA Hok
        rw [Bool.true_and] at Hok
        clear hcb
        by_cases hl : x.length = y.length
        · rw [decide_eq_true hl] at Hok
          obtain ⟨m, hm⟩ : ∃ m, m = y.length := ⟨_, rfl⟩
          rw [← hm] at hl f1 hcell0 hyl
          rw [hl] at f0 hcell HT HvalA
          have HT2 := Lib.hid HT.out
          have Hc1 := Lib.hid (fun d os => columns_c (ao := ro) (n := m) (cap := rc) (w := grow (redrawn T d) os) hyl)
          have Hc2 := Lib.hid (fun d os => columns_c (ao := qo) (n := m) (cap := qc) (w := grow (redrawn T d) os) hyl)
          clear hl hm hxl
          go_upto_region 4 with fail
          rw [← HT2.out]
          clear hcell hcell0
          refine wp_region_quiet_below (by kernel_rfl) (by kernel_rfl) ?_
          repeat ((with_reducible refine wpQuiet_step (fun K hK => ?_)); go_simp; first | ((with_reducible refine hK _ ?_); clear hK K) | (apply Exists.intro; refine ⟨fun _ => ?_, hK _ ?_⟩; ((first | (go_at_call 96; with_reducible exact qb_below (HvalA.out _ _)) | (go_at_call 95; first | with_reducible exact qb_below (Hc1.out _ _) | with_reducible exact qb_below (Hc2.out _ _)))); clear hK K))
          refine wpQuiet_nil ?_
          intro _ hw'
          obtain ⟨⟨dq, osq⟩, hw''⟩ := hw'
          subst hw''
          have hbq := below_regrown T dq osq
          generalize grow (redrawn T dq) osq = wq at hbq ⊢
          have Hb1 := Lib.hid (Hb.out.trans ((HbT.out.trans (hbq.mono HbT.out.size)).mono Hb.out.size))
          clear hbq f0 f1
          go_wp2
          go_roundw
          case rel => exact ⟨k + 1, by omega, by go_num, Lib.hid (by rw [Hst.out, hp.out, Hok.out]; rfl), Hb1.out⟩
          case measure => simp [intOf]; omega
        · rw [decide_eq_false hl] at Hok
          obtain ⟨m, hm⟩ : ∃ m, m = y.length := ⟨_, rfl⟩
          obtain ⟨p, hp2⟩ : ∃ p, p = x.length := ⟨_, rfl⟩
          rw [← hm] at hl f1 hcell0 hyl
          rw [← hp2] at hl f0 hcell hxl HT HvalA
          have HT2 := Lib.hid HT.out
          have hl2 : ((p : Int) != (m : Int)) = true := by simp; omega
          have hl3 : (p != m) = true := by simp; omega
          have Hc1 := Lib.hid (fun d os => columns_c (ao := ro) (n := p) (cap := rc) (w := grow (redrawn T d) os) hxl)
          have Hc2 := Lib.hid (fun d os => columns_c (ao := qo) (n := m) (cap := qc) (w := grow (redrawn T d) os) hyl)
          clear hm hp2
          go_upto_region 4 with fail
          rw [← HT2.out]
          clear hcell hcell0
          refine wp_region_quiet_below (by kernel_rfl) (by kernel_rfl) ?_
          repeat ((with_reducible refine wpQuiet_step (fun K hK => ?_)); go_simp; first | ((with_reducible refine hK _ ?_); clear hK K) | (apply Exists.intro; refine ⟨fun _ => ?_, hK _ ?_⟩; ((first | (go_at_call 96; with_reducible exact qb_below (HvalA.out _ _)) | (go_at_call 95; first | with_reducible exact qb_below (Hc1.out _ _) | with_reducible exact qb_below (Hc2.out _ _)))); clear hK K))
          refine wpQuiet_nil ?_
          intro _ hw'
          obtain ⟨⟨dq, osq⟩, hw''⟩ := hw'
          subst hw''
          have hbq := below_regrown T dq osq
          generalize grow (redrawn T dq) osq = wq at hbq ⊢
          have Hb1 := Lib.hid (Hb.out.trans ((HbT.out.trans (hbq.mono HbT.out.size)).mono Hb.out.size))
          clear hbq f0 f1
          go_wp2
          go_ret
          exact ⟨by rw [Hno.out Hok.out]; rfl, Hb1.out⟩
    · obtain rfl : k = n := by omega
      have hal := hp.out
      rw [List.take_of_length_le (by have := Hn.out; omega)] at hal
      have Hal := Lib.hid hal
      clear hal
      go_wp2
      go_ret
      exact ⟨ret_bool (by rw [Hal.out]; simp; omega), hb⟩
end Go.Proofs.YtfieilbcdhbigaaGreatDoor
namespace Go.Proofs.YtfieilbcdhbigaaGreatDoor
open Go.ChangeShapes Go.WideShapes Go.ChangeAt Go.RowKit Go.Sort
set_option linter.unusedVariables false
set_option maxRecDepth 100000
theorem any_take_snoc {α : Type} {d : List α} {k : Nat} {x : α} (p : α → Bool) (h : d[k]? = some x) : (d.take (k + 1)).any p = ((d.take k).any p || p x) := by
  rw [take_snoc h, List.any_append]; simp
theorem l02Ok_c {xs : List Int} {w : World} {A b off : Nat} {ro : Option Addr} {rc : Nat} (hcell : w.cell? ⟨b, off, none⟩ = some (.slice ro xs.length rc)) (ha : RdI A w (.slice ro xs.length rc) xs) :
    Calls Tryz.prog 118 #[.pointer (some ⟨b, off, none⟩)] w fun e w' => e = .returned (.bool (cardB xs)) ∧ w = w' := by
  have hle := ha.le
  obtain ⟨ro', cap', hs, ho⟩ := ha.open
  injection hs with h1 h2 h3
  subst h1
  subst h3
  obtain ⟨n, hn⟩ : ∃ n, n = xs.length := ⟨_, rfl⟩
  have hcb : cardB xs = (decide (1 ≤ n ∧ n ≤ 20) && !xs.any badHole) := by unfold cardB; rw [hn]
  rw [hcb]
  rw [← hn] at hcell ho hle
  have Hn := Lib.hid hn
  have Ho := Lib.hid ho
  clear ha ho hn h2 hcb
  go_enter Tryz.func118, Tryz.ntmps118
  go_wp2
  go_loop [3] (fun i => ∃ k : Nat, k ≤ n ∧ i = .int .i64 k ∧ Hid ((xs.take k).any badHole = false)) (fun i => n - (intOf i).toNat)
  case atStart => exact ⟨0, Nat.zero_le _, rfl, rfl⟩
  case round =>
    obtain ⟨k, hk, rfl, hp⟩ := hrel
    by_cases hkn : k < n
    · obtain ⟨rb, roff, rfl, hlt, hcc⟩ := Ho.out (by omega)
      obtain ⟨x, hx, hcx, bx⟩ := hcc k (by omega)
      have Hx := Lib.hid hx
      have hkni : (k : Int) < (n : Int) := by omega
      have hst := any_take_snoc badHole hx
      rw [hp.out, Bool.false_or] at hst
      have Hst := Lib.hid hst
      clear hx hcc hst bx
      by_cases hq : 0 ≤ x ∧ x ≤ 4095
      · have hbh : badHole x = false := by unfold badHole; simp [hq]
        have Hbh := Lib.hid hbh
        have Hq := Lib.hid hq
        clear hbh hq
        go_wp2_with fail
        with_reducible refine (l00In_any _ _ _ _).mono ?_
        rw [decide_eq_true Hq.out]
        rintro e w' ⟨rfl, rfl⟩
        go_wp2
        go_round
        case rel => exact ⟨k + 1, by omega, by go_num, Lib.hid (by rw [Hst.out, Hbh.out])⟩
        case measure => simp [intOf]; omega
      · have hbh : badHole x = true := by unfold badHole; simp; omega
        have Hbh := Lib.hid hbh
        have Hq := Lib.hid hq
        have hany : xs.any badHole = true := List.any_eq_true.2 ⟨x, List.mem_of_getElem? Hx.out, hbh⟩
        have Hany := Lib.hid hany
        clear hbh hq hany
        go_wp2_with fail
        with_reducible refine (l00In_any _ _ _ _).mono ?_
        rw [decide_eq_false Hq.out]
        rintro e w' ⟨rfl, rfl⟩
        go_wp2
        go_ret
        exact ⟨ret_bool (by rw [Hany.out]; simp), rfl⟩
    · obtain rfl : k = n := by omega
      have hal := hp.out
      rw [List.take_of_length_le (by have := Hn.out; omega)] at hal
      have Hal := Lib.hid hal
      clear hal
      go_wp2_with fail
      with_reducible refine (l00In_any _ _ _ _).mono ?_
      rintro e w' ⟨rfl, rfl⟩
      go_wp2
      go_ret
      exact ⟨ret_bool (by rw [Hal.out, Bool.not_false, Bool.and_true, Bool.eq_iff_iff]; simp; omega), rfl⟩
set_option maxHeartbeats 1000000 in
theorem l02Deck_c {xss : List (List Int)} {v : Value} {w : World} {A : Nat} (ha : RdInt64SS A w v xss) :
    Calls Tryz.prog 91 #[v] w fun e w' => e = .returned (.bool (deckB xss)) ∧ ∃ m, w' = w.drewN m := by
  have hle := ha.le
  obtain ⟨ao, cap, rfl, ho⟩ := ha.open
  obtain ⟨n, hn⟩ : ∃ n, n = xss.length := ⟨_, rfl⟩
  have hdk : deckB xss = (xss.all (okAt xss) && decide (n ≤ 40)) := by unfold deckB; rw [hn]
  rw [hdk, ← hn]
  have Hn := Lib.hid hn
  have Ho := Lib.hid ho
  have hle' : n ≤ 9223372036854775807 := by omega
  clear ho hn hle ha hdk
  go_enter Tryz.func91, Tryz.ntmps91
  go_wp2
  go_loopw [3] (fun i wr => ∃ k : Nat, k ≤ n ∧ i = .int .i64 k ∧ Hid ((xss.take k).all (okAt xss) = true) ∧ ∃ m, wr = w.drewN m) (fun i _ => n - (intOf i).toNat)
  case atStart => exact ⟨0, Nat.zero_le _, rfl, Lib.hid (by simp), 0, rfl⟩
  case round =>
    obtain ⟨k, hk, rfl, hp, m, rfl⟩ := hrel
    by_cases hkn : k < n
    · obtain ⟨b, off, rfl, hlt, hc⟩ := Ho.out (by have := Hn.out; omega)
      obtain ⟨x, ro, rc, hx, hcell, hrd⟩ := hc k (by have := Hn.out; omega)
      obtain ⟨y, qo, qc, hy, hcell0, hrd0⟩ := hc 0 (by have := Hn.out; omega)
      have hh := head_of hy
      have hcell0' : w.cell? ⟨b, off, none⟩ = some (.slice qo y.length qc) := hcell0
      have hkni : (k : Int) < (n : Int) := by omega
      have hn0 : 0 < n := by omega
      have hyl := hrd0.le
      have hxl := hrd.le
      have hok : okAt xss x = (cardB x && decide (x.length = y.length)) := by unfold okAt; rw [hh]
      have hcon := fun q => l02Ok_c (w := w.drewN q) (b := b) (off := off + k) (xs := x) (ro := ro) (rc := rc) hcell (hrd.drewN q)
      have hst := all_take_snoc (okAt xss) hx
      have hno := fun h => all_not (p := okAt xss) hx h
      have Hcon := Lib.hid hcon
      have Hok := Lib.hid hok
      have Hst := Lib.hid hst
      have Hno := Lib.hid hno
      clear hc hx hy hrd hrd0 hcon hok hst hno hh hcell0
      cases hcb : cardB x with
      | false =>
        rw [hcb] at Hcon Hok
        rw [Bool.false_and] at Hok
        clear hcb
        go_wp2
        go_quiet ((go_at_call 118; first | with_reducible exact quiet_at (Hcon.out _) | with_reducible exact quiet_at0 (Hcon.out _)))
        go_wp2
        go_ret
        exact ⟨by rw [Hno.out Hok.out]; rfl, _, World.drewN_drewN _ _ _⟩
      | true =>
        rw [hcb] at Hcon Hok
        rw [Bool.true_and] at Hok
        clear hcb
        by_cases hl : x.length = y.length
        · rw [decide_eq_true hl] at Hok
          obtain ⟨p, hm⟩ : ∃ p, p = y.length := ⟨_, rfl⟩
          rw [← hm] at hl hcell0' hyl
          rw [hl] at hcell
          clear hl hm hxl
          go_wp2
          go_quiet ((go_at_call 118; first | with_reducible exact quiet_at (Hcon.out _) | with_reducible exact quiet_at0 (Hcon.out _)))
          go_wp2
          go_roundw
          case rel => exact ⟨k + 1, by omega, by go_num, Lib.hid (by rw [Hst.out, hp.out, Hok.out]; rfl), _, rfl⟩
          case measure => simp [intOf]; omega
        · rw [decide_eq_false hl] at Hok
          obtain ⟨p, hm⟩ : ∃ p, p = y.length := ⟨_, rfl⟩
          obtain ⟨q, hq⟩ : ∃ q, q = x.length := ⟨_, rfl⟩
          rw [← hm] at hl hcell0' hyl
          rw [← hq] at hl hcell hxl
          have hl2 : ((q : Int) != (p : Int)) = true := by simp; omega
          have hl3 : (q != p) = true := by simp; omega
          clear hm hq
          go_wp2
          go_quiet ((go_at_call 118; first | with_reducible exact quiet_at (Hcon.out _) | with_reducible exact quiet_at0 (Hcon.out _)))
          go_wp2
          go_ret
          exact ⟨by rw [Hno.out Hok.out]; rfl, _, World.drewN_drewN _ _ _⟩
    · obtain rfl : k = n := by omega
      have hal := hp.out
      rw [List.take_of_length_le (by have := Hn.out; omega)] at hal
      have Hal := Lib.hid hal
      clear hal
      go_wp2
      go_ret
      exact ⟨ret_bool (by rw [Hal.out]; simp; omega), m, rfl⟩
end Go.Proofs.YtfieilbcdhbigaaGreatDoor
namespace Go.Proofs.YtfieilbcdhbigaaGreatDoor
open Go.ChangeShapes Go.WideShapes Go.ChangeAt Go.RowKit
set_option linter.unusedVariables false
set_option maxRecDepth 100000
theorem meet_c (x y : ItemT) (w : World) : Calls Tryz.prog 123 #[.agg #[.int .i64 x.ff, .int .i64 x.ft], .agg #[.int .i64 y.ff, .int .i64 y.ft]] w fun e w' => e = .returned (.bool (decide (meetP x y))) ∧ Below w.heap.size w w' := by
  obtain ⟨p, hp⟩ : ∃ p, p = decide (meetP x y) := ⟨_, rfl⟩
  rw [← hp]
  have Hp := Lib.hid hp
  clear hp
  have fin : ∀ (a b : Int), a = (if x.ff < y.ff then y.ff else x.ff) → b = (if x.ft < y.ft then x.ft else y.ft) → decide (a < b) = p := by
    intro a b h1 h2
    rw [Hp.out, h1, h2]; rfl
  have Fin := Lib.hid fin
  clear fin
  have hb2 : Below w.heap.size w ((w.alloc (.cells #[.int .i64 x.ff, .int .i64 x.ft] 70)).alloc (.cells #[.int .i64 y.ff, .int .i64 y.ft] 70)) := ((Below.refl _ _).alloc (Nat.le_refl _) _).alloc (by simp) _
  have Hb2 := Lib.hid hb2
  clear hb2
  by_cases h1 : x.ff < y.ff
  case pos =>
    by_cases h2 : y.ft < x.ft
    case pos =>
      have E := Lib.hid (Fin.out y.ff y.ft (by split <;> omega) (by split <;> omega))
      go_enter Tryz.func123, Tryz.ntmps123
      go_wp2
      go_ret
      exact ⟨ret_bool E.out, Hb2.out⟩
    case neg =>
      have E := Lib.hid (Fin.out y.ff x.ft (by split <;> omega) (by split <;> omega))
      go_enter Tryz.func123, Tryz.ntmps123
      go_wp2
      go_ret
      exact ⟨ret_bool E.out, Hb2.out⟩
  case neg =>
    by_cases h2 : y.ft < x.ft
    case pos =>
      have E := Lib.hid (Fin.out x.ff y.ft (by split <;> omega) (by split <;> omega))
      go_enter Tryz.func123, Tryz.ntmps123
      go_wp2
      go_ret
      exact ⟨ret_bool E.out, Hb2.out⟩
    case neg =>
      have E := Lib.hid (Fin.out x.ff x.ft (by split <;> omega) (by split <;> omega))
      go_enter Tryz.func123, Tryz.ntmps123
      go_wp2
      go_ret
      exact ⟨ret_bool E.out, Hb2.out⟩
theorem clo_Item (x y : ItemT) (w : World) {c : Nat} (hx : Box w c (eItem.cells x)) (hy : okItem y) :
    Calls Tryz.prog 122 #[vItem y, .pointer (some ⟨c, 0, none⟩)] w fun e w' => e = .returned (.bool (clI x y)) ∧ Below w.heap.size w w' := by
  have c0 := hx.cell 0 _ rfl
  have c2 := hx.cell 2 _ rfl
  have c3 := hx.cell 3 _ rfl
  have hlt := hx.lt
  have hne : c ≠ w.heap.size := by omega
  have hb0 : Below w.heap.size w (w.alloc (.cells #[.string y.nm, .int .i64 y.kd, .int .i64 y.ff, .int .i64 y.ft] 72)) := (Below.refl _ _).alloc (Nat.le_refl _) _
  have Hb0 := Lib.hid hb0
  clear hx hy hb0
  cases h1 : (x.nm.toList == y.nm.toList) with
  | true =>
    have e : clI x y = true := by unfold clI; rw [h1]; rfl
    rw [e]
    clear e
    go_enter Tryz.func122, Tryz.ntmps122
    go_wp2
    go_ret
    exact ⟨rfl, Hb0.out⟩
  | false =>
    have e : clI x y = decide (meetP x y) := by unfold clI; rw [h1]; rfl
    rw [e]
    clear e
    go_enter Tryz.func122, Tryz.ntmps122
    go_wp2_with fail
    with_reducible refine (meet_c x y _).mono ?_
    rintro e w1 ⟨rfl, hb⟩
    have hb1 := Hb0.out.trans (hb.mono Hb0.out.size)
    clear hb c0 c2 c3
    go_wp2
    go_ret
    exact ⟨rfl, hb1⟩
theorem indexItem_c {xs : List ItemT} {v : Value} {w : World} {A : Nat} (x : ItemT) {c : Nat} (hcc : Box w c (eItem.cells x)) (ha : RdItemS A w v xs) :
    Calls Tryz.prog 126 #[v, .func (.func 122) #[] #[.pointer (some ⟨c, 0, none⟩)]] w fun e w' => (∃ r : Int, e = .returned (.int .i64 r) ∧ -1 ≤ r ∧ (0 ≤ r ↔ xs.any (clI x) = true)) ∧ Below w.heap.size w w' := by
  have hle := ha.le
  obtain ⟨ao, cap, rfl, ho⟩ := eItem_open ha
  obtain ⟨n, hn⟩ : ∃ n, n = xs.length := ⟨_, rfl⟩
  rw [← hn]
  have Hn := Lib.hid hn
  have Ho := Lib.hid ho
  have Hcc := Lib.hid hcc
  clear hcc
  have hle' : n ≤ 9223372036854775807 := by omega
  clear ho hn hle ha
  go_enter Tryz.func126, Tryz.ntmps126
  go_wp2
  go_loopw [8] (fun i wr => ∃ k : Nat, k ≤ n ∧ i = .int .i64 k ∧ Hid ((xs.take k).any (clI x) = false) ∧ Below w.heap.size w wr) (fun i _ => n - (intOf i).toNat)
  case atStart => exact ⟨0, Nat.zero_le _, rfl, rfl, Below.refl _ _⟩
  case round =>
    obtain ⟨k, hk, rfl, hp, hbb⟩ := hrel
    by_cases hkn : k < n
    · obtain ⟨b, off, rfl, hlt, hc⟩ := Ho.out (by have := Hn.out; omega)
      obtain ⟨y, hy, ⟨c0, c1, c2, c3⟩, bx⟩ := hc k (by have := Hn.out; omega)
      have Hy := Lib.hid hy
      have Hbx := Lib.hid bx
      have d0 := (hbb.cell (p := ⟨b, off + k * 4, none⟩) hlt.2).trans c0
      have d1 := (hbb.cell (p := ⟨b, off + k * 4 + 1, none⟩) hlt.2).trans c1
      have d2 := (hbb.cell (p := ⟨b, off + k * 4 + 2, none⟩) hlt.2).trans c2
      have d3 := (hbb.cell (p := ⟨b, off + k * 4 + 3, none⟩) hlt.2).trans c3
      have Hcw := Lib.hid (Hcc.out.on hbb)
      clear hy hc bx c0 c1 c2 c3
      go_wp2_with fail
      with_reducible refine (clo_Item x y wr Hcw.out Hbx.out).mono ?_
      cases hq : (clI x) y with
      | true =>
        have Hq := Lib.hid hq
        clear hq
        rintro e w1 ⟨rfl, hb1⟩
        have hb2 := hbb.trans (hb1.mono hbb.size)
        go_wp2
        go_ret
        refine ⟨⟨_, rfl, by omega, ?_⟩, hb2⟩
        have : xs.any (clI x) = true := List.any_eq_true.2 ⟨y, List.mem_of_getElem? Hy.out, Hq.out⟩
        simp [this]
      | false =>
        have Hq := Lib.hid hq
        clear hq
        rintro e w1 ⟨rfl, hb1⟩
        have hb2 := hbb.trans (hb1.mono hbb.size)
        clear d0 d1 d2 d3 hb1 hbb
        go_wp2
        go_roundw
        case rel => exact ⟨k + 1, by omega, by go_num, by show _ = false; rw [take_snoc Hy.out, List.any_append, hp.out]; simp [Hq.out], hb2⟩
        case measure => simp [intOf]; omega
    · go_wp2
      go_ret
      refine ⟨⟨_, rfl, by omega, ?_⟩, hbb⟩
      have hq := hp.out
      rw [List.take_of_length_le (by have := Hn.out; omega)] at hq
      exact any_endT hq
theorem containsItem_c {xs : List ItemT} {v : Value} {w : World} {A : Nat} (x : ItemT) {c : Nat} (hcc : Box w c (eItem.cells x)) (ha : RdItemS A w v xs) :
    Calls Tryz.prog 121 #[v, .func (.func 122) #[] #[.pointer (some ⟨c, 0, none⟩)]] w fun e w' => e = .returned (.bool (xs.any (clI x))) ∧ Below w.heap.size w w' := by
  have Ha := Lib.hid ha
  have Hcc := Lib.hid hcc
  clear hcc
  obtain ⟨ao, cap, rfl⟩ := ha.shape
  clear ha
  go_enter Tryz.func121, Tryz.ntmps121
  go_wp2_with fail
  with_reducible refine (indexItem_c x Hcc.out Ha.out).mono ?_
  rintro e w' ⟨⟨r, rfl, hr, hi⟩, hb⟩
  have Hi := Lib.hid hi
  clear hi
  go_wp2
  go_ret
  refine ⟨ret_bool ?_, hb⟩
  rw [Bool.eq_iff_iff, decide_eq_true_iff]
  exact Hi.out

theorem isItem_c (x : ItemT) (c9 : Int) (w : World) (a : okItem x) (hc : 0 ≤ c9 ∧ c9 ≤ 1000) :
    Calls Tryz.prog 120 #[vItem x, .int .i64 c9] w fun e w' => e = .returned (.bool (itB x c9)) ∧ Below w.heap.size w w' := by
  have hs : x.nm.size ≤ 9223372036854775807 := a.1
  have Hc := Lib.hid hc
  have hb0 : Below w.heap.size w (w.alloc (.cells #[.string x.nm, .int .i64 x.kd, .int .i64 x.ff, .int .i64 x.ft] 72)) := (Below.refl _ _).alloc (Nat.le_refl _) _
  have Hb0 := Lib.hid hb0
  have HX := Lib.hid (Box.new w [.string x.nm, .int .i64 x.kd, .int .i64 x.ff, .int .i64 x.ft] 72)
  clear a hc hb0
  go_enter Tryz.func120, Tryz.ntmps120
  go_wp2_with fail
  with_reducible refine (IsName_c x.nm _ hs).mono ?_
  cases h1 : nameB x.nm with
  | false =>
    have H1 := Lib.hid h1
    clear h1
    rintro e w' ⟨rfl, rfl⟩
    go_wp2
    go_ret
    exact ⟨ret_bool (itB_no fun h => by have h9 := h.nm; rw [H1.out] at h9; cases h9).symm, Hb0.out⟩
  | true =>
    have H1 := Lib.hid h1
    clear h1
    rintro e w' ⟨rfl, rfl⟩
    go_wp2_with fail
    with_reducible refine (isField_c x.ff x.ft c9 _ Hc.out).mono ?_
    by_cases h2 : fieldP x.ff x.ft c9
    · have H2 := Lib.hid h2
      have h3 : 0 ≤ x.ff ∧ x.ff < x.ft ∧ x.ft ≤ 1000 := by have := Hc.out; unfold fieldP at h2; omega
      obtain ⟨h4, h5, h6⟩ := h3
      rw [decide_eq_true h2]
      clear h2
      rintro e w1 ⟨rfl, hb⟩
      have HY := Lib.hid (HX.out.on hb)
      have HbY := Lib.hid (Hb0.out.trans (hb.mono Hb0.out.size))
      clear hb HX Hb0
      have c1 := HY.out.cell 1 _ rfl
      have c2 := HY.out.cell 2 _ rfl
      have c3 := HY.out.cell 3 _ rfl
      by_cases k1 : x.kd = 1
      · have q1 : (x.kd == 1) = true := by simpa using k1
        have K1 := Lib.hid k1
        clear k1
        go_wp2
        go_ret
        exact ⟨ret_bool (itB_yes ⟨H1.out, H2.out, .inl K1.out⟩).symm, HbY.out⟩
      · have q1 : (x.kd == 1) = false := by simpa using k1
        have K1 := Lib.hid k1
        clear k1
        by_cases k2 : x.kd = 2
        · have q2 : (x.kd == 2) = true := by simpa using k2
          have K2 := Lib.hid k2
          clear k2
          go_wp2
          go_ret
          refine ⟨ret_bool ?_, HbY.out⟩
          unfold itB
          exact decide_eq_decide.2 ⟨fun q => ⟨H1.out, H2.out, .inr ⟨K2.out, q⟩⟩, fun h => h.kd.elim (fun e => absurd e K1.out) (fun e => e.2)⟩
        · have q2 : (x.kd == 2) = false := by simpa using k2
          have K2 := Lib.hid k2
          clear k2
          go_wp2
          go_ret
          exact ⟨ret_bool (itB_no fun h => h.kd.elim K1.out (fun e => K2.out e.1)).symm, HbY.out⟩
    · have H2 := Lib.hid h2
      rw [decide_eq_false h2]
      clear h2
      rintro e w1 ⟨rfl, hb⟩
      have HbY := Lib.hid (Hb0.out.trans (hb.mono Hb0.out.size))
      clear hb HX Hb0
      go_wp2
      go_ret
      exact ⟨ret_bool (itB_no fun h => H2.out h.ff).symm, HbY.out⟩
set_option maxHeartbeats 1000000 in
theorem ValidLayout_c {xs : List ItemT} {v : Value} {w : World} {A : Nat} (wd : Int) (ha : RdItemS A w v xs) :
    Calls Tryz.prog 94 #[.agg #[.int .i64 wd, v]] w fun e w' => e = .returned (.bool (layB wd xs)) ∧ Below w.heap.size w w' := by
  have hle := ha.le
  have hb0 : Below w.heap.size w (w.alloc (.cells #[.int .i64 wd, v] 32)) := (Below.refl _ _).alloc (Nat.le_refl _) _
  have Hb0 := Lib.hid hb0
  have hL := Box.new w [.int .i64 wd, v] 32
  have ha0 := Rds.onn ha hb0
  obtain ⟨ao, cap, rfl⟩ := ha.shape
  have hcap := ha0.cap
  obtain ⟨ao2, cap2, he2, ho⟩ := eItem_open ha0
  injection he2 with he3 _ he4
  subst he3; subst he4
  obtain ⟨n, hn⟩ : ∃ n, n = xs.length := ⟨_, rfl⟩
  have hcp : n ≤ cap := by omega
  rw [← hn] at hle ho ha0 hL hb0 Hb0 ⊢
  have Ha := Lib.hid ha0
  have HL := Lib.hid hL
  have Hn := Lib.hid hn
  have Ho := Lib.hid ho
  have hcp2 : 0 < n → cap ≤ 9223372036854775807 := fun h => hcap.2.2 (by omega)
  have Hcp2 := Lib.hid hcp2
  clear hn ho ha ha0 hL hb0 hcap hcp2
  by_cases hw : 1 ≤ wd ∧ wd ≤ 20
  case neg =>
    have hw2 : wd < 1 ∨ 20 < wd := by omega
    have Hw := Lib.hid hw2
    have E := Lib.hid (layB_width (xs := xs) hw)
    clear hw hw2
    go_enter Tryz.func94, Tryz.ntmps94
    go_wp2_with fail
    with_reducible refine (inside_no _ _ _ _ Hw.out).mono ?_
    rintro e w' ⟨rfl, rfl⟩
    go_wp2
    go_ret
    exact ⟨ret_bool E.out.symm, Hb0.out⟩
  case pos =>
    have Hw := Lib.hid hw
    clear hw
    by_cases h12 : n ≤ 12
    case neg =>
      have E := Lib.hid (layB_long (w := wd) (xs := xs) (by have := Hn.out; omega))
      go_enter Tryz.func94, Tryz.ntmps94
      go_wp2_with fail
      with_reducible refine (inside_yes _ _ _ _ Hw.out.1 Hw.out.2).mono ?_
      rintro e w' ⟨rfl, rfl⟩
      go_wp2
      go_ret
      exact ⟨ret_bool E.out.symm, Hb0.out⟩
    case pos =>
      go_enter Tryz.func94, Tryz.ntmps94
      go_wp2_with fail
      with_reducible refine (inside_yes _ _ _ _ Hw.out.1 Hw.out.2).mono ?_
      rintro e w' ⟨rfl, rfl⟩
      have Hb00 : Hid (Below (w.alloc (.cells #[.int .i64 wd, .slice ao n cap] 32)).heap.size (w.alloc (.cells #[.int .i64 wd, .slice ao n cap] 32)) (w.alloc (.cells #[.int .i64 wd, .slice ao n cap] 32))) := Lib.hid (Below.refl _ _)
      generalize w.alloc (.cells #[.int .i64 wd, .slice ao n cap] 32) = W at Ha HL Hb0 Ho Hb00 ⊢
      have l0 := HL.out.cell 0 _ rfl
      have l1 := HL.out.cell 1 _ rfl
      go_wp2_with fail
      clear l0 l1
      go_loopw [18] (fun i wr => ∃ k : Nat, k ≤ n ∧ i = .int .i64 k ∧ Hid (∀ j, j < k → layG xs wd j = true) ∧ Below W.heap.size W wr) (fun i _ => n - (intOf i).toNat)
      case atStart => exact ⟨0, Nat.zero_le _, rfl, fun j h => absurd h (Nat.not_lt_zero _), Hb00.out⟩
      case round =>
        obtain ⟨k, hk, rfl, hp, hbb⟩ := hrel
        by_cases hkn : k < n
        · obtain ⟨b, off, rfl, hlt, hc⟩ := Ho.out (by have := Hn.out; omega)
          obtain ⟨x, hx, ⟨c0, c1, c2, c3⟩, bx⟩ := hc k (by have := Hn.out; omega)
          have d0 := (hbb.cell (p := ⟨b, off + k * 4, none⟩) hlt.2).trans c0
          have d1 := (hbb.cell (p := ⟨b, off + k * 4 + 1, none⟩) hlt.2).trans c1
          have d2 := (hbb.cell (p := ⟨b, off + k * 4 + 2, none⟩) hlt.2).trans c2
          have d3 := (hbb.cell (p := ⟨b, off + k * 4 + 3, none⟩) hlt.2).trans c3
          have hLr := HL.out.on hbb
          have hcap := Hcp2.out (by omega)
          have hb2 : Below W.heap.size W (wr.alloc (.cells #[.string x.nm, .int .i64 x.kd, .int .i64 x.ff, .int .i64 x.ft] 72)) := hbb.alloc hbb.size _
          have hXb := Box.new wr [.string x.nm, .int .i64 x.kd, .int .i64 x.ff, .int .i64 x.ft] 72
          have hLx := hLr.alloc (.cells #[.string x.nm, .int .i64 x.kd, .int .i64 x.ff, .int .i64 x.ft] 72)
          have l1 := hLr.cell 1 _ rfl
          have hgx := layG_of (w := wd) hx
          have Hgx := Lib.hid hgx
          have Hx := Lib.hid hx
          have Hbx := Lib.hid bx
          have HXb := Lib.hid hXb
          have HLx := Lib.hid hLx
          have Hb2 := Lib.hid hb2
          have Hlw : w.heap.size < wr.heap.size := hLr.lt
          clear hx hc bx c0 c1 c2 c3 hXb hLx hb2 hLr hgx
          go_upto_region 6 with fail
          clear d0 d1 d2 d3 l1
          generalize wr.alloc (.cells #[.string x.nm, .int .i64 x.kd, .int .i64 x.ff, .int .i64 x.ft] 72) = T at HXb HLx Hb2 ⊢
          have x0 := HXb.out.cell 0 _ rfl
          have x1 := HXb.out.cell 1 _ rfl
          have x2 := HXb.out.cell 2 _ rfl
          have x3 := HXb.out.cell 3 _ rfl
          have l0 := HLx.out.cell 0 _ rfl
          go_wp2_with fail
          with_reducible refine (isItem_c x wd _ Hbx.out (by have := Hw.out; omega)).mono ?_
          cases hv : itB x wd with
          | false =>
            have Hv := Lib.hid hv
            clear hv
            rintro e w2 ⟨rfl, hb⟩
            have hb3 := Hb2.out.trans (hb.mono Hb2.out.size)
            clear hb x0 x1 x2 x3 l0
            go_wp2
            go_ret
            exact ⟨ret_bool (layB_no (j := k) (by have := Hn.out; omega) (by rw [Hgx.out, Hv.out]; rfl)).symm, Hb0.out.trans (hb3.mono Hb0.out.size)⟩
          | true =>
            have Hv := Lib.hid hv
            clear hv
            rintro e w2 ⟨rfl, hb⟩
            have hb3 := Hb2.out.trans (hb.mono Hb2.out.size)
            have HX3 := Lib.hid (HXb.out.on hb)
            have HL3 := Lib.hid (HLx.out.on hb)
            have Hb3 := Lib.hid hb3
            have Ht := Lib.hid (((Ha.out.below hb3 (Nat.le_refl _)).mono hb3.size).takeN hk)
            clear hb hb3 x0 x1 x2 x3 l0 HXb HLx
            have l1 := HL3.out.cell 1 _ rfl
            go_wp2_with fail
            with_reducible refine (containsItem_c x HX3.out Ht.out).mono ?_
            cases hq : (xs.take k).any (clI x) with
            | true =>
              have Hq := Lib.hid hq
              clear hq
              rintro e w3 ⟨rfl, hb4⟩
              have hb5 := Hb3.out.trans (hb4.mono Hb3.out.size)
              clear l1 hb4
              go_wp2
              go_ret
              exact ⟨ret_bool (layB_no (j := k) (by have := Hn.out; omega) (by rw [Hgx.out, Hv.out, Hq.out]; rfl)).symm, Hb0.out.trans (hb5.mono Hb0.out.size)⟩
            | false =>
              have Hq := Lib.hid hq
              clear hq
              rintro e w3 ⟨rfl, hb4⟩
              have hb5 := Hb3.out.trans (hb4.mono Hb3.out.size)
              clear l1 hb4
              go_wp2
              go_roundw
              case rel => exact ⟨k + 1, by omega, by go_num, fun j hj => by rcases Nat.lt_succ_iff_lt_or_eq.1 hj with hj | rfl; exact hp.out j hj; rw [Hgx.out, Hv.out, Hq.out]; rfl, hb5⟩
              case measure => simp [intOf]; omega
        · have E : layB wd xs = decide (xs.length ≤ 12) := layB_end Hw.out (fun j hj => hp.out j (by have := Hn.out; omega))
          rw [decide_eq_true (show xs.length ≤ 12 by have := Hn.out; omega)] at E
          have E1 := Lib.hid E
          clear E
          go_wp2
          go_ret
          exact ⟨ret_bool E1.out.symm, Hb0.out.trans (hbb.mono Hb0.out.size)⟩
end Go.Proofs.YtfieilbcdhbigaaGreatDoor
