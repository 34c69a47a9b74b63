/- The numbers that are read with faults, differences of reports: the program's. The condition: the library's table of powers of ten lies as its text lays it. -/
import Derived.Test.YtahkkdkdaedioaaDoorRep
namespace Go.Proofs.YtahkkdkdaedioaaDoor
open Go.ChangeShapes Go.WideShapes Go.ChangeAt Go.RowKit
set_option linter.unusedVariables false
set_option maxRecDepth 100000
theorem less_c (r x : ReportT) (w : World) :
    Calls Tryd.prog 64 #[vReport r, vReport x] w fun e w' => e = .returned (vReport (lessW r x)) ∧ Below w.heap.size w w' := by
  go_enter Tryd.func64, Tryd.ntmps64
  go_wp2
  exact bodyPost_ret (v := vReport (lessW r x)) (by simp [results, Tryd.results64, go_sem, lessW, IntWalk.i64_left]) rfl ⟨rfl, ((((Below.refl w.heap.size w).alloc (Nat.le_refl _) _).alloc (by simp) _).alloc (by simp; omega) _)⟩
theorem isReport_c (r : ReportT) (w : World) :
    Calls Tryd.prog 61 #[vReport r] w fun e w' => e = .returned (.bool (isRep r)) ∧ Below w.heap.size w w' := by
  unfold isRep
  by_cases h1 : -1000000000 ≤ r.count ∧ r.count ≤ 1000000000
  · by_cases h2 : -1000000000 ≤ r.sum ∧ r.sum ≤ 1000000000
    · rw [decide_eq_true h1, decide_eq_true h2]
      have H1 := Lib.hid h1
      have H2 := Lib.hid h2
      clear h1 h2
      go_enter Tryd.func61, Tryd.ntmps61
      go_wp2_with fail
      with_reducible refine (inside_any _ _ _ _).mono ?_
      rw [decide_eq_true H1.out]
      rintro e w' ⟨rfl, rfl⟩
      go_wp2_with fail
      with_reducible refine (inside_any _ _ _ _).mono ?_
      rw [decide_eq_true H2.out]
      rintro e w' ⟨rfl, rfl⟩
      go_wp2_with fail
      with_reducible refine (inside_any _ _ _ _).mono ?_
      rintro e w' ⟨rfl, rfl⟩
      go_wp2
      go_ret
      exact ⟨ret_bool (by simp), (Below.refl _ _).alloc (Nat.le_refl _) _⟩
    · rw [decide_eq_true h1, decide_eq_false h2]
      have H1 := Lib.hid h1
      have H2 := Lib.hid h2
      clear h1 h2
      go_enter Tryd.func61, Tryd.ntmps61
      go_wp2_with fail
      with_reducible refine (inside_any _ _ _ _).mono ?_
      rw [decide_eq_true H1.out]
      rintro e w' ⟨rfl, rfl⟩
      go_wp2_with fail
      with_reducible refine (inside_any _ _ _ _).mono ?_
      rw [decide_eq_false H2.out]
      rintro e w' ⟨rfl, rfl⟩
      go_wp2
      go_ret
      exact ⟨ret_bool (by simp), (Below.refl _ _).alloc (Nat.le_refl _) _⟩
  · rw [decide_eq_false h1]
    have H1 := Lib.hid h1
    clear h1
    go_enter Tryd.func61, Tryd.ntmps61
    go_wp2_with fail
    with_reducible refine (inside_any _ _ _ _).mono ?_
    rw [decide_eq_false H1.out]
    rintro e w' ⟨rfl, rfl⟩
    go_wp2
    go_ret
    exact ⟨ret_bool (by simp), (Below.refl _ _).alloc (Nat.le_refl _) _⟩
theorem clo_after (f : FaultT) (i : Nat) (w : World) {c : Nat} (hc : w.cell? ⟨c, 0, none⟩ = some (.int .i64 (i : Int))) (hlt : c < w.heap.size) :
    Calls Tryd.prog 56 #[vFault f, .pointer (some ⟨c, 0, none⟩)] w fun e w' => e = .returned (.bool (f.card == (i : Int))) ∧ Below w.heap.size w w' := by
  have hne : c ≠ w.heap.size := by omega
  go_enter Tryd.func56, Tryd.ntmps56
  go_wp2
  go_ret
  exact ⟨ret_bool (by simp), (Below.refl _ _).alloc (Nat.le_refl _) _⟩
/-- where the first fault of a card stands -/
theorem indexFault_c {xs : List FaultT} {v : Value} {w : World} {A : Nat} (i : Nat) {c : Nat} (hcc : w.cell? ⟨c, 0, none⟩ = some (.int .i64 (i : Int))) (hlc : c < w.heap.size) (ha : RdFaultS A w v xs) :
    Calls Tryd.prog 55 #[v, .func (.func 56) #[] #[.pointer (some ⟨c, 0, none⟩)]] w fun e w' =>
      ((e = .returned (.int .i64 (-1)) ∧ findF xs (i : Int) = none) ∨ ∃ (k : Nat) (f : FaultT), e = .returned (.int .i64 (k : Int)) ∧ xs[k]? = some f ∧ findF xs (i : Int) = some f) ∧ Below w.heap.size w w' := by
  have hle := ha.le
  obtain ⟨ao, cap, rfl, ho⟩ := eFault_open ha
  obtain ⟨n, hn⟩ : ∃ n, n = xs.length := ⟨_, rfl⟩
  rw [← hn]
  have Hn := Lib.hid hn
  have Ho := Lib.hid ho
  have Hcc := Lib.hid hcc
  have hle' : n ≤ 9223372036854775807 := by omega
  clear ho hn hle ha hcc
  go_enter Tryd.func55, Tryd.ntmps55
  go_wp2
  go_loopw [8] (fun j wr => ∃ k : Nat, k ≤ n ∧ j = .int .i64 k ∧ Hid ((xs.take k).find? (fun f => f.card == (i : Int)) = none) ∧ Below w.heap.size w wr) (fun j _ => n - (intOf j).toNat)
  case atStart => exact ⟨0, Nat.zero_le _, rfl, rfl, Below.refl _ _⟩
  case round =>
    obtain ⟨k, hk, rfl, hp, hbb⟩ := hrel
    by_cases hkn : k < n
    · obtain ⟨b, off, rfl, hlt, hc⟩ := Ho.out (by have := Hn.out; omega)
      obtain ⟨y, hy, ⟨c0, c1, c2, c3⟩, bx⟩ := hc k (by have := Hn.out; omega)
      have Hy := Lib.hid hy
      have d0 := (hbb.cell (p := ⟨b, off + k * 4, none⟩) hlt.2).trans c0
      have d1 := (hbb.cell (p := ⟨b, off + k * 4 + 1, none⟩) hlt.2).trans c1
      have d2 := (hbb.cell (p := ⟨b, off + k * 4 + 2, none⟩) hlt.2).trans c2
      have d3 := (hbb.cell (p := ⟨b, off + k * 4 + 3, none⟩) hlt.2).trans c3
      have hcw := (hbb.cell (p := ⟨c, 0, none⟩) hlc).trans Hcc.out
      have hlw : c < wr.heap.size := by have := hbb.size; omega
      have Hcw := Lib.hid hcw
      clear hcw hy hc bx c0 c1 c2 c3
      go_wp2_with fail
      with_reducible refine (clo_after y i wr Hcw.out hlw).mono ?_
      cases hq : (y.card == (i : Int)) with
      | true =>
        have Hq := Lib.hid hq
        clear hq
        rintro e w1 ⟨rfl, hb1⟩
        have hb2 := hbb.trans (hb1.mono hbb.size)
        go_wp2
        go_ret
        refine ⟨.inr ⟨k, y, rfl, Hy.out, ?_⟩, hb2⟩
        unfold findF
        have hs : xs = xs.take (k + 1) ++ xs.drop (k + 1) := (List.take_append_drop _ _).symm
        rw [hs, List.find?_append, take_snoc Hy.out, List.find?_append, hp.out]
        simp [Hq.out]
      | false =>
        have Hq := Lib.hid hq
        clear hq
        rintro e w1 ⟨rfl, hb1⟩
        have hb2 := hbb.trans (hb1.mono hbb.size)
        clear d0 d1 d2 d3 hb1 hbb
        go_wp2
        go_roundw
        case rel => exact ⟨k + 1, by omega, by go_num, by show _ = none; rw [take_snoc Hy.out, List.find?_append, hp.out]; simp [Hq.out], hb2⟩
        case measure => simp [intOf]; omega
    · go_wp2
      go_ret
      refine ⟨.inl ⟨rfl, ?_⟩, hbb⟩
      have hq := hp.out
      rw [List.take_of_length_le (by have := Hn.out; omega)] at hq
      exact hq
/-- what faults must be for them to be read -/
def fRd (f : FaultT) : Prop := f.kind = 3 → (0 ≤ f.place ∧ f.place ≤ 3) ∧ (0 ≤ f.digit ∧ f.digit ≤ 9)
theorem afterF_len (n : Int) (f : FaultT) : (afterF n f).length ≤ 2 := by
  unfold afterF
  split
  · simp
  · split <;> simp
theorem readAt_len (n : Int) (o : Option FaultT) : (readAt n o).length ≤ 2 := by
  cases o with
  | none => simp [readAt]
  | some f => exact afterF_len n f
theorem afterK_len (xs : List Int) (fs : List FaultT) (k : Nat) : (afterK xs fs k).length ≤ 2 * k := by
  induction k with
  | zero => simp [afterK]
  | succ k ih => rw [afterK_succ, List.length_append]; have := readAt_len (xs.getD k 0) (findF fs (k : Int)); omega
set_option maxHeartbeats 1000000 in
theorem amountsAfter_c {xs : List Int} {fs : List FaultT} {v u : Value} {w : World} {A B : Nat} (ha : RdI A w v xs) (hf : RdFaultS B w u fs) (hx : ∀ n ∈ xs, 0 ≤ n ∧ n ≤ 9999) (hl : xs.length ≤ 24) (hfo : ∀ f ∈ fs, fRd f) :
    Calls Tryd.prog 33 #[v, u] w fun e w' => ∃ z, e = .returned z ∧ OwnInt64S w.heap.size w' z (afterL xs fs) ∧ Below w.heap.size w w' := by
  obtain ⟨i0, hi, hz0, hz1, hz2⟩ := info_parts Tryd.infoInt64
  obtain ⟨ao, cap, rfl, ho⟩ := ha.open
  obtain ⟨n, hn⟩ : ∃ n, n = xs.length := ⟨_, rfl⟩
  have hfle := hf.le
  obtain ⟨fo, fcap, rfl⟩ := hf.shape
  obtain ⟨m, hm⟩ : ∃ m, m = fs.length := ⟨_, rfl⟩
  have e1 : afterL xs fs = afterK xs fs n := by rw [hn]; rfl
  rw [e1]
  rw [← hn] at ho hl ⊢
  rw [← hm] at hf hfle ⊢
  have h0 : OwnInt64S w.heap.size (w.alloc (.cells #[] 2)) (.slice (some ⟨w.heap.size, 0, none⟩) 0 0) ([] : List Int) := Own.lit (E := eI) (xs := []) (cs := #[]) (Nat.le_refl _) rfl rfl (by decide) (fun x hx => by cases hx)
  have hb0 : Below w.heap.size w (w.alloc (.cells #[] 2)) := (Below.refl _ _).alloc (Nat.le_refl _) _
  have Ho := Lib.hid ho
  have Hx := Lib.hid hx
  have Hn := Lib.hid hn
  have Hm := Lib.hid hm
  have Hf := Lib.hid hf.tight
  have Hfo := Lib.hid hfo
  have H0 := Lib.hid h0
  have Hb0 := Lib.hid hb0
  clear ha ho hx hn hm hf hfo h0 hb0 e1
  go_enter Tryd.func33, Tryd.ntmps33
  go_wp2
  go_loopw [14, 5] (fun iv zv wr => ∃ k : Nat, k ≤ n ∧ iv = .int .i64 k ∧ OwnInt64S w.heap.size wr zv (afterK xs fs k) ∧ Below w.heap.size w wr) (fun iv _ _ => n - (intOf iv).toNat)
  case atStart => exact ⟨0, Nat.zero_le _, rfl, H0.out, Hb0.out⟩
  case round =>
    obtain ⟨k, hk, rfl, hZ, hb⟩ := hrel
    clear H0 Hb0
    by_cases hkn : k < n
    · obtain ⟨b, off, rfl, hlt, hc⟩ := Ho.out (by omega)
      obtain ⟨x, hxk, hcx, hxo⟩ := hc k hkn
      have hxb := Hx.out x (List.mem_of_getElem? hxk)
      have hgd : xs.getD k 0 = x := by rw [List.getD_eq_getElem?_getD, hxk]; rfl
      have hsu := afterK_succ xs fs k
      have hal := afterK_len xs fs k
      rw [hgd] at hsu
      have c0 := (hb.cell (p := ⟨b, off + k, none⟩) hlt.2).trans hcx
      have hbx := hb.alloc hb.size (.cells #[.int .i64 (k : Int)] 3)
      have hcl : (wr.alloc (.cells #[.int .i64 (k : Int)] 3)).cell? ⟨wr.heap.size, 0, none⟩ = some (.int .i64 (k : Int)) := by simp
      have hfx := Hf.out.below hbx (Nat.le_refl _)
      have hcon := indexFault_c k hcl (by simp) hfx
      have HZ := Lib.hid (hZ.alloc (.cells #[.int .i64 (k : Int)] 3))
      have Hbx := Lib.hid hbx
      have Hcon := Lib.hid hcon
      have Hsu := Lib.hid hsu
      have Hal := Lib.hid hal
      have Hfx := Lib.hid hfx
      have hsz := hb.size
      obtain ⟨x0, x1⟩ := hxb
      have hxok : eI.ok x := by show -9223372036854775808 ≤ x ∧ x ≤ 9223372036854775807; omega
      have Hxok := Lib.hid hxok
      clear hxk hcx hxo hgd hsu hal hbx hcl hfx hcon hZ hb hc hxok
      go_wp2_with fail
      with_reducible refine Hcon.out.mono ?_
      rintro e w2 ⟨hcase, hb2⟩
      have hZ2 := HZ.out.below hb2 (Nat.le_refl _)
      have hbw := Hbx.out.trans (hb2.mono Hbx.out.size)
      have HZ2 := Lib.hid hZ2
      have Hbw := Lib.hid hbw
      have hsw : w.heap.size ≤ w2.heap.size := hbw.size
      have Hfw := Lib.hid (Hf.out.below hbw (Nat.le_refl _))
      clear hZ2 hbw hb2 c0 Hcon
      rcases hcase with ⟨rfl, hfn⟩ | ⟨q, f, rfl, hfq, hfn⟩
      · have hsu := Hsu.out
        rw [hfn] at hsu
        have Hsu2 : Hid (afterK xs fs (k + 1) = afterK xs fs k ++ [x]) := Lib.hid hsu
        clear hsu hfn Hsu
        go_wp2_with (first | (at_builtin; refine wpList_appS (E := eI) rfl _ _ 24 rfl Tryd.underlying24 hi hz0 hz1 hz2 rfl (by decide) rfl rfl (HZ2.out.alloc _) (rds_one (E := eI) (x := x) Hxok.out rfl) ?b1 ?b2 ?b3 ?_))
        case b1 => have := Hal.out; unfold maxLen; (try simp) <;> omega
        case b2 => have := Hal.out; (try simp) <;> omega
        case b3 => (try simp) <;> omega
        intro v5 w5 hO5 hg5
        have hb5 := hg5.alloc.below Hbw.out hsw (fun z hz => (HZ2.out.lt z hz).1)
        have HO5 := Lib.hid hO5
        have Hb5 := Lib.hid hb5
        clear hO5 hg5 hb5
        go_wp2
        go_roundw
        case rel => exact ⟨k + 1, by omega, by go_num, by rw [Hsu2.out]; exact HO5.out, Hb5.out⟩
        case measure => simp [intOf]; omega
      · have hqf := (List.getElem?_eq_some_iff.1 hfq).1
        obtain ⟨fo2, fcap2, hsh, hof⟩ := eFault_open Hfw.out
        have hq : q < m := by rw [Hm.out]; exact hqf
        obtain ⟨b3, off3, hfo2, hlt3, hc3⟩ := hof (by omega)
        subst hfo2
        injection hsh with hs1 hs2 hs3
        subst hs1
        obtain ⟨y, hy, ⟨d0, d1, d2, d3⟩, hyo⟩ := hc3 q hqf
        obtain rfl : y = f := Option.some.inj (hy.symm.trans hfq)
        have hrd := Hfo.out y (List.mem_of_getElem? hfq)
        have hsu := Hsu.out
        rw [hfn] at hsu
        have hsu2 : afterK xs fs (k + 1) = afterK xs fs k ++ afterF x y := hsu
        obtain ⟨kd, cd, pl, dg⟩ := y
        simp only at d0 d1 d2 d3
        have HB0 : Hid (Box (w2.alloc (.cells #[.int .i64 kd, .int .i64 cd, .int .i64 pl, .int .i64 dg] 40)) w2.heap.size [.int .i64 kd, .int .i64 cd, .int .i64 pl, .int .i64 dg]) := Lib.hid (Box.new w2 [.int .i64 kd, .int .i64 cd, .int .i64 pl, .int .i64 dg] _)
        have Hrd := Lib.hid hrd
        have hq1 : (q : Int) < (m : Int) := by omega
        have hqn : ¬ (q : Int) < 0 := by omega
        clear hof hc3 hy hyo hfq hfn hsu hrd hs2 hs3 Hsu Hfw
        by_cases h2 : kd = 2
        · subst h2
          have ea : afterF x ⟨2, cd, pl, dg⟩ = [x, x] := by unfold afterF; rw [if_pos rfl]
          rw [ea] at hsu2
          have Hsu2 := Lib.hid hsu2
          have t2 : ((2 : Int) == 2) = true := rfl
          have hrd2 : RdI (w2.heap.size + 1 + 1) ((w2.alloc (.cells #[.int .i64 2, .int .i64 cd, .int .i64 pl, .int .i64 dg] 40)).alloc (.cells #[.int .i64 x, .int .i64 x] 2)) (.slice (some ⟨w2.heap.size + 1, 0, none⟩) 2 2) [x, x] := by
            have h := (Own.lit (E := eI) (e := 2) (base := 0) (w := w2.alloc (.cells #[.int .i64 2, .int .i64 cd, .int .i64 pl, .int .i64 dg] 40)) (xs := [x, x]) (cs := #[.int .i64 x, .int .i64 x]) (n := 2) (Nat.zero_le _) rfl rfl (by decide) (fun z hz => by simp at hz; rw [hz]; exact Hxok.out)).rds
            simpa using h
          have Hrd2 := Lib.hid hrd2
          clear hsu2 ea hrd2 Hrd
          go_wp2_with (first | (at_builtin; refine wpList_appS (E := eI) rfl _ _ 24 rfl Tryd.underlying24 hi hz0 hz1 hz2 rfl (by decide) rfl rfl ((HZ2.out.alloc _).alloc _) Hrd2.out ?b1 ?b2 ?b3 ?_))
          case b1 => have := Hal.out; unfold maxLen; (try simp) <;> omega
          case b2 => have := Hal.out; (try simp) <;> omega
          case b3 => (try simp) <;> omega
          intro v5 w5 hO5 hg5
          have hb5 := hg5.alloc.alloc.below Hbw.out hsw (fun z hz => (HZ2.out.lt z hz).1)
          have HO5 := Lib.hid hO5
          have Hb5 := Lib.hid hb5
          clear hO5 hg5 hb5 d0 d1 d2 d3
          go_wp2
          go_roundw
          case rel => exact ⟨k + 1, by omega, by go_num, by rw [Hsu2.out]; exact HO5.out, Hb5.out⟩
          case measure => simp [intOf]; omega
        · have t2 : (kd == 2) = false := by simpa using h2
          by_cases h3 : kd = 3
          · subst h3
            obtain ⟨⟨p0, p1⟩, q0, q1⟩ := Hrd.out rfl
            simp only at p0 p1 q0 q1
            obtain ⟨p, rfl⟩ := Int.eq_ofNat_of_zero_le p0
            have hp4 : p < 4 := by omega
            have ea : afterF x ⟨3, cd, (p : Int), dg⟩ = [readF x ⟨3, cd, (p : Int), dg⟩] := by unfold afterF; rw [if_neg h2, if_pos rfl]
            have esh := shown_read (n := x) (f := ⟨3, cd, (p : Int), dg⟩) ⟨x0, x1⟩ hp4 rfl
            have hrb := readF_bound (n := x) (f := ⟨3, cd, (p : Int), dg⟩) ⟨x0, x1⟩ ⟨by simp, by simp only; omega⟩ ⟨q0, q1⟩
            rw [ea] at hsu2
            generalize hR : readF x ⟨3, cd, (p : Int), dg⟩ = R at hsu2 esh hrb
            have hRok : eI.ok R := by show -9223372036854775808 ≤ R ∧ R ≤ 9223372036854775807; omega
            have hcon2 := wheelsShow_c (K := 4) (n := x) (w := w2.alloc (.cells #[.int .i64 3, .int .i64 cd, .int .i64 (p : Int), .int .i64 dg] 40)) (by decide) (by omega) (by omega)
            rw [show ((4 : Nat) : Int) = 4 from rfl] at hcon2
            have Hcon2 := Lib.hid hcon2
            have Hsu2 := Lib.hid hsu2
            have Hesh := Lib.hid esh
            have HRok := Lib.hid hRok
            clear hcon2 hsu2 ea esh hRok hR hrb Hrd p0
            simp only at Hesh
            go_wp2_with fail
            with_reducible refine Hcon2.out.mono ?_
            rintro e w4 ⟨u4, rfl, hu4, hb4⟩
            obtain ⟨g, gcap, hue, hg0, hg1⟩ := Own.addr hu4 (by rw [wl_length]; omega)
            rw [wl_length] at hue
            subst hue
            have hdgo : eI.ok dg := by show -9223372036854775808 ≤ dg ∧ dg ≤ 9223372036854775807; omega
            have hB4 := HB0.out.on hb4
            have k2 := hB4.cell 2 _ rfl
            have k3 := hB4.cell 3 _ rfl
            have hl4 := hB4.lt
            have hst := Own.storeI hu4 (k := p) (x := dg) (by rw [wl_length]) hp4 hdgo
            obtain ⟨⟨y0, hy0⟩, hfz, ho6, hg6⟩ := hst
            have hg2 : w2.heap.size + 1 ≤ g := by simpa using hg0
            clear hg0
            have hzl := HZ2.out.lt
            have hZ6 := (((HZ2.out.alloc (.cells #[.int .i64 3, .int .i64 cd, .int .i64 (p : Int), .int .i64 dg] 40)).below hb4 (Nat.le_refl _)).kept hg6 (.inr (fun h => by have := (hzl _ h).2; omega))).alloc (.cells #[.slice (some ⟨g, 0, none⟩) 4 gcap] 81)
            have hb3x := Hbw.out.alloc hsw (.cells #[.int .i64 3, .int .i64 cd, .int .i64 (p : Int), .int .i64 dg] 40)
            have hb4x := hb3x.trans (hb4.mono hb3x.size)
            have hb5s := hb4x.setCell (p := ⟨g, p, none⟩) (show w.heap.size ≤ g by omega) (.int .i64 dg)
            have hb6 := hb5s.alloc hb5s.size (.cells #[.slice (some ⟨g, 0, none⟩) 4 gcap] 81)
            have hset : ∀ z ∈ (wl x 4).set p dg, 0 ≤ z ∧ z ≤ 9 := fun z hz => by
              rcases List.mem_or_eq_of_mem_set hz with h | h
              · exact wl_ok x 4 z h
              · omega
            have hcs := shown_c (ho6.alloc (.cells #[.slice (some ⟨g, 0, none⟩) 4 gcap] 81)).rds hset (by rw [List.length_set, wl_length])
            rw [Hesh.out] at hcs
            have hs6 := hb6.size
            have hgne : g ≠ w4.heap.size := by omega
            have HZ6 := Lib.hid hZ6
            have Hb6 := Lib.hid hb6
            have Hcs := Lib.hid hcs
            clear ho6 hg6 hzl hZ6 hb5s hb3x hb4x hb6 hset hcs hu4 hb4 hB4 Hcon2 HZ2 Hbw HB0
            go_wp2_with fail
            with_reducible refine Hcs.out.mono ?_
            rintro e w7 ⟨rfl, hb7⟩
            have hZ7 := HZ6.out.below hb7 (Nat.le_refl _)
            have hb7x := Hb6.out.trans (hb7.mono hs6)
            have HZ7 := Lib.hid hZ7
            have Hb7 := Lib.hid hb7x
            have hs7 : w.heap.size ≤ w7.heap.size := hb7x.size
            clear hZ7 hb7 hb7x HZ6 Hb6 k2 k3 hy0 hfz Hcs d0 d1 d2 d3
            go_wp2_with (first | (at_builtin; refine wpList_appS (E := eI) rfl _ _ 24 rfl Tryd.underlying24 hi hz0 hz1 hz2 rfl (by decide) rfl rfl (HZ7.out.alloc _) (rds_one (E := eI) (x := R) HRok.out rfl) ?b1 ?b2 ?b3 ?_))
            case b1 => have := Hal.out; unfold maxLen; (try simp) <;> omega
            case b2 => have := Hal.out; (try simp) <;> omega
            case b3 => (try simp) <;> omega
            intro v5 w5 hO5 hg5
            have hb5 := hg5.alloc.below Hb7.out hs7 (fun z hz => (HZ7.out.lt z hz).1)
            have HO5 := Lib.hid hO5
            have Hb5 := Lib.hid hb5
            clear hO5 hg5 hb5
            go_wp2
            go_roundw
            case rel => exact ⟨k + 1, by omega, by go_num, by rw [Hsu2.out]; exact HO5.out, Hb5.out⟩
            case measure => simp [intOf]; omega
          · have t3 : (kd == 3) = false := by simpa using h3
            have ea : afterF x ⟨kd, cd, pl, dg⟩ = [] := by unfold afterF; rw [if_neg h2, if_neg h3]
            rw [ea, List.append_nil] at hsu2
            have Hsu2 := Lib.hid hsu2
            have HO5 := Lib.hid (HZ2.out.alloc (.cells #[.int .i64 kd, .int .i64 cd, .int .i64 pl, .int .i64 dg] 40))
            have Hb5 := Lib.hid (Hbw.out.alloc hsw (.cells #[.int .i64 kd, .int .i64 cd, .int .i64 pl, .int .i64 dg] 40))
            clear hsu2 ea Hrd
            go_wp2
            go_roundw
            case rel => exact ⟨k + 1, by omega, by go_num, by rw [Hsu2.out]; exact HO5.out, Hb5.out⟩
            case measure => simp [intOf]; omega
    · obtain rfl : k = n := by omega
      have HZ := Lib.hid hZ
      have Hb := Lib.hid hb
      clear hZ hb
      go_wp2
      go_ret
      exact ⟨_, rfl, HZ.out, Hb.out⟩
end Go.Proofs.YtahkkdkdaedioaaDoor
