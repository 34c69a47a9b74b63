/- Single faults: the reference's. No condition. -/
import Derived.Test.YtahkkdkdaedioaaDoorAllS
import Derived.Test.YtahkkdkdaedioaaDoorRepS
import Derived.Test.YtahkkdkdaedioaaDoorAftS
import Derived.Test.YtahkkdkdaedioaaDoorSglI
namespace Go.Proofs.YtahkkdkdaedioaaDoor
open Go.ChangeShapes Go.WideShapes Go.ChangeAt Go.RowKit Go.Sort
set_option linter.unusedVariables false
set_option maxRecDepth 100000
theorem afterK_all {xs : List Int} {fs : List FaultT} (hx : ∀ n ∈ xs, 0 ≤ n ∧ n ≤ 9999) (hf : ∀ f ∈ fs, fRd f) : ∀ k, k ≤ xs.length → ∀ n ∈ afterK xs fs k, 0 ≤ n ∧ n ≤ 9999
  | 0, _ => fun n h => by simp [afterK] at h
  | k + 1, hk => fun n h => by
    rw [afterK_succ] at h
    rcases List.mem_append.1 h with h | h
    · exact afterK_all hx hf k (by omega) n h
    · have h0 : 0 ≤ xs.getD k 0 ∧ xs.getD k 0 ≤ 9999 := by
        have e : xs[k]? = some (xs[k]'(by omega)) := List.getElem?_eq_getElem (by omega)
        rw [List.getD_eq_getElem?_getD, e]
        exact hx _ (List.getElem_mem _)
      cases hq : findF fs (k : Int) with
      | none => rw [hq] at h; unfold readAt at h; rw [List.mem_singleton] at h; rw [h]; exact h0
      | some f =>
        have hm : f ∈ fs := List.mem_of_find?_eq_some hq
        rw [hq] at h
        have h' : n ∈ afterF (xs.getD k 0) f := h
        unfold afterF at h'
        split at h'
        · simp at h'; rw [h']; exact h0
        · split at h'
          · rename_i h3
            obtain ⟨h4, h5⟩ := hf f hm h3
            rw [List.mem_singleton] at h'; rw [h']; exact readF_bound h0 h4 h5
          · cases h'
theorem fOk_fRd {xs : List Int} {f : FaultT} (hf : fOk xs f) : fRd f := by
  intro h3
  rcases hf.2 with ⟨h4 | h4, _⟩ | ⟨_, h4, h5, _⟩
  · omega
  · omega
  · exact ⟨h4, h5⟩
theorem fOk_ok {xs : List Int} {f : FaultT} (hx : xs.length ≤ 24) (hf : fOk xs f) : okFault f := by
  unfold okFault
  rcases hf with ⟨⟨h1, h2⟩, ⟨h4 | h4, h5, h6⟩ | ⟨h3, h4, h5, _⟩⟩ <;> omega
/-- the numbers read with one fault, the fault's list just built -/
theorem after_oneS {xs : List Int} {f : FaultT} {v : Value} {w : World} {A n : Nat} (ha : RdI A w v xs) (hx : amtOk xs = true) (hf : fOk xs f) (hn : n = w.heap.size) :
    Calls Tryd.prog 42 #[v, .slice (some ⟨n, 0, none⟩) 1 1] (w.alloc (.cells #[.int .i64 f.kind, .int .i64 f.card, .int .i64 f.place, .int .i64 f.digit] 40)).drew fun e w' => ∃ z, e = .returned z ∧ RdI w'.heap.size w' z (afterL xs [f]) ∧ Below w.heap.size w w' := by
  obtain ⟨hl, hxx⟩ := amtOk_parts hx
  have hb : Below w.heap.size w (w.alloc (.cells #[.int .i64 f.kind, .int .i64 f.card, .int .i64 f.place, .int .i64 f.digit] 40)) := (Below.refl _ _).alloc (Nat.le_refl _) _
  have hfo := fOk_ok (by omega) hf
  have hlit := (Own.lit (E := eFault) (e := 40) (base := 0) (w := w) (xs := [f]) (cs := #[.int .i64 f.kind, .int .i64 f.card, .int .i64 f.place, .int .i64 f.digit]) (n := 1) (Nat.zero_le _) rfl rfl (by decide) (fun z hz => by rw [List.mem_singleton] at hz; rw [hz]; exact hfo)).rds
  subst hn
  refine (l19After_c (rdsDrewS (Rds.onn ha hb)) (rdsDrewS hlit) hxx (by omega) (fun g hg => by rw [List.mem_singleton] at hg; rw [hg]; exact fOk_fRd hf) (by simp) (fun g hg => by rw [List.mem_singleton] at hg; rw [hg]; exact hf.1.1)).mono ?_
  rintro e w' ⟨z, rfl, hz, hb'⟩
  exact ⟨z, rfl, hz.rds, hb.drew1.trans (hb'.mono hb.size)⟩
theorem report_oneS {xs : List Int} {f : FaultT} {v : Value} {w : World} {A : Nat} (ha : RdI A w v (afterL xs [f])) (hx : amtOk xs = true) (hf : fOk xs f) :
    Calls Tryd.prog 41 #[v] w fun e w' => e = .returned (vReport (repOf (afterL xs [f]))) ∧ Below w.heap.size w w' := by
  obtain ⟨hl, hxx⟩ := amtOk_parts hx
  refine l19Report_c ha (afterK_all hxx (fun g hg => by rw [List.mem_singleton] at hg; rw [hg]; exact fOk_fRd hf) _ (Nat.le_refl _)) ?_
  have := afterK_len xs [f] xs.length
  unfold afterL
  omega
set_option maxHeartbeats 2000000 in
theorem sSingleFaults_c {xs : List Int} {r : ReportT} {v : Value} {w : World} {A : Nat} (ha : RdI A w v xs) (hr : okReport r) :
    Calls Tryd.prog 21 #[v, vReport r] w fun e w' => ∃ u0, e = .returned (.tuple #[u0, .int .i64 (SFC xs)]) ∧ OwnFaultS w.heap.size w' u0 (SFR xs r) ∧ Below w.heap.size w w' := by
  have hb0 : Below w.heap.size w (w.alloc (.cells #[.int .i64 r.count, .int .i64 r.sum, .int .i64 r.digits] 29)) := (Below.refl _ _).alloc (Nat.le_refl _) _
  have ha0 := Rds.onn ha hb0
  have hB0 : Box (w.alloc (.cells #[.int .i64 r.count, .int .i64 r.sum, .int .i64 r.digits] 29)) w.heap.size [.int .i64 r.count, .int .i64 r.sum, .int .i64 r.digits] := Box.new w [.int .i64 r.count, .int .i64 r.sum, .int .i64 r.digits] 29
  obtain ⟨ao, cap, rfl⟩ := ha.shape
  have Ha0 := Lib.hid ha0
  have Hb0 := Lib.hid hb0
  have HB0 := Lib.hid hB0
  have Hr := Lib.hid hr
  clear ha ha0 hb0 hr hB0
  cases hx : amtOk xs with
  | false =>
    have e1 : SFC xs = 1 := by unfold SFC; rw [hx]; rfl
    have e2 : SFR xs r = [] := by unfold SFR; rw [hx]; rfl
    rw [e1, e2]
    have Hx := Lib.hid hx
    clear hx e1 e2
    go_enter Tryd.func21, Tryd.ntmps21
    go_wp2_with fail
    with_reducible refine (l19Ok_c Ha0.out).mono ?_
    rw [Hx.out]
    rintro e w' ⟨rfl, rfl⟩
    go_wp2
    go_ret2
    exact ⟨_, rfl, Own.nil _ _ _ _, Hb0.out⟩
  | true =>
    obtain ⟨i0, hi, hz0, hz1, hz2⟩ := info_parts infoFaultN
    have e1 : SFC xs = 0 := by unfold SFC; rw [if_pos hx]
    have e2 : SFR xs r = (allF xs).filter fun f => repOf (afterL xs [f]) == r := by unfold SFR; rw [if_pos hx, sgl_iff hx Hr.out]
    rw [e1, e2]
    have Hx := Lib.hid hx
    clear hx e1 e2
    obtain ⟨W1, hW1⟩ : ∃ W1, W1 = w.alloc (.cells #[.int .i64 r.count, .int .i64 r.sum, .int .i64 r.digits] 29) := ⟨_, rfl⟩
    rw [← hW1] at Ha0 HB0 Hb0
    have HW1 := Lib.hid hW1
    clear hW1
    go_enter Tryd.func21, Tryd.ntmps21
    go_wp2_with fail
    rw [← HW1.out]
    with_reducible refine (l19Ok_c Ha0.out).mono ?_
    rw [Hx.out]
    rintro e w' ⟨rfl, rfl⟩
    go_wp2_with fail
    with_reducible refine (l19All_c Ha0.out Hx.out).mono ?_
    rintro e w1 ⟨u, rfl, hu, hb1⟩
    obtain ⟨m, hm⟩ : ∃ m, m = (allF xs).length := ⟨_, rfl⟩
    have hml : m ≤ 504 := by
      have h2 := allK_len xs xs.length
      have h3 := (amtOk_parts Hx.out).1
      rw [hm]; unfold allF; omega
    have hur := hu.rds
    obtain ⟨fo, fcap, rfl, hfc⟩ := eFault_open hur
    rw [← hm] at hfc ⊢
    have hO0 : OwnFaultS w1.heap.size (w1.alloc (.cells #[] 40)) (.slice (some ⟨w1.heap.size, 0, none⟩) 0 0) [] := Own.lit (E := eFault) (xs := []) (cs := #[]) (Nat.le_refl _) rfl rfl (by decide) (fun x hx => by cases hx)
    have hb2 : Below w1.heap.size w1 (w1.alloc (.cells #[] 40)) := (Below.refl _ _).alloc (Nat.le_refl _) _
    have HO0 := Lib.hid hO0
    have Hb2 := Lib.hid hb2
    have Ha1 := Lib.hid (Rds.onn Ha0.out hb1)
    have HB1 := Lib.hid (HB0.out.on hb1)
    have Hb1 := Lib.hid (Hb0.out.trans (hb1.mono Hb0.out.size))
    have Hm := Lib.hid hm
    have Hfc := Lib.hid hfc
    have hws : w.heap.size < w1.heap.size := HB1.out.lt
    clear hu hur hb1 hO0 hb2 hm hfc Ha0 HB0 Hb0 HW1
    go_wp2
    go_loopw [8, 7] (fun iv ov wr => ∃ k : Nat, k ≤ m ∧ iv = .int .i64 k ∧ OwnFaultS w1.heap.size wr ov (((allF xs).take k).filter fun f => repOf (afterL xs [f]) == r) ∧ Below w1.heap.size w1 wr) (fun iv _ _ => m - (intOf iv).toNat)
    case atStart => exact ⟨0, Nat.zero_le _, rfl, HO0.out, Hb2.out⟩
    case round =>
      obtain ⟨k, hk, rfl, hO, hb⟩ := hrel
      clear HO0 Hb2
      by_cases hkm : k < m
      · obtain ⟨fb, foff, rfl, hfl, hfcc⟩ := Hfc.out (by omega)
        obtain ⟨f, hfk, ⟨c0, c1, c2, c3⟩, hyo⟩ := hfcc k (by omega)
        have hok : fOk xs f := mem_allF.1 (List.mem_of_getElem? hfk)
        have hsn := take_snoc hfk
        have hlk : (((allF xs).take k).filter fun f => repOf (afterL xs [f]) == r).length ≤ k := by
          have h1 := List.length_filter_le (fun f => repOf (afterL xs [f]) == r) ((allF xs).take k)
          have h2 := List.length_take_le k (allF xs)
          omega
        replace c0 := (hb.cell (p := ⟨fb, foff + k * 4, none⟩) hfl.2).trans c0
        replace c1 := (hb.cell (p := ⟨fb, foff + k * 4 + 1, none⟩) hfl.2).trans c1
        replace c2 := (hb.cell (p := ⟨fb, foff + k * 4 + 2, none⟩) hfl.2).trans c2
        replace c3 := (hb.cell (p := ⟨fb, foff + k * 4 + 3, none⟩) hfl.2).trans c3
        have hkmi : (k : Int) < (m : Int) := by omega
        have hBr := HB1.out.on hb
        have har := Rds.onn Ha1.out hb
        have hsz := hb.size
        have hfb := hfl.2
        have HO := Lib.hid hO
        have Hb := Lib.hid hb
        have Hyo : Hid (okFault f) := Lib.hid hyo
        have Hlk := Lib.hid hlk
        have Hsn := Lib.hid hsn
        have Hok := Lib.hid hok
        have Har := Lib.hid har
        have HBr := Lib.hid hBr
        clear hO hb hyo hlk hsn hfk hfcc hok har hBr
        go_upto_region 8 with fail
        obtain ⟨p, hp⟩ : ∃ p, p = (repOf (afterL xs [f]) == r) := ⟨_, rfl⟩
        have Hp := Lib.hid hp
        clear hp
        go_cut [30] (fun v wx => v = .bool p ∧ Below wr.heap.size wr wx)
        case first =>
          have hTd : Below wr.heap.size wr wr.drew := (Below.refl _ _).drew1
          have b0 := HBr.out.cell 0 _ rfl
          have b1 := HBr.out.cell 1 _ rfl
          have b2 := HBr.out.cell 2 _ rfl
          have hbl : w.heap.size < wr.heap.size := HBr.out.lt
          have hfbl : fb < wr.heap.size := by omega
          have hrun := fun W => eql_run (x := repOf (afterL xs [f])) (y := r) Hp.out.symm W
          go_region_law (first
            | (go_simp; go_at_call 42; (with_reducible refine (after_oneS Har.out Hx.out Hok.out rfl).mono ?_); rintro e w8 ⟨z8, rfl, hz8, hb8⟩; have hT8 := hb8; have HB8 := HBr.out.on hT8; have x0 := HB8.cell 0 _ rfl; have x1 := HB8.cell 1 _ rfl; have x2 := HB8.cell 2 _ rfl; have x3 : w.heap.size < w8.heap.size := HB8.lt; have Hz8 := Lib.hid hz8; clear hz8)
            | (go_simp; go_at_call 41; (with_reducible refine (report_oneS Hz8.out Hx.out Hok.out).mono ?_); rintro e w9 ⟨rfl, hb9⟩; have hT9 := hT8.trans (hb9.mono hT8.size); have HB9 := HBr.out.on hT9; have y0 := HB9.cell 0 _ rfl; have y1 := HB9.cell 1 _ rfl; have y2 := HB9.cell 2 _ rfl; have y3 : w.heap.size < w9.heap.size := HB9.lt))
          all_goals
            go_wp2_with fail
            go_meet
            exact ⟨rfl, hT9⟩
        case rest =>
          obtain ⟨rfl, hbx⟩ := hcut
          replace c0 := (hbx.cell (p := ⟨fb, foff + k * 4, none⟩) (show fb < wr.heap.size by omega)).trans c0
          replace c1 := (hbx.cell (p := ⟨fb, foff + k * 4 + 1, none⟩) (show fb < wr.heap.size by omega)).trans c1
          replace c2 := (hbx.cell (p := ⟨fb, foff + k * 4 + 2, none⟩) (show fb < wr.heap.size by omega)).trans c2
          replace c3 := (hbx.cell (p := ⟨fb, foff + k * 4 + 3, none⟩) (show fb < wr.heap.size by omega)).trans c3
          have hOx := hsz
          have hbc := Hb.out.trans (hbx.mono hsz)
          have hszc := hbc.size
          have HOx := Lib.hid (show OwnFaultS w1.heap.size wc u7 _ from HO.out.below hbx (Nat.le_refl _))
          have Hbc := Lib.hid hbc
          clear hOx hbc hbx HO Hb Har HBr
          cases p with
          | true =>
            have hsn2 : (((allF xs).take (k + 1)).filter fun f => repOf (afterL xs [f]) == r) = (((allF xs).take k).filter fun f => repOf (afterL xs [f]) == r) ++ [f] := by
              rw [Hsn.out, List.filter_append]; simp [← Hp.out]
            have Hsn2 := Lib.hid hsn2
            clear hsn2
            go_wp2_with (first | (at_builtin; refine wpList_appS (E := eFault) rfl _ _ 25 rfl Tryd.underlying25 hi hz0 hz1 hz2 rfl (by decide) rfl rfl (HOx.out.alloc _) (rds_one (E := eFault) (x := f) Hyo.out rfl) ?b1 ?b2 ?b3 ?_))
            case b1 => have := Hlk.out; unfold maxLen; (try simp) <;> omega
            case b2 => have := Hlk.out; (try simp) <;> omega
            case b3 => (try simp) <;> omega
            intro v6 w6 hO6 hg6
            have hb6 := hg6.alloc.below Hbc.out hszc (fun z hz => (HOx.out.lt z hz).1)
            have HO6 := Lib.hid hO6
            have Hb6 := Lib.hid hb6
            clear hO6 hg6 hb6 c0 c1 c2 c3
            go_wp2
            go_roundw
            case rel => exact ⟨k + 1, by omega, by go_num, by rw [Hsn2.out]; exact HO6.out, Hb6.out⟩
            case measure => simp [intOf]; omega
          | false =>
            have hsn2 : (((allF xs).take (k + 1)).filter fun f => repOf (afterL xs [f]) == r) = (((allF xs).take k).filter fun f => repOf (afterL xs [f]) == r) := by
              rw [Hsn.out, List.filter_append]; simp [← Hp.out]
            have Hsn2 := Lib.hid hsn2
            clear hsn2 c0 c1 c2 c3
            go_wp2
            go_roundw
            case rel => exact ⟨k + 1, by omega, by go_num, by rw [Hsn2.out]; exact HOx.out, Hbc.out⟩
            case measure => simp [intOf]; omega
      · obtain rfl : k = m := by omega
        rw [List.take_of_length_le (by have := Hm.out; omega)] at hO
        obtain ⟨oa, oc, hoe⟩ := hO.shape
        have HO := Lib.hid hO
        have Hbf := Lib.hid (Hb1.out.trans (hb.mono (show w.heap.size ≤ w1.heap.size by omega)))
        clear hO hb
        go_wp2
        go_ret2
        exact ⟨_, rfl, HO.out.mono (by omega), Hbf.out⟩
end Go.Proofs.YtahkkdkdaedioaaDoor
