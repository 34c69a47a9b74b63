/- The times at which jobs end: the program's walk. No condition. -/
import Derived.Test.YtpnmcgjfemaleaaEnd1
import Derived.Laws.MakeOwn
namespace Go.Proofs.Ytpnmcgjfemaleaa
open Go.ChangeShapes Go.WideShapes Go.ChangeAt Go.RowKit
set_option linter.unusedVariables false
set_option maxRecDepth 100000
/-- what is known of the rows so far and of the free machines -/
def EndS (xss : List (List Int)) (o : List Int) (m : Nat) (w : World) (FB k : Nat) (W : World) (ov : Value) : Prop :=
  (w.heap.size ≤ FB ∧ FB < w.heap.size + 2) ∧ BldG eI 2 29 w.heap.size (w.heap.size + 2) W.heap.size W ov (rowsJ xss o m k) ∧ ov.ownBlock ≠ some FB ∧
    OwnInt64S w.heap.size W (.slice (some ⟨FB, 0, none⟩) m m) (cf (freeJ xss (o.take k)) m) ∧ Below w.heap.size w W ∧ w.heap.size + 2 ≤ W.heap.size
theorem made_own {base m : Nat} {W : World} (hm : m ≤ 4) (hb : base ≤ W.heap.size) : OwnInt64S base (W.alloc (.cells (madeCells #[.int .i64 0] m) 2)) (.slice (some ⟨W.heap.size, 0, none⟩) m m) (cf (fun _ => 0) m) := by
  have hz : cf (fun _ => 0) m = List.replicate m 0 := by
    clear hm hb
    induction m with
    | zero => rfl
    | succ m ih => rw [cf_snoc, ih, List.replicate_succ']
  refine Own.lit (E := eI) hb ?_ (by rw [cf_length]) (by unfold maxLen; omega) ?_
  · rw [hz, eI_all, List.map_replicate]
    apply Array.toList_inj.1
    rw [toList_madeCells_one]
  · intro x hx
    rw [hz] at hx
    rw [(List.mem_replicate.1 hx).2]
    show -9223372036854775808 ≤ (0 : Int) ∧ (0 : Int) ≤ 9223372036854775807
    omega
theorem endS_start1 {xss : List (List Int)} {o : List Int} {m : Nat} {w W : World} (hm : m ≤ 4) (hb : Below w.heap.size w W) (hs : W.heap.size = w.heap.size) :
    EndS xss o m w (w.heap.size + 1) 0 ((W.alloc (.cells #[] 29)).alloc (.cells (madeCells #[.int .i64 0] m) 2)) (.slice (some ⟨w.heap.size, 0, none⟩) 0 0) := by
  have hO : Own eS 29 w.heap.size (W.alloc (.cells #[] 29)) (.slice (some ⟨w.heap.size, 0, none⟩) 0 0) [] := by
    have := Own.lit (E := eS) (e := 29) (base := w.heap.size) (w := W) (xs := []) (cs := #[]) (n := 0) (by omega) rfl rfl (by decide) (fun x hx => by cases hx)
    rw [hs] at this
    exact this
  have hF := made_own (base := w.heap.size) (m := m) (W := W.alloc (.cells #[] 29)) hm (by simp; omega)
  rw [show (W.alloc (.cells #[] 29)).heap.size = w.heap.size + 1 by simp [hs]] at hF
  refine ⟨⟨by omega, by omega⟩, BldG.empty (B := w.heap.size) rfl (hO.alloc _) (by simp [hs]; omega), by simp [Value.ownBlock], hF, (hb.alloc (by omega) _).alloc (by simp [hs]) _, by simp [hs]⟩
theorem endS_start2 {xss : List (List Int)} {o : List Int} {m : Nat} {w W : World} (hm : m ≤ 4) (hb : Below w.heap.size w W) (hs : W.heap.size = w.heap.size) :
    EndS xss o m w w.heap.size 0 ((W.alloc (.cells (madeCells #[.int .i64 0] m) 2)).alloc (.cells #[] 29)) (.slice (some ⟨w.heap.size + 1, 0, none⟩) 0 0) := by
  have hF := made_own (base := w.heap.size) (m := m) (W := W) hm (by omega)
  rw [hs] at hF
  have hO : Own eS 29 w.heap.size ((W.alloc (.cells (madeCells #[.int .i64 0] m) 2)).alloc (.cells #[] 29)) (.slice (some ⟨w.heap.size + 1, 0, none⟩) 0 0) [] := by
    have := Own.lit (E := eS) (e := 29) (base := w.heap.size) (w := W.alloc (.cells (madeCells #[.int .i64 0] m) 2)) (xs := []) (cs := #[]) (n := 0) (by simp; omega) rfl rfl (by decide) (fun x hx => by cases hx)
    rw [show (W.alloc (.cells (madeCells #[.int .i64 0] m) 2)).heap.size = w.heap.size + 1 by simp [hs]] at this
    exact this
  refine ⟨⟨by omega, by omega⟩, BldG.empty (B := w.heap.size + 1) rfl hO (by simp [hs]), by simp [Value.ownBlock], hF.alloc _, (hb.alloc (by omega) _).alloc (by simp [hs]) _, by simp [hs]⟩
theorem EndS.drew1 {xss : List (List Int)} {o : List Int} {m FB k : Nat} {w W : World} {ov : Value} (h : EndS xss o m w FB k W ov) : EndS xss o m w FB k W.drew ov := by
  obtain ⟨h2, h3, h4, h5, h6, h7⟩ := h
  exact ⟨h2, h3, h4, h5, h6.drew1, h7⟩
set_option maxHeartbeats 2000000 in
theorem endTimes_c {xss : List (List Int)} {o : List Int} {v u : Value} {w : World} {A B : Nat} (hA : A ≤ w.heap.size) (hB' : B ≤ w.heap.size) (ha : RdInt64SS A w v xss) (ho : RdI B w u o)
    (hv : validJ xss = true) (hr : ∀ i ∈ o, 0 ≤ i ∧ i < xss.length) (hl : o.length ≤ 8) :
    Calls Try.prog 78 #[v, u] w fun e w' => ∃ r, e = .returned r ∧ OwnInt64SS w.heap.size w' r (endsJ xss o) ∧ Below w.heap.size w w' := by
  obtain ⟨hn8, hm4, hrows⟩ := validJ_parts hv
  obtain ⟨ao, cap, rfl, hao⟩ := ha.open
  obtain ⟨oo, oc, rfl, hoo⟩ := RdI.open ho
  obtain ⟨n, hn⟩ : ∃ n, n = xss.length := ⟨_, rfl⟩
  obtain ⟨m, hm⟩ : ∃ m, m = colsJ xss := ⟨_, rfl⟩
  obtain ⟨L, hL⟩ : ∃ L, L = o.length := ⟨_, rfl⟩
  have hends : endsJ xss o = rowsJ xss o m L := by unfold endsJ; rw [← hm, ← hL]
  rw [hends]
  rw [← hn] at hn8 hr ⊢
  rw [← hm] at hm4
  rw [← hL] at hl hoo ⊢
  obtain ⟨b, off, rfl, hlt, hc⟩ := hao (by omega)
  obtain ⟨x0, ro0, rc0, hx0, hcell0, _⟩ := hc 0 (by omega)
  have hx0m : x0.length = m := by rw [hm, colsJ_of hx0]
  have hcell0' : w.cell? ⟨b, off, none⟩ = some (.slice ro0 m rc0) := by rw [← hx0m]; simpa using hcell0
  have hjb := jobF_bound (xss := xss) (fun r h => (hrows r h).2)
  have hfb := fun o' k hk => freeJ_bound (xss := xss) (fun r h => (hrows r h).2) o' (k := k) hk
  obtain ⟨hm1, hm2⟩ := hm4
  obtain ⟨i0, hi, hz0, hz1, hz2⟩ := info_parts Try.infoInt64
  obtain ⟨i1, hi1, hy0, hy1, hy2⟩ := info_parts Try.infoSlI
  have hmk : ∀ W : World, (Instr.makeSlice 29 (.int .i64 (m : Int)) (.int .i64 (m : Int))).run Try.prog W = .ok (.slice (some ⟨W.heap.size, 0, none⟩) m m) (W.alloc (.cells (madeCells #[.int .i64 0] m) 2)) := by
    intro W
    have := run_makeSlice (P := Try.prog) (w := W) 29 2 i0 (.int .i64 0) Try.underlying29 hi hz0 .i64 .i64 (m : Int) (m : Int) (by omega) (Int.le_refl _) (by rw [hz1]; omega) (by rw [hz2]; omega) (by omega)
    rw [hz1, Int.toNat_natCast, Nat.mul_one] at this
    exact this
  have Hn := Lib.hid hn
  have Hm := Lib.hid hm
  have HL := Lib.hid hL
  have Hr := Lib.hid hr
  have Hc := Lib.hid hc
  have Hoo := Lib.hid hoo
  have Hrows := Lib.hid hrows
  have Hjb := Lib.hid hjb
  have Hfb := Lib.hid hfb
  clear hn hm hL hr hc hoo hrows hjb hfb hao ha ho hv hends hx0 hcell0 hx0m
  go_enter Try.func78, Try.ntmps78
  go_wp2
  have hst1 := (endS_start1 (xss := xss) (o := o) (m := m) (w := w) (W := w) hm2 (Below.refl _ _) rfl).drew1
  have hst2 := (endS_start2 (xss := xss) (o := o) (m := m) (w := w) (W := w) hm2 (Below.refl _ _) rfl).drew1
  have Hst1 := Lib.hid hst1
  have Hst2 := Lib.hid hst2
  clear hst1 hst2
  go_region
  · go_wp2
    go_loopw [5, 20] (fun ov i wr => ∃ k : Nat, k ≤ L ∧ i = .int .i64 k ∧ EndS xss o m w (w.heap.size + 1) k wr ov) (fun _ i _ => L - (intOf i).toNat)
    case atStart => exact ⟨0, Nat.zero_le _, rfl, Hst1.out⟩
    case round =>
      obtain ⟨k, hk, rfl, hFB, hB, hne, hF, hb, hsz9⟩ := hrel
      clear Hst1 Hst2
      by_cases hkL : k < L
      · obtain ⟨ob, ooff, rfl, olt, oc1⟩ := Hoo.out (by omega)
        obtain ⟨ii, hii, hoc, _⟩ := oc1 k (by have := HL.out; omega)
        have hir := Hr.out ii (List.mem_of_getElem? hii)
        obtain ⟨ix, rfl⟩ : ∃ ix : Nat, ii = ix := ⟨ii.toNat, by omega⟩
        obtain ⟨x, ro, rc, hx, hcell, hrd⟩ := Hc.out ix (by have := Hn.out; omega)
        have hxr := Hrows.out x (List.mem_of_getElem? hx)
        have hxm : x.length = m := by rw [hxr.1, ← Hm.out]
        rw [hxm] at hcell hrd
        obtain ⟨ro', rc', hsh, hin⟩ := RdI.open hrd
        injection hsh with hs1 hs2 hs3
        subst hs1; subst hs3
        obtain ⟨b2, off2, rfl, hlt2, hc2⟩ := hin (by omega)
        have hix : (ix : Int) < n := by omega
        have hixn : (0 : Int) ≤ ix := by omega
        have htk := take_snoc hii
        have hjx : jobI xss (ix : Int) = x := rowI_jobI xss hx
        have hjf : ∀ j y, x[j]? = some y → jobF xss (ix : Int) j = y := fun j y hy => by unfold jobF; rw [hjx, atI_of hy]
        obtain ⟨g, hg⟩ : ∃ g, freeJ xss (o.take k) = g := ⟨_, rfl⟩
        obtain ⟨E, hE⟩ : ∃ E, endF g (jobF xss (ix : Int)) = E := ⟨_, rfl⟩
        have hgn : freeJ xss (o.take (k + 1)) = E := by rw [htk, freeJ_snoc, hg, hE]
        have hgb : ∀ j, j < 4 → 0 ≤ g j ∧ g j ≤ 32000 := fun j hj => by
          have := Hfb.out (o.take k) j hj
          rw [hg, List.length_take] at this
          omega
        have hEb : ∀ j, j < 4 → 0 ≤ E j ∧ E j ≤ 36000 := fun j hj => by
          rw [← hE]
          exact endF_bound4 (B := 32000) (by omega) hgb (Hjb.out ix) hj
        have hEe : ∀ j, E j = max (prevF E j) (g j) + jobF xss (ix : Int) j := fun j => by
          have := endF_eq g (jobF xss (ix : Int)) j
          rw [hE] at this
          exact this
        have hmid : ∀ j, updI (midF g (jobF xss (ix : Int)) j) j (E j) = midF g (jobF xss (ix : Int)) (j + 1) := fun j => by
          have := midF_succ g (jobF xss (ix : Int)) j
          rw [hE] at this
          exact this
        have hmid0 := midF_zero g (jobF xss (ix : Int))
        have hmidm : cf (midF g (jobF xss (ix : Int)) m) m = cf E m := by
          rw [← cf_cut (midF g (jobF xss (ix : Int)) m), midF_all, hE, cf_cut]
        rw [hg, ← hmid0] at hF
        obtain ⟨tp, htp⟩ : ∃ tp, tp = wr.heap.size := ⟨_, rfl⟩
        rw [← htp] at hB
        have htp3 : tp ≤ wr.heap.size := by omega
        have htp2 : w.heap.size + 2 ≤ tp := by omega
        have Hoc := Lib.hid hoc
        have Hcell := Lib.hid hcell
        have Hc2 := Lib.hid hc2
        have Hxm := Lib.hid hxm
        have Hjf := Lib.hid hjf
        have Hgn := Lib.hid hgn
        have Hgb := Lib.hid hgb
        have HEb := Lib.hid hEb
        have HEe := Lib.hid hEe
        have Hmid := Lib.hid hmid
        have Hmidm := Lib.hid hmidm
        have Hne := Lib.hid hne
        have HF0 := Lib.hid hF
        have HB0 := Lib.hid hB
        have Hb0 := Lib.hid hb
        have Hxr := Lib.hid hxr
        have d1 := (hb.cell (p := ⟨ob, ooff + k, none⟩) (show ob < w.heap.size from Nat.lt_of_lt_of_le olt.1 hB')).trans hoc
        have d2 := (hb.cell (p := ⟨b, off + ix, none⟩) (by show b < w.heap.size; omega)).trans hcell
        clear hB hne hF hb hoc hcell hc2 hin hs2 hxm hjf hgn hgb hEb hEe hmid hmid0 hmidm hxr hii hir hx hrd htk hjx hE hg oc1 htp
        go_wp2
        go_loopw [9, 29] (fun av jv wr => ∃ j : Nat, j ≤ m ∧ jv = .int .i64 j ∧ av = .int .i64 (prevF E j) ∧ BldG eI 2 29 w.heap.size (w.heap.size + 2) tp wr u5 (rowsJ xss o m k) ∧
          OwnInt64S w.heap.size wr (.slice (some ⟨(w.heap.size + 1), 0, none⟩) m m) (cf (midF g (jobF xss (ix : Int)) j) m) ∧ Below w.heap.size w wr ∧ tp ≤ wr.heap.size) (fun _ jv _ => m - (intOf jv).toNat)
        case atStart => exact ⟨0, Nat.zero_le _, rfl, rfl, HB0.out, HF0.out, Hb0.out, htp3⟩
        case round =>
          obtain ⟨j, hj, rfl, rfl, hB, hF, hb, htp⟩ := hrel
          clear HB0 HF0 Hb0 htp3 d1 d2
          by_cases hjm : j < m
          · obtain ⟨y, hy, hcy, _⟩ := Hc2.out j (by have := Hxm.out; omega)
            have d3 := (hb.cell (p := ⟨b2, off2 + j, none⟩) (by show b2 < w.heap.size; omega)).trans hcy
            have d4 : wr.cell? ⟨(w.heap.size + 1), j, none⟩ = some (.int .i64 (g j)) := Own.cellAtI hF (by rw [cf_length]) (by rw [cf_get hjm, midF_at])
            have hyb := Hxr.out.2 y (List.mem_of_getElem? hy)
            have hev := HEe.out j
            rw [Hjf.out j y hy] at hev
            have heb := HEb.out j (by omega)
            have hgj := Hgb.out j (by omega)
            obtain ⟨pv, hpv⟩ : ∃ pv, prevF E j = pv := ⟨_, rfl⟩
            obtain ⟨gv, hgv⟩ : ∃ gv, g j = gv := ⟨_, rfl⟩
            obtain ⟨ev, hev2⟩ : ∃ ev, E j = ev := ⟨_, rfl⟩
            rw [hpv, hgv] at hev
            rw [hev2] at hev heb
            rw [hgv] at hgj d4
            rw [hpv]
            have hok : eI.ok ev := by show -9223372036854775808 ≤ ev ∧ ev ≤ 9223372036854775807; omega
            have hst := Own.storeI (x := ev) hF (by rw [cf_length]) (k := j) (by omega) hok
            obtain ⟨_, hfz, hF3, hg3⟩ := hst
            have hBk := hB.keep hg3 (by
              cases hob : u5.ownBlock with
              | none => exact .inl rfl
              | some q => exact .inr (by rw [← hob]; exact Hne.out)) (fun q hq => by cases hq; omega)
            have hbk := hb.setCell (p := ⟨(w.heap.size + 1), j, none⟩) (by show w.heap.size ≤ (w.heap.size + 1); omega) (.int .i64 ev)
            have hszk : tp ≤ (wr.setCell ⟨(w.heap.size + 1), j, none⟩ (.int .i64 ev)).heap.size := by simp; omega
            have hFk : OwnInt64S w.heap.size (wr.setCell ⟨(w.heap.size + 1), j, none⟩ (.int .i64 ev)) (.slice (some ⟨(w.heap.size + 1), 0, none⟩) m m) (cf (midF g (jobF xss (ix : Int)) (j + 1)) m) := by
              rw [cf_set, ← hev2, Hmid.out] at hF3
              rw [← hev2]
              exact hF3
            have Hev2 := Lib.hid hev2
            have HBk := Lib.hid hBk
            have HFk := Lib.hid hFk
            have Hbk := Lib.hid hbk
            have Hszk := Lib.hid hszk
            clear hy hcy hpv hgv hev2 hB hF hb hF3 hg3 hBk hFk hbk hszk
            have he : (if pv < gv then gv else pv) + y = ev := by
              rw [hev]
              split <;> omega
            have He := Lib.hid he
            have hw64 : wrap64 ev = ev := by first | exact IntWalk.i64_in _ (by omega) | (unfold wrap64; omega)
            have Hw64 := Lib.hid hw64
            clear he hev hw64
            go_wp2
            go_roundw
            case rel =>
              rw [He.out, Hw64.out]
              exact ⟨j + 1, by omega, by go_num, by rw [← Hev2.out]; rfl, HBk.out, HFk.out, Hbk.out, Hszk.out⟩
            case measure => simp [intOf]; omega
          · obtain rfl : j = m := by omega
            rw [Hmidm.out] at hF
            have hFr := hF.rds
            have HFr := Lib.hid hFr
            have HF := Lib.hid hF
            have HB := Lib.hid hB
            have Hb := Lib.hid hb
            clear hF hFr hB hb
            go_wp2_with fail
            with_reducible refine (copyInts_c HFr.out (by rw [cf_length]; omega)).mono ?_
            rintro e w2 ⟨u, rfl, hR, hb2⟩
            obtain ⟨rao, rcap, hsh⟩ := hR.shape
            rw [cf_length] at hsh
            subst hsh
            have hB2 := HB.out.below hb2 htp
            have hF2 := HF.out.below hb2 (Nat.le_refl _)
            have hb3 := Hb.out.trans (hb2.mono Hb.out.size)
            have hsz2 := hb2.size
            obtain ⟨hs, xh, hval, hokx, hlen, hO, hfn⟩ := hB2.app (hR.mono htp) (by omega) (by omega)
            have hlen2 : hs.length = k := by rw [hlen, rowsJ_length]
            have hcells : (#[.slice rao j rcap] : Array Value) = (eS.cells xh).toArray := by rw [← hval]; rfl
            have HO := Lib.hid hO
            have Hfn := Lib.hid hfn
            have HF2 := Lib.hid hF2
            have Hb3 := Lib.hid hb3
            have Hlen2 := Lib.hid hlen2
            have Hcells := Lib.hid hcells
            have hl0 := HO.out.lt
            have Hl0 := Lib.hid hl0
            clear hR hb2 hval hlen hO hfn hlen2 hcells hl0 hB2 hF2 hb3 HB HF HFr Hb
            go_wp2_with (first | (at_builtin; refine wpList_appS (E := eS) rfl _ _ 22 rfl Try.underlying22 hi1 hy0 hy1 hy2 rfl (by decide) rfl rfl (HO.out.alloc _) (rds_one (E := eS) (x := xh) hokx Hcells.out) ?b1 ?b2 ?b3 ?_))
            case b1 => rw [Hlen2.out]; unfold maxLen; simp; omega
            case b2 => rw [Hlen2.out]; simp; omega
            case b3 => have := Hb3.out.size; simp; omega
            intro v' w3 hO5 hg
            have hg2 := hg.alloc
            have hB5 := Hfn.out w3 v' hO5 hg2
            have hF5 := HF2.out.kept hg2.1 (.inr (by intro hh; exact Hne.out hh.symm))
            have hb5 := hg2.below Hb3.out Hb3.out.size (fun q hq => (Hl0.out q hq).1)
            have hFlt : (w.heap.size + 1) < w2.heap.size := (HF2.out.lt _ rfl).2
            have hne5 : v'.ownBlock ≠ some (w.heap.size + 1) := by
              rcases hg2.2 with h6 | ⟨q, h6, h7⟩
              · rw [h6]; exact Hne.out
              · rw [h6]; intro hh; cases hh; omega
            have hB6 : BldG eI 2 29 w.heap.size (w.heap.size + 2) w3.heap.size w3 v' (rowsJ xss o j (k + 1)) := by rw [rowsJ_succ, Hgn.out]; exact hB5
            have hF6 : OwnInt64S w.heap.size w3 (.slice (some ⟨(w.heap.size + 1), 0, none⟩) j j) (cf (freeJ xss (o.take (k + 1))) j) := by rw [Hgn.out]; exact hF5
            have HS : Hid (EndS xss o j w (w.heap.size + 1) (k + 1) w3 v') := Lib.hid ⟨hFB, hB6, hne5, hF6, hb5, by have := hg2.1.size; omega⟩
            clear hO5 hg hg2 hB5 hF5 hb5 hne5 hB6 hF6
            go_wp2
            go_roundw
            case rel => exact ⟨k + 1, by omega, by go_num, HS.out⟩
            case measure => simp [intOf]; omega
      · obtain rfl : k = L := by omega
        have hM := hB.toM (by omega)
        go_wp2
        go_ret
        exact ⟨_, rfl, hM, hb⟩
  · go_wp2
    go_loopw [5, 20] (fun ov i wr => ∃ k : Nat, k ≤ L ∧ i = .int .i64 k ∧ EndS xss o m w w.heap.size k wr ov) (fun _ i _ => L - (intOf i).toNat)
    case atStart => exact ⟨0, Nat.zero_le _, rfl, Hst2.out⟩
    case round =>
      obtain ⟨k, hk, rfl, hFB, hB, hne, hF, hb, hsz9⟩ := hrel
      clear Hst1 Hst2
      by_cases hkL : k < L
      · obtain ⟨ob, ooff, rfl, olt, oc1⟩ := Hoo.out (by omega)
        obtain ⟨ii, hii, hoc, _⟩ := oc1 k (by have := HL.out; omega)
        have hir := Hr.out ii (List.mem_of_getElem? hii)
        obtain ⟨ix, rfl⟩ : ∃ ix : Nat, ii = ix := ⟨ii.toNat, by omega⟩
        obtain ⟨x, ro, rc, hx, hcell, hrd⟩ := Hc.out ix (by have := Hn.out; omega)
        have hxr := Hrows.out x (List.mem_of_getElem? hx)
        have hxm : x.length = m := by rw [hxr.1, ← Hm.out]
        rw [hxm] at hcell hrd
        obtain ⟨ro', rc', hsh, hin⟩ := RdI.open hrd
        injection hsh with hs1 hs2 hs3
        subst hs1; subst hs3
        obtain ⟨b2, off2, rfl, hlt2, hc2⟩ := hin (by omega)
        have hix : (ix : Int) < n := by omega
        have hixn : (0 : Int) ≤ ix := by omega
        have htk := take_snoc hii
        have hjx : jobI xss (ix : Int) = x := rowI_jobI xss hx
        have hjf : ∀ j y, x[j]? = some y → jobF xss (ix : Int) j = y := fun j y hy => by unfold jobF; rw [hjx, atI_of hy]
        obtain ⟨g, hg⟩ : ∃ g, freeJ xss (o.take k) = g := ⟨_, rfl⟩
        obtain ⟨E, hE⟩ : ∃ E, endF g (jobF xss (ix : Int)) = E := ⟨_, rfl⟩
        have hgn : freeJ xss (o.take (k + 1)) = E := by rw [htk, freeJ_snoc, hg, hE]
        have hgb : ∀ j, j < 4 → 0 ≤ g j ∧ g j ≤ 32000 := fun j hj => by
          have := Hfb.out (o.take k) j hj
          rw [hg, List.length_take] at this
          omega
        have hEb : ∀ j, j < 4 → 0 ≤ E j ∧ E j ≤ 36000 := fun j hj => by
          rw [← hE]
          exact endF_bound4 (B := 32000) (by omega) hgb (Hjb.out ix) hj
        have hEe : ∀ j, E j = max (prevF E j) (g j) + jobF xss (ix : Int) j := fun j => by
          have := endF_eq g (jobF xss (ix : Int)) j
          rw [hE] at this
          exact this
        have hmid : ∀ j, updI (midF g (jobF xss (ix : Int)) j) j (E j) = midF g (jobF xss (ix : Int)) (j + 1) := fun j => by
          have := midF_succ g (jobF xss (ix : Int)) j
          rw [hE] at this
          exact this
        have hmid0 := midF_zero g (jobF xss (ix : Int))
        have hmidm : cf (midF g (jobF xss (ix : Int)) m) m = cf E m := by
          rw [← cf_cut (midF g (jobF xss (ix : Int)) m), midF_all, hE, cf_cut]
        rw [hg, ← hmid0] at hF
        obtain ⟨tp, htp⟩ : ∃ tp, tp = wr.heap.size := ⟨_, rfl⟩
        rw [← htp] at hB
        have htp3 : tp ≤ wr.heap.size := by omega
        have htp2 : w.heap.size + 2 ≤ tp := by omega
        have Hoc := Lib.hid hoc
        have Hcell := Lib.hid hcell
        have Hc2 := Lib.hid hc2
        have Hxm := Lib.hid hxm
        have Hjf := Lib.hid hjf
        have Hgn := Lib.hid hgn
        have Hgb := Lib.hid hgb
        have HEb := Lib.hid hEb
        have HEe := Lib.hid hEe
        have Hmid := Lib.hid hmid
        have Hmidm := Lib.hid hmidm
        have Hne := Lib.hid hne
        have HF0 := Lib.hid hF
        have HB0 := Lib.hid hB
        have Hb0 := Lib.hid hb
        have Hxr := Lib.hid hxr
        have d1 := (hb.cell (p := ⟨ob, ooff + k, none⟩) (show ob < w.heap.size from Nat.lt_of_lt_of_le olt.1 hB')).trans hoc
        have d2 := (hb.cell (p := ⟨b, off + ix, none⟩) (by show b < w.heap.size; omega)).trans hcell
        clear hB hne hF hb hoc hcell hc2 hin hs2 hxm hjf hgn hgb hEb hEe hmid hmid0 hmidm hxr hii hir hx hrd htk hjx hE hg oc1 htp
        go_wp2
        go_loopw [9, 29] (fun av jv wr => ∃ j : Nat, j ≤ m ∧ jv = .int .i64 j ∧ av = .int .i64 (prevF E j) ∧ BldG eI 2 29 w.heap.size (w.heap.size + 2) tp wr u5 (rowsJ xss o m k) ∧
          OwnInt64S w.heap.size wr (.slice (some ⟨w.heap.size, 0, none⟩) m m) (cf (midF g (jobF xss (ix : Int)) j) m) ∧ Below w.heap.size w wr ∧ tp ≤ wr.heap.size) (fun _ jv _ => m - (intOf jv).toNat)
        case atStart => exact ⟨0, Nat.zero_le _, rfl, rfl, HB0.out, HF0.out, Hb0.out, htp3⟩
        case round =>
          obtain ⟨j, hj, rfl, rfl, hB, hF, hb, htp⟩ := hrel
          clear HB0 HF0 Hb0 htp3 d1 d2
          by_cases hjm : j < m
          · obtain ⟨y, hy, hcy, _⟩ := Hc2.out j (by have := Hxm.out; omega)
            have d3 := (hb.cell (p := ⟨b2, off2 + j, none⟩) (by show b2 < w.heap.size; omega)).trans hcy
            have d4 : wr.cell? ⟨w.heap.size, j, none⟩ = some (.int .i64 (g j)) := Own.cellAtI hF (by rw [cf_length]) (by rw [cf_get hjm, midF_at])
            have hyb := Hxr.out.2 y (List.mem_of_getElem? hy)
            have hev := HEe.out j
            rw [Hjf.out j y hy] at hev
            have heb := HEb.out j (by omega)
            have hgj := Hgb.out j (by omega)
            obtain ⟨pv, hpv⟩ : ∃ pv, prevF E j = pv := ⟨_, rfl⟩
            obtain ⟨gv, hgv⟩ : ∃ gv, g j = gv := ⟨_, rfl⟩
            obtain ⟨ev, hev2⟩ : ∃ ev, E j = ev := ⟨_, rfl⟩
            rw [hpv, hgv] at hev
            rw [hev2] at hev heb
            rw [hgv] at hgj d4
            rw [hpv]
            have hok : eI.ok ev := by show -9223372036854775808 ≤ ev ∧ ev ≤ 9223372036854775807; omega
            have hst := Own.storeI (x := ev) hF (by rw [cf_length]) (k := j) (by omega) hok
            obtain ⟨_, hfz, hF3, hg3⟩ := hst
            have hBk := hB.keep hg3 (by
              cases hob : u5.ownBlock with
              | none => exact .inl rfl
              | some q => exact .inr (by rw [← hob]; exact Hne.out)) (fun q hq => by cases hq; omega)
            have hbk := hb.setCell (p := ⟨w.heap.size, j, none⟩) (by show w.heap.size ≤ w.heap.size; omega) (.int .i64 ev)
            have hszk : tp ≤ (wr.setCell ⟨w.heap.size, j, none⟩ (.int .i64 ev)).heap.size := by simp; omega
            have hFk : OwnInt64S w.heap.size (wr.setCell ⟨w.heap.size, j, none⟩ (.int .i64 ev)) (.slice (some ⟨w.heap.size, 0, none⟩) m m) (cf (midF g (jobF xss (ix : Int)) (j + 1)) m) := by
              rw [cf_set, ← hev2, Hmid.out] at hF3
              rw [← hev2]
              exact hF3
            have Hev2 := Lib.hid hev2
            have HBk := Lib.hid hBk
            have HFk := Lib.hid hFk
            have Hbk := Lib.hid hbk
            have Hszk := Lib.hid hszk
            clear hy hcy hpv hgv hev2 hB hF hb hF3 hg3 hBk hFk hbk hszk
            have he : (if pv < gv then gv else pv) + y = ev := by
              rw [hev]
              split <;> omega
            have He := Lib.hid he
            have hw64 : wrap64 ev = ev := by first | exact IntWalk.i64_in _ (by omega) | (unfold wrap64; omega)
            have Hw64 := Lib.hid hw64
            clear he hev hw64
            go_wp2
            go_roundw
            case rel =>
              rw [He.out, Hw64.out]
              exact ⟨j + 1, by omega, by go_num, by rw [← Hev2.out]; rfl, HBk.out, HFk.out, Hbk.out, Hszk.out⟩
            case measure => simp [intOf]; omega
          · obtain rfl : j = m := by omega
            rw [Hmidm.out] at hF
            have hFr := hF.rds
            have HFr := Lib.hid hFr
            have HF := Lib.hid hF
            have HB := Lib.hid hB
            have Hb := Lib.hid hb
            clear hF hFr hB hb
            go_wp2_with fail
            with_reducible refine (copyInts_c HFr.out (by rw [cf_length]; omega)).mono ?_
            rintro e w2 ⟨u, rfl, hR, hb2⟩
            obtain ⟨rao, rcap, hsh⟩ := hR.shape
            rw [cf_length] at hsh
            subst hsh
            have hB2 := HB.out.below hb2 htp
            have hF2 := HF.out.below hb2 (Nat.le_refl _)
            have hb3 := Hb.out.trans (hb2.mono Hb.out.size)
            have hsz2 := hb2.size
            obtain ⟨hs, xh, hval, hokx, hlen, hO, hfn⟩ := hB2.app (hR.mono htp) (by omega) (by omega)
            have hlen2 : hs.length = k := by rw [hlen, rowsJ_length]
            have hcells : (#[.slice rao j rcap] : Array Value) = (eS.cells xh).toArray := by rw [← hval]; rfl
            have HO := Lib.hid hO
            have Hfn := Lib.hid hfn
            have HF2 := Lib.hid hF2
            have Hb3 := Lib.hid hb3
            have Hlen2 := Lib.hid hlen2
            have Hcells := Lib.hid hcells
            have hl0 := HO.out.lt
            have Hl0 := Lib.hid hl0
            clear hR hb2 hval hlen hO hfn hlen2 hcells hl0 hB2 hF2 hb3 HB HF HFr Hb
            go_wp2_with (first | (at_builtin; refine wpList_appS (E := eS) rfl _ _ 22 rfl Try.underlying22 hi1 hy0 hy1 hy2 rfl (by decide) rfl rfl (HO.out.alloc _) (rds_one (E := eS) (x := xh) hokx Hcells.out) ?b1 ?b2 ?b3 ?_))
            case b1 => rw [Hlen2.out]; unfold maxLen; simp; omega
            case b2 => rw [Hlen2.out]; simp; omega
            case b3 => have := Hb3.out.size; simp; omega
            intro v' w3 hO5 hg
            have hg2 := hg.alloc
            have hB5 := Hfn.out w3 v' hO5 hg2
            have hF5 := HF2.out.kept hg2.1 (.inr (by intro hh; exact Hne.out hh.symm))
            have hb5 := hg2.below Hb3.out Hb3.out.size (fun q hq => (Hl0.out q hq).1)
            have hFlt : w.heap.size < w2.heap.size := (HF2.out.lt _ rfl).2
            have hne5 : v'.ownBlock ≠ some w.heap.size := by
              rcases hg2.2 with h6 | ⟨q, h6, h7⟩
              · rw [h6]; exact Hne.out
              · rw [h6]; intro hh; cases hh; omega
            have hB6 : BldG eI 2 29 w.heap.size (w.heap.size + 2) w3.heap.size w3 v' (rowsJ xss o j (k + 1)) := by rw [rowsJ_succ, Hgn.out]; exact hB5
            have hF6 : OwnInt64S w.heap.size w3 (.slice (some ⟨w.heap.size, 0, none⟩) j j) (cf (freeJ xss (o.take (k + 1))) j) := by rw [Hgn.out]; exact hF5
            have HS : Hid (EndS xss o j w w.heap.size (k + 1) w3 v') := Lib.hid ⟨hFB, hB6, hne5, hF6, hb5, by have := hg2.1.size; omega⟩
            clear hO5 hg hg2 hB5 hF5 hb5 hne5 hB6 hF6
            go_wp2
            go_roundw
            case rel => exact ⟨k + 1, by omega, by go_num, HS.out⟩
            case measure => simp [intOf]; omega
      · obtain rfl : k = L := by omega
        have hM := hB.toM (by omega)
        go_wp2
        go_ret
        exact ⟨_, rfl, hM, hb⟩
end Go.Proofs.Ytpnmcgjfemaleaa
