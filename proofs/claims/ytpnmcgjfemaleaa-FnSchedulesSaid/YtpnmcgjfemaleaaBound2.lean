/- The bound of a schedule: the program's walk. No condition. -/
import Derived.Test.YtpnmcgjfemaleaaBound
namespace Go.Proofs.Ytpnmcgjfemaleaa
open Go.ChangeShapes Go.WideShapes Go.ChangeAt Go.RowKit
set_option linter.unusedVariables false
set_option maxRecDepth 100000
theorem SpanBound_c {xss : List (List Int)} {v : Value} {w : World} {A : Nat} (hA : A ≤ w.heap.size) (ha : RdInt64SS A w v xss) :
    Calls Try.prog 20 #[v] w fun e w' => e = .returned (.tuple #[.int .i64 (SBV xss), .int .i64 (SBC xss)]) ∧ Below w.heap.size w w' := by
  have Ha := Lib.hid ha
  obtain ⟨ao, cap, rfl, ho⟩ := ha.open
  cases ht : validJ xss with
  | false =>
    have Ht := Lib.hid ht
    clear ht ho ha
    go_enter Try.func20, Try.ntmps20
    go_wp2_with fail
    with_reducible refine (ValidJobs_c Ha.out).mono ?_
    rw [Ht.out]
    rintro e w' ⟨rfl, rfl⟩
    go_wp2
    go_ret2
    refine ⟨?_, Below.refl _ _⟩
    unfold SBV SBC
    rw [Ht.out]; rfl
  | true =>
    obtain ⟨hn8, hm4, hrows⟩ := validJ_parts ht
    have e0 : SBC xss = 0 := by unfold SBC; rw [if_pos ht]
    have e1 : SBV xss = mx (bnd xss) (colsJ xss) := by unfold SBV; rw [if_pos ht]
    rw [e0, e1]
    have hbb := bnd_bound ht
    have hbf := bef_bound ht
    have hbh := beh_bound ht
    have hct := fun k => colT_bound (xss := xss) (k := k) (fun r hr => (hrows r hr).2)
    have Hbb := Lib.hid hbb
    have Hbf := Lib.hid hbf
    have Hbh := Lib.hid hbh
    have Hct := Lib.hid hct
    have Ht := Lib.hid ht
    have Hrows := Lib.hid hrows
    obtain ⟨n, hn⟩ : ∃ n, n = xss.length := ⟨_, rfl⟩
    obtain ⟨m, hm⟩ : ∃ m, m = colsJ xss := ⟨_, rfl⟩
    rw [← hn] at Ha hn8 ⊢
    rw [← hm] at hm4 ⊢
    have Hn := Lib.hid hn
    have Hm := Lib.hid hm
    obtain ⟨b, off, rfl, hlt, hc⟩ := ho (by omega)
    obtain ⟨x0, ro0, rc0, hx0, hcell0, hrd0⟩ := hc 0 (by omega)
    have hx0m : x0.length = m := by rw [hm, colsJ_of hx0]
    have hcell0' : w.cell? ⟨b, off, none⟩ = some (.slice ro0 m rc0) := by rw [← hx0m]; simpa using hcell0
    have Hc := Lib.hid hc
    obtain ⟨hn1, hn2⟩ := hn8
    obtain ⟨hm1, hm2⟩ := hm4
    obtain ⟨i0, hi, hz0, hz1, hz2⟩ := info_parts Try.infoInt64
    clear ht hrows ho hn ha e0 e1 hbb hbf hbh hct hm hc hcell0 hx0 hrd0 hx0m
    go_enter Try.func20, Try.ntmps20
    go_wp2_with fail
    with_reducible refine (ValidJobs_c Ha.out).mono ?_
    rw [Ht.out]
    rintro e w' ⟨rfl, rfl⟩
    go_wp2
    go_loopw [4, 18] (fun bd i wr => ∃ k : Nat, k ≤ m ∧ i = .int .i64 k ∧ bd = .int .i64 (mx (bnd xss) k) ∧ Below w.heap.size w wr) (fun _ i _ => m - (intOf i).toNat)
    case atStart => exact ⟨0, Nat.zero_le _, rfl, rfl, Below.refl _ _⟩
    case round =>
      obtain ⟨k, hk, rfl, rfl, hb⟩ := hrel
      by_cases hkm : k < m
      · have hsz := hb.size
        have HR0 : Hid (OwnInt64S w.heap.size (wr.alloc (.cells #[] 2)) (.slice (some ⟨wr.heap.size, 0, none⟩) 0 0) ([] : List Int)) := Lib.hid (Own.lit (E := eI) (xs := []) (cs := #[]) (by omega) rfl rfl (by decide) (fun x hx => by cases hx))
        have HK0 : Hid (OwnInt64S w.heap.size ((wr.alloc (.cells #[] 2)).alloc (.cells #[] 2)) (.slice (some ⟨wr.heap.size + 1, 0, none⟩) 0 0) ([] : List Int)) := Lib.hid (by have := Own.lit (E := eI) (e := 2) (base := w.heap.size) (w := wr.alloc (.cells #[] 2)) (xs := []) (cs := #[]) (n := 0) (by simp; omega) rfl rfl (by decide) (fun x hx => by cases hx); simpa using this)
        have HR1 := Lib.hid (HR0.out.alloc (.cells #[] 2))
        have HB0 : Hid (Below w.heap.size w ((wr.alloc (.cells #[] 2)).alloc (.cells #[] 2))) := Lib.hid ((hb.alloc (by omega) _).alloc (by simp; omega) _)
        have hap0 : Apart (.slice (some ⟨wr.heap.size, 0, none⟩) 0 0) (.slice (some ⟨wr.heap.size + 1, 0, none⟩) 0 0) := by intro g h1 h2; simp [Value.ownBlock] at h1 h2; omega
        have Hap0 := Lib.hid hap0
        clear HR0 hap0 hb hsz
        go_wp2
        go_loopw [6, 7, 8, 25] (fun rv ov hv i wr => ∃ j : Nat, j ≤ n ∧ i = .int .i64 j ∧ ov = .int .i64 (colT xss k j) ∧ OwnInt64S w.heap.size wr rv (cf (bef xss k) j) ∧ OwnInt64S w.heap.size wr hv (cf (beh xss k) j) ∧ Apart rv hv ∧ Below w.heap.size w wr) (fun _ _ _ i _ => n - (intOf i).toNat)
        case atStart => exact ⟨0, Nat.zero_le _, rfl, rfl, HR1.out, HK0.out, Hap0.out, HB0.out⟩
        case round =>
          obtain ⟨j, hj, rfl, rfl, hR, hC, hap, hb⟩ := hrel
          clear HR1 HK0 Hap0 HB0
          by_cases hjn : j < n
          · obtain ⟨x, ro, rc, hx, hcell, hrd⟩ := Hc.out j (by have := Hn.out; omega)
            have hxr := Hrows.out x (List.mem_of_getElem? hx)
            have hxm : x.length = m := by rw [hxr.1, ← Hm.out]
            rw [hxm] at hcell hrd
            have hsb1 : bef xss k j = sumI (x.take k) := by unfold bef; rw [rowI_of hx]
            have hsb2 : beh xss k j = sumI (x.drop (k + 1)) := by unfold beh; rw [rowI_of hx]
            obtain ⟨ro', rc', hsh, hin⟩ := RdI.open hrd
            injection hsh with hs1 hs2 hs3
            subst hs1; subst hs3
            obtain ⟨b2, off2, rfl, hlt2, hc2⟩ := hin (by omega)
            obtain ⟨y, hy, hcy, by2⟩ := hc2 k (by omega)
            have hcol : colT xss k (j + 1) = colT xss k j + y := by show colT xss k j + _ = _; rw [rowI_of hx, atI_of hy]
            have d := (hb.cell (p := ⟨b, off + j, none⟩) hlt.2).trans hcell
            have hyb := hxr.2 y (List.mem_of_getElem? hy)
            have hctj := Hct.out k j
            have hbf := Hbf.out k j
            have hbh := Hbh.out k j
            have hqp1 : eI.ok (bef xss k j) := by show -9223372036854775808 ≤ _ ∧ _ ≤ 9223372036854775807; omega
            have hqp2 : eI.ok (beh xss k j) := by show -9223372036854775808 ≤ _ ∧ _ ≤ 9223372036854775807; omega
            have hr1 := (hrd.below hb hA).takeN (k := k) (by omega)
            have Hcol := Lib.hid hcol
            have Hsb1 := Lib.hid hsb1
            have Hsb2 := Lib.hid hsb2
            have Hxr := Lib.hid hxr
            have Hrd := Lib.hid hrd
            have Hr1 := Lib.hid hr1
            have HC := Lib.hid hC
            have HR := Lib.hid hR
            have Hap := Lib.hid hap
            have Hb := Lib.hid hb
            have Hcy := Lib.hid hcy
            have Hcell := Lib.hid hcell
            have hrcap := (Rds.cap hrd).1
            have hl1 : (cf (bef xss k) j).length = j := cf_length _ _
            have hl2 : (cf (beh xss k) j).length = j := cf_length _ _
            have Hxm := Lib.hid hxm
            clear hx hcell hrd hr1 hxr hC hR hap hb hcy hy hc2 hin hs2 hcol hsb1 hsb2 hxm
            go_wp2_with fail
            with_reducible refine (sumOf_any Hr1.out (fun y hy => by have := Hxr.out.2 y (List.mem_of_mem_take hy); omega) (by rw [List.length_take]; omega)).mono ?_
            rw [← Hsb1.out]
            rintro e w1 ⟨rfl, rfl⟩
            go_wp2_with (first | (at_builtin; refine wpList_appS (E := eI) rfl _ _ 29 rfl Try.underlying29 hi hz0 hz1 hz2 rfl (by decide) rfl rfl (HR.out.alloc _) (rds_one (E := eI) (x := bef xss k j) hqp1 rfl) ?b1 ?b2 ?b3 ?_))
            case b1 => rw [hl1]; unfold maxLen; simp; omega
            case b2 => rw [hl1]; simp; omega
            case b3 => have := Hb.out.size; simp; omega
            intro v' w2 hR2 hg
            have hg2 := hg.alloc
            have hb2 := hg2.below Hb.out Hb.out.size (fun q hq => (HR.out.lt q hq).1)
            have hap2 := Hap.out.grew hg2 (fun q hq => (HC.out.lt q hq).2)
            have hC2 := HC.out.kept hg2.1 Hap.out.kept
            have hR3 : OwnInt64S w.heap.size w2 v' (cf (bef xss k) (j + 1)) := by rw [cf_snoc]; exact hR2
            have d2 := (hb2.cell (p := ⟨b2, off2 + k, none⟩) hlt2.2).trans Hcy.out
            have hrw := Hrd.out.below hb2 hA
            have z0 : IntKind.i64.wrap (colT xss k j + y) = colT xss k j + y := IntWalk.i64_in _ (by omega)
            have HR3 := Lib.hid hR3
            have HC2 := Lib.hid hC2
            have Hap2 := Lib.hid hap2
            have Hb2 := Lib.hid hb2
            have Hrw := Lib.hid hrw
            clear hR2 hg hg2 hb2 hap2 hC2 hR3 hl1 d hrw
            clear HR HC Hap Hb
            by_cases hq : rc - (k + 1) = 0
            · have hr2 : RdI A w2 (.slice (some ⟨b2, off2, none⟩) (m - (k + 1)) 0) (x.drop (k + 1)) := Rds.drop0 Hrw.out (by have := Hxm.out; omega)
              have Hr2 := Lib.hid hr2
              clear hr2
              go_wp2_with fail
              with_reducible refine (sumOf_any Hr2.out (fun y hy => by have := Hxr.out.2 y (List.mem_of_mem_drop hy); omega) (by rw [List.length_drop]; have := Hxm.out; omega)).mono ?_
              rw [← Hsb2.out]
              rintro e w1 ⟨rfl, rfl⟩
              go_wp2_with (first | (at_builtin; refine wpList_appS (E := eI) rfl _ _ 29 rfl Try.underlying29 hi hz0 hz1 hz2 rfl (by decide) rfl rfl (HC2.out.alloc _) (rds_one (E := eI) (x := beh xss k j) hqp2 rfl) ?b1 ?b2 ?b3 ?_))
              case b1 => rw [hl2]; unfold maxLen; simp; omega
              case b2 => rw [hl2]; simp; omega
              case b3 => have := Hb2.out.size; simp; omega
              intro v'' w3 hC3 hg
              have hg2 := hg.alloc
              have hb3 := hg2.below Hb2.out Hb2.out.size (fun q hq => (HC2.out.lt q hq).1)
              have hap3 := Hap2.out.symm.grew hg2 (fun q hq => (HR3.out.lt q hq).2)
              have hR4 := HR3.out.kept hg2.1 Hap2.out.symm.kept
              have hC4 : OwnInt64S w.heap.size w3 v'' (cf (beh xss k) (j + 1)) := by rw [cf_snoc]; exact hC3
              have HR4 := Lib.hid hR4
              have HC4 := Lib.hid hC4
              have Hap3 := Lib.hid hap3.symm
              have Hb3 := Lib.hid hb3
              clear hC3 hg hg2 hb3 hap3 hR4 hC4 hl2
              go_wp2
              go_roundw
              case rel => exact ⟨j + 1, by omega, by go_num, by rw [Hcol.out], HR4.out, HC4.out, Hap3.out, Hb3.out⟩
              case measure => simp [intOf]; omega
            · have hr2 := Rds.dropI (k := k + 1) Hrw.out (by omega) (by omega)
              have Hr2 := Lib.hid hr2
              clear hr2
              go_wp2_with fail
              with_reducible refine (sumOf_any Hr2.out (fun y hy => by have := Hxr.out.2 y (List.mem_of_mem_drop hy); omega) (by rw [List.length_drop]; have := Hxm.out; omega)).mono ?_
              rw [← Hsb2.out]
              rintro e w1 ⟨rfl, rfl⟩
              go_wp2_with (first | (at_builtin; refine wpList_appS (E := eI) rfl _ _ 29 rfl Try.underlying29 hi hz0 hz1 hz2 rfl (by decide) rfl rfl (HC2.out.alloc _) (rds_one (E := eI) (x := beh xss k j) hqp2 rfl) ?b1 ?b2 ?b3 ?_))
              case b1 => rw [hl2]; unfold maxLen; simp; omega
              case b2 => rw [hl2]; simp; omega
              case b3 => have := Hb2.out.size; simp; omega
              intro v'' w3 hC3 hg
              have hg2 := hg.alloc
              have hb3 := hg2.below Hb2.out Hb2.out.size (fun q hq => (HC2.out.lt q hq).1)
              have hap3 := Hap2.out.symm.grew hg2 (fun q hq => (HR3.out.lt q hq).2)
              have hR4 := HR3.out.kept hg2.1 Hap2.out.symm.kept
              have hC4 : OwnInt64S w.heap.size w3 v'' (cf (beh xss k) (j + 1)) := by rw [cf_snoc]; exact hC3
              have HR4 := Lib.hid hR4
              have HC4 := Lib.hid hC4
              have Hap3 := Lib.hid hap3.symm
              have Hb3 := Lib.hid hb3
              clear hC3 hg hg2 hb3 hap3 hR4 hC4 hl2
              go_wp2
              go_roundw
              case rel => exact ⟨j + 1, by omega, by go_num, by rw [Hcol.out], HR4.out, HC4.out, Hap3.out, Hb3.out⟩
              case measure => simp [intOf]; omega
          · obtain rfl : j = n := by omega
            have hl1 : (cf (bef xss k) j).length = j := cf_length _ _
            have hl2 : (cf (beh xss k) j).length = j := cf_length _ _
            have hmb := mn_bound (f := bef xss k) (lo := 0) (hi := 4000) (n := j) (by omega) (fun i _ => Hbf.out k i)
            have hmh := mn_bound (f := beh xss k) (lo := 0) (hi := 4000) (n := j) (by omega) (fun i _ => Hbh.out k i)
            have hctj := Hct.out k j
            have hbk := Hbb.out k
            have hbe : bnd xss k = mn (bef xss k) j + colT xss k j + mn (beh xss k) j := by unfold bnd; rw [← Hn.out]
            have hm1' : mn (atI (cf (bef xss k) j)) (cf (bef xss k) j).length = mn (bef xss k) j := by rw [hl1]; exact mn_congr (by omega) fun q hq => atI_cf hq
            have hm2' : mn (atI (cf (beh xss k) j)) (cf (beh xss k) j).length = mn (beh xss k) j := by rw [hl2]; exact mn_congr (by omega) fun q hq => atI_cf hq
            have hmxs : max (mx (bnd xss) k) (bnd xss k) = mx (bnd xss) (k + 1) := rfl
            have z1 : IntKind.i64.wrap (mn (bef xss k) j + colT xss k j) = mn (bef xss k) j + colT xss k j := IntWalk.i64_in _ (by omega)
            have z2 : IntKind.i64.wrap (mn (bef xss k) j + colT xss k j + mn (beh xss k) j) = mn (bef xss k) j + colT xss k j + mn (beh xss k) j := IntWalk.i64_in _ (by omega)
            have hR' := hR.rds
            have hC' := hC.rds
            have HR := Lib.hid hR'
            have HC := Lib.hid hC'
            have Hb := Lib.hid hb
            have Hm1 := Lib.hid hm1'
            have Hm2 := Lib.hid hm2'
            have Hbe := Lib.hid hbe
            have Hmx := Lib.hid hmxs
            have hp1 : 0 < (cf (bef xss k) j).length := by omega
            have hp2 : 0 < (cf (beh xss k) j).length := by omega
            clear hR hC hb hap hm1' hm2' hbe hmxs hl1 hl2 hR' hC'
            go_wp2_with fail
            with_reducible refine (minS_c HR.out hp1).mono ?_
            rw [Hm1.out]
            rintro e w1 ⟨rfl, rfl⟩
            go_wp2_with fail
            with_reducible refine (minS_c HC.out hp2).mono ?_
            rw [Hm2.out]
            rintro e w1 ⟨rfl, rfl⟩
            go_wp2
            go_roundw
            case rel => exact ⟨k + 1, by omega, by go_num, by rw [← Hmx.out, Hbe.out]; congr 1; split <;> omega, Hb.out⟩
            case measure => simp [intOf]; omega
      · obtain rfl : k = m := by omega
        go_wp2
        go_ret2
        exact ⟨rfl, hb⟩
end Go.Proofs.Ytpnmcgjfemaleaa
