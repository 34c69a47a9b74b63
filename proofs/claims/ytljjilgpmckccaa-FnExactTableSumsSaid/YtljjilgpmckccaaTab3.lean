/- Sums of tables: the reference's. No condition. -/
import Derived.Test.YtljjilgpmckccaaTab2
namespace Go.Proofs.Ytljjilgpmckccaa
open Go.ChangeShapes Go.WideShapes Go.ChangeAt Go.RowKit
set_option linter.unusedVariables false
set_option maxRecDepth 100000
theorem cf_zero (m : Nat) : cf (fun _ => 0) m = List.replicate m 0 := by
  induction m with
  | zero => rfl
  | succ m ih => rw [cf_snoc, ih, List.replicate_succ']
theorem gcol_00 (xss : List (List Int)) (m : Nat) : cf (gcol xss 0 0) m = List.replicate m 0 := by
  rw [← cf_zero]
  exact cf_congr fun k hk => by rw [gcol_zero]; rfl
theorem sTableSums_c {xss : List (List Int)} {v : Value} {w : World} {A : Nat} (hA : A ≤ w.heap.size) (ha : RdInt64SS A w v xss) :
    Calls Try.prog 38 #[v] w fun e w' => ∃ u0 u1, e = .returned (.tuple #[u0, u1, .int .i64 (TSC xss)]) ∧ OwnInt64S w.heap.size w' u0 (TSR xss) ∧ OwnInt64S w.heap.size w' u1 (TSK xss) ∧ (u1.ownBlock = none ∨ u1.ownBlock ≠ u0.ownBlock) ∧ Below w.heap.size w w' := by
  have Ha := Lib.hid ha
  have hle := ha.le
  obtain ⟨ao, cap, rfl, ho⟩ := ha.open
  cases ht : tabB xss with
  | false =>
    have Ht := Lib.hid ht
    clear ht ho ha
    go_enter Try.func38, Try.ntmps38
    go_wp2_with fail
    with_reducible refine (l24Table_c Ha.out).mono ?_
    rw [Ht.out]
    rintro e w' ⟨rfl, q, rfl⟩
    go_wp2
    go_ret3
    refine ⟨.slice none 0 0, .slice none 0 0, ?_, ?_, ?_, .inl rfl, (Below.refl _ _).drewNy _⟩
    · unfold TSC; rw [Ht.out]; rfl
    · unfold TSR; rw [Ht.out]; exact Own.nil _ _ _ _
    · unfold TSK; rw [Ht.out]; exact Own.nil _ _ _ _
  | true =>
    obtain ⟨hn40, hrows⟩ := tabB_parts ht
    have e0 : TSC xss = 0 := by unfold TSC; rw [if_pos ht]
    have e1 : TSR xss = xss.map sumI := by unfold TSR; rw [if_pos ht]
    have e2 : TSK xss = cf (colS xss) (colsJ xss) := by unfold TSK; rw [if_pos ht]
    rw [e0, e1, e2]
    have Ht := Lib.hid ht
    have Hrows := Lib.hid hrows
    obtain ⟨n, hn⟩ : ∃ n, n = xss.length := ⟨_, rfl⟩
    rw [← hn] at Ha ⊢
    have Hn := Lib.hid hn
    have Ho := Lib.hid ho
    have hn' : n ≤ 40 := by omega
    obtain ⟨i0, hi, hz0, hz1, hz2⟩ := info_parts Try.infoInt64
    clear ht hrows ho hn ha e0 e1 e2 hn40 hle
    go_enter Try.func38, Try.ntmps38
    go_wp2_with fail
    with_reducible refine (l24Table_c Ha.out).mono ?_
    rw [Ht.out]
    rintro e w' ⟨rfl, q, rfl⟩
    have hb00 : Below w.heap.size w (w.drewN q) := (Below.refl _ _).drewNy _
    have hsz00 : (w.drewN q).heap.size = w.heap.size := rfl
    generalize w.drewN q = w0 at hb00 hsz00 ⊢
    have Hb00 := Lib.hid hb00
    have HR0 : Hid (OwnInt64S w.heap.size (w0.alloc (.cells #[] 2)) (.slice (some ⟨w.heap.size, 0, none⟩) 0 0) ([] : List Int)) := Lib.hid (by have := Own.lit (E := eI) (e := 2) (base := w.heap.size) (w := w0) (xs := []) (cs := #[]) (n := 0) (by omega) rfl rfl (by decide) (fun x hx => by cases hx); rw [hsz00] at this; exact this)
    have HK0 : Hid (OwnInt64S w.heap.size ((w0.alloc (.cells #[] 2)).alloc (.cells #[] 2)) (.slice (some ⟨w.heap.size + 1, 0, none⟩) 0 0) ([] : List Int)) := Lib.hid (by have := Own.lit (E := eI) (e := 2) (base := w.heap.size) (w := w0.alloc (.cells #[] 2)) (xs := []) (cs := #[]) (n := 0) (by simp; omega) rfl rfl (by decide) (fun x hx => by cases hx); simpa [hsz00] using this)
    have HR1 := Lib.hid (HR0.out.alloc (.cells #[] 2))
    have HB0 : Hid (Below w.heap.size w ((w0.alloc (.cells #[] 2)).alloc (.cells #[] 2))) := Lib.hid ((Hb00.out.alloc (by omega) _).alloc (by simp; omega) _)
    clear hb00 HR0
    by_cases hn0 : n = 0
    · have hx0 : xss = [] := List.eq_nil_of_length_eq_zero (by have := Hn.out; omega)
      subst hx0
      subst hn0
      go_wp2
      go_rounds 1
      go_ret3
      exact ⟨_, _, rfl, HR1.out, HK0.out, .inr (by intro h; simp [Value.ownBlock] at h), HB0.out⟩
    · obtain ⟨b, off, rfl, hlt, hc⟩ := Ho.out (by have := Hn.out; omega)
      obtain ⟨x0, ro0, rc0, hx0, hcell0, hrd0⟩ := hc 0 (by have := Hn.out; omega)
      have hcols := colsJ_of hx0
      have hcell0' : w.cell? ⟨b, off, none⟩ = some (.slice ro0 x0.length rc0) := by simpa using hcell0
      have d0 := (HB0.out.cell (p := ⟨b, off, none⟩) hlt.2).trans hcell0'
      have hx40 := (Hrows.out x0 (List.mem_of_getElem? hx0)).2.1
      obtain ⟨m, hm⟩ : ∃ m, m = x0.length := ⟨_, rfl⟩
      rw [← hm] at d0 hcols hx40
      have Hcols := Lib.hid hcols
      have Hc := Lib.hid hc
      have hnz : decide ((n : Int) > 0) = true := by simp; omega
      have hnz' : (0 : Int) < n := by omega
      clear hc hcell0 hcell0' hx0 hrd0 hcols hm HK0
      go_wp2_with (first | (at_make; refine wpList_make_full _ rfl _ _ 22 rfl w.heap.size 2 i0 (.int .i64 0) 1 Try.underlying22 hi hz0 hz1 _ _ _ _ m rfl rfl rfl rfl ?b1 ?b2 ?b3 ?_))
      case b1 => first | omega | (rw [hz2]; omega)
      case b2 => unfold maxLen; omega
      case b3 => simp; omega
      intro w1 hown hgr
      have hb1 : Below w.heap.size w w1 := HB0.out.grown hgr (by simp; omega) (fun k hk => by cases hk)
      have hK1 : OwnInt64S w.heap.size w1 (.slice (some ⟨w.heap.size + 2, 0, none⟩) m m) (cf (gcol xss 0 0) m) := by
        rw [toList_madeCells_one] at hown
        refine Own.ofInts ?_ ?_
        · rw [gcol_00, List.length_replicate, List.map_replicate]; simpa [hsz00] using hown
        · intro x hx
          rw [gcol_00] at hx
          rw [(List.mem_replicate.1 hx).2]
          show -9223372036854775808 ≤ (0 : Int) ∧ (0 : Int) ≤ 9223372036854775807
          omega
      have hR2 := HR1.out.kept hgr (.inr (by intro h; cases h))
      have hap : Apart (.slice (some ⟨w.heap.size, 0, none⟩) 0 0) (.slice (some ⟨w.heap.size + 2, 0, none⟩) m m) := by intro g h1 h2; simp [Value.ownBlock] at h1 h2; omega
      clear hown hgr HR1 HB0 d0 hsz00 Hb00
      go_wp2
      go_loopw [5, 7] (fun rv i wr => ∃ k : Nat, k ≤ n ∧ i = .int .i64 k ∧ OwnInt64S w.heap.size wr rv ((xss.take k).map sumI) ∧ OwnInt64S w.heap.size wr (.slice (some ⟨w.heap.size + 2, 0, none⟩) m m) (cf (gcol xss k 0) m) ∧ Apart rv (.slice (some ⟨w.heap.size + 2, 0, none⟩) m m) ∧ Below w.heap.size w wr) (fun _ i _ => n - (intOf i).toNat)
      case atStart => exact ⟨0, Nat.zero_le _, rfl, hR2, hK1, hap, hb1⟩
      case round =>
        obtain ⟨k, hk, rfl, hR, hC, hap, hb⟩ := hrel
        clear hR2 hK1 hb1
        by_cases hkn : k < n
        · obtain ⟨x, ro, rc, hx, hcell, hrd⟩ := Hc.out k (by have := Hn.out; omega)
          have hxr := Hrows.out x (List.mem_of_getElem? hx)
          have hxm : x.length = m := by rw [hxr.1, Hcols.out]
          rw [hxm] at hcell hrd
          have Hx := Lib.hid hx
          have Hxr := Lib.hid hxr
          have Hxm := Lib.hid hxm
          have Hin := Lib.hid (RdI.open hrd)
          have Hcell := Lib.hid hcell
          have HR := Lib.hid hR
          have HC := Lib.hid hC
          have Hap := Lib.hid hap
          have Hb := Lib.hid hb
          have d := (hb.cell (p := ⟨b, off + k, none⟩) hlt.2).trans hcell
          clear hx hcell hrd hxr hC hR hap hb hxm
          go_wp2
          go_loopw [8, 9] (fun t i wr => ∃ j : Nat, j ≤ m ∧ i = .int .i64 j ∧ ∃ s : Int, t = .int .i64 s ∧ s = sumI (x.take j) ∧ OwnInt64S w.heap.size wr u5 ((xss.take k).map sumI) ∧ OwnInt64S w.heap.size wr (.slice (some ⟨w.heap.size + 2, 0, none⟩) m m) (cf (gcol xss k j) m) ∧ Below w.heap.size w wr) (fun _ i _ => m - (intOf i).toNat)
          case atStart => exact ⟨0, Nat.zero_le _, rfl, 0, rfl, rfl, HR.out, HC.out, Hb.out⟩
          case round =>
            obtain ⟨j, hj, rfl, s, rfl, hs, hR, hC, hb⟩ := hrel
            clear HR HC Hb d
            have d := (hb.cell (p := ⟨b, off + k, none⟩) hlt.2).trans Hcell.out
            by_cases hjn : j < m
            · obtain ⟨ro2, rc2, hsh2, hin2⟩ := Hin.out
              injection hsh2 with hq1 hq2 hq3
              subst hq1; subst hq3
              obtain ⟨b2, off2, rfl, hlt2, hc2⟩ := hin2 (by have := Hxm.out; omega)
              obtain ⟨y, hy, hcy, by2⟩ := hc2 j (by have := Hxm.out; omega)
              have dy := (hb.cell (p := ⟨b2, off2 + j, none⟩) hlt2.2).trans hcy
              have hyb := Hxr.out.2.2 y (List.mem_of_getElem? hy)
              have hgb := gcol_bound (j := j) (k := j) (fun r hr => (Hrows.out r hr).2.2) (show k < 40 by omega)
              have hsb : 0 ≤ s ∧ s ≤ 40000000 := by
                have h1 := sumI_nonneg (xs := x.take j) fun y hy => (Hxr.out.2.2 y (List.mem_of_mem_take hy)).1
                have h2 := sumI_le (xs := x.take j) (M := 1000000) (by omega) fun y hy => (Hxr.out.2.2 y (List.mem_of_mem_take hy)).2
                rw [List.length_take] at h2
                omega
              have Hy := Lib.hid hy
              have z0 : IntKind.i64.wrap (gcol xss k j j + y) = gcol xss k j j + y := IntWalk.i64_in _ (by omega)
              have z1 : IntKind.i64.wrap (s + y) = s + y := IntWalk.i64_in _ (by omega)
              have hok2 : eI.ok (gcol xss k j j + y) := by show -9223372036854775808 ≤ _ ∧ _ ≤ 9223372036854775807; omega
              have hst := Own.storeI hC (cf_length _ _).symm (k := j) hjn hok2
              obtain ⟨⟨y0, hy0⟩, hfz, hC4, hg4⟩ := hst
              have hcg : wr.cell? ⟨w.heap.size + 2, j, none⟩ = some (.int .i64 (gcol xss k j j)) := Own.cellI hC (cf_length _ _).symm (cf_get hjn)
              rw [gcol_step Hx.out Hy.out] at hC4
              have HR4 := Lib.hid (hR.kept hg4 Hap.out.symm.kept)
              have HC4 := Lib.hid hC4
              have Hb4 := Lib.hid (hb.setCell (p := ⟨w.heap.size + 2, j, none⟩) (by show w.heap.size ≤ w.heap.size + 2; omega) (.int .i64 (gcol xss k j j + y))).drew1
              have hs2 : s + y = sumI (x.take (j + 1)) := by rw [take_snoc Hy.out, sumI_snoc, hs]
              have Hs2 := Lib.hid hs2
              clear hy hcy hc2 hin2 hq2 hy0 hg4 hC4 hR hC hb hs hs2
              go_wp2_with fail
              go_still_tail 12, (by kernel_rfl)
              go_wp2
              go_roundw
              case rel => exact ⟨j + 1, by omega, by go_num, s + y, by go_num, Hs2.out, HR4.out, HC4.out, Hb4.out⟩
              case measure => simp [intOf]; omega
            · obtain rfl : j = m := by omega
              have hs2 : s = sumI x := by rw [hs, List.take_of_length_le (by have := Hxm.out; omega)]
              have hsb : 0 ≤ s ∧ s ≤ 40000000 := by
                have h1 := sumI_nonneg (xs := x) fun y hy => (Hxr.out.2.2 y hy).1
                have h2 := sumI_le (xs := x) (M := 1000000) (by omega) fun y hy => (Hxr.out.2.2 y hy).2
                have := Hxm.out
                omega
              have Hqp : eI.ok s := by show -9223372036854775808 ≤ s ∧ s ≤ 9223372036854775807; omega
              have hl1 : ((xss.take k).map sumI).length = k := by rw [List.length_map, List.length_take]; have := Hn.out; omega
              have HR := Lib.hid hR
              have HC := Lib.hid hC
              have Hb := Lib.hid hb
              have Hs2 := Lib.hid hs2
              clear hR hC hb hs hs2
              go_wp2_with (first | (at_builtin; refine wpList_appS (E := eI) rfl _ _ 22 rfl Try.underlying22 hi hz0 hz1 hz2 rfl (by decide) rfl rfl (HR.out.alloc _) (rds_one (E := eI) (x := s) Hqp rfl) ?b1 ?b2 ?b3 ?_))
              case b1 => rw [hl1]; unfold maxLen; simp; omega
              case b2 => rw [hl1]; simp; omega
              case b3 => have := Hb.out.size; simp; omega
              intro v' w2 hR2 hg
              have hg2 := hg.alloc
              have hb2 := hg2.below Hb.out Hb.out.size (fun q hq => (HR.out.lt q hq).1)
              have hap2 := Hap.out.grew hg2 (fun q hq => (HC.out.lt q hq).2)
              have hC2 := HC.out.kept hg2.1 Hap.out.kept
              have hR3 : OwnInt64S w.heap.size w2 v' ((xss.take (k + 1)).map sumI) := by rw [take_snoc Hx.out, List.map_append, List.map_take]; rw [Hs2.out] at hR2; simpa [List.map_take] using hR2
              have hC3 : OwnInt64S w.heap.size w2 (.slice (some ⟨w.heap.size + 2, 0, none⟩) j j) (cf (gcol xss (k + 1) 0) j) := by rw [← gcol_row Hx.out j Hxm.out.symm]; exact hC2
              have HR3 := Lib.hid hR3
              have HC3 := Lib.hid hC3
              have Hap2 := Lib.hid hap2
              have Hb2 := Lib.hid hb2
              clear hR2 hg hg2 hb2 hap2 hC2 hR3 hC3 hl1 d
              go_wp2
              go_roundw
              case rel => exact ⟨k + 1, by omega, by go_num, HR3.out, HC3.out, Hap2.out, Hb2.out⟩
              case measure => simp [intOf]; omega
        · obtain rfl : k = n := by omega
          go_wp2
          go_ret3
          refine ⟨_, _, rfl, ?_, ?_, hap.kept, hb⟩
          · rw [List.take_of_length_le (by have := Hn.out; omega)] at hR; exact hR
          · have e : cf (gcol xss k 0) m = cf (colS xss) (colsJ xss) := by rw [Hcols.out]; exact cf_congr fun q hq => by rw [gcol_zero, List.take_of_length_le (by have := Hn.out; omega)]
            rw [← e]
            exact hC
end Go.Proofs.Ytljjilgpmckccaa
