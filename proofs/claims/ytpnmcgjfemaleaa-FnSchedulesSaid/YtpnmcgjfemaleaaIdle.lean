/- Idle minutes: both sides. No condition. -/
import Derived.Test.YtpnmcgjfemaleaaEnd4
namespace Go.Proofs.Ytpnmcgjfemaleaa
open Go.ChangeShapes Go.WideShapes Go.ChangeAt Go.RowKit
set_option linter.unusedVariables false
set_option maxRecDepth 100000
def inMc (xss : List (List Int)) (mc : Int) : Bool := decide (0 ≤ mc ∧ mc ≤ (colsJ xss : Int) - 1)
def IMC (xss : List (List Int)) (o : List Int) (mc : Int) : Int := OCodeIn xss o (inMc xss mc)
def IMV (xss : List (List Int)) (o : List Int) (mc : Int) : Int := if IMC xss o mc = 0 then freeJ xss o mc.toNat - freeJ xss (o.take 1) mc.toNat + jobF xss (o.headD 0) mc.toNat - colT xss mc.toNat xss.length else 0
theorem IMC_ok {xss : List (List Int)} {o : List Int} {mc : Int} (h : IMC xss o mc = 0) : OCode xss o = 0 ∧ inMc xss mc = true := by
  unfold IMC OCodeIn at h
  unfold OCode
  by_cases h1 : validJ xss = true
  · rw [if_pos h1] at h ⊢
    by_cases h2 : orderP xss.length o ∧ inMc xss mc = true
    · rw [if_pos h2.1]; exact ⟨rfl, h2.2⟩
    · rw [if_neg h2] at h; cases h
  · rw [if_neg h1] at h; cases h
theorem OCodeIn_cases (xss : List (List Int)) (o : List Int) (b : Bool) : OCodeIn xss o b = 0 ∨ OCodeIn xss o b = 1 ∨ OCodeIn xss o b = 2 := by
  unfold OCodeIn
  by_cases h1 : validJ xss = true <;> by_cases h2 : orderP xss.length o ∧ b = true <;> simp [h1, h2]
/-- what the two walks read -/
theorem idle_facts {xss : List (List Int)} {o : List Int} (h : OCode xss o = 0) {k : Nat} (hk : k < colsJ xss) :
    ∃ L, o.length = L + 1 ∧ L < 8 ∧ xss.length = L + 1 ∧ (endsJ xss o).length = L + 1 ∧ (endsJ xss o)[L]? = some (cf (freeJ xss o) (colsJ xss)) ∧ (endsJ xss o)[0]? = some (cf (freeJ xss (o.take 1)) (colsJ xss)) ∧
      (∃ ix : Nat, o[0]? = some (ix : Int) ∧ ix < L + 1 ∧ o.headD 0 = ix) ∧ (0 ≤ freeJ xss o k ∧ freeJ xss o k ≤ 32000) ∧ (0 ≤ freeJ xss (o.take 1) k ∧ freeJ xss (o.take 1) k ≤ 32000) := by
  obtain ⟨hv, hr, hl8, hne⟩ := ordP_parts h
  obtain ⟨hn8, hm4, hrows⟩ := validJ_parts hv
  obtain ⟨L, hL, hlen, hget, _, _⟩ := ends_last hv hne
  have hnl := (OCode_ok h).2.1
  have hb := fun o' => freeJ_bound (xss := xss) (fun r h => (hrows r h).2) o' (k := k) (by omega)
  refine ⟨L, hL, by omega, by omega, hlen, hget, ?_, ?_, ?_, ?_⟩
  · unfold endsJ
    rw [rowsJ_get (by omega)]
  · cases o with
    | nil => exact absurd rfl hne
    | cons i t =>
      have := hr i (List.mem_cons_self ..)
      refine ⟨i.toNat, ?_, by omega, ?_⟩
      · show some i = some _
        congr 1
        omega
      · show i = _
        omega
  · have := hb o; omega
  · have := hb (o.take 1); rw [List.length_take] at this; omega
set_option maxHeartbeats 1000000 in
theorem IdleMinutes_c {xss : List (List Int)} {o : List Int} {v u : Value} {w : World} {A B : Nat} (mc : Int) (hmc : -9223372036854775808 ≤ mc ∧ mc ≤ 9223372036854775807) (hA : A ≤ w.heap.size) (hB : B ≤ w.heap.size) (ha : RdInt64SS A w v xss) (ho : RdI B w u o) (hl : o.length ≤ 2097152) :
    Calls Try.prog 33 #[v, u, .int .i64 mc] w fun e w' => e = .returned (.tuple #[.int .i64 (IMV xss o mc), .int .i64 (IMC xss o mc)]) ∧ Below w.heap.size w w' := by
  have ha0 := ha.tight
  have Ha := Lib.hid ha0
  have Ho := Lib.hid (Rds.tight ho)
  obtain ⟨ao, cap, rfl, hao⟩ := ha0.open
  have hA : w.heap.size ≤ w.heap.size := Nat.le_refl _
  cases hv : validJ xss with
  | false =>
    have e1 : IMC xss o mc = 1 := by unfold IMC OCodeIn; rw [hv]; rfl
    have e2 : IMV xss o mc = 0 := by unfold IMV; rw [e1]; rfl
    rw [e1, e2]
    have Hv := Lib.hid hv
    clear hv e1 e2 ha ho hao ha0
    go_enter Try.func33, Try.ntmps33
    go_wp2_with fail
    with_reducible refine (ValidJobs_c Ha.out).mono ?_
    rw [Hv.out]
    rintro e w' ⟨rfl, rfl⟩
    go_wp2
    go_ret2
    exact ⟨rfl, Below.refl _ _⟩
  | true =>
    obtain ⟨hn8, hm4, hrows⟩ := validJ_parts hv
    obtain ⟨n, hn⟩ : ∃ n, n = xss.length := ⟨_, rfl⟩
    obtain ⟨m, hm⟩ : ∃ m, m = colsJ xss := ⟨_, rfl⟩
    rw [← hn] at Ha hn8 hao ⊢
    rw [← hm] at hm4
    obtain ⟨b, off, rfl, hlt, hc⟩ := hao (by omega)
    obtain ⟨x0, ro0, rc0, hx0, hcell0, _⟩ := hc 0 (by omega)
    have hx0m : x0.length = m := by rw [hm, colsJ_of hx0]
    have hcell0' : w.cell? ⟨b, off, none⟩ = some (.slice ro0 m rc0) := by rw [← hx0m]; simpa using hcell0
    obtain ⟨bb, hbb⟩ : ∃ bb, inMc xss mc = bb := ⟨_, rfl⟩
    have hin : decide (0 ≤ mc ∧ mc ≤ (m : Int) - 1) = bb := by rw [← hbb, hm]; rfl
    have z1 : IntKind.i64.wrap ((m : Int) - 1) = (m : Int) - 1 := IntWalk.i64_in _ (by omega)
    have Hv := Lib.hid hv
    have Hn := Lib.hid hn
    have Hm := Lib.hid hm
    have Hc := Lib.hid hc
    have Hrows := Lib.hid hrows
    have Hin := Lib.hid hin
    obtain ⟨hm1, hm2⟩ := hm4
    by_cases hz : IMC xss o mc = 0
    · have e2 : IMV xss o mc = freeJ xss o mc.toNat - freeJ xss (o.take 1) mc.toNat + jobF xss (o.headD 0) mc.toNat - colT xss mc.toNat xss.length := by unfold IMV; rw [if_pos hz]
      obtain ⟨hoc, hinm⟩ := IMC_ok hz
      have hcode : OCodeIn xss o bb = 0 := by rw [← hbb]; exact hz
      have hmr : 0 ≤ mc ∧ mc ≤ (m : Int) - 1 := by rw [hbb] at hinm; rw [hinm] at hin; exact of_decide_eq_true hin
      obtain ⟨k, rfl⟩ : ∃ k : Nat, mc = k := ⟨mc.toNat, by omega⟩
      have hkm : k < m := by omega
      rw [Int.toNat_natCast] at e2
      obtain ⟨L, hoL, hL8, hxL, hel, heL, he0, ⟨ix, hix0, hixL, hhd⟩, hfb, hfb1⟩ := idle_facts hoc (k := k) (by omega)
      rw [hhd] at e2
      obtain ⟨_, hr, hl8, hne⟩ := ordP_parts hoc
      rw [← hm] at heL he0
      have hnL : n = L + 1 := by omega
      obtain ⟨x, ro, rc, hx, hcell, hrd⟩ := hc ix (by omega)
      have hxr := hrows x (List.mem_of_getElem? hx)
      obtain ⟨ro', rc', hsh, hinr⟩ := RdI.open hrd
      have hxm : x.length = m := by rw [hxr.1, hm]
      rw [hxm] at hcell
      injection hsh with hs1 hs2 hs3
      subst hs1; subst hs3
      obtain ⟨b2, off2, rfl, hlt2, hc2⟩ := hinr (by omega)
      obtain ⟨y, hy, hcy, _⟩ := hc2 k (by omega)
      have hyj : jobF xss (ix : Int) k = y := by unfold jobF; rw [rowI_jobI xss hx, atI_of hy]
      have hyb := hxr.2 y (List.mem_of_getElem? hy)
      rw [hyj] at e2
      rw [e2, hz]
      rw [← hn]
      have hct := fun i => colT_bound (xss := xss) (k := k) (fun r hr => (hrows r hr).2) i
      obtain ⟨oa, oc, rfl, hoo⟩ := RdI.open ho
      obtain ⟨ob, ooff, rfl, olt, occ⟩ := hoo (by omega)
      obtain ⟨i0, hi0, hci0, _⟩ := occ 0 (by omega)
      obtain rfl : i0 = (ix : Int) := by rw [hix0] at hi0; exact (Option.some.inj hi0).symm
      have hci0' : w.cell? ⟨ob, ooff, none⟩ = some (.int .i64 (ix : Int)) := by simpa using hci0
      have hol : o.length = n := by omega
      rw [hol] at Ho ⊢
      obtain ⟨fl, hfl⟩ : ∃ fl, freeJ xss o k = fl := ⟨_, rfl⟩
      obtain ⟨ff, hff⟩ : ∃ ff, freeJ xss (o.take 1) k = ff := ⟨_, rfl⟩
      rw [hfl] at hfb ⊢
      rw [hff] at hfb1 ⊢
      have Hoc := Lib.hid hcode
      have Hr := Lib.hid hr
      have Hel := Lib.hid hel
      have HeL := Lib.hid heL
      have He0 := Lib.hid he0
      have Hfl := Lib.hid hfl
      have Hff := Lib.hid hff
      have Hct := Lib.hid hct
      have Hcell := Lib.hid hcell
      have Hcy := Lib.hid hcy
      have Hci := Lib.hid hci0'
      have Hne := Lib.hid hne
      have Hhol := Lib.hid hol
      have HnL := Lib.hid hnL
      have hixn : (ix : Int) < n := by omega
      have hkn : (k : Int) < m := by omega
      clear hv hn hm hc hrows hin hz e2 hoc hinm hcode hr hel heL he0 hfl hff hct hcell hcy hci0' hne ha ho hao ha0 hx0 hcell0 hx0m hbb hx hxr hrd hinr hc2 hy hyj hi0 hci0 hoo occ hix0 hhd hoL hxL hxm hs2 hol hnL
      go_enter Try.func33, Try.ntmps33
      go_wp2_with fail
      with_reducible refine (ValidJobs_c Ha.out).mono ?_
      rw [Hv.out]
      rintro e w' ⟨rfl, rfl⟩
      go_wp2_with fail
      with_reducible refine (size_any0 (n := m) (by omega)).mono ?_
      rintro e w' ⟨rfl, rfl⟩
      go_wp2_with fail
      with_reducible refine (inside_any _ _ _ _).mono ?_
      rw [Hin.out]
      rintro e w' ⟨rfl, rfl⟩
      go_wp2_with fail
      with_reducible refine (orderCode_c bb (Nat.le_refl _) Ha.out Ho.out (by rw [Hhol.out]; omega)).mono ?_
      rw [Hoc.out]
      rintro e w1 ⟨rfl, hb1⟩
      have hcon := endTimes_c hb1.size hb1.size (Ha.out.below hb1 (Nat.le_refl _)) (Ho.out.below hb1 (Nat.le_refl _)) Hv.out Hr.out hl8
      have Hcon := Lib.hid hcon
      have Hb1 := Lib.hid hb1
      clear hcon hb1 hcell0'
      go_wp2_with fail
      with_reducible refine Hcon.out.mono ?_
      rintro e w2 ⟨r, rfl, hR, hb2⟩
      have hb3 := Hb1.out.trans (hb2.mono Hb1.out.size)
      obtain ⟨ra, rcp, rfl, hro⟩ := hR.rds.open
      obtain ⟨rb, roff, rfl, rlt, rcc⟩ := hro (by have := Hel.out; omega)
      rw [Hel.out] at rcc ⊢
      obtain ⟨y0, q0, qc0, hy0, g0, hrd0⟩ := rcc 0 (by omega)
      obtain ⟨yL, qL, qcL, hyL, gL, hrdL⟩ := rcc L (by omega)
      obtain rfl : y0 = cf (freeJ xss (o.take 1)) m := by have := He0.out; rw [hy0] at this; exact Option.some.inj this
      obtain rfl : yL = cf (freeJ xss o) m := by have := HeL.out; rw [hyL] at this; exact Option.some.inj this
      obtain ⟨_, _, hsh0, hin0⟩ := RdI.open hrd0
      injection hsh0 with hs1 hs2 hs3
      subst hs1; subst hs3
      obtain ⟨tb0, toff0, rfl, tlt0, tc0⟩ := hin0 (by rw [cf_length]; omega)
      obtain ⟨_, _, hshL, hinL⟩ := RdI.open hrdL
      injection hshL with hs1 hs2 hs3
      subst hs1; subst hs3
      obtain ⟨tbL, toffL, rfl, tltL, tcL⟩ := hinL (by rw [cf_length]; omega)
      obtain ⟨z0, hz0, k0, _⟩ := tc0 k (by rw [cf_length]; omega)
      obtain ⟨zL, hzL, kL, _⟩ := tcL k (by rw [cf_length]; omega)
      obtain rfl : z0 = ff := by rw [cf_get hkm, Hff.out] at hz0; exact (Option.some.inj hz0).symm
      obtain rfl : zL = fl := by rw [cf_get hkm, Hfl.out] at hzL; exact (Option.some.inj hzL).symm
      rw [cf_length] at g0 gL
      have g0' : w2.cell? ⟨rb, roff, none⟩ = some (.slice (some ⟨tb0, toff0, none⟩) m qc0) := by simpa using g0
      have d1 := (hb3.cell (p := ⟨ob, ooff, none⟩) olt.2).trans Hci.out
      have d2 := (hb3.cell (p := ⟨b, off + ix, none⟩) hlt.1).trans Hcell.out
      have d3 := (hb3.cell (p := ⟨b2, off2 + k, none⟩) hlt2.1).trans Hcy.out
      have Hb3 := Lib.hid hb3
      have hzz : IntKind.i64.wrap (((L + 1 : Nat) : Int) - 1) = (L : Int) := by rw [show ((L + 1 : Nat) : Int) - 1 = (L : Int) by omega]; exact IntWalk.i64_in _ (by omega)
      have hlen9 : ((L + 1 : Nat) : Int) = (L : Int) + 1 := by omega
      have hnL := HnL.out
      clear hb2 hb3 hR hro rcc hy0 hyL hrd0 hrdL hin0 hinL tc0 tcL hz0 hzL g0 hs2 hnL
      go_wp2
      go_loop [10, 35] (fun s i => ∃ j : Nat, j ≤ n ∧ i = .int .i64 j ∧ s = .int .i64 (colT xss k j)) (fun _ i => n - (intOf i).toNat)
      case atStart => exact ⟨0, Nat.zero_le _, rfl, rfl⟩
      case round =>
        obtain ⟨j, hj, rfl, rfl⟩ := hrel
        by_cases hjn : j < n
        · obtain ⟨xj, roj, rcj, hxj, hcellj, hrdj⟩ := Hc.out j (by omega)
          have hxrj := Hrows.out xj (List.mem_of_getElem? hxj)
          have hxmj : xj.length = m := by rw [hxrj.1, Hm.out]
          obtain ⟨_, _, hshj, hinj⟩ := RdI.open hrdj
          rw [hxmj] at hcellj
          injection hshj with hs1 hs2 hs3
          subst hs1; subst hs3
          obtain ⟨bj, offj, rfl, hltj, hcj⟩ := hinj (by omega)
          obtain ⟨yj, hyj, hcyj, _⟩ := hcj k (by omega)
          have hcol : colT xss k (j + 1) = colT xss k j + yj := by show colT xss k j + _ = _; rw [rowI_of hxj, atI_of hyj]
          have hyjb := hxrj.2 yj (List.mem_of_getElem? hyj)
          have hctj := Hct.out j
          have t1 := (Hb3.out.cell (p := ⟨b, off + j, none⟩) hlt.1).trans hcellj
          have t2 := (Hb3.out.cell (p := ⟨bj, offj + k, none⟩) hltj.1).trans hcyj
          have Hcol := Lib.hid hcol
          clear hxj hrdj hxrj hxmj hinj hcj hyj hcol hcellj hcyj hs2 d1 d2 d3 g0' gL k0 kL
          go_wp2
          go_round
          case rel => exact ⟨j + 1, by omega, by go_num, by rw [Hcol.out]⟩
          case measure => simp [intOf]; omega
        · obtain rfl : j = n := by omega
          have hctn := Hct.out j
          have s1 : IntKind.i64.wrap (z0 - y) = z0 - y := IntWalk.i64_in _ (by omega)
          go_wp2
          go_quiet (fail)
          go_wp2
          go_ret2
          refine ⟨?_, Hb3.out.drewNy _⟩
          show Ending.returned (.tuple #[.int .i64 (zL - (z0 - y) - colT xss k j), .int .i64 0]) = Ending.returned (.tuple #[.int .i64 (zL - z0 + y - colT xss k j), .int .i64 0])
          rw [show zL - (z0 - y) - colT xss k j = zL - z0 + y - colT xss k j by omega]
    · have e2 : IMV xss o mc = 0 := by unfold IMV; rw [if_neg hz]
      have hcode : OCodeIn xss o bb = 2 := by
        have h1 := OCodeIn_cases xss o bb
        have h2 : OCodeIn xss o bb = IMC xss o mc := by rw [← hbb]; rfl
        have h3 : OCodeIn xss o bb ≠ 1 := by unfold OCodeIn; rw [if_pos hv]; split <;> decide
        omega
      have e3 : IMC xss o mc = 2 := by rw [← hcode, ← hbb]; rfl
      rw [e2, e3]
      have Hoc := Lib.hid hcode
      have Hl := Lib.hid hl
      clear hv hn hm hc hrows hin hz e2 e3 hcode ha ho hao ha0 hx0 hcell0 hx0m hbb
      go_enter Try.func33, Try.ntmps33
      go_wp2_with fail
      with_reducible refine (ValidJobs_c Ha.out).mono ?_
      rw [Hv.out]
      rintro e w' ⟨rfl, rfl⟩
      go_wp2_with fail
      with_reducible refine (size_any0 (n := m) (by omega)).mono ?_
      rintro e w' ⟨rfl, rfl⟩
      go_wp2_with fail
      with_reducible refine (inside_any _ _ _ _).mono ?_
      rw [Hin.out]
      rintro e w' ⟨rfl, rfl⟩
      go_wp2_with fail
      with_reducible refine (orderCode_c bb (Nat.le_refl _) Ha.out Ho.out Hl.out).mono ?_
      rw [Hoc.out]
      rintro e w1 ⟨rfl, hb1⟩
      go_wp2
      go_ret2
      exact ⟨rfl, hb1⟩
end Go.Proofs.Ytpnmcgjfemaleaa
