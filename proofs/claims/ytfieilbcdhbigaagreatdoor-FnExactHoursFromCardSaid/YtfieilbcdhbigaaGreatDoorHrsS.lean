/- The sum of hours on cards: the reference's by its contract; HoursFrom. No condition. -/
import Derived.Test.YtfieilbcdhbigaaGreatDoorItsS
import Derived.Test.YtfieilbcdhbigaaGreatDoorValS
import Derived.Test.YtfieilbcdhbigaaGreatDoorNumS
import Derived.Test.YtfieilbcdhbigaaGreatDoorCap
import Derived.Test.YtfieilbcdhbigaaGreatDoorHrsJ
namespace Go.Proofs.YtfieilbcdhbigaaGreatDoor
open Go.ChangeShapes Go.WideShapes Go.ChangeAt Go.RowKit Go.Sort
set_option linter.unusedVariables false
set_option maxRecDepth 100000
set_option maxHeartbeats 2000000 in
theorem l23Sum_c {xs : List ItemT} {x y : ItemT} {v u : Value} {w : World} {A B P k1 k2 : Nat} {d : List (List Int)} (wd : Int) (nm : ByteArray) (hn : nm.size ≤ 9223372036854775807) (hP : Box w P [.int .i64 wd, v]) (ha : RdItemS A w v xs)
    (hka : xs[k1]? = some x) (hkb : xs[k2]? = some y) (hok : HrOk x y d) (hd : RdInt64SS B w u d) :
    Calls Tryz.prog 33 #[.pointer (some ⟨P, 0, none⟩), u, .int .i64 (k1 : Int), .int .i64 (k2 : Int), .string nm] w fun e w' => e = .returned (.tuple #[.int .i64 (hrV (hrF x y nm d)), .int .i64 (hrC (hrF x y nm d))]) ∧ Below w.heap.size w w' := by
  have hle := hok.len
  have hxl := ha.le
  obtain ⟨iao, icap, rfl, hio⟩ := eItem_open ha
  obtain ⟨ib, io, rfl, hilt, hic⟩ := hio (by have := at_lt hka; omega)
  obtain ⟨x', hx', ⟨_, i1, i2, i3⟩, _⟩ := hic k1 (at_lt hka)
  obtain rfl : x' = x := by rw [hka] at hx'; exact (Option.some.inj hx').symm
  obtain ⟨y', hy', ⟨_, j1, j2, j3⟩, _⟩ := hic k2 (at_lt hkb)
  obtain rfl : y' = y := by rw [hkb] at hy'; exact (Option.some.inj hy').symm
  obtain ⟨m, hm⟩ : ∃ m, m = xs.length := ⟨_, rfl⟩
  have hl1 : k1 < m := by rw [hm]; exact at_lt hka
  have hl2 : k2 < m := by rw [hm]; exact at_lt hkb
  rw [← hm] at hP hxl
  have hib : ib < w.heap.size := hilt.2
  obtain ⟨ao, cap, rfl, ho⟩ := RdInt64SS.open hd
  obtain ⟨n, hnd⟩ : ∃ n, n = d.length := ⟨_, rfl⟩
  rw [← hnd] at ho hle ⊢
  have Hnd := Lib.hid hnd
  have Ho := Lib.hid ho
  have Hok := Lib.hid hok
  have HP := Lib.hid hP
  have I1 := Lib.hid i1
  have I2 := Lib.hid i2
  have I3 := Lib.hid i3
  have J2 := Lib.hid j2
  have J3 := Lib.hid j3
  clear hnd ho hd hok hm hic hio hx' hy' i1 i2 i3 j1 j2 j3 hka hkb ha hilt hP
  go_enter Tryz.func33, Tryz.ntmps33
  go_wp2
  go_loopw [12, 13] (fun sv i wr => ∃ (k : Nat) (s : Int), k ≤ n ∧ i = .int .i64 k ∧ sv = .int .i64 s ∧ Hid (hrF x' y' nm (d.take k) = some s) ∧ Below w.heap.size w wr) (fun _ i _ => n - (intOf i).toNat)
  case atStart => exact ⟨0, 0, Nat.zero_le _, rfl, rfl, rfl, Below.refl _ _⟩
  case round =>
    obtain ⟨k, s, hk, rfl, rfl, hst, hbb⟩ := hrel
    by_cases hkn : k < n
    · obtain ⟨b, off, rfl, hlt, hc⟩ := Ho.out (by have := Hnd.out; omega)
      obtain ⟨c, ro, rc, hck, hcell, hrd⟩ := hc k (by have := Hnd.out; omega)
      have hcm := Hok.out.cards c (List.mem_of_getElem? hck)
      have hrx := Hok.out.rx
      have hry := Hok.out.ry
      have hkx := Hok.out.kx
      have hcl : 0 < c.length := by omega
      obtain ⟨cb, co, rfl⟩ := hrd.full hcl
      obtain ⟨q, hq⟩ : ∃ q, q = c.length := ⟨_, rfl⟩
      rw [← hq] at hcell hrd hcm
      have d0 := (hbb.cell (p := ⟨b, off + k, none⟩) hlt.2).trans hcell
      have e1 := (hbb.cell (p := ⟨ib, io + k1 * 4 + 1, none⟩) hib).trans I1.out
      have e2 := (hbb.cell (p := ⟨ib, io + k1 * 4 + 2, none⟩) hib).trans I2.out
      have e3 := (hbb.cell (p := ⟨ib, io + k1 * 4 + 3, none⟩) hib).trans I3.out
      have hbw : b < wr.heap.size := by have := hbb.size; have := hlt.2; omega
      have hiw : ib < wr.heap.size := by have := hbb.size; omega
      have hrd2 := Rds.onn hrd hbb
      have Hlv := Lib.hid (fun q os => l04Value_c (w := grow (redrawn wr q) os) x' hkx hrx.1 hrx.2 (show x'.ft ≤ _ from hcm.1) hcm.2.2.1 (cell_regrown e1 q os) (cell_regrown e2 q os) (cell_regrown e3 q os) (Nat.lt_of_lt_of_le hiw (below_regrown wr q os).size) (cell_regrown d0 q os) (Nat.lt_of_lt_of_le hbw (below_regrown wr q os).size) (Rds.regrown hrd2 (Nat.le_refl _) q os))
      have f1 := cell_regrown ((HP.out.on hbb).cell 1 _ rfl)
      have Hcm := Lib.hid hcm
      have Hrx := Lib.hid hrx
      have Hry := Lib.hid hry
      have Hck := Lib.hid hck
      have Hrd := Lib.hid hrd2
      have Hst := Lib.hid (show hrF x' y' nm (d.take (k + 1)) = hrS x' y' nm (some s) c by rw [hrF_snoc hck, hst.out])
      have hbd := hrF_bd (x := x') (y := y') (nm := nm) (d := d.take k) (s := s) (fun z hz => by
        have h9 := Hok.out.cards z (List.mem_of_mem_take hz)
        unfold partC; rw [List.length_drop, List.length_take]; omega) hst.out
      have hpl : (partC c y'.ff y'.ft).length ≤ 12 ∧ 0 < (partC c y'.ff y'.ft).length := by
        constructor
        · unfold partC; rw [List.length_drop, List.length_take]; omega
        · unfold partC; rw [List.length_drop, List.length_take]; omega
      have Hpl := Lib.hid hpl
      have hbn := numR_bd (partC c y'.ff y'.ft) hpl.1
      have hlk : (d.take k).length ≤ 40 := by rw [List.length_take]; omega
      have hs1 : -40000000000000 ≤ s := by omega
      have hs2 : s ≤ 40000000000000 := by omega
      have Hbb := Lib.hid hbb
      have Hd0 := Lib.hid d0
      have Hbw := Lib.hid hbw
      clear hc hcell hrd hcm hrx hry hcl hq hck hbd hlk hkx e1 e2 e3 hiw hrd2 hbb hpl hst
      obtain ⟨T, hT⟩ : ∃ T, T = whoV (partC c x'.ff x'.ft) := ⟨_, rfl⟩
      obtain ⟨o, hoo⟩ : ∃ o, o = okTx (partC c x'.ff x'.ft) := ⟨_, rfl⟩
      rw [← hT, ← hoo] at Hlv
      have HT := Lib.hid hT
      have Hoo := Lib.hid hoo
      clear hT hoo
      go_upto_region 5 with fail
      refine wp_region_quiet_below (by kernel_rfl) (by kernel_rfl) ?_
      repeat ((with_reducible refine wpQuiet_step (fun K hK => ?_)); go_simp; first | ((with_reducible refine hK _ ?_); clear hK K) | (apply Exists.intro; refine ⟨fun _ => ?_, hK _ ?_⟩; ((first | (go_at_call 42; with_reducible exact qb_below (Hlv.out _ _)))); clear hK K))
      refine wpQuiet_nil ?_
      intro _ hw'
      obtain ⟨⟨dq, osq⟩, hw''⟩ := hw'
      subst hw''
      have hbq := below_regrown wr dq osq
      generalize grow (redrawn wr dq) osq = wq at hbq ⊢
      have Hbq := Lib.hid hbq
      have Hb2 := Lib.hid (Hbb.out.trans (hbq.mono Hbb.out.size))
      clear hbq f1 d0
      cases o with
      | false =>
        have E : Hid (hrF x' y' nm d = none) := Lib.hid (hrF_none (k := k + 1) (by rw [Hst.out]; show (if okTx (partC c x'.ff x'.ft) = true then _ else none) = none; rw [if_neg (by rw [← Hoo.out]; decide)]))
        go_wp2
        go_ret2
        rw [E.out]
        exact ⟨rfl, Hb2.out⟩
      | true =>
        go_wp2_with fail
        with_reducible refine (l23Upper_c nm _ hn).mono ?_
        obtain ⟨U, hU⟩ : ∃ U, U = capB nm := ⟨_, rfl⟩
        rw [← hU]
        have HU := Lib.hid hU
        clear hU
        rintro e w4 ⟨rfl, hb4⟩
        have Hb4 := Lib.hid (Hb2.out.trans (hb4.mono Hb2.out.size))
        have Hb04 := Lib.hid (Hbq.out.trans (hb4.mono Hbq.out.size))
        clear hb4
        by_cases hw : T = U
        · have q1 : (T.toList == U.toList) = true := by rw [hw]; exact beq_self_eq_true _
          have Hw := Lib.hid (show whoV (partC c x'.ff x'.ft) = capB nm by rw [← HT.out, ← HU.out]; exact hw)
          clear hw
          have d0 := (Hb04.out.cell (p := ⟨b, off + k, none⟩) Hbw.out).trans Hd0.out
          have hrd4 := Rds.onn Hrd.out Hb04.out
          have hc9 := Rds.cap hrd4
          have hcap9 := hc9.2.2 (by have := Hcm.out; have := Hrx.out; omega)
          have g2 := (Hb4.out.cell (p := ⟨ib, io + k2 * 4 + 2, none⟩) hib).trans J2.out
          have g3 := (Hb4.out.cell (p := ⟨ib, io + k2 * 4 + 3, none⟩) hib).trans J3.out
          have p1 := (HP.out.on Hb4.out).cell 1 _ rfl
          have f1 := cell_regrown p1
          have f2 := cell_regrown g2
          have f3 := cell_regrown g3
          have hb44 : b < w4.heap.size := by have := Hb04.out.size; have := Hbw.out; omega
          have Hlp := Lib.hid (fun q os => l02Part_c (w := grow (redrawn w4 q) os) y'.ff y'.ft Hry.out.1 Hry.out.2.1 (show y'.ft ≤ _ from Hcm.out.2.1) hc9.1 hcap9 (cell_regrown d0 q os) (Nat.lt_of_lt_of_le hb44 (below_regrown w4 q os).size))
          have Hln := Lib.hid (fun q os => l03Number_c (w := grow (redrawn w4 q) os) Hpl.out.2 Hpl.out.1 (fun m hm => Hcm.out.2.2.2 m (partC_mem hm)) (Rds.part (Rds.regrown hrd4 (Nat.le_refl _) q os) Hry.out.1 Hry.out.2.1 (show y'.ft ≤ _ from Hcm.out.2.1)))
          clear d0 hrd4 hc9 hcap9 g2 g3 p1 hb44
          obtain ⟨z, hz⟩ : ∃ z, z = (numR (partC c y'.ff y'.ft)).1 := ⟨_, rfl⟩
          obtain ⟨g, hg⟩ : ∃ g, g = (numR (partC c y'.ff y'.ft)).2 := ⟨_, rfl⟩
          rw [← hz] at hbn Hln
          rw [← hg] at Hln
          have Hz := Lib.hid hz
          have Hg := Lib.hid hg
          clear hz hg
          obtain ⟨hz1, hz2⟩ := hbn
          go_upto_region 9 with fail
          refine wp_region_quiet_below (by kernel_rfl) (by kernel_rfl) ?_
          repeat ((with_reducible refine wpQuiet_step (fun K hK => ?_)); go_simp; first | ((with_reducible refine hK _ ?_); clear hK K) | (apply Exists.intro; refine ⟨fun _ => ?_, hK _ ?_⟩; ((first | (go_at_call 66; with_reducible exact qb_below (Hlp.out _ _)) | (go_at_call 65; with_reducible exact qb_same (Hln.out _ _)))); clear hK K))
          refine wpQuiet_nil ?_
          intro _ hw'
          obtain ⟨⟨dq, osq⟩, hw''⟩ := hw'
          subst hw''
          have hbq := below_regrown w4 dq osq
          generalize grow (redrawn w4 dq) osq = wq at hbq ⊢
          have Hb5 := Lib.hid (Hb4.out.trans (hbq.mono Hb4.out.size))
          clear hbq f1 f2 f3
          cases g with
          | false =>
            have E : Hid (hrF x' y' nm d = none) := Lib.hid (hrF_none (k := k + 1) (by rw [Hst.out]; show (if okTx (partC c x'.ff x'.ft) = true then (if whoV (partC c x'.ff x'.ft) = capB nm then (if (numR (partC c y'.ff y'.ft)).2 = true then _ else none) else _) else none) = none; rw [if_pos Hoo.out.symm, if_pos Hw.out, if_neg (by rw [← Hg.out]; decide)]))
            go_wp2
            go_ret2
            rw [E.out]
            exact ⟨rfl, Hb5.out⟩
          | true =>
            have E : Hid (hrF x' y' nm (d.take (k + 1)) = some (s + z)) := Lib.hid (by rw [Hst.out]; show (if okTx (partC c x'.ff x'.ft) = true then (if whoV (partC c x'.ff x'.ft) = capB nm then (if (numR (partC c y'.ff y'.ft)).2 = true then some (s + (numR (partC c y'.ff y'.ft)).1) else none) else _) else none) = _; rw [if_pos Hoo.out.symm, if_pos Hw.out, if_pos Hg.out.symm, ← Hz.out])
            go_wp2
            go_roundw
            case rel => exact ⟨k + 1, s + z, by omega, by go_num, by go_num, E.out, Hb5.out⟩
            case measure => simp [intOf]; omega
        · have q1 : (T.toList == U.toList) = false := by rw [beq_eq_false_iff_ne]; exact fun h => hw (toList_inj.1 h)
          have E : Hid (hrF x' y' nm (d.take (k + 1)) = some s) := Lib.hid (by rw [Hst.out]; show (if okTx (partC c x'.ff x'.ft) = true then (if whoV (partC c x'.ff x'.ft) = capB nm then _ else some s) else none) = _; rw [if_pos Hoo.out.symm, if_neg (by rw [← HT.out, ← HU.out]; exact hw)])
          clear hw
          go_wp2
          go_roundw
          case rel => exact ⟨k + 1, s, by omega, by go_num, rfl, E.out, Hb4.out⟩
          case measure => simp [intOf]; omega
    · have hq := hst.out
      rw [List.take_of_length_le (by have := Hnd.out; omega)] at hq
      have Hq := Lib.hid hq
      have Hbf := Lib.hid hbb
      clear hq hst hbb
      go_wp2
      go_ret2
      rw [Hq.out]
      exact ⟨rfl, Hbf.out⟩
/-- where the items are, once the code is 0 -/
theorem it_places {wd : Int} {xs : List ItemT} {d : List (List Int)} (h : payC true wd xs d = 0) : ∃ (k1 k2 : Nat) (x y : ItemT), itV wd xs d whoT = k1 ∧ itV wd xs d hrsT = k2 ∧ xs[k1]? = some x ∧ xs[k2]? = some y ∧ itAt xs whoT = x ∧ itAt xs hrsT = y ∧ HrOk x y d := by
  have hp := payC_ok h
  obtain ⟨k1, x, hk1, hx⟩ := idx_at hp.who
  obtain ⟨k2, y, hk2, hy⟩ := idx_at hp.hrs
  have e1 := itAt_of hk1 hx
  have e2 := itAt_of hk2 hy
  have hok := hrOk_of hp
  rw [e1, e2] at hok
  exact ⟨k1, k2, x, y, by unfold itV; rw [if_pos h, hk1], by unfold itV; rw [if_pos h, hk2], hx, hy, e1, e2, hok⟩
theorem sHoursFrom_c {xs : List ItemT} {v u : Value} {w : World} {A B : Nat} {d : List (List Int)} (wd : Int) (nm : ByteArray) (hn : nm.size ≤ 9223372036854775807) (ha : RdItemS A w v xs) (hd : RdInt64SS B w u d) :
    Calls Tryz.prog 8 #[.agg #[.int .i64 wd, v], u, .string nm] w fun e w' => e = .returned (.tuple #[.int .i64 (hoursV wd xs d nm), .int .i64 (hoursC wd xs d nm)]) ∧ Below w.heap.size w w' := by
  obtain ⟨W, hW⟩ : ∃ W, W = w.alloc (.cells #[.int .i64 wd, v] 32) := ⟨_, rfl⟩
  have hb0 : Below w.heap.size w W := by rw [hW]; exact (Below.refl _ _).alloc (Nat.le_refl _) _
  have hP : Box W w.heap.size [.int .i64 wd, v] := by rw [hW]; exact Box.new w [.int .i64 wd, v] 32
  have Ha := Lib.hid (Rds.onn ha hb0)
  have Hd := Lib.hid (RdInt64SS.onn hd hb0)
  have Hb0 := Lib.hid hb0
  have HW := Lib.hid hW
  have HP := Lib.hid hP
  obtain ⟨ao, cap, rfl⟩ := ha.shape
  clear ha hd hb0 hW hP
  go_enter Tryz.func8, Tryz.ntmps8
  go_wp2_with fail
  rw [← HW.out]
  with_reducible refine (l23Items_c wd HP.out Ha.out Hd.out).mono ?_
  by_cases hc : payC true wd xs d = 0
  · obtain ⟨k1, k2, x, y, h1, h2, hx, hy, e1, e2, hok⟩ := it_places hc
    rw [hc, h1, h2]
    have E1 : Hid (hoursV wd xs d nm = hrV (hrF x y nm d)) := Lib.hid (by unfold hoursV; rw [if_pos hc, e1, e2])
    have E2 : Hid (hoursC wd xs d nm = hrC (hrF x y nm d)) := Lib.hid (by unfold hoursC; rw [if_pos hc, e1, e2])
    have Hx := Lib.hid hx
    have Hy := Lib.hid hy
    have Hok := Lib.hid hok
    clear hc h1 h2 hx hy e1 e2 hok
    rintro e w1 ⟨rfl, hb1⟩
    have Hb1 := Lib.hid (Hb0.out.trans (hb1.mono Hb0.out.size))
    have Hd1 := Lib.hid (RdInt64SS.onn Hd.out hb1)
    have Ha1 := Lib.hid (Rds.onn Ha.out hb1)
    have HP1 := Lib.hid (HP.out.on hb1)
    clear hb1
    go_wp2_with fail
    with_reducible refine (l23Sum_c wd nm hn HP1.out Ha1.out Hx.out Hy.out Hok.out Hd1.out).mono ?_
    rintro e w2 ⟨rfl, hb2⟩
    have Hb2 := Lib.hid (Hb1.out.trans (hb2.mono Hb1.out.size))
    clear hb2
    go_wp2
    go_ret2
    rw [E1.out, E2.out]
    exact ⟨rfl, Hb2.out⟩
  · obtain ⟨c, hcc⟩ : ∃ c, payC true wd xs d = c := ⟨_, rfl⟩
    rw [hcc] at hc ⊢
    have E0 := it_bad hcc hc
    rw [E0, E0]
    have q1 : (c != 0) = true := by simpa using hc
    have E1 : Hid (hoursV wd xs d nm = 0) := Lib.hid (by unfold hoursV; rw [hcc, if_neg hc])
    have E2 : Hid (hoursC wd xs d nm = c) := Lib.hid (by unfold hoursC; rw [hcc, if_neg hc])
    clear hc hcc E0
    rintro e w1 ⟨rfl, hb1⟩
    have Hb1 := Lib.hid (Hb0.out.trans (hb1.mono Hb0.out.size))
    clear hb1
    go_wp2
    go_ret2
    rw [E1.out, E2.out]
    exact ⟨rfl, Hb1.out⟩
end Go.Proofs.YtfieilbcdhbigaaGreatDoor
