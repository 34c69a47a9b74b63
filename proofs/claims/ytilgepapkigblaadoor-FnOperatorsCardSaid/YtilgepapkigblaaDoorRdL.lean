/- One line read: the reference's. No condition. -/
import Derived.Test.YtilgepapkigblaaDoorRdS
import Derived.Test.YtilgepapkigblaaDoorOpT2
namespace Go.Proofs.YtilgepapkigblaaDoor
open Go.ChangeShapes Go.WideShapes Go.ChangeAt Go.RowKit
set_option linter.unusedVariables false
set_option maxRecDepth 100000
/-- what a line's reading hands back -/
def LineR (l : ByteArray) (e : Ending) : Prop := e = .returned (match refL l.data.toList with | some x => .tuple #[vOperator x, .bool true] | none => .tuple #[vOperator zOperator, .bool false])
theorem toList_mk (p : List UInt8) : (mkT p).toList = p := by rw [ByteArray.toList_eq]; exact mkT_data p
theorem nm_toList (k : Nat) : (nmB k).toList = nmQ k := ByteArray.toList_eq _
structure LInv (w wr : World) (R D NB lb lo : Nat) (nm : ByteArray) (ws : List ByteArray) (a : Int) : Prop where
  hR : Box wr R [.string ⟨#[]⟩, .int .i64 0]
  hD : Box wr D [.string nm, .int .i64 a]
  hN : NK NB wr
  hL : ∀ j x, ws[j]? = some x → wr.cell? ⟨lb, lo + j, none⟩ = some (.string x)
  hb : Below w.heap.size w wr
  bR : w.heap.size ≤ R
  bD : w.heap.size ≤ D
  n1 : R ≠ D
  n2 : NB ≠ D
  n3 : lb ≠ D
theorem LInv.put {w wr : World} {R D NB lb lo : Nat} {nm : ByteArray} {ws : List ByteArray} {a b : Int} (h : LInv w wr R D NB lb lo nm ws a) : LInv w (wr.setCell ⟨D, 1, none⟩ (.int .i64 b)) R D NB lb lo nm ws b := by
  have h1 := h.n1
  have h2 := h.n2
  have h3 := h.n3
  refine ⟨h.hR.other (p := ⟨D, 1, none⟩) (fun e => h1 e.symm) _, h.hD.set1 (j := 1) (by simp) _, fun k hk => ?_, fun j x hj => ?_, ?_, h.bR, h.bD, h1, h2, h3⟩
  · rw [World.cell?_setCell_other _ _ _ _ (fun e => h2 (by injection e with e _ _; exact e.symm))]; exact h.hN k hk
  · rw [World.cell?_setCell_other _ _ _ _ (fun e => h3 (by injection e with e _ _; exact e.symm))]; exact h.hL j x hj
  · exact h.hb.setCell h.bD _
theorem LInv.drewN {w wr : World} {R D NB lb lo : Nat} {nm : ByteArray} {ws : List ByteArray} {a : Int} (h : LInv w wr R D NB lb lo nm ws a) (m : Nat) : LInv w (wr.drewN m) R D NB lb lo nm ws a :=
  ⟨h.hR.drewN m, h.hD.drewN m, h.hN, h.hL, ⟨h.hb.os, h.hb.tape, h.hb.output, h.hb.size, h.hb.block⟩, h.bR, h.bD, h.n1, h.n2, h.n3⟩
theorem refW_cons (n : Nat) (p : List UInt8) (ws : List (List UInt8)) (a : Int) : refW n (p :: ws) a = if nextW p n < 6 then refW (nextW p n + 1) ws (orB a (nextW p n : Nat)) else none := rfl
theorem line_words {l : List UInt8} {p : List UInt8} {ws : List (List UInt8)} (h : parts 32 l = p :: ws) (hl : p.getLast? = some 58) : refL l = (refW 0 ws 0).map fun r => ⟨mkT p.dropLast, r⟩ := by
  unfold refL
  rw [h]
  refine if_neg ?_
  simp only [List.headD_cons]
  intro hc
  rcases hc with hc | hc
  · subst hc; cases hl
  · exact hc hl
theorem line_no {l : List UInt8} {p : List UInt8} {ws : List (List UInt8)} (h : parts 32 l = p :: ws) (hl : p.getLast? ≠ some 58) : refL l = none := by
  unfold refL
  rw [h]
  exact if_pos (.inr hl)
theorem last_at {p : List UInt8} {n : Nat} {c : UInt8} (hn : p.length = n + 1) (h : p[n]? = some c) : p.getLast? = some c := by
  rw [List.getLast?_eq_getElem?, hn]
  exact h
set_option maxHeartbeats 4000000 in
theorem l22Line_c (l : ByteArray) {w : World} (hl : l.size ≤ 1048576) :
    Calls Tryd.prog 31 #[.string l] w fun e w' => LineR l e ∧ Below w.heap.size w w' := by
  have hcon := fun W => l01Split_c l 32 (cv := 32) rfl (w := W) hl
  obtain ⟨p, ws, hps⟩ : ∃ p ws, parts 32 l.data.toList = p :: ws := ⟨_, _, parts_cons 32 _⟩
  have hpt : partsT 32 l = mkT p :: ws.map mkT := by unfold partsT; rw [hps]; rfl
  have hplen := parts_len 32 l.data.toList
  have hlen : l.data.toList.length = l.size := Array.length_toList
  rw [hps, hlen, List.length_cons] at hplen
  have hpj := parts_join 32 l.data.toList
  rw [hps] at hpj
  have hpl : p.length ≤ 1048576 := by
    have h1 := congrArg List.length hpj
    rw [List.length_append, hlen] at h1
    simp only [List.headD_cons] at h1
    omega
  rw [hpt] at hcon
  obtain ⟨P, hP⟩ : ∃ P, P = mkT p := ⟨_, rfl⟩
  have hPs : P.size = p.length := by rw [hP, mkT_size]
  rw [← hP] at hcon
  obtain ⟨wt, hwt⟩ : ∃ wt, wt = ws.map mkT := ⟨_, rfl⟩
  rw [← hwt] at hcon
  have hwl : wt.length = ws.length := by rw [hwt, List.length_map]
  have Hcon := Lib.hid hcon
  have Hps := Lib.hid hps
  have HP := Lib.hid hP
  have HPs := Lib.hid hPs
  have Hwt := Lib.hid hwt
  have Hwl := Lib.hid hwl
  have hB0 := Box.new w [.string ⟨#[]⟩, .int .i64 0] 50
  have hb0 : Below w.heap.size w (w.alloc (.cells #[.string ⟨#[]⟩, .int .i64 0] 50)) := (Below.refl _ _).alloc (Nat.le_refl _) _
  have HB0 := Lib.hid hB0
  have Hb0 := Lib.hid hb0
  have hPl : P.size ≤ 1048576 := by omega
  have hwl2 : wt.length ≤ 1048577 := by omega
  clear hcon hpt hps hP hPs hwt hwl hB0 hb0 hpj hlen
  go_enter Tryd.func31, Tryd.ntmps31
  go_wp2_with fail
  with_reducible refine (Hcon.out _).mono ?_
  rintro e w1 ⟨u, rfl, hu, hb1⟩
  obtain ⟨ao, cap, hsh, hof⟩ := RdT.open hu.rds
  obtain ⟨N, hN⟩ : ∃ N, N = wt.length + 1 := ⟨_, rfl⟩
  rw [show (P :: wt).length = N by rw [hN]; rfl] at hsh hof
  obtain ⟨lb, lo, hao, hlt, hc⟩ := hof (by omega)
  subst hao
  subst hsh
  obtain ⟨P', hP', hc0, _⟩ := hc 0 (by omega)
  obtain rfl : P' = P := by simpa using hP'.symm
  rw [Nat.add_zero] at hc0
  have hlbR : (w.alloc (.cells #[.string ⟨#[]⟩, .int .i64 0] 50)).heap.size ≤ lb := (hu.lt lb rfl).1
  have hlbR2 : w.heap.size < lb := by simp at hlbR; omega
  have hcw : ∀ j x, wt[j]? = some x → w1.cell? ⟨lb, lo + 1 + j, none⟩ = some (.string x) := by
    intro j x hj
    have hj2 := at_lt hj
    obtain ⟨y, hy, hcy, _⟩ := hc (j + 1) (by omega)
    have : y = x := by rw [List.getElem?_cons_succ, hj] at hy; exact (Option.some.inj hy).symm
    subst this
    rw [show lo + 1 + j = lo + (j + 1) by omega]
    exact hcy
  have hB1 := HB0.out.on hb1
  have hbx := Hb0.out.trans (hb1.mono Hb0.out.size)
  have HB1 := Lib.hid hB1
  have Hbx := Lib.hid hbx
  have Hcw := Lib.hid hcw
  have HN := Lib.hid hN
  have hN0 : (0 : Int) < (N : Int) := by omega
  have hN00 : 0 < N := by omega
  have hlt2 := hlt.2
  clear hu hof hc hP' hlbR hB1 hbx hcw hN hb1 HB0 Hb0 Hcon
  have r0 := HB1.out.cell 0 _ rfl
  have r1 := HB1.out.cell 1 _ rfl
  have f0 := HB1.out.free 0
  have f1 := HB1.out.free 1
  by_cases hz : P'.size = 0
  · have hno : refL l.data.toList = none := line_no Hps.out (by
      have h1 : p.length = 0 := by rw [← HPs.out]; exact hz
      have h2 : p = [] := List.eq_nil_of_length_eq_zero h1
      rw [h2]; simp)
    have Hno : Hid (LineR l (.returned (.tuple #[vOperator zOperator, .bool false]))) := Lib.hid (by unfold LineR; rw [hno])
    clear hno
    go_wp2
    refine bodyPost_ret (v := .tuple #[vOperator zOperator, .bool false]) (by simp [results, Tryd.results31, go_sem, r0, r1, zOperator]) rfl ⟨Hno.out, ?_⟩
    exact (Hbx.out.setCell (Nat.le_refl _) _).setCell (Nat.le_refl _) _
  · obtain ⟨q, hq⟩ : ∃ q, P'.size = q + 1 := ⟨P'.size - 1, by omega⟩
    have hqs : q < P'.size := by omega
    have hq1 : q + 1 ≤ 1048576 := by omega
    have hz2 : ((q : Int) + 1 == 0) = false := by simp; omega
    have hpq : p.length = q + 1 := by rw [← HPs.out]; exact hq
    have hat : p[q]? = some P'[q] := by
      have h1 := Lib.data_getElem? P' q hqs
      have h2 : P'.data.toList = p := by rw [HP.out]; exact mkT_data p
      rw [h2] at h1
      exact h1
    have hlast := last_at hpq hat
    have Hlast := Lib.hid hlast
    have Hpq := Lib.hid hpq
    clear hz hat hlast hpq
    by_cases h58 : P'[q] = 58
    · have hd : ((P'[q].toNat : Int) != 58) = false := by rw [h58]; rfl
      have hline := line_words Hps.out (by rw [Hlast.out, h58])
      have hnm : P'.extract 0 q = mkT p.dropLast := by
        have h2 : P'.data.toList = p := by rw [HP.out]; exact mkT_data p
        rw [extract_mk, h2, List.drop_zero, Nat.sub_zero, List.dropLast_eq_take, Hpq.out]
        rfl
      rw [← hnm] at hline
      obtain ⟨nm, hnme⟩ : ∃ nm, nm = P'.extract 0 q := ⟨_, rfl⟩
      rw [← hnme] at hline
      have Hline := Lib.hid hline
      have Hnme := Lib.hid hnme
      obtain ⟨W, hW⟩ : ∃ W, W = w1.alloc (.cells #[.string nm, .int .i64 0] 50) := ⟨_, rfl⟩
      have bb : Below w1.heap.size w1 W := by rw [hW]; exact (Below.refl _ _).alloc (Nat.le_refl _) _
      have kD : Box W w1.heap.size [.string nm, .int .i64 0] := by rw [hW]; exact Box.new w1 [.string nm, .int .i64 0] _
      have hWs : W.heap.size = w1.heap.size + 1 := by rw [hW]; simp
      have HW := Lib.hid hW
      have Hbb := Lib.hid bb
      have HkD := Lib.hid kD
      have HWs := Lib.hid hWs
      clear h58 hline hnm hnme hW bb kD hWs
      go_upto_region 6 with fail
      rw [← Hnme.out, ← HW.out]
      clear hd hz2 Hlast
      generalize P'[q] = bt
      clear hqs hq r0 r1 f0 f1 hc0 HW Hnme
      go_wp2_with fail
      with_reducible refine (l22Names_c _).mono ?_
      rintro e w2 ⟨rfl, hk2, hb2⟩
      have hbx2 := Hbx.out.trans ((Hbb.out.trans (hb2.mono Hbb.out.size)).mono Hbx.out.size)
      have hlbw : lb < w1.heap.size := hlt2
      have hRw : w.heap.size < w1.heap.size := HB1.out.lt
      have hI : LInv w w2 w.heap.size w1.heap.size W.heap.size lb (lo + 1) nm wt 0 := by
        refine ⟨(HB1.out.on Hbb.out).on hb2, HkD.out.on hb2, hk2, fun j x hj => ?_, hbx2, Nat.le_refl _, Nat.le_of_lt hRw, by omega, by have := HWs.out; omega, by omega⟩
        have h1 := Hcw.out j x hj
        have h2 := Hbb.out.cell (p := ⟨lb, lo + 1 + j, none⟩) hlbw
        have h3 := hb2.cell (p := ⟨lb, lo + 1 + j, none⟩) (Nat.lt_of_lt_of_le hlbw Hbb.out.size)
        exact (h3.trans h2).trans h1
      have HI := Lib.hid hI
      generalize hRR : w.heap.size = R at HI ⊢
      generalize w1.heap.size = D at HI ⊢
      generalize W.heap.size = NB at HI ⊢
      clear hRR hI hk2 hb2 hbx2 hlbw hRw HB1 Hbx Hcw Hbb HkD HWs
      go_wp2
      go_loopw [8, 9] (fun nv iv wr => ∃ (n i : Nat) (a : Int), n ≤ 6 ∧ i ≤ wt.length ∧ nv = .int .i64 n ∧ iv = .int .i64 ((i : Int) + 1) ∧ Hid (0 ≤ a ∧ a ≤ 63) ∧ Hid (refW 0 ws 0 = refW n (ws.drop i) a) ∧ LInv w wr R D NB lb (lo + 1) nm wt a) (fun _ iv _ => N - (intOf iv).toNat)
      case atStart => exact ⟨0, 0, 0, by omega, Nat.zero_le _, rfl, rfl, Lib.hid (by omega), Lib.hid rfl, HI.out⟩
      case round =>
        obtain ⟨n, i, a, hn6, hiw, rfl, rfl, ha, hrf, inv⟩ := hrel
        clear HI
        have hNw := HN.out
        by_cases hi : i < wt.length
        · obtain ⟨x, hx⟩ : ∃ x, wt[i]? = some x := ⟨_, List.getElem?_eq_getElem hi⟩
          have hcx := inv.hL i x hx
          rw [show lo + 1 + i = lo + (i + 1) by omega] at hcx
          have hwi : ws[i]? = some x.data.toList := by
            have h1 := hx
            rw [Hwt.out, List.getElem?_map] at h1
            cases hw : ws[i]? with
            | none => rw [hw] at h1; cases h1
            | some pp => rw [hw] at h1; have := Option.some.inj h1; rw [← this, mkT_data]
          have hdrop : ws.drop i = x.data.toList :: ws.drop (i + 1) := by
            obtain ⟨hl1, he1⟩ := List.getElem?_eq_some_iff.1 hwi
            rw [List.drop_eq_getElem_cons hl1, he1]
          have hstep := hrf.out
          rw [hdrop, refW_cons] at hstep
          obtain ⟨px, hpx⟩ : ∃ px, px = x.data.toList := ⟨_, rfl⟩
          rw [← hpx] at hstep
          have hpx2 : x.toList = px := by rw [ByteArray.toList_eq, hpx]
          have Hpx := Lib.hid hpx2
          have Hstep := Lib.hid hstep
          have hlti : (i : Int) + 1 < (N : Int) := by omega
          have hlti2 : (0 : Int) ≤ (i : Int) + 1 := by omega
          have Inv := Lib.hid inv
          clear hx hwi hdrop hstep hpx hpx2 inv hNw
          go_wp2
          go_loopw [8] (fun nv wr' => ∃ n' : Nat, n' ≤ 6 ∧ nv = .int .i64 n' ∧ Hid (nextW px n = nextW px n') ∧ ∃ m, wr' = wr.drewN m) (fun nv _ => 6 - (intOf nv).toNat)
          case atStart => exact ⟨n, hn6, rfl, Lib.hid rfl, 0, rfl⟩
          case round =>
            obtain ⟨n', hn'6, rfl, hnx, m, rfl⟩ := hrel
            by_cases hlt6 : n' < 6
            · have hcn := Inv.out.hN n' hlt6
              obtain ⟨nb, hnb⟩ : ∃ nb, nb = nmB n' := ⟨_, rfl⟩
              rw [← hnb] at hcn
              have hnbl : nb.toList = nmQ n' := by rw [hnb]; exact nm_toList n'
              have hlt6i : (n' : Int) < 6 := by omega
              have Hnbl := Lib.hid hnbl
              clear hnbl hnb
              by_cases he : nmQ n' = px
              · have h1 : (nb.toList == x.toList) = true := by rw [Hnbl.out, Hpx.out, he]; simp
                have hw := nextW_hit hlt6 he
                have hq6 : ((n' : Int) == 6) = false := by simp; omega
                have hst := Hstep.out
                rw [hnx.out, hw, if_pos hlt6] at hst
                have hrf2 := hrf.out.trans (hrf.out.symm.trans (hrf.out.trans (hrf.out.symm.trans rfl)))
                have Hst := Lib.hid hst
                have haa := ha.out
                have hsk := (skill_any (m := (n' : Int)) haa ⟨by omega, by omega⟩).1
                have hor : orB a (n' : Int) = bits BinOp.or IntKind.i64 a (2 ^ n') := by unfold orB; rw [Int.toNat_natCast]
                have hpw := pow_m (m := (n' : Int)) ⟨by omega, by omega⟩
                rw [Int.toNat_natCast] at hpw
                obtain ⟨hp1, hp2, hp3⟩ := hpw
                have d1 := Inv.out.hD.cell 1 _ rfl
                have g1 := Inv.out.hD.free 1
                have Hsk := Lib.hid hsk
                have Hor := Lib.hid hor
                obtain ⟨a0, a63⟩ := haa
                clear he hw hst hrf2 hsk hor
                go_wp2
                go_quiet (fail)
                go_wp2
                go_roundw
                case rel => exact ⟨n' + 1, i + 1, orB a (n' : Int), by omega, by omega, by go_num, by go_num, Hsk, Lib.hid Hst.out, by rw [Hor.out]; exact (Inv.out.drewN _).put⟩
                case measure => simp [intOf]; omega
              · have h1 : (nb.toList == x.toList) = false := by rw [Hnbl.out, Hpx.out]; simpa using he
                have hw := nextW_miss hlt6 he
                have Hnx2 : Hid (nextW px n = nextW px (n' + 1)) := Lib.hid (hnx.out.trans hw)
                clear he hw
                go_wp2
                go_quiet (fail)
                go_wp2
                go_roundw
                case rel => exact ⟨n' + 1, by omega, by go_num, Hnx2, _, rfl⟩
                case measure => simp [intOf]; omega
            · have hlt6i : decide ((n' : Int) < 6) = false := by simp; omega
              have hq6 : ((n' : Int) == 6) = true := by simp; omega
              have hw : nextW px n = 6 := by rw [hnx.out]; exact nextW_end hlt6
              have hst := Hstep.out
              rw [hw, if_neg (by decide)] at hst
              have hln := Hline.out
              rw [hst] at hln
              have Hno : Hid (LineR l (.returned (.tuple #[vOperator zOperator, .bool false]))) := Lib.hid (by unfold LineR; rw [hln]; rfl)
              have r0 := Inv.out.hR.cell 0 _ rfl
              have r1 := Inv.out.hR.cell 1 _ rfl
              have f0 := Inv.out.hR.free 0
              have f1 := Inv.out.hR.free 1
              have hbR := Inv.out.bR
              clear hw hst hln hlt6
              go_wp2
              go_quiet (fail)
              go_wp2
              refine bodyPost_ret (v := .tuple #[vOperator zOperator, .bool false]) (by simp [results, Tryd.results31, go_sem, r0, r1, zOperator]) rfl ⟨Hno.out, ?_⟩
              have hbz := (Inv.out.drewN (m + nq)).hb
              exact (hbz.setCell (p := ⟨R, 0, none⟩) hbR _).setCell (p := ⟨R, 1, none⟩) hbR _
        · have hie : i = ws.length := by have := Hwl.out; omega
          have hlti : ¬ (i : Int) + 1 < (N : Int) := by omega
          have hfin := hrf.out
          rw [hie, List.drop_length] at hfin
          have hln := Hline.out
          rw [hfin] at hln
          have Hyes : Hid (LineR l (.returned (.tuple #[vOperator ⟨nm, a⟩, .bool true]))) := Lib.hid (by unfold LineR; rw [hln]; rfl)
          have r0 := inv.hR.cell 0 _ rfl
          have r1 := inv.hR.cell 1 _ rfl
          have f0 := inv.hR.free 0
          have f1 := inv.hR.free 1
          have d0 := inv.hD.cell 0 _ rfl
          have d1 := inv.hD.cell 1 _ rfl
          have hbR := inv.bR
          have hne := inv.n1
          have hne' := inv.n1.symm
          have Hb := Lib.hid inv.hb
          clear hie hfin hln inv hrf hNw
          go_wp2
          refine bodyPost_ret (v := .tuple #[vOperator ⟨nm, a⟩, .bool true]) (by simp [results, Tryd.results31, go_sem, r0, r1]) rfl ⟨Hyes.out, ?_⟩
          exact (Hb.out.setCell (p := ⟨R, 0, none⟩) hbR _).setCell (p := ⟨R, 1, none⟩) hbR _
    · have hd : ((P'[q].toNat : Int) != 58) = true := by
        rw [bne_iff_ne]
        intro h
        exact h58 (UInt8.toNat_inj.1 (by simpa using (by omega : P'[q].toNat = 58)))
      have hno : refL l.data.toList = none := line_no Hps.out (by rw [Hlast.out]; intro h; exact h58 (Option.some.inj h))
      have Hno : Hid (LineR l (.returned (.tuple #[vOperator zOperator, .bool false]))) := Lib.hid (by unfold LineR; rw [hno])
      clear hno h58
      go_wp2
      refine bodyPost_ret (v := .tuple #[vOperator zOperator, .bool false]) (by simp [results, Tryd.results31, go_sem, r0, r1, zOperator]) rfl ⟨Hno.out, ?_⟩
      exact (Hbx.out.setCell (Nat.le_refl _) _).setCell (Nat.le_refl _) _
end Go.Proofs.YtilgepapkigblaaDoor
