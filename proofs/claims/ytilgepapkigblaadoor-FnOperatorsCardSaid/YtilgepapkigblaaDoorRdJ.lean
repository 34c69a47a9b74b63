/- Operators read back: the program's, whole. The conditions: the machines' names lie as the program's text lays them; the library's own number lies. -/
import Derived.Test.YtilgepapkigblaaDoorRdI
namespace Go.Proofs.YtilgepapkigblaaDoor
open Go.ChangeShapes Go.WideShapes Go.ChangeAt Go.RowKit
set_option linter.unusedVariables false
set_option maxRecDepth 100000
theorem progO_many {l : List UInt8} (h : 9 < (parts 10 l).length) : progO l = none := by unfold progO; exact if_pos h
theorem progO_lines {l : List UInt8} (h2 : (parts 10 l).length ≤ 9) : progO l = match allM progL (parts 10 l).dropLast with | none => none | some xs => if validOs xs = true ∧ textQ xs = l then some xs else none := by
  unfold progO
  exact if_neg (by omega)
theorem cut_len (l sep : List UInt8) : (Lib.cut l sep).1.length ≤ l.length ∧ (Lib.cut l sep).2.1.length ≤ l.length := by
  unfold Lib.cut
  split
  · simp only [List.length_take, List.length_drop]; omega
  · simp
theorem progW_cons (p : List UInt8) (ws : List (List UInt8)) (a : Int) : progW (p :: ws) a = if nextW p 0 < 6 then progW ws (orB a (nextW p 0 : Nat)) else none := rfl
theorem grown_setJ (w : World) (a : Addr) (u : Value) : w.grownBy (w.setCell a u) (some a.block) :=
  ⟨rfl, rfl, rfl, by simp [World.setCell], fun k hk hne => Below.heap_setCell _ _ _ _ (fun e => hne (by rw [e]))⟩
theorem grown_drewJ (w : World) (row : Option Nat) : w.grownBy w.drew row := ⟨rfl, rfl, rfl, Nat.le_refl _, fun _ _ _ => rfl⟩
theorem cell_grown {w w' : World} {D b o : Nat} {v : Value} (hg : w.grownBy w' (some D)) (hne : b ≠ D) (h : w.cell? ⟨b, o, none⟩ = some v) : w'.cell? ⟨b, o, none⟩ = some v :=
  (World.cell?_of_block (w := w) (a := ⟨b, o, none⟩) (hg.block b (World.block_lt_of_cell? w _ h) (fun e => hne (Option.some.inj e)))).trans h
theorem cells_by {ao : Option Addr} {ps : List (List UInt8)} {N D : Nat} {W W' : World} (h : CellsAt ao ps N W) (hg : W.grownBy W' (some D)) (hne : ∀ b, ao = some b → b.block ≠ D) : CellsAt ao ps N W' := by
  intro j hj
  obtain ⟨p, lb, lo, h1, h2, h3⟩ := h j hj
  exact ⟨p, lb, lo, h1, h2, cell_grown hg (hne _ h1) h3⟩
set_option maxHeartbeats 4000000 in
theorem ReadOperators_c (s : ByteArray) {w : World} (hs : s.size ≤ 1048576) (hm : MaxAt w) (hn : NamesAt w) :
    Calls Tryd.prog 6 #[.string s] w fun e w' => ReadR s w.heap.size e w' ∧ Below w.heap.size w w' := by
  obtain ⟨i0, hi, hz0, hz1, hz2⟩ := info_parts Tryd.infoOperator
  have hb0 : Below w.heap.size w (w.alloc (.cells #[] 50)) := (Below.refl _ _).alloc (Nat.le_refl _) _
  have hcon := Split_c s 10 (w := w.alloc (.cells #[] 50)) hs (hm.below hb0)
  have hlit : OwnOperatorS w.heap.size (w.alloc (.cells #[] 50)) (.slice (some ⟨w.heap.size, 0, none⟩) 0 0) [] :=
    Own.lit (E := eOperator) (xs := []) (cs := #[]) (Nat.le_refl _) rfl rfl (by decide) (fun x hx => by cases hx)
  obtain ⟨ps, hps⟩ : ∃ ps, ps = parts 10 s.data.toList := ⟨_, rfl⟩
  obtain ⟨wt, hwt⟩ : ∃ wt, wt = ps.map mkT := ⟨_, rfl⟩
  have hpt : partsT 10 s = wt := by unfold partsT; rw [hwt, hps]
  rw [hpt] at hcon
  have hlen : s.data.toList.length = s.size := Array.length_toList
  have hpl : ps.length ≤ s.size + 1 := by rw [hps, ← hlen]; exact parts_len 10 _
  have hp1 : 1 ≤ ps.length := by rw [hps, parts_cons]; simp
  have hwl : wt.length = ps.length := by rw [hwt, List.length_map]
  have hpsz : ∀ p ∈ ps, p.length ≤ 1048576 := by
    intro p hp
    have h1 := parts_sub 10 s.data.toList p (by rw [← hps]; exact hp)
    omega
  obtain ⟨q, hN⟩ : ∃ q, q + 1 = ps.length := ⟨ps.length - 1, by omega⟩
  have hq2 : q ≤ 1048576 := by omega
  have hrp := readO_eq s.data.toList
  have Hrp := Lib.hid hrp
  have Hcon := Lib.hid hcon
  have Hps := Lib.hid hps
  have Hwt := Lib.hid hwt
  have Hwl := Lib.hid hwl
  have HN := Lib.hid hN
  have Hpsz := Lib.hid hpsz
  have Hlit := Lib.hid hlit
  have Hb0 := Lib.hid hb0
  have Hm := Lib.hid hm
  have Hn := Lib.hid hn
  clear hcon hwt hwl hN hpsz hlit hb0 hpt hlen hpl hp1 hps hm hn hrp
  go_enter Tryd.func6, Tryd.ntmps6
  go_wp2_with fail
  with_reducible refine Hcon.out.mono ?_
  rintro e w1 ⟨u, rfl, hu, hb1⟩
  obtain ⟨ao, cap, hsh, hof⟩ := RdT.open hu.rds
  rw [Hwl.out, ← HN.out] at hsh hof
  obtain ⟨lb, lo, hao, hlt, hc⟩ := hof (by omega)
  subst hao
  subst hsh
  have hcp := hu.rds.cap
  have hcap : q + 1 ≤ cap ∧ cap ≤ 9223372036854775807 := ⟨hcp.1, hcp.2.2 (by omega)⟩
  obtain ⟨hcap1, hcap2⟩ := hcap
  have hcell : CellsAt (some ⟨lb, lo, none⟩) ps (q + 1) w1 := by
    intro j hj
    obtain ⟨x, hx, hcx, _⟩ := hc j hj
    rw [Hwt.out, List.getElem?_map] at hx
    cases hp : ps[j]? with
    | none => rw [hp] at hx; cases hx
    | some p => rw [hp] at hx; have := Option.some.inj hx; exact ⟨p, lb, lo, rfl, rfl, by rw [this]; exact hcx⟩
  have hno : NotOwn (.slice (some ⟨w.heap.size, 0, none⟩) 0 0) (some ⟨lb, lo, none⟩) := by
    intro b hb
    have hb' := Option.some.inj hb
    subst hb'
    have h1 := (hu.lt lb rfl).1
    simp at h1
    simp [Value.ownBlock]
    omega
  have Hcell := Lib.hid hcell
  have Hno := Lib.hid hno
  have Hlit1 := Lib.hid (Hlit.out.below hb1 (Nat.le_refl _))
  have Hb1 := Lib.hid (Hb0.out.trans (hb1.mono Hb0.out.size))
  clear hu hof hc hcp hcell hno hb1 Hlit Hb0 Hcon
  by_cases h9 : 9 < q + 1
  · have hno : refO s.data.toList = none := by rw [← Hrp.out]; exact progO_many (by rw [← Hps.out, ← HN.out]; exact h9)
    have h9i : (9 : Int) < (q : Int) + 1 := by omega
    have HnoR := Lib.hid hno
    clear hno
    go_wp2
    go_ret2
    exact ⟨readR_none HnoR.out, Hb1.out⟩
  · have h9i : ¬ (9 : Int) < (q : Int) + 1 := by omega
    have hro := progO_lines (l := s.data.toList) (by rw [← Hps.out, ← HN.out]; omega)
    rw [Hrp.out, ← Hps.out] at hro
    have Hro := Lib.hid hro
    have hq9 : q ≤ 8 := by omega
    clear hro h9
    go_wp2
    go_loopw [4, 27] (fun v iv wr => ∃ (i : Nat) (xs : List OperatorT), i ≤ q ∧ iv = .int .i64 i ∧ xs.length ≤ i ∧ Hid (allM progL (ps.dropLast.take i) = some xs) ∧ OwnOperatorS w.heap.size wr v xs ∧ NotOwn v (some ⟨lb, lo, none⟩) ∧ CellsAt (some ⟨lb, lo, none⟩) ps (q + 1) wr ∧ Below w.heap.size w wr) (fun _ iv _ => q - (intOf iv).toNat)
    case atStart => exact ⟨0, [], Nat.zero_le _, rfl, Nat.le_refl _, Lib.hid rfl, Hlit1.out, Hno.out, Hcell.out, Hb1.out⟩
    case round =>
      obtain ⟨i, xs, hiq, rfl, hxl, hall, hown, hno, hcell, hb⟩ := hrel
      clear Hlit1 Hb1 Hno Hcell
      by_cases hlti : i < q
      · obtain ⟨p, lb', lo', hao, hp, hcp⟩ := hcell i (by omega)
        injection hao with hao
        injection hao with e1 e2
        subst e1
        subst e2
        have hpd : ps.dropLast[i]? = some p := by rw [List.getElem?_dropLast, if_pos (by have := HN.out; omega)]; exact hp
        have hpsz := Hpsz.out p (List.mem_of_getElem? hp)
        have htk := take_snoc hpd
        have hli : (i : Int) < (q : Int) := by omega
        obtain ⟨mx, hmx⟩ := Hm.out.below hb
        have hcut := Tryd.strings_Cut (mkT p) ⟨#[58]⟩ mx wr (by rw [mkT_size]; omega) hmx
        rw [mkT_data, show (⟨#[58]⟩ : ByteArray).data.toList = [58] from rfl] at hcut
        have hcl := cut_len p [58]
        obtain ⟨nl, hnl⟩ : ∃ nl, nl = (Lib.cut p [58]).1 := ⟨_, rfl⟩
        obtain ⟨rl, hrl⟩ : ∃ rl, rl = (Lib.cut p [58]).2.1 := ⟨_, rfl⟩
        obtain ⟨fb, hfb⟩ : ∃ fb, fb = (Lib.cut p [58]).2.2 := ⟨_, rfl⟩
        rw [← hnl, ← hrl, ← hfb, show (⟨nl.toArray⟩ : ByteArray) = mkT nl from rfl, show (⟨rl.toArray⟩ : ByteArray) = mkT rl from rfl] at hcut
        rw [← hnl, ← hrl] at hcl
        have hpl2 : progL p = (progW (wordsF rl) 0).map fun r => ⟨mkT nl, r⟩ := by unfold progL; rw [← hrl, ← hnl]; rfl
        have Hpl2 := Lib.hid hpl2
        have Hcut := Lib.hid hcut
        have Htk := Lib.hid htk
        have Hpd := Lib.hid hpd
        have Hown := Lib.hid hown
        have Hb := Lib.hid hb
        have Hnot := Lib.hid hno
        have Hcell := Lib.hid hcell
        have hsz := hb.size
        have hnls : nl.length ≤ 1048576 := by omega
        have hrls : rl.length ≤ 1048576 := by omega
        clear hp hpd hpsz htk hmx hcut hcl hnl hrl hfb hpl2 hown hb hno hcell
        go_wp2_with fail
        with_reducible refine Hcut.out.mono ?_
        rintro e w2 ⟨rfl, dn, hw2⟩
        have bb2 : Below wr.heap.size wr w2 := by rw [hw2]; exact ⟨rfl, rfl, rfl, Nat.le_refl _, fun _ _ => rfl⟩
        have Hown2 := Lib.hid (Hown.out.below bb2 (Nat.le_refl _))
        have Hcell2 := Lib.hid (Hcell.out.below bb2)
        have Hb2 := Lib.hid (Hb.out.trans (bb2.mono hsz))
        have hsz2 : w.heap.size ≤ w2.heap.size := Hb2.out.size
        obtain ⟨W, hW⟩ : ∃ W, W = w2.alloc (.cells #[.string (mkT nl), .int .i64 0] 50) := ⟨_, rfl⟩
        have bb : Below w2.heap.size w2 W := by rw [hW]; exact (Below.refl _ _).alloc (Nat.le_refl _) _
        have kD : Box W w2.heap.size [.string (mkT nl), .int .i64 0] := by rw [hW]; exact Box.new w2 [.string (mkT nl), .int .i64 0] _
        have HW := Lib.hid hW
        have Hbb := Lib.hid bb
        have HkD := Lib.hid kD
        have hsp := SplitWords_c (mkT rl) (w := W) (by rw [mkT_size]; exact hrls) ((Hm.out.below Hb2.out).below bb)
        have hww : wordsT (mkT rl) = (wordsF rl).map mkT := by unfold wordsT; rw [mkT_data]
        rw [hww] at hsp
        obtain ⟨ws, hws⟩ : ∃ ws, ws = wordsF rl := ⟨_, rfl⟩
        rw [← hws] at hsp Hpl2
        have Hsp := Lib.hid hsp
        have hwsl : ws.length ≤ 1048577 := by
          rw [hws]
          unfold wordsF
          have h1 := List.length_filter_le (fun p : List UInt8 => !p.isEmpty) (parts 32 rl)
          have h2 := parts_len 32 rl
          omega
        clear hW bb kD hsp hww hws hcp hw2 bb2 Hown Hcell Hb
        go_upto_region 9 with fail
        rw [← HW.out]
        clear HW
        go_wp2_with fail
        with_reducible refine Hsp.out.mono ?_
        rintro e w3 ⟨uw, rfl, huw, hb3⟩
        obtain ⟨uo, ucap, hsh, hof⟩ := RdT.open huw.rds
        obtain ⟨M, hM⟩ : ∃ M, M = ws.length := ⟨_, rfl⟩
        rw [List.length_map, ← hM] at hsh hof
        subst hsh
        rw [← hM] at hwsl
        have hwc : ∀ j, j < M → ∃ pw ub uf, uo = some ⟨ub, uf, none⟩ ∧ ws[j]? = some pw ∧ w2.heap.size < ub ∧ w3.cell? ⟨ub, uf + j, none⟩ = some (.string (mkT pw)) := by
          intro j hj
          obtain ⟨ub, uf, hao, hlt2, hc⟩ := hof (by omega)
          obtain ⟨x, hx, hcx, _⟩ := hc j hj
          subst hao
          have h1 := (huw.lt ub rfl).1
          have h2 : w2.heap.size < W.heap.size := HkD.out.lt
          rw [List.getElem?_map] at hx
          cases hp : ws[j]? with
          | none => rw [hp] at hx; cases hx
          | some pw => rw [hp] at hx; have := Option.some.inj hx; exact ⟨pw, ub, uf, rfl, rfl, by omega, by rw [this]; exact hcx⟩
        have Hwc := Lib.hid hwc
        have HM := Lib.hid hM
        have HkD3 := Lib.hid (HkD.out.on hb3)
        have bb3 : Below w2.heap.size w2 w3 := Hbb.out.trans (hb3.mono Hbb.out.size)
        have Hb3 := Lib.hid bb3
        have hN3 := ((Hn.out.below Hb2.out).below bb3)
        have HN3 := Lib.hid hN3
        have hgD : 0 ≠ w2.heap.size := by
          have := World.block_lt_of_cell? w2 _ ((Hn.out.below Hb2.out) 0 (by decide))
          omega
        clear huw hof hwc hM hb3 bb3 hN3 HkD Hbb Hsp
        generalize hD : w2.heap.size = D at HkD3 hgD ⊢
        have HD := Lib.hid hD
        clear hD
        go_wp2
        go_loopw [42] (fun jv wx => ∃ (j : Nat) (a : Int), j ≤ M ∧ jv = .int .i64 j ∧ Hid (0 ≤ a ∧ a ≤ 63) ∧ Hid (progW ws 0 = progW (ws.drop j) a) ∧ w3.grownBy wx (some D) ∧ Box wx D [.string (mkT nl), .int .i64 a]) (fun jv _ => M - (intOf jv).toNat)
        case atStart => exact ⟨0, 0, Nat.zero_le _, rfl, Lib.hid (by omega), Lib.hid rfl, World.grownBy.refl _ _, HkD3.out⟩
        case round =>
          obtain ⟨j, a, hjM, rfl, ha, hpw, hg, hbx⟩ := hrel
          clear HkD3
          have hbw3 : Below w.heap.size w w3 := Hb2.out.trans (Hb3.out.mono hsz2)
          have hbwr : Below w.heap.size w wr := hbw3.grown hg hbw3.size (fun k hk => by have := Option.some.inj hk; have := HD.out; omega)
          have Hbw3 := Lib.hid hbw3
          have Hbwr := Lib.hid hbwr
          have hszr : w.heap.size ≤ wr.heap.size := hbwr.size
          clear hbw3 hbwr
          by_cases hlj : j < M
          · obtain ⟨pw, ub, uf, huo, hpj, hub, hcw⟩ := Hwc.out j hlj
            subst huo
            have hDub : ub ≠ D := by have := HD.out; omega
            have hcw' := cell_grown hg hDub hcw
            have hnm : ∀ k, k < 6 → wr.cell? ⟨0, k, none⟩ = some (.string (nmB k)) := fun k hk => cell_grown hg hgD (HN3.out k hk)
            have hix := Index_c (mkT pw) (g := 0) (w := wr) hnm
            rw [mkT_data] at hix
            have hdrop : ws.drop j = pw :: ws.drop (j + 1) := by
              obtain ⟨hl1, he1⟩ := List.getElem?_eq_some_iff.1 hpj
              rw [List.drop_eq_getElem_cons hl1, he1]
            have hstep := hpw.out
            rw [hdrop, progW_cons] at hstep
            have hlji : (j : Int) < (M : Int) := by omega
            by_cases hk6 : nextW pw 0 < 6
            · obtain ⟨k, hk⟩ : ∃ k, k = nextW pw 0 := ⟨_, rfl⟩
              have hidx : idxO pw = (k : Int) := by unfold idxO; rw [if_pos hk6, hk]
              rw [if_pos hk6, ← hk] at hstep
              rw [← hk] at hk6
              rw [hidx] at hix
              have haa := ha.out
              have hsk := (skill_any (m := (k : Int)) haa ⟨by omega, by omega⟩).1
              have hor : orB a (k : Int) = bits BinOp.or IntKind.i64 a (2 ^ k) := by unfold orB; rw [Int.toNat_natCast]
              have hpo := pow_m (m := (k : Int)) ⟨by omega, by omega⟩
              rw [Int.toNat_natCast] at hpo
              obtain ⟨hp1, hp2, hp3⟩ := hpo
              have d1 := hbx.cell 1 _ rfl
              have g1 := hbx.free 1
              have hk0 : ¬ (k : Int) < 0 := by omega
              have Hsk := Lib.hid hsk
              have Hor := Lib.hid hor
              have Hix := Lib.hid hix
              have Hstep := Lib.hid hstep
              have Hg := Lib.hid hg
              have Hbx := Lib.hid hbx
              obtain ⟨a0, a63⟩ := haa
              clear hpj hub hcw hnm hix hdrop hstep hg hbx hpw hk hidx hsk hor
              go_wp2_with fail
              with_reducible refine Hix.out.mono ?_
              rintro e wz ⟨rfl, rfl⟩
              go_upto_region 15 with fail
              go_still_tail 5, (by kernel_rfl)
              change wpList _ _ _ _ _ wr.drew
              go_wp2
              go_roundw
              case rel => exact ⟨j + 1, orB a (k : Int), by omega, by go_num, Hsk, Hstep, grownBy_trans (grownBy_trans Hg.out (grown_drewJ _ _)) (grown_setJ _ ⟨D, 1, none⟩ _), by rw [Hor.out]; exact (show Box wr.drew D [.string (mkT nl), .int .i64 a] from Hbx.out.drew1).set1 (j := 1) (by simp) _⟩
              case measure => simp [intOf]; omega
            · have hidx : idxO pw = -1 := by unfold idxO; rw [if_neg hk6]
              rw [if_neg hk6] at hstep
              rw [hidx] at hix
              have hpn : progL p = none := by rw [Hpl2.out, hstep]; rfl
              have hno : refO s.data.toList = none := by rw [Hro.out, allM_none (List.mem_of_getElem? Hpd.out) hpn]
              have HnoR := Lib.hid hno
              have Hix := Lib.hid hix
              clear hpj hub hcw hnm hix hdrop hstep hg hbx hpw hidx hpn hno
              go_wp2_with fail
              with_reducible refine Hix.out.mono ?_
              rintro e wz ⟨rfl, rfl⟩
              go_wp2
              go_ret2
              exact ⟨readR_none HnoR.out, Hbwr.out⟩
          · have hje : j = ws.length := by have := HM.out; omega
            have hlji : ¬ (j : Int) < (M : Int) := by omega
            have hfin := hpw.out
            rw [hje, List.drop_length] at hfin
            have hpx : progL p = some ⟨mkT nl, a⟩ := by rw [Hpl2.out, hfin]; rfl
            have hok : okOperator ⟨mkT nl, a⟩ := by
              have := ha.out
              unfold okOperator
              simp only
              rw [mkT_size]
              omega
            have Hnew : Hid (allM progL (ps.dropLast.take (i + 1)) = some (xs ++ [⟨mkT nl, a⟩])) := Lib.hid (by rw [Htk.out, allM_snoc, hall.out, hpx])
            have hlbD : lb < D := by
              obtain ⟨p0, lb', lo', hao, _, hcp⟩ := Hcell2.out 0 (by omega)
              injection hao with hao
              injection hao with e1 e2
              subst e1
              rw [← HD.out]
              exact World.block_lt_of_cell? w2 _ hcp
            have hcr : CellsAt (some ⟨lb, lo, none⟩) ps (q + 1) wr := cells_by (Hcell2.out.below Hb3.out) hg (fun b hb => by have := Option.some.inj hb; subst this; simp only; omega)
            have hownr : OwnOperatorS w.heap.size wr _ xs := (Hown2.out.below Hb3.out (Nat.le_refl _)).kept hg (by
              rcases ho : Value.ownBlock _ with _ | kk
              · exact .inl rfl
              · right
                have := (Hown2.out.lt kk ho).2
                have := HD.out
                intro e
                have := Option.some.inj e
                omega)
            have d0 := hbx.cell 0 _ rfl
            have d1 := hbx.cell 1 _ rfl
            have Hok := Lib.hid hok
            have Hcr := Lib.hid hcr
            have Hownr := Lib.hid hownr
            have hxl2 : xs.length ≤ 9 := by omega
            clear hje hfin hpx hok hcr hownr hbx hg hpw
            go_wp2_with (first | (at_builtin; refine wpList_appS (E := eOperator) rfl _ _ 22 rfl Tryd.underlying22 hi hz0 hz1 hz2 rfl (by decide) rfl rfl (Hownr.out.alloc _) (rds_one (E := eOperator) (x := ⟨mkT nl, a⟩) Hok.out rfl) ?b1 ?b2 ?b3 ?_))
            case b1 => unfold maxLen; first | omega | (simp; omega)
            case b2 => first | omega | (simp; omega)
            case b3 => first | (simp; omega) | omega
            intro v' w4 hown4 hg4
            have hb4 := hg4.alloc.below Hbwr.out hszr (fun z hz => (Hownr.out.lt z hz).1)
            obtain ⟨hc4, hn4⟩ := cells_grew (by omega) Hcr.out Hnot.out hg4.alloc
            have Hown4 := Lib.hid hown4
            have Hb4 := Lib.hid hb4
            have Hc4 := Lib.hid hc4
            have Hn4 := Lib.hid hn4
            clear hg4 hown4 hb4 hc4 hn4 d0 d1
            go_wp2
            go_roundw
            case rel => exact ⟨i + 1, xs ++ [⟨mkT nl, a⟩], by omega, by go_num, by simp; omega, Hnew, Hown4.out, Hn4.out, Hc4.out, Hb4.out⟩
            case measure => simp [intOf]; omega
      · obtain rfl : i = q := by omega
        have hfull : ps.dropLast.take i = ps.dropLast := List.take_of_length_le (by rw [List.length_dropLast]; have := HN.out; omega)
        have hal := hall.out
        rw [hfull] at hal
        have hro := Hro.out
        rw [hal] at hro
        have hro2 : refO s.data.toList = if validOs xs = true ∧ textQ xs = s.data.toList then some xs else none := hro
        have Hro2 := Lib.hid hro2
        have Hown := Lib.hid hown
        have Hb := Lib.hid hb
        have hsz := hb.size
        obtain ⟨vo, vcap, hsh⟩ := hown.shape
        subst hsh
        clear hfull hal hro hro2 hown hb hcell hno
        go_wp2_with fail
        with_reducible refine (ValidOperators_c Hown.out.rds).mono ?_
        cases hv : validOs xs with
        | false =>
          have hr := Hro2.out
          rw [if_neg (fun h => by rw [hv] at h; cases h.1)] at hr
          have HnoR := Lib.hid hr
          clear hr hv
          rintro e w2 ⟨rfl, hb2⟩
          have Hb2 := Lib.hid (Hb.out.trans (hb2.mono hsz))
          clear hb2
          go_wp2
          go_ret2
          exact ⟨readR_none HnoR.out, Hb2.out⟩
        | true =>
          rintro e w2 ⟨rfl, hb2⟩
          have Hb2 := Lib.hid (Hb.out.trans (hb2.mono hsz))
          have Hown2 := Lib.hid (Hown.out.below hb2 (Nat.le_refl _))
          have hsz2 : w.heap.size ≤ w2.heap.size := Hb2.out.size
          have hto : OTV xs = textO xs := by unfold OTV; rw [if_pos hv]
          have htq := textO_data xs
          obtain ⟨T, hT⟩ : ∃ T, T = textO xs := ⟨_, rfl⟩
          rw [← hT] at hto htq
          have Hto := Lib.hid hto
          have Htq := Lib.hid htq
          have hv2 : validOs xs = true := hv
          have Hv := Lib.hid hv2
          clear hb2 hto htq hT hv hv2
          go_wp2_with fail
          with_reducible refine (OperatorsText_c (Hn.out.below Hb2.out) Hown2.out.rds).mono ?_
          rw [Hto.out]
          rintro e w3 ⟨rfl, hb3⟩
          have Hb3 := Lib.hid (Hb2.out.trans (hb3.mono hsz2))
          have Hown3 := Lib.hid (Hown2.out.below hb3 (Nat.le_refl _))
          clear hb3
          by_cases he : textQ xs = s.data.toList
          · have h1 : (T.toList == s.toList) = true := by rw [ByteArray.toList_eq, ByteArray.toList_eq, Htq.out, he]; simp
            have hr := Hro2.out
            rw [if_pos ⟨Hv.out, he⟩] at hr
            have Hr := Lib.hid hr
            clear hr he
            go_wp2
            go_ret2
            exact ⟨readR_some Hr.out Hown3.out, Hb3.out⟩
          · have h1 : (T.toList == s.toList) = false := by rw [ByteArray.toList_eq, ByteArray.toList_eq, Htq.out]; simpa using he
            have hr := Hro2.out
            rw [if_neg (fun h => he h.2)] at hr
            have Hr := Lib.hid hr
            clear hr he
            go_wp2
            go_ret2
            exact ⟨readR_none Hr.out, Hb3.out⟩
end Go.Proofs.YtilgepapkigblaaDoor
