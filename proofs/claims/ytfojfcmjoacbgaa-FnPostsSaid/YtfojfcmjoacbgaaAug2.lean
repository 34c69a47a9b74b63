/- Another post for operators: the reference's walk, joined. No condition. -/
import Derived.Test.YtfojfcmjoacbgaaAug
namespace Go.Proofs.Ytfojfcmjoacbgaa
open Go.ChangeShapes Go.WideShapes Go.ChangeAt Go.RowKit
set_option linter.unusedVariables false
set_option maxRecDepth 100000
set_option maxHeartbeats 2000000 in
theorem augment_c {xs : List OperatorT} {ps : List Int} {lv pv : Value} {OB A B : Nat} (hv : validOs xs = true) (hp : postsB ps = true) (hA : A ≤ OB) (hB : B ≤ OB) :
    ∀ (f p : Nat) (st : St) (W : World) (atv snv : Value), RdOperatorS A W lv xs → RdI B W pv ps → AugSt OB xs.length atv snv W st → p < ps.length → unseen xs.length st.2 < f → (∀ i, -1 ≤ st.1 i ∧ st.1 i < ps.length) →
    Calls Try.prog 87 #[lv, pv, atv, snv, .int .i64 (p : Int)] W fun e w' => e = .returned (.bool (aug (edgeO xs ps) xs.length f p st).1) ∧ AugSt OB xs.length atv snv w' (aug (edgeO xs ps) xs.length f p st).2 ∧ Below OB W w' := by
  obtain ⟨hn8, hxs⟩ := validOs_parts hv
  obtain ⟨hm8, hps⟩ := postsB_parts hp
  intro f
  induction f with
  | zero => intro p st W atv snv _ _ _ _ h; omega
  | succ f ih =>
    intro p st W atv snv hl hpo hst hpm hfu hrg
    obtain ⟨at0, se0⟩ := st
    obtain ⟨n, hn⟩ : ∃ n, n = xs.length := ⟨_, rfl⟩
    obtain ⟨m, hm⟩ : ∃ m, m = ps.length := ⟨_, rfl⟩
    obtain ⟨la, lc, rfl, hlo⟩ := eOperator_open hl
    obtain ⟨pa, pc, rfl, hpo2⟩ := RdI.open hpo
    rw [← hn] at hlo hn8 hst hl hfu ih ⊢
    rw [← hm] at hpo2 hm8 hpo hpm hrg ih ⊢
    obtain ⟨pb, poff, rfl, plt, pcc⟩ := hpo2 (by omega)
    obtain ⟨y, hy, pcy, _⟩ := pcc p hpm
    have hyr := hps y (List.mem_of_getElem? hy)
    have hE : ∀ k, edgeO xs ps k p = canAt xs y (k : Int) := fun k => by unfold edgeO; rw [atI_of hy]
    obtain ⟨aa, ac, hash⟩ := hst.1.shape
    obtain ⟨sa, sc, hssh⟩ := hst.2.1.shape
    rw [cg_length] at hash hssh
    subst hash; subst hssh
    have hkey := fun k h => augK_false (edgeO xs ps) n f p at0 se0 k h
    have Hst := Lib.hid hst
    have Hl := Lib.hid hl
    have Hlo := Lib.hid hlo
    have Hpo := Lib.hid hpo
    have Hn := Lib.hid hn
    have Hxs := Lib.hid hxs
    have HE := Lib.hid hE
    have Hyr := Lib.hid hyr
    have Hpcy := Lib.hid pcy
    have Hrg := Lib.hid hrg
    have Hkey := Lib.hid hkey
    have hpbF : pb < OB := by omega
    have hpn : (p : Int) < m := by omega
    rw [aug_succ]
    clear hl hlo hpo hn hm hyr hE hst hpo2 pcc hy pcy hrg hkey
    go_enter Try.func87, Try.ntmps87
    go_wp2
    go_loopw [11] (fun i wr => ∃ k : Nat, k ≤ n ∧ i = .int .i64 k ∧ Hid ((augK (edgeO xs ps) n f p (at0, se0) k).1 = false) ∧ AugSt OB n (.slice aa n ac) (.slice sa n sc) wr (augK (edgeO xs ps) n f p (at0, se0) k).2 ∧ Below OB W wr) (fun i _ => n - (intOf i).toNat)
    case atStart => exact ⟨0, Nat.zero_le _, rfl, rfl, Hst.out, Below.refl _ _⟩
    case round =>
      obtain ⟨k, hk, rfl, hgo, hst, hb⟩ := hrel
      by_cases hkn : k < n
      · obtain ⟨b0, off, rfl, lt, cc⟩ := Hlo.out (by omega)
        obtain ⟨x, hx, ⟨x0, x1⟩, xb⟩ := cc k (by have := Hn.out; omega)
        have hxr := (Hxs.out x (List.mem_of_getElem? hx)).2
        have ecan : edgeO xs ps k p = canB x.skills y := by rw [HE.out k]; exact canAt_of hx
        have d1 := (hb.cell (p := ⟨b0, off + k * 2 + 1, none⟩) (by show b0 < OB; omega)).trans x1
        have d2 := (hb.cell (p := ⟨pb, poff + p, none⟩) hpbF).trans Hpcy.out
        obtain ⟨hkeep, hsee⟩ := Hkey.out k hgo.out
        have hsucc := augK_succ (edgeO xs ps) n f p (at0, se0) k
        obtain ⟨r, hr⟩ : ∃ r, augK (edgeO xs ps) n f p (at0, se0) k = r := ⟨_, rfl⟩
        rw [hr] at hgo hst hkeep hsee hsucc
        obtain ⟨rb, ra, rs⟩ := r
        obtain rfl : rb = false := hgo.out
        obtain rfl : ra = at0 := hkeep
        obtain ⟨ha, hs, hap⟩ := hst
        obtain ⟨ga, ca, hga, hgab, hgal⟩ := ha.addr (by rw [cg_length]; omega)
        rw [cg_length] at hga
        injection hga with e1 e2 e3
        subst e1; subst e3
        have hsadd : ∃ gs, sa = some ⟨gs, 0, none⟩ ∧ OB ≤ gs ∧ gs < wr.heap.size := by
          obtain ⟨gs, cs, hgs, h8, h9⟩ := hs.addr (by rw [cg_length]; omega)
          injection hgs with e4 e5 e6
          exact ⟨gs, e4, h8, h9⟩
        obtain ⟨gs, rfl, hgsb, hgsl⟩ := hsadd
        have hne : ga ≠ gs := fun e => hap ga rfl (by rw [e]; rfl)
        have c1 : wr.cell? ⟨gs, k, none⟩ = some (.bool (rs k)) := hs.cellB (cg_get hkn)
        have c2 : wr.cell? ⟨ga, k, none⟩ = some (.int .i64 (ra k)) := ha.cellN (cg_get hkn)
        have hrgk := Hrg.out k
        have Hsucc := Lib.hid hsucc
        have Hsee := Lib.hid hsee
        have Ha := Lib.hid ha
        have Hs := Lib.hid hs
        have Hap := Lib.hid hap
        have Hb := Lib.hid hb
        have Hxr := Lib.hid hxr
        clear hx xb cc x0 x1 hxr hsucc hsee ha hs hap hb hr hgo e2
        cases hsk : rs k with
        | true =>
          rw [hsk] at c1
          have h8 := Hsucc.out
          rw [step_skip rfl (by show (rs k || _) = true; rw [hsk]; rfl)] at h8
          have H8 := Lib.hid h8
          clear h8 hsk
          go_wp2
          go_quiet (fail)
          go_wp2
          go_roundw
          case rel => exact ⟨k + 1, by omega, by go_num, by show _ = false; rw [H8.out], by rw [H8.out]; exact ⟨Ha.out, Hs.out, Hap.out⟩, Hb.out.drewNy _⟩
          case measure => simp [intOf]; omega
        | false =>
          rw [hsk] at c1
          cases hcan : canB x.skills y with
          | false =>
            have hcon := fun w' (c1 : w'.cell? ⟨b0, off + k * 2 + 1, none⟩ = some (.int .i64 x.skills)) => l22Can_c x y w' Hxr.out Hyr.out (b := b0) (off := off + k * 2) c1
            rw [hcan] at hcon
            have h8 := Hsucc.out
            rw [step_skip rfl (by show (rs k || !edgeO xs ps k p) = true; rw [ecan, hcan]; simp)] at h8
            have H8 := Lib.hid h8
            have Hcon := Lib.hid hcon
            clear h8 hsk hcan hcon ecan
            go_wp2
            go_quiet ((go_at_call 54; exact quiet_at0 (Hcon.out _ (by simpa using d1))))
            go_wp2
            go_roundw
            case rel => exact ⟨k + 1, by omega, by go_num, by show _ = false; rw [H8.out], by rw [H8.out]; exact ⟨Ha.out, Hs.out, Hap.out⟩, Hb.out.drewNy _⟩
            case measure => simp [intOf]; omega
          | true =>
            have hcon := fun w' (c1 : w'.cell? ⟨b0, off + k * 2 + 1, none⟩ = some (.int .i64 x.skills)) => l22Can_c x y w' Hxr.out Hyr.out (b := b0) (off := off + k * 2) c1
            rw [hcan] at hcon ecan
            have Hcon := Lib.hid hcon
            have Hecan := Lib.hid ecan
            have Hsk := Lib.hid hsk
            clear hsk hcan hcon ecan
            go_wp2
            go_quiet ((go_at_call 54; exact quiet_at0 (Hcon.out _ (by simpa using d1))))
            have ha2 : OwnInt64S OB (wr.drewN nq) (.slice (some ⟨ga, 0, none⟩) n ac) (cg ra n) := Ha.out.drewN nq
            have hs2 : Own eBl 4 OB (wr.drewN nq) (.slice (some ⟨gs, 0, none⟩) n sc) (cg rs n) := Hs.out.drewN nq
            have hb2 := Hb.out.drewNy nq
            have c1' : (wr.drewN nq).cell? ⟨gs, k, none⟩ = some (.bool false) := c1
            have c2' : (wr.drewN nq).cell? ⟨ga, k, none⟩ = some (.int .i64 (ra k)) := c2
            clear d1 d2 c1 c2 Ha Hs Hb hgal hgsl
            generalize wr.drewN nq = w2 at ha2 hs2 hb2 c1' c2' ⊢
            obtain ⟨hfs, hs3, hgs3⟩ := hs2.storeB (k := k) (y := true) (cg_get hkn)
            rw [cg_set] at hs3
            have ha3 := ha2.kept hgs3 (.inr (by intro hh; cases hh; exact hne rfl))
            have hb3 := hb2.setCell (p := ⟨gs, k, none⟩) hgsb (.bool true)
            have hq2 : decide (ra k < 0) = true ∨ decide (ra k < 0) = false := by cases decide (ra k < 0) <;> simp
            by_cases hneg : ra k < 0
            · have h8 := Hsucc.out
              rw [step_free rfl Hsk.out Hecan.out hneg] at h8
              have hdone := augK_done (E := edgeO xs ps) (n := n) (f := f) (p := p) (st := (ra, se0)) (k := k + 1) (by rw [h8]) (n - (k + 1))
              rw [show k + 1 + (n - (k + 1)) = n by omega, h8] at hdone
              have hok : eI.ok (p : Int) := by show -9223372036854775808 ≤ (p : Int) ∧ (p : Int) ≤ 9223372036854775807; omega
              obtain ⟨_, hfa, ha4, hga4⟩ := Own.storeI (x := (p : Int)) ha3 (by rw [cg_length]) (k := k) hkn hok
              rw [cg_set] at ha4
              have hs4 := hs3.kept hga4 (.inr (by intro hh; cases hh; exact hne rfl))
              have hb4 := hb3.setCell (p := ⟨ga, k, none⟩) hgab (.int .i64 (p : Int))
              have HS : Hid (AugSt OB n (.slice (some ⟨ga, 0, none⟩) n ac) (.slice (some ⟨gs, 0, none⟩) n sc) ((w2.setCell ⟨gs, k, none⟩ (.bool true)).setCell ⟨ga, k, none⟩ (.int .i64 (p : Int))) (upd ra k (p : Int), upd rs k true)) := Lib.hid ⟨ha4, hs4, Hap.out⟩
              have Hb4 := Lib.hid hb4
              have Hd := Lib.hid hdone
              have hngs : gs ≠ ga := fun e => hne e.symm
              clear h8 hdone ha4 hs4 hb4 ha3 hs3 hb3 hgs3 hga4 ha2 hs2 hb2 hq2
              go_wp2
              go_ret
              exact ⟨ret_bool (by rw [Hd.out]), by rw [Hd.out]; exact HS.out, Hb4.out⟩
            · obtain ⟨q, hq⟩ : ∃ q : Nat, ra k = q := ⟨(ra k).toNat, by omega⟩
              have hqt : (ra k).toNat = q := by omega
              have hfu2 : unseen n (upd rs k true) < f := by
                have h1 := unseen_upd hkn Hsk.out
                have h2 := unseen_mono (n := n) Hsee.out
                omega
              have hcall := ih q (ra, upd rs k true) (w2.setCell ⟨gs, k, none⟩ (.bool true)) (.slice (some ⟨ga, 0, none⟩) n ac) (.slice (some ⟨gs, 0, none⟩) n sc) (Hl.out.below hb3 hA) (Hpo.out.below hb3 hB) ⟨ha3, hs3, Hap.out⟩ (by omega) hfu2 Hrg.out
              have h8 := Hsucc.out
              obtain ⟨rr, hrr⟩ : ∃ rr, aug (edgeO xs ps) n f q (ra, upd rs k true) = rr := ⟨_, rfl⟩
              have hrr2 : aug (edgeO xs ps) n f (ra k).toNat (ra, upd rs k true) = rr := by rw [hqt]; exact hrr
              have hyes : rr.1 = true → augStep (edgeO xs ps) (aug (edgeO xs ps) n f) p (false, ra, rs) k = (true, upd rr.2.1 k (p : Int), rr.2.2) := by
                intro h
                rw [← hrr2] at h ⊢
                exact step_yes (r := (false, ra, rs)) rfl Hsk.out Hecan.out hneg h
              have hno : rr.1 = false → augStep (edgeO xs ps) (aug (edgeO xs ps) n f) p (false, ra, rs) k = rr := by
                intro h
                rw [← hrr2] at h ⊢
                exact step_no (r := (false, ra, rs)) rfl Hsk.out Hecan.out hneg h
              rw [hrr] at hcall
              rw [hq] at c2'
              have hqn : ¬ ((q : Int) < 0) := by omega
              have Hcall := Lib.hid hcall
              have Hb3 := Lib.hid hb3
              have Hyes := Lib.hid hyes
              have Hno := Lib.hid hno
              have H8 := Lib.hid h8
              have hngs : gs ≠ ga := fun e => hne e.symm
              obtain ⟨bb, at2, se2⟩ := rr
              clear hcall hb3 hyes hno h8 ha3 hs3 hgs3 ha2 hs2 hb2 hq2 hqt hrr hrr2 hq hrgk hneg
              cases bb with
              | true =>
                have hy2 := Hyes.out rfl
                have Hy2 := Lib.hid hy2
                clear hy2 Hyes Hno
                go_wp2_with fail
                with_reducible refine Hcall.out.mono ?_
                rintro e w5 ⟨rfl, ⟨ha5, hs5, hap5⟩, hb5⟩
                have h9 := H8.out
                rw [Hy2.out] at h9
                have hdone := augK_done (E := edgeO xs ps) (n := n) (f := f) (p := p) (st := (ra, se0)) (k := k + 1) (by rw [h9]) (n - (k + 1))
                rw [show k + 1 + (n - (k + 1)) = n by omega, h9] at hdone
                have hok : eI.ok (p : Int) := by show -9223372036854775808 ≤ (p : Int) ∧ (p : Int) ≤ 9223372036854775807; omega
                have c5 : w5.cell? ⟨ga, k, none⟩ = some (.int .i64 (at2 k)) := ha5.cellN (cg_get hkn)
                obtain ⟨_, hfa, ha6, hga6⟩ := Own.storeI (x := (p : Int)) ha5 (by rw [cg_length]) (k := k) hkn hok
                rw [cg_set] at ha6
                have hs6 := hs5.kept hga6 (.inr (by intro hh; cases hh; exact hne rfl))
                have hb6 := (Hb3.out.trans hb5).setCell (p := ⟨ga, k, none⟩) hgab (.int .i64 (p : Int))
                have HS : Hid (AugSt OB n (.slice (some ⟨ga, 0, none⟩) n ac) (.slice (some ⟨gs, 0, none⟩) n sc) (w5.setCell ⟨ga, k, none⟩ (.int .i64 (p : Int))) (upd at2 k (p : Int), se2)) := Lib.hid ⟨ha6, hs6, Hap.out⟩
                have Hb6 := Lib.hid hb6
                have Hd := Lib.hid hdone
                clear h9 hdone ha6 hs6 hb6 ha5 hs5 hap5 hb5 hga6
                go_wp2
                go_ret
                exact ⟨ret_bool (by rw [Hd.out]), by rw [Hd.out]; exact HS.out, Hb6.out⟩
              | false =>
                have hy2 := Hno.out rfl
                have Hy2 := Lib.hid hy2
                clear hy2 Hyes Hno
                go_wp2_with fail
                with_reducible refine Hcall.out.mono ?_
                rintro e w5 ⟨rfl, hst5, hb5⟩
                have h9 := H8.out
                rw [Hy2.out] at h9
                have H9 := Lib.hid h9
                have Hst5 := Lib.hid hst5
                have Hb6 := Lib.hid (Hb3.out.trans hb5)
                clear h9 hst5 hb5
                go_wp2
                go_roundw
                case rel => exact ⟨k + 1, by omega, by go_num, by show _ = false; rw [H9.out], by rw [H9.out]; exact Hst5.out, Hb6.out⟩
                case measure => simp [intOf]; omega
      · obtain rfl : k = n := by omega
        have Hst5 := Lib.hid hst
        clear hst
        go_wp2
        go_ret
        exact ⟨ret_bool hgo.out.symm, Hst5.out, hb⟩
end Go.Proofs.Ytfojfcmjoacbgaa
