/- Fillings of posts: the reference's walk through all of them. No condition. -/
import Derived.Test.YtfojfcmjoacbgaaFillP
namespace Go.Proofs.Ytfojfcmjoacbgaa
open Go.ChangeShapes Go.WideShapes Go.ChangeAt Go.RowKit
set_option linter.unusedVariables false
set_option maxRecDepth 100000
theorem grown_set (w : World) (a : Addr) (u : Value) : w.grownBy (w.setCell a u) (some a.block) :=
  ⟨rfl, rfl, rfl, by simp [World.setCell], fun k hk hne => Below.heap_setCell _ _ _ _ (fun e => hne (by rw [e]))⟩
theorem Own.setApart {α : Type} {E : Elt α} {e : TypeId} {base FB j : Nat} {w : World} {v : Value} {xs : List α} (h : Own E e base w v xs) (hne : v.ownBlock ≠ some FB) (u : Value) : Own E e base (w.setCell ⟨FB, j, none⟩ u) v xs :=
  h.kept (grown_set w ⟨FB, j, none⟩ u) (.inr hne)
theorem Box.kept {w w' : World} {b : Nat} {cs : List Value} {row : Option Nat} (h : Box w b cs) (hg : w.grownBy w' row) (hne : row ≠ some b) : Box w' b cs := by
  have hb := hg.block b h.lt (fun e => hne e.symm)
  exact ⟨Nat.lt_of_lt_of_le h.lt hg.size, fun j v hj => (World.cell?_of_block (w := w) (a := ⟨b, j, none⟩) hb).trans (h.cell j v hj), fun j => (World.frozen?_of_block (w := w) (a := ⟨b, j, none⟩) hb).trans (h.free j)⟩
theorem ne_swapO {a b : Option Nat} (h : a = none ∨ a ≠ b) : b = none ∨ b ≠ a := by
  rcases h with h | h
  · rw [h]
    cases b with
    | none => exact .inl rfl
    | some q => exact .inr (by simp)
  · exact .inr (Ne.symm h)
/-- the first k of a slice of the call's own -/
theorem Own.takeO {e : TypeId} {base g n cap k : Nat} {w : World} {xs : List Int} (h : Own eI e base w (.slice (some ⟨g, 0, none⟩) n cap) xs) (hk : k ≤ n) : Own eI e base w (.slice (some ⟨g, 0, none⟩) k cap) (xs.take k) := by
  have hn : n = xs.length := by
    obtain ⟨ao, c, hs⟩ := h.shape
    cases hs; rfl
  subst hn
  have hlen : (xs.take k).length = k := by rw [List.length_take]; omega
  refine ⟨⟨by rw [eI.all_length], ?_⟩, fun x hx => h.2 x (List.mem_of_mem_take hx)⟩
  rcases h.1.2 with ⟨hx, _⟩ | ⟨g', cap', cur, hv, hb, hg, h1, h2, h3, h4⟩
  · cases hx
  · cases hv
    rw [hlen]
    refine .inr ⟨g, cap, cur, rfl, hb, hg, by omega, h2, h3, ?_⟩
    rw [show xs.length * eI.sz = xs.length from Nat.mul_one _, eI_all] at h4
    rw [show k * eI.sz = k from Nat.mul_one _, eI_all, List.map_take, ← h4, List.take_take]
    congr 1
    omega
/-- which filling is the first one -/
def firstF (c : Int) (first : List Int) (ls : List (List Int)) : List Int := if c = 0 then ls.headD first else first
theorem firstF_nil (c : Int) (first : List Int) : firstF c first [] = first := by unfold firstF; split <;> rfl
theorem firstF_append {c : Int} (hc : 0 ≤ c) (first : List Int) (a b : List (List Int)) : firstF c first (a ++ b) = firstF (c + a.length) (firstF c first a) b := by
  unfold firstF
  cases a with
  | nil => simp
  | cons l a =>
    have : ¬ (c + ((l :: a).length : Int) = 0) := by simp; omega
    rw [if_neg this]
    split <;> rfl
/-- the state of the walk -/
def FillSt (OB FB : Nat) (lv pv : Value) (W : World) (who first : List Int) (c : Int) : Prop :=
  ∃ wv fv, Box W FB [lv, pv, wv, fv, .int .i64 c] ∧ OwnInt64S OB W wv who ∧ OwnInt64S OB W fv first ∧ (wv.ownBlock = none ∨ wv.ownBlock ≠ fv.ownBlock) ∧ (fv.ownBlock = none ∨ fv.ownBlock ≠ wv.ownBlock) ∧ wv.ownBlock ≠ some FB ∧ fv.ownBlock ≠ some FB
theorem FillSt.drewN {OB FB : Nat} {lv pv : Value} {W : World} {who first : List Int} {c : Int} (h : FillSt OB FB lv pv W who first c) (m : Nat) : FillSt OB FB lv pv (W.drewN m) who first c := by
  obtain ⟨wv, fv, h1, h2, h3, h4⟩ := h
  exact ⟨wv, fv, h1.drewN m, h2, h3, h4⟩
set_option maxHeartbeats 2000000 in
theorem fwalk_c {xs : List OperatorT} {ps : List Int} {lv pv : Value} {OB FB A B : Nat} (hv : validOs xs = true) (hp : postsB ps = true) (hA : A ≤ OB) (hB : B ≤ OB) (hOB : OB ≤ FB) :
    ∀ (f : Nat) (W : World) (who first : List Int) (c : Int), RdOperatorS A W lv xs → RdI B W pv ps → FillSt OB FB lv pv W who first c → who.length + f = ps.length → 0 ≤ c → c + ((leaves xs ps f who).length : Int) ≤ 1000000000 →
    Calls Try.prog 88 #[.pointer (some ⟨FB, 0, none⟩)] W fun e w' => e = .returned (.tuple #[]) ∧ FillSt OB FB lv pv w' who (firstF c first (leaves xs ps f who)) (c + (leaves xs ps f who).length) ∧ Below OB W w' := by
  obtain ⟨hn8, hxs⟩ := validOs_parts hv
  obtain ⟨hm8, hps⟩ := postsB_parts hp
  obtain ⟨i0, hi, hz0, hz1, hz2⟩ := info_parts Try.infoInt64
  intro f
  induction f with
  | zero =>
    intro W who first c hl hpo hst hlen hc0 hcb
    obtain ⟨wv, fv, hbox, hw, hf, hap, hap2, hwn, hfn⟩ := hst
    have e1 : leaves xs ps 0 who = [who] := rfl
    have hlen2 : who.length = ps.length := by omega
    obtain ⟨n, hn⟩ : ∃ n, n = who.length := ⟨_, rfl⟩
    have hFB := hbox.lt
    have hwr := hw.rds
    have Hwr := Lib.hid hwr
    obtain ⟨wa, wc, rfl⟩ := hw.shape
    obtain ⟨pa, pc, rfl⟩ := hpo.shape
    obtain ⟨la, lc, rfl⟩ := hl.shape
    rw [← hlen2, ← hn] at hbox hpo ⊢
    rw [← hn] at hw hap hap2 hwn Hwr
    have c1 := hbox.cell 1 _ rfl
    have c2 := hbox.cell 2 _ rfl
    have c3 := hbox.cell 3 _ rfl
    have c4 := hbox.cell 4 _ rfl
    have f3 := hbox.free 3
    have f4 := hbox.free 4
    have hn9 : n ≤ 8 := by omega
    rw [e1] at hcb ⊢
    have hcb2 : c ≤ 1000000000 := by simp at hcb; omega
    have hcnt : c + (([who] : List (List Int)).length : Int) = c + 1 := by simp
    rw [hcnt]
    have Hw := Lib.hid hw
    have Hf := Lib.hid hf
    have Hbox := Lib.hid hbox
    have Hap := Lib.hid hap
    have Hap2 := Lib.hid hap2
    have Hwn := Lib.hid hwn
    have Hfn := Lib.hid hfn
    have Hn := Lib.hid hn
    clear hl hpo hlen hcb hlen2 e1 hn hw hf hbox hap hap2 hwn hfn hwr hcnt
    by_cases hc : c = 0
    · subst hc
      have hfst : firstF 0 first [who] = who := by unfold firstF; rw [if_pos rfl]; rfl
      rw [hfst]
      clear hfst
      go_enter Try.func88, Try.ntmps88
      go_wp2_with fail
      with_reducible refine (l00Own_c Hwr.out (by rw [← Hn.out]; omega)).mono ?_
      rintro e w1 ⟨u0, rfl, hu, hb⟩
      obtain ⟨ua, uc, rfl⟩ := hu.shape
      rw [← Hn.out] at hu ⊢
      have hbox1 := Hbox.out.on hb
      have hbox2 := (hbox1.set1 (j := 3) (by simp) (.slice ua n uc))
      have hbox3 := (hbox2.set1 (j := 4) (by simp) (.int .i64 1))
      have hw1 := ((Hw.out.below hb (Nat.le_refl _)).setApart (j := 3) Hwn.out (.slice ua n uc)).setApart (j := 4) Hwn.out (.int .i64 1)
      have hun : (Value.slice ua n uc).ownBlock ≠ some FB := fun hh => by have := (hu.lt _ hh).1; omega
      have hu1 := ((hu.mono (show OB ≤ W.heap.size by omega)).setApart (j := 3) hun (.slice ua n uc)).setApart (j := 4) hun (.int .i64 1)
      have hb3 : Below OB W ((w1.setCell ⟨FB, 3, none⟩ (.slice ua n uc)).setCell ⟨FB, 4, none⟩ (.int .i64 1)) := ((hb.mono (by omega)).setCell (by show OB ≤ FB; omega) _).setCell (by show OB ≤ FB; omega) _
      have hul := hu.lt
      have hwl := Hw.out.lt
      have d1 := hbox1.cell 4 _ rfl
      have e3 := hbox1.free 3
      have e4 := hbox1.free 4
      have d3 := hbox1.cell 3 _ rfl
      have hsz := hb.size
      have HS : Hid (FillSt OB FB (.slice la xs.length lc) (.slice pa n pc) ((w1.setCell ⟨FB, 3, none⟩ (.slice ua n uc)).setCell ⟨FB, 4, none⟩ (.int .i64 1)) who who 1) := Lib.hid ⟨_, _, hbox3, hw1, hu1,
        (by
          cases hwb : (Value.slice wa n wc).ownBlock with
          | none => exact .inl rfl
          | some q => exact .inr (by intro hh; have := hul q hh.symm; have := hwl q hwb; omega)),
        (by
          cases hub : (Value.slice ua n uc).ownBlock with
          | none => exact .inl rfl
          | some q => exact .inr (by intro hh; have := hul q hub; have := hwl q hh.symm; omega)), Hwn.out, hun⟩
      clear hu hb hbox1 hbox2 hbox3 hw1 hu1 hul hwl hun c1 c2 c3 c4 f3 f4
      go_wp2
      exact bodyPost_ret (v := .tuple #[]) (by simp [results, Try.results88, go_sem]) rfl ⟨rfl, HS.out, hb3⟩
    · have hfst : firstF c first [who] = first := by unfold firstF; rw [if_neg hc]
      rw [hfst]
      have hc' : ((c : Int) == 0) = false := by simpa using hc
      have hbox3 := (Hbox.out.set1 (j := 4) (by simp) (.int .i64 (c + 1)))
      have hw1 := Hw.out.setApart (j := 4) Hwn.out (.int .i64 (c + 1))
      have hu1 := Hf.out.setApart (j := 4) Hfn.out (.int .i64 (c + 1))
      have hb3 : Below OB W (W.setCell ⟨FB, 4, none⟩ (.int .i64 (c + 1))) := (Below.refl _ _).setCell (by show OB ≤ FB; omega) _
      have HS : Hid (FillSt OB FB (.slice la xs.length lc) (.slice pa n pc) (W.setCell ⟨FB, 4, none⟩ (.int .i64 (c + 1))) who first (c + 1)) := Lib.hid ⟨_, _, hbox3, hw1, hu1, Hap.out, Hap2.out, Hwn.out, Hfn.out⟩
      clear hfst hbox3 hw1 hu1 hc
      go_enter Try.func88, Try.ntmps88
      go_wp2
      exact bodyPost_ret (v := .tuple #[]) (by simp [results, Try.results88, go_sem]) rfl ⟨rfl, HS.out, hb3⟩
  | succ f ih =>
    intro W who first c hl hpo hst hlen hc0 hcb
    obtain ⟨n, hn⟩ : ∃ n, n = who.length := ⟨_, rfl⟩
    obtain ⟨L, hL⟩ : ∃ L, L = xs.length := ⟨_, rfl⟩
    obtain ⟨m, hm⟩ : ∃ m, m = ps.length := ⟨_, rfl⟩
    have hlt : n < m := by omega
    obtain ⟨la, lc, rfl, hlo⟩ := eOperator_open hl
    obtain ⟨pa, pc, rfl, hpo2⟩ := RdI.open hpo
    rw [← hL] at hlo hn8 hst hl ih ⊢
    rw [← hm] at hpo2 hm8 hlen hst hpo ih ⊢
    obtain ⟨pb, poff, rfl, plt, pcc⟩ := hpo2 (by omega)
    obtain ⟨p, hp1, pcy, _⟩ := pcc n hlt
    have hpr := hps p (List.mem_of_getElem? hp1)
    have hpat : atI ps n = p := atI_of hp1
    have hok : ∀ k, fillOk xs ps who k = (canAt xs p (k : Int) && !hasI who (k : Int)) := fun k => by unfold fillOk; rw [← hn, hpat]
    have Hst := Lib.hid hst
    have Hl := Lib.hid hl
    have Hlo := Lib.hid hlo
    have Hpo := Lib.hid hpo
    have Hn := Lib.hid hn
    have HL := Lib.hid hL
    have Hlen := Lib.hid hlen
    have Hxs := Lib.hid hxs
    have Hpr := Lib.hid hpr
    have Hok := Lib.hid hok
    have Hcb := Lib.hid hcb
    have hne : ((n : Int) == (m : Int)) = false := by simp; omega
    obtain ⟨wv, fv, hbox, hw, hf, hap, hap2, hwn, hfn⟩ := hst
    have hFBl := hbox.lt
    have c0 := hbox.cell 0 _ rfl
    have c1 := hbox.cell 1 _ rfl
    have c2 := hbox.cell 2 _ rfl
    obtain ⟨wa, wc, rfl⟩ := hw.shape
    rw [← hn] at c2
    have hpcy : W.cell? ⟨pb, poff + n, none⟩ = some (.int .i64 p) := pcy
    have Hpcy := Lib.hid hpcy
    have hpbF : pb < OB := by omega
    clear hl hlo hpo hn hL hm hlen hpr hok hcb hpo2 pcc hp1 hpat hbox hw hf hap hap2 hwn hfn pcy hpcy
    go_enter Try.func88, Try.ntmps88
    go_wp2
    go_loopw [3] (fun i wr => ∃ k : Nat, k ≤ L ∧ i = .int .i64 k ∧ FillSt OB FB (.slice la L lc) (.slice (some ⟨pb, poff, none⟩) m pc) wr who (firstF c first (leavesK xs ps f who k)) (c + (leavesK xs ps f who k).length) ∧ Below OB W wr) (fun i _ => L - (intOf i).toNat)
    case atStart => exact ⟨0, Nat.zero_le _, rfl, by rw [leavesK_zero, firstF_nil]; simpa using Hst.out, Below.refl _ _⟩
    case round =>
      obtain ⟨k, hk, rfl, hst, hb⟩ := hrel
      clear c0 c1 c2
      obtain ⟨wv, fv, hbox, hw, hf, hap, hap2, hwn, hfn⟩ := hst
      obtain ⟨wa, wc, rfl⟩ := hw.shape
      obtain ⟨fa, fc, rfl⟩ := hf.shape
      obtain ⟨first', hfe⟩ : ∃ first', first' = firstF c first (leavesK xs ps f who k) := ⟨_, rfl⟩
      obtain ⟨c', hce⟩ : ∃ c', c' = c + ((leavesK xs ps f who k).length : Int) := ⟨_, rfl⟩
      obtain ⟨nf, hnf⟩ : ∃ nf, nf = first'.length := ⟨_, rfl⟩
      rw [← hfe, ← hnf, ← hce] at hbox
      rw [← hfe, ← hnf] at hf hap hap2 hfn
      rw [← Hn.out] at hbox hw hap hap2 hwn
      have e0 := hbox.cell 0 _ rfl
      have e1 := hbox.cell 1 _ rfl
      have e2 := hbox.cell 2 _ rfl
      by_cases hkL : k < L
      · obtain ⟨b, off, rfl, lt, cc⟩ := Hlo.out (by omega)
        obtain ⟨x, hx, ⟨x0, x1⟩, xb⟩ := cc k (by have := HL.out; omega)
        have hxr := (Hxs.out x (List.mem_of_getElem? hx)).2
        have ecan : canAt xs p (k : Int) = canB x.skills p := canAt_of hx
        have hokk := Hok.out k
        rw [ecan] at hokk
        have d1 := (hb.cell (p := ⟨b, off + k * 2 + 1, none⟩) (by show b < OB; omega)).trans x1
        have d2 := (hb.cell (p := ⟨pb, poff + n, none⟩) hpbF).trans Hpcy.out
        have hks := leavesK_succ xs ps f who k
        have Hxr := Lib.hid hxr
        have Hokk := Lib.hid hokk
        have Hks := Lib.hid hks
        have hwr := hw.rds
        have Hwr := Lib.hid hwr
        have Hbox := Lib.hid hbox
        have Hw := Lib.hid hw
        have Hf := Lib.hid hf
        have Hap := Lib.hid hap
        have Hap2 := Lib.hid hap2
        have Hwn := Lib.hid hwn
        have Hfn := Lib.hid hfn
        have Hb := Lib.hid hb
        have Hfe := Lib.hid hfe
        have Hce := Lib.hid hce
        clear hx xb cc x0 x1 hxr ecan hokk hks hwr hbox hw hf hap hap2 hwn hfn hb hfe hce hnf
        cases hcan : canB x.skills p with
        | false =>
          have hcon := fun w' (c1 : w'.cell? ⟨b, off + k * 2 + 1, none⟩ = some (.int .i64 x.skills)) => l22Can_c x p w' Hxr.out Hpr.out (b := b) (off := off + k * 2) c1
          have h9 := Hokk.out
          have h8 := Hks.out
          rw [hcan] at hcon h9
          rw [Bool.false_and] at h9
          rw [h9, if_neg (by decide), List.append_nil] at h8
          have Hcon := Lib.hid hcon
          have H8 := Lib.hid h8
          clear hcan hcon h9 h8
          go_wp2
          go_quiet ((first | (go_at_call 54; exact quiet_at0 (Hcon.out _ (by simpa using d1)))))
          go_wp2
          go_roundw
          case rel =>
            refine ⟨k + 1, by omega, by go_num, ?_, Hb.out.drewNy _⟩
            rw [H8.out, ← Hfe.out, ← Hce.out]
            exact ⟨_, _, Hbox.out.drewN _, Hw.out, Hf.out, Hap.out, Hap2.out, Hwn.out, Hfn.out⟩
          case measure => simp [intOf]; omega
        | true =>
          have hcon := fun w' (c1 : w'.cell? ⟨b, off + k * 2 + 1, none⟩ = some (.int .i64 x.skills)) => l22Can_c x p w' Hxr.out Hpr.out (b := b) (off := off + k * 2) c1
          have h9 := Hokk.out
          have h8 := Hks.out
          rw [hcan] at hcon h9
          rw [Bool.true_and] at h9
          have Hcon := Lib.hid hcon
          clear hcan hcon
          cases hhas : hasI who (k : Int) with
          | true =>
            have hcon2 := fun q => l00Has_c (k : Int) (Rds.drewN Hwr.out q)
            rw [hhas] at hcon2 h9
            rw [h9, if_neg (by decide), List.append_nil] at h8
            have Hcon2 := Lib.hid hcon2
            have H8 := Lib.hid h8
            clear hhas hcon2 h9 h8
            go_wp2
            go_quiet ((first | (go_at_call 54; exact quiet_at0 (Hcon.out _ (by simpa using d1))) | (go_at_call 64; exact quiet_at0 (Hcon2.out _))))
            go_wp2
            go_roundw
            case rel =>
              refine ⟨k + 1, by omega, by go_num, ?_, Hb.out.drewNy _⟩
              rw [H8.out, ← Hfe.out, ← Hce.out]
              exact ⟨_, _, Hbox.out.drewN _, Hw.out, Hf.out, Hap.out, Hap2.out, Hwn.out, Hfn.out⟩
            case measure => simp [intOf]; omega
          | false =>
            have hcon2 := fun q => l00Has_c (k : Int) (Rds.drewN Hwr.out q)
            rw [hhas] at hcon2 h9
            rw [h9, if_pos (by decide)] at h8
            have Hcon2 := Lib.hid hcon2
            have H8 := Lib.hid h8
            clear hhas hcon2 h9 h8
            go_wp2
            go_quiet ((first | (go_at_call 54; exact quiet_at0 (Hcon.out _ (by simpa using d1))) | (go_at_call 64; exact quiet_at0 (Hcon2.out _))))
            have hbox2 := Hbox.out.drewN nq
            have hw2 : OwnInt64S OB (wr.drewN nq) (.slice wa n wc) who := Hw.out.drewN nq
            have hf2 : OwnInt64S OB (wr.drewN nq) (.slice fa nf fc) first' := Hf.out.drewN nq
            have hb2 : Below OB W (wr.drewN nq) := Hb.out.drewNy nq
            clear e0 e1 e2 d1 d2 Hbox Hw Hf Hb Hwr
            generalize wr.drewN nq = w2 at hbox2 hw2 hf2 hb2 ⊢
            have g2 := hbox2.cell 2 _ rfl
            have hFB2 := hbox2.lt
            have Hbox2 := Lib.hid hbox2
            have Hw2 := Lib.hid hw2
            have Hf2 := Lib.hid hf2
            have Hb2 := Lib.hid hb2
            have Hqp : eI.ok (k : Int) := by show -9223372036854775808 ≤ (k : Int) ∧ (k : Int) ≤ 9223372036854775807; omega
            have hln : who.length = n := Hn.out.symm
            have Hln := Lib.hid hln
            clear hbox2 hw2 hf2 hb2 hln
            go_wp2_with (first | (at_builtin; refine wpList_appS (E := eI) rfl _ _ 34 rfl Try.underlying34 hi hz0 hz1 hz2 rfl (by decide) rfl rfl (Hw2.out.alloc _) (rds_one (E := eI) (x := (k : Int)) Hqp rfl) ?b1 ?b2 ?b3 ?_))
            case b1 => rw [Hln.out]; unfold maxLen; simp; omega
            case b2 => rw [Hln.out]; simp; omega
            case b3 => simp; omega
            intro v' w3 hR hg
            have hg2 := hg.alloc
            have hwl := Hw2.out.lt
            have hfl := Hf2.out.lt
            have hbox3 := Hbox2.out.kept hg2.1 Hwn.out
            have hvn : v'.ownBlock ≠ some FB := by
              rcases hg2.2 with h6 | ⟨q, h6, h7⟩
              · rw [h6]; exact Hwn.out
              · rw [h6]; intro hh; cases hh; omega
            have hf3 := Hf2.out.kept hg2.1 Hap2.out
            have hb3 := hg2.below Hb2.out (by omega) (fun q hq => by have := (hwl q hq).1; omega)
            obtain ⟨g, cp, hve, hgb, hgl⟩ := hR.addr (by simp)
            rw [show (who ++ [(k : Int)]).length = n + 1 by rw [List.length_append, Hln.out]; rfl] at hve
            have hap3 : (v'.ownBlock = none ∨ v'.ownBlock ≠ (Value.slice fa nf fc).ownBlock) ∧ ((Value.slice fa nf fc).ownBlock = none ∨ (Value.slice fa nf fc).ownBlock ≠ v'.ownBlock) := by
              have h5 : v'.ownBlock = none ∨ v'.ownBlock ≠ (Value.slice fa nf fc).ownBlock := by
                rcases hg2.2 with h6 | ⟨q, h6, h7⟩
                · rw [h6]; exact Hap.out
                · rw [h6]; right; intro hh; have := (hfl q hh.symm).2; omega
              exact ⟨h5, ne_swapO h5⟩
            subst hve
            have f2 := hbox3.free 2
            have g3 := hbox3.cell 2 _ rfl
            have hbox4 := hbox3.set1 (j := 2) (by simp) (.slice (some ⟨g, 0, none⟩) (n + 1) cp)
            have hR4 := Own.setApart hR (j := 2) hvn (.slice (some ⟨g, 0, none⟩) (n + 1) cp)
            have hf4 := hf3.setApart (j := 2) Hfn.out (.slice (some ⟨g, 0, none⟩) (n + 1) cp)
            have hb4 := hb3.setCell (p := ⟨FB, 2, none⟩) (by show OB ≤ FB; omega) (.slice (some ⟨g, 0, none⟩) (n + 1) cp)
            have hst4 : FillSt OB FB (.slice (some ⟨b, off, none⟩) L lc) (.slice (some ⟨pb, poff, none⟩) m pc) (w3.setCell ⟨FB, 2, none⟩ (.slice (some ⟨g, 0, none⟩) (n + 1) cp)) (who ++ [(k : Int)]) first' c' := ⟨_, _, hbox4, hR4, hf4, hap3.1, hap3.2, hvn, Hfn.out⟩
            have hkb := leavesK_le (xs := xs) (ps := ps) (f := f) (who := who) (k := k + 1) (by have := HL.out; omega)
            rw [H8.out, List.length_append] at hkb
            have hcall := ih _ _ _ _ (Hl.out.below hb4 hA) (Hpo.out.below hb4 hB) hst4 (by rw [List.length_append, Hln.out]; have := Hlen.out; have := Hln.out; simp; omega) (by have := Hce.out; omega) (by have := Hcb.out; have := Hce.out; omega)
            have Hcall := Lib.hid hcall
            have Hb4 := Lib.hid hb4
            clear hR hg hg2 hwl hfl hvn hbox3 hf3 hb3 hap3 hbox4 hR4 hf4 hb4 hst4 hkb hcall g2
            go_wp2_with fail
            with_reducible refine Hcall.out.mono ?_
            rintro e w5 ⟨rfl, hst5, hb5⟩
            obtain ⟨wv5, fv5, hbox5, hw5, hf5, hap5, hap6, hwn5, hfn5⟩ := hst5
            obtain ⟨g5, cp5, hve5, hgb5, hgl5⟩ := hw5.addr (by simp)
            rw [show (who ++ [(k : Int)]).length = n + 1 by rw [List.length_append, Hln.out]; rfl] at hve5
            subst hve5
            have hcap5 : n + 1 ≤ cp5 := hw5.rds.cap.1
            have i2 := hbox5.cell 2 _ rfl
            have j2 := hbox5.free 2
            have hbox6 := hbox5.set1 (j := 2) (by simp) (.slice (some ⟨g5, 0, none⟩) n cp5)
            have hw6 := (Own.takeO (k := n) hw5 (by omega)).setApart (j := 2) hwn5 (.slice (some ⟨g5, 0, none⟩) n cp5)
            rw [List.take_append_of_le_length (by rw [Hln.out]; exact Nat.le_refl _), List.take_of_length_le (by rw [Hln.out]; exact Nat.le_refl _)] at hw6
            have hf6 := hf5.setApart (j := 2) hfn5 (.slice (some ⟨g5, 0, none⟩) n cp5)
            have hb6 := (Hb4.out.trans (hb5.mono (Nat.le_refl _))).setCell (p := ⟨FB, 2, none⟩) (by show OB ≤ FB; omega) (.slice (some ⟨g5, 0, none⟩) n cp5)
            have hst6 : FillSt OB FB (.slice (some ⟨b, off, none⟩) L lc) (.slice (some ⟨pb, poff, none⟩) m pc) (w5.setCell ⟨FB, 2, none⟩ (.slice (some ⟨g5, 0, none⟩) n cp5)) who (firstF c first (leavesK xs ps f who (k + 1))) (c + (leavesK xs ps f who (k + 1)).length) := by
              rw [H8.out, firstF_append hc0, ← Hfe.out, ← Hce.out, List.length_append]
              have e9 : c + (((leavesK xs ps f who k).length + (leaves xs ps f (who ++ [(k : Int)])).length : Nat) : Int) = c' + (leaves xs ps f (who ++ [(k : Int)])).length := by rw [Hce.out]; push_cast; omega
              rw [e9]
              exact ⟨_, _, hbox6, hw6, hf6, hap5, hap6, hwn5, hfn5⟩
            have Hst6 := Lib.hid hst6
            have Hb6 := Lib.hid hb6
            have hn1 : (n : Int) ≤ cp5 := by omega
            clear hbox5 hw5 hf5 hap5 hap6 hwn5 hfn5 hbox6 hw6 hf6 hb6 hst6 hb5
            go_wp2
            go_roundw
            case rel => exact ⟨k + 1, by omega, by go_num, Hst6.out, Hb6.out⟩
            case measure => simp [intOf]; omega
      · obtain rfl : k = L := by omega
        have HS : Hid (FillSt OB FB (.slice la k lc) (.slice (some ⟨pb, poff, none⟩) m pc) wr who (firstF c first (leavesK xs ps f who k)) (c + (leavesK xs ps f who k).length)) := Lib.hid (by rw [← hfe, ← hce]; exact ⟨_, _, hbox, hw, hf, hap, hap2, hwn, hfn⟩)
        clear hbox hw hf hap hap2 hwn hfn hfe hce hnf
        go_wp2
        go_end0
        refine ⟨rfl, ?_, hb⟩
        rw [leaves_succ, ← HL.out]
        exact HS.out
end Go.Proofs.Ytfojfcmjoacbgaa
