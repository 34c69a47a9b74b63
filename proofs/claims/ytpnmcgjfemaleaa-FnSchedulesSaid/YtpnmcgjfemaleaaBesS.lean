/- Best orders: the reference's walk through all orders. No condition. -/
import Derived.Test.YtpnmcgjfemaleaaJohI
import Derived.Test.YtpnmcgjfemaleaaEnd4
namespace Go.Proofs.Ytpnmcgjfemaleaa
open Go.ChangeShapes Go.WideShapes Go.ChangeAt Go.RowKit Go.Sort
set_option linter.unusedVariables false
set_option maxRecDepth 100000
theorem grown_set (w : World) (a : Addr) (u : Value) : w.grownBy (w.setCell a u) (some a.block) :=
  ⟨rfl, rfl, rfl, by simp [World.setCell], fun k hk hne => Below.heap_setCell _ _ _ _ (fun e => hne (by rw [e]))⟩
theorem Own.setApart {α : Type} {E : Elt α} {e : TypeId} {base FB j : Nat} {w : World} {v : Value} {xs : List α} (h : Own E e base w v xs) (hne : v.ownBlock ≠ some FB) (u : Value) : Own E e base (w.setCell ⟨FB, j, none⟩ u) v xs :=
  h.kept (grown_set w ⟨FB, j, none⟩ u) (.inr hne)
theorem ne_swapO {a b : Option Nat} (h : a = none ∨ a ≠ b) : b = none ∨ b ≠ a := by
  rcases h with h | h
  · rw [h]
    cases b with
    | none => exact .inl rfl
    | some q => exact .inr (by simp)
  · exact .inr (Ne.symm h)
/-- the first k of a slice of the call's own -/
theorem Own.takeO {e : TypeId} {base g n cap k : Nat} {w : World} {xs : List Int} (h : Own eI e base w (.slice (some ⟨g, 0, none⟩) n cap) xs) (hk : k ≤ n) : Own eI e base w (.slice (some ⟨g, 0, none⟩) k cap) (xs.take k) := by
  have hn : n = xs.length := by
    obtain ⟨ao, c, hs⟩ := h.shape
    cases hs; rfl
  subst hn
  have hlen : (xs.take k).length = k := by rw [List.length_take]; omega
  refine ⟨⟨by rw [eI.all_length], ?_⟩, fun x hx => h.2 x (List.mem_of_mem_take hx)⟩
  rcases h.1.2 with ⟨hx, _⟩ | ⟨g', cap', cur, hv, hb, hg, h1, h2, h3, h4⟩
  · cases hx
  · cases hv
    rw [hlen]
    refine .inr ⟨g, cap, cur, rfl, hb, hg, by omega, h2, h3, ?_⟩
    rw [show xs.length * eI.sz = xs.length from Nat.mul_one _, eI_all] at h4
    rw [show k * eI.sz = k from Nat.mul_one _, eI_all, List.map_take, ← h4, List.take_take]
    congr 1
    omega
theorem mono_bd {x : Int} {b : Bool} : True := trivial
theorem hasI_contains (o : List Int) (k : Int) : hasI o k = o.contains k := rfl
/-- the state of the walk -/
def BesSt (OB FB : Nat) (xss : List (List Int)) (jv : Value) (W : World) (o bst : List Int) : Prop :=
  ∃ wv fv ls, Box W FB [jv, wv, fv, .int .i64 ls] ∧ OwnInt64S OB W wv o ∧ OwnInt64S OB W fv bst ∧ (wv.ownBlock = none ∨ wv.ownBlock ≠ fv.ownBlock) ∧ (fv.ownBlock = none ∨ fv.ownBlock ≠ wv.ownBlock) ∧ wv.ownBlock ≠ some FB ∧ fv.ownBlock ≠ some FB ∧ (bst = [] ∨ (bst.length = xss.length ∧ ls = spanJ xss bst))
set_option maxHeartbeats 2000000 in
theorem bwalk_c {xss : List (List Int)} {jv : Value} {OB FB A : Nat} (hv : validJ xss = true) (hA : A ≤ OB) (hOB : OB ≤ FB) :
    ∀ (f : Nat) (W : World) (o bst : List Int), RdInt64SS A W jv xss → BesSt OB FB xss jv W o bst → o.length + f = xss.length → (∀ i ∈ o, 0 ≤ i ∧ i < xss.length) →
    Calls Try.prog 56 #[.pointer (some ⟨FB, 0, none⟩)] W fun e w' => e = .returned (.tuple #[]) ∧ BesSt OB FB xss jv w' o (visitB xss xss.length f o bst) ∧ Below OB W w' := by
  obtain ⟨hn8, hm4, hrows⟩ := validJ_parts hv
  obtain ⟨i0, hi, hz0, hz1, hz2⟩ := info_parts Try.infoInt64
  intro f
  induction f with
  | zero =>
    intro W o bst hl hst hlen hr
    obtain ⟨wv, fv, ls, hbox, hw, hf, hap, hap2, hwn, hfn, hin⟩ := hst
    obtain ⟨n, hn⟩ : ∃ n, n = xss.length := ⟨_, rfl⟩
    have hol : o.length = n := by omega
    have hspan := fun w' A' (h1 : A' ≤ w'.heap.size) (h2 : RdInt64SS A' w' jv xss) B' (h3 : B' ≤ w'.heap.size) (h4 : RdI B' w' wv o) => l21Span_c h1 h3 h2 h4 hv hr (by omega)
    have ev : visitB xss xss.length 0 o bst = bStep xss bst o := rfl
    rw [ev]
    have hFB := hbox.lt
    have hwr := hw.rds
    obtain ⟨wa, wc, hwe⟩ := hw.shape
    obtain ⟨fa, fc, hfe⟩ := hf.shape
    obtain ⟨la, lc, hle⟩ := hl.shape
    rw [hol] at hwe
    rw [← hn] at hle hn8
    obtain ⟨nf, hnf⟩ : ∃ nf, nf = bst.length := ⟨_, rfl⟩
    rw [← hnf] at hfe
    subst hwe hfe hle
    have c0 := hbox.cell 0 _ rfl
    have c1 := hbox.cell 1 _ rfl
    have Hspan := Lib.hid hspan
    have Hl := Lib.hid hl
    have Hw := Lib.hid hw
    have Hf := Lib.hid hf
    have Hbox := Lib.hid hbox
    have Hap := Lib.hid hap
    have Hap2 := Lib.hid hap2
    have Hwn := Lib.hid hwn
    have Hfn := Lib.hid hfn
    have Hn := Lib.hid hn
    have Hol := Lib.hid hol
    have Hnf := Lib.hid hnf
    have Hin := Lib.hid hin
    have Hwr := Lib.hid hwr
    clear hspan hl hw hf hbox hap hap2 hwn hfn hn hol hnf hin hwr hlen hr ev
    go_enter Try.func56, Try.ntmps56
    go_wp2
    go_quiet (fail)
    have hbox1 := Hbox.out.drewN nq
    have hl1 : RdInt64SS A (W.drewN nq) (.slice la n lc) xss := Hl.out.below ((Below.refl (W.drewN nq).heap.size W).drewNy nq) (by show A ≤ W.heap.size; omega)
    have hw1 : OwnInt64S OB (W.drewN nq) (.slice wa n wc) o := Hw.out.drewN nq
    have hf1 : OwnInt64S OB (W.drewN nq) (.slice fa nf fc) bst := Hf.out.drewN nq
    have hb1 : Below OB W (W.drewN nq) := (Below.refl _ _).drewNy nq
    have HB1 := Lib.hid hbox1
    have HL1 := Lib.hid hl1
    have HW1 := Lib.hid hw1
    have HF1 := Lib.hid hf1
    have Hb1 := Lib.hid hb1
    clear c0 c1 hbox1 hl1 hw1 hf1 hb1 Hbox Hl Hw Hf Hwr hFB
    generalize W.drewN nq = w1 at HB1 HL1 HW1 HF1 Hb1 ⊢
    have c0 := HB1.out.cell 0 _ rfl
    have c1 := HB1.out.cell 1 _ rfl
    have hFB1 := HB1.out.lt
    have hcon := fun d os => Hspan.out (grow (redrawn w1 d) os) A (Nat.le_trans (by omega) (below_regrown w1 d os).size) (HL1.out.below (below_regrown w1 d os) (by omega)) w1.heap.size (below_regrown w1 d os).size (Rds.regrown HW1.out.rds (Nat.le_refl _) d os)
    have f0 := cell_regrown c0
    have f1 := cell_regrown c1
    have Hcon := Lib.hid hcon
    clear hcon c0 c1
    go_wp2
    refine wp_region_quiet_below (by kernel_rfl) (by kernel_rfl) ?_
    repeat ((with_reducible refine wpQuiet_step (fun K hK => ?_)); go_simp; first | ((with_reducible refine hK _ ?_); clear hK K) | (apply Exists.intro; refine ⟨fun _ => ?_, hK _ ?_⟩; ((go_at_call 79; exact qb_below (Hcon.out _ _))); clear hK K))
    refine wpQuiet_nil ?_
    intro _ hw'
    obtain ⟨⟨dq, osq⟩, hw''⟩ := hw'
    subst hw''
    have hbq := below_regrown w1 dq osq
    generalize grow (redrawn w1 dq) osq = wq at hbq ⊢
    have HB2 := Lib.hid (HB1.out.on hbq)
    have HW2 := Lib.hid (HW1.out.below hbq (Nat.le_refl _))
    have HF2 := Lib.hid (HF1.out.below hbq (Nat.le_refl _))
    have Hb2 := Lib.hid (Hb1.out.trans (hbq.mono (by omega)))
    have hszq := hbq.size
    have g1 := HB2.out.cell 1 _ rfl
    have g2 := HB2.out.cell 2 _ rfl
    have g3 := HB2.out.cell 3 _ rfl
    generalize hsp : spanJ xss o = sp
    have Hsp := Lib.hid hsp
    clear hsp f0 f1 hbq Hcon HB1 HL1 HW1 HF1 Hb1
    by_cases h0 : nf = 0
    · have hbs : bStep xss bst o = o := by unfold bStep; rw [if_pos (.inl (List.eq_nil_of_length_eq_zero (by have := Hnf.out; omega)))]
      have Hbs := Lib.hid hbs
      have t0 : ((nf : Int) == 0) = true := by simp; omega
      clear hbs h0
      go_wp2_with fail
      with_reducible refine (l00Own_c HW2.out.rds (by have := Hol.out; omega)).mono ?_
      rintro e w3 ⟨u0, rfl, hu, hb3⟩
      obtain ⟨ua, uc, hue⟩ := hu.shape
      rw [Hol.out] at hue
      subst hue
      have hul := hu.lt
      have hwl := HW2.out.lt
      have hsz := hb3.size
      have hbox3 := HB2.out.on hb3
      have hbox5 := (hbox3.set1 (j := 2) (by simp) (.slice ua n uc)).set1 (j := 3) (by simp) (.int .i64 sp)
      have hw3 := ((HW2.out.below hb3 (Nat.le_refl _)).setApart (j := 2) Hwn.out (.slice ua n uc)).setApart (j := 3) Hwn.out (.int .i64 sp)
      have hun : (Value.slice ua n uc).ownBlock ≠ some FB := fun hh => by have := (hul _ hh).1; omega
      have hu3 := ((hu.mono (show OB ≤ wq.heap.size by omega)).setApart (j := 2) hun (.slice ua n uc)).setApart (j := 3) hun (.int .i64 sp)
      have d2 := hbox3.cell 2 _ rfl
      have d3 := hbox3.cell 3 _ rfl
      have e2 := hbox3.free 2
      have e3 := hbox3.free 3
      have HbF : Hid (Below OB W ((w3.setCell ⟨FB, 2, none⟩ (.slice ua n uc)).setCell ⟨FB, 3, none⟩ (.int .i64 sp))) := Lib.hid (((Hb2.out.trans (hb3.mono (by omega))).setCell (by show OB ≤ FB; omega) _).setCell (by show OB ≤ FB; omega) _)
      have HS : Hid (BesSt OB FB xss (.slice la n lc) ((w3.setCell ⟨FB, 2, none⟩ (.slice ua n uc)).setCell ⟨FB, 3, none⟩ (.int .i64 sp)) o (bStep xss bst o)) := Lib.hid (by
        rw [Hbs.out]
        refine ⟨_, _, sp, hbox5, hw3, hu3, ?_, ?_, Hwn.out, hun, .inr ⟨by rw [Hol.out, Hn.out], Hsp.out.symm⟩⟩
        · cases hwb : (Value.slice wa n wc).ownBlock with
          | none => exact .inl rfl
          | some q => exact .inr (by intro hh; have := hul q hh.symm; have := hwl q hwb; omega)
        · cases hub : (Value.slice ua n uc).ownBlock with
          | none => exact .inl rfl
          | some q => exact .inr (by intro hh; have := hul q hub; have := hwl q hh.symm; omega))
      clear hu hb3 hbox3 hbox5 hw3 hu3 hul hwl hun
      go_wp2
      exact bodyPost_ret (v := .tuple #[]) (by simp [results, Try.results56, go_sem]) rfl ⟨rfl, HS.out, HbF.out⟩
    · have t0 : ((nf : Int) == 0) = false := by simp; omega
      have hne : bst ≠ [] := fun h => h0 (by have := Hnf.out; rw [h] at this; exact this)
      have hls : ls = spanJ xss bst := by
        rcases Hin.out with h | h
        · exact absurd h hne
        · exact h.2
      by_cases h1 : sp < ls
      · have hbs : bStep xss bst o = o := by unfold bStep; rw [if_pos (.inr (by rw [Hsp.out, ← hls]; exact h1))]
        have Hbs := Lib.hid hbs
        clear hbs h0 hne hls
        go_wp2_with fail
        with_reducible refine (l00Own_c HW2.out.rds (by have := Hol.out; omega)).mono ?_
        rintro e w3 ⟨u0, rfl, hu, hb3⟩
        obtain ⟨ua, uc, hue⟩ := hu.shape
        rw [Hol.out] at hue
        subst hue
        have hul := hu.lt
        have hwl := HW2.out.lt
        have hsz := hb3.size
        have hbox3 := HB2.out.on hb3
        have hbox5 := (hbox3.set1 (j := 2) (by simp) (.slice ua n uc)).set1 (j := 3) (by simp) (.int .i64 sp)
        have hw3 := ((HW2.out.below hb3 (Nat.le_refl _)).setApart (j := 2) Hwn.out (.slice ua n uc)).setApart (j := 3) Hwn.out (.int .i64 sp)
        have hun : (Value.slice ua n uc).ownBlock ≠ some FB := fun hh => by have := (hul _ hh).1; omega
        have hu3 := ((hu.mono (show OB ≤ wq.heap.size by omega)).setApart (j := 2) hun (.slice ua n uc)).setApart (j := 3) hun (.int .i64 sp)
        have d2 := hbox3.cell 2 _ rfl
        have d3 := hbox3.cell 3 _ rfl
        have e2 := hbox3.free 2
        have e3 := hbox3.free 3
        have HbF : Hid (Below OB W ((w3.setCell ⟨FB, 2, none⟩ (.slice ua n uc)).setCell ⟨FB, 3, none⟩ (.int .i64 sp))) := Lib.hid (((Hb2.out.trans (hb3.mono (by omega))).setCell (by show OB ≤ FB; omega) _).setCell (by show OB ≤ FB; omega) _)
        have HS : Hid (BesSt OB FB xss (.slice la n lc) ((w3.setCell ⟨FB, 2, none⟩ (.slice ua n uc)).setCell ⟨FB, 3, none⟩ (.int .i64 sp)) o (bStep xss bst o)) := Lib.hid (by
          rw [Hbs.out]
          refine ⟨_, _, sp, hbox5, hw3, hu3, ?_, ?_, Hwn.out, hun, .inr ⟨by rw [Hol.out, Hn.out], Hsp.out.symm⟩⟩
          · cases hwb : (Value.slice wa n wc).ownBlock with
            | none => exact .inl rfl
            | some q => exact .inr (by intro hh; have := hul q hh.symm; have := hwl q hwb; omega)
          · cases hub : (Value.slice ua n uc).ownBlock with
            | none => exact .inl rfl
            | some q => exact .inr (by intro hh; have := hul q hub; have := hwl q hh.symm; omega))
        clear hu hb3 hbox3 hbox5 hw3 hu3 hul hwl hun
        go_wp2
        exact bodyPost_ret (v := .tuple #[]) (by simp [results, Try.results56, go_sem]) rfl ⟨rfl, HS.out, HbF.out⟩
      · have hbs : bStep xss bst o = bst := by unfold bStep; rw [if_neg (by rw [Hsp.out, ← hls]; exact fun h => h.elim (fun h => hne h) h1)]
        have Hbs := Lib.hid hbs
        have t1 : decide (sp < ls) = false := decide_eq_false h1
        clear hbs h0 hne hls h1
        have HbF := Hb2
        have HS : Hid (BesSt OB FB xss (.slice la n lc) wq o (bStep xss bst o)) := Lib.hid (by
          rw [Hbs.out]
          exact ⟨_, _, ls, HB2.out, HW2.out, HF2.out, Hap.out, Hap2.out, Hwn.out, Hfn.out, Hin.out⟩)
        go_wp2
        exact bodyPost_ret (v := .tuple #[]) (by simp [results, Try.results56, go_sem]) rfl ⟨rfl, HS.out, HbF.out⟩
  | succ f ih =>
    intro W o bst hl hst hlen hr
    obtain ⟨n, hn⟩ : ∃ n, n = xss.length := ⟨_, rfl⟩
    obtain ⟨m, hm⟩ : ∃ m, m = o.length := ⟨_, rfl⟩
    have hlt : m < n := by omega
    rw [← hn] at hn8 hlen hr ih ⊢
    have Hst := Lib.hid hst
    have Hl := Lib.hid hl
    have Hn := Lib.hid hn
    have Hm := Lib.hid hm
    have Hlen := Lib.hid hlen
    have Hr := Lib.hid hr
    have hne : ((m : Int) == (n : Int)) = false := by simp; omega
    obtain ⟨wv, fv, ls, hbox, hw, hf, hap, hap2, hwn, hfn, hin⟩ := hst
    have hFBl := hbox.lt
    obtain ⟨la, lc, hle⟩ := hl.shape
    rw [← hn] at hle
    subst hle
    obtain ⟨wa, wc, hwe⟩ := hw.shape
    rw [← hm] at hwe
    subst hwe
    have c0 := hbox.cell 0 _ rfl
    have c1 := hbox.cell 1 _ rfl
    clear hl hn hm hlen hr hbox hw hf hap hap2 hwn hfn hin
    go_enter Try.func56, Try.ntmps56
    go_wp2
    go_quiet (fail)
    have Hst0 : Hid (BesSt OB FB xss (.slice la n lc) (W.drewN nq) o bst) := Lib.hid (by
      obtain ⟨wv, fv, ls, h1, h2, h3, h4⟩ := Hst.out
      exact ⟨wv, fv, ls, h1.drewN nq, h2, h3, h4⟩)
    have Hb0 : Hid (Below OB W (W.drewN nq)) := Lib.hid ((Below.refl _ _).drewNy nq)
    have hszz : FB < (W.drewN nq).heap.size := hFBl
    clear c0 c1 hFBl Hst
    generalize W.drewN nq = w0 at Hst0 Hb0 hszz ⊢
    go_wp2
    go_loopw [3] (fun i wr => ∃ k : Nat, k ≤ n ∧ i = .int .i64 k ∧ BesSt OB FB xss (.slice la n lc) wr o (visitK xss n f o bst k) ∧ Below OB W wr) (fun i _ => n - (intOf i).toNat)
    case atStart => exact ⟨0, Nat.zero_le _, rfl, by rw [visitK_zero]; exact Hst0.out, Hb0.out⟩
    case round =>
      obtain ⟨k, hk, rfl, hst, hb⟩ := hrel
      clear Hst0 Hb0 hszz
      obtain ⟨wv, fv, ls, hbox, hw, hf, hap, hap2, hwn, hfn, hin⟩ := hst
      obtain ⟨wa, wc, hwe⟩ := hw.shape
      rw [← Hm.out] at hwe
      subst hwe
      obtain ⟨b', hbe⟩ : ∃ b', b' = visitK xss n f o bst k := ⟨_, rfl⟩
      rw [← hbe] at hf hin
      have e0 := hbox.cell 0 _ rfl
      have e1 := hbox.cell 1 _ rfl
      by_cases hkn : k < n
      · have hks := visitK_succ xss n f o bst k
        rw [← hbe] at hks
        have hwr := hw.rds
        have Hwr := Lib.hid hwr
        have Hks := Lib.hid hks
        have Hbox := Lib.hid hbox
        have Hw := Lib.hid hw
        have Hf := Lib.hid hf
        have Hap := Lib.hid hap
        have Hap2 := Lib.hid hap2
        have Hwn := Lib.hid hwn
        have Hfn := Lib.hid hfn
        have Hin := Lib.hid hin
        have Hb := Lib.hid hb
        have Hbe := Lib.hid hbe
        have hcon2 := l00Has_c (k : Int) Hwr.out
        clear hks hwr hbox hw hf hap hap2 hwn hfn hin hb hbe
        cases hhas : hasI o (k : Int) with
        | true =>
          rw [hhas] at hcon2
          have h8 := Hks.out
          rw [if_pos (by rw [← hasI_contains]; exact hhas)] at h8
          have Hcon2 := Lib.hid hcon2
          have H8 := Lib.hid h8
          clear hhas hcon2 h8
          go_wp2_with fail
          with_reducible refine Hcon2.out.mono ?_
          rintro e w2 ⟨rfl, rfl⟩
          go_wp2
          go_roundw
          case rel => exact ⟨k + 1, by omega, by go_num, by rw [H8.out]; exact ⟨_, _, ls, Hbox.out, Hw.out, Hf.out, Hap.out, Hap2.out, Hwn.out, Hfn.out, Hin.out⟩, Hb.out⟩
          case measure => simp [intOf]; omega
        | false =>
          rw [hhas] at hcon2
          have h8 := Hks.out
          rw [if_neg (by rw [← hasI_contains, hhas]; decide)] at h8
          have Hcon2 := Lib.hid hcon2
          have H8 := Lib.hid h8
          have hFBr := Hbox.out.lt
          have Hqp : eI.ok (k : Int) := by show -9223372036854775808 ≤ (k : Int) ∧ (k : Int) ≤ 9223372036854775807; omega
          have Hln := Lib.hid Hm.out.symm
          clear hhas hcon2 h8
          go_wp2_with fail
          with_reducible refine Hcon2.out.mono ?_
          rintro e w2 ⟨rfl, rfl⟩
          go_wp2_with (first | (at_builtin; refine wpList_appS (E := eI) rfl _ _ 29 rfl Try.underlying29 hi hz0 hz1 hz2 rfl (by decide) rfl rfl (Hw.out.alloc _) (rds_one (E := eI) (x := (k : Int)) Hqp rfl) ?b1 ?b2 ?b3 ?_))
          case b1 => rw [Hln.out]; unfold maxLen; simp; omega
          case b2 => rw [Hln.out]; simp; omega
          case b3 => simp; omega
          intro v' w3 hR hg
          have hg2 := hg.alloc
          have hwl := Hw.out.lt
          have hfl := Hf.out.lt
          have hbox3 := Hbox.out.kept hg2.1 Hwn.out
          have hvn : v'.ownBlock ≠ some FB := by
            rcases hg2.2 with h6 | ⟨q, h6, h7⟩
            · rw [h6]; exact Hwn.out
            · rw [h6]; intro hh; cases hh; omega
          have hf3 := Hf.out.kept hg2.1 Hap2.out
          have hb3 := hg2.below Hb.out (by omega) (fun q hq => by have := (hwl q hq).1; omega)
          obtain ⟨g, cp, hve, hgb, hgl⟩ := hR.addr (by simp)
          rw [show (o ++ [(k : Int)]).length = m + 1 by rw [List.length_append, Hln.out]; rfl] at hve
          have hap3 : (v'.ownBlock = none ∨ v'.ownBlock ≠ fv.ownBlock) ∧ (fv.ownBlock = none ∨ fv.ownBlock ≠ v'.ownBlock) := by
            have h5 : v'.ownBlock = none ∨ v'.ownBlock ≠ fv.ownBlock := by
              rcases hg2.2 with h6 | ⟨q, h6, h7⟩
              · rw [h6]; exact Hap.out
              · rw [h6]; right; intro hh; have := (hfl q hh.symm).2; omega
            exact ⟨h5, ne_swapO h5⟩
          subst hve
          have f2 := hbox3.free 1
          have g3 := hbox3.cell 1 _ rfl
          have hbox4 := hbox3.set1 (j := 1) (by simp) (.slice (some ⟨g, 0, none⟩) (m + 1) cp)
          have hR4 := Own.setApart hR (j := 1) hvn (.slice (some ⟨g, 0, none⟩) (m + 1) cp)
          have hf4 := hf3.setApart (j := 1) Hfn.out (.slice (some ⟨g, 0, none⟩) (m + 1) cp)
          have hb4 := hb3.setCell (p := ⟨FB, 1, none⟩) (by show OB ≤ FB; omega) (.slice (some ⟨g, 0, none⟩) (m + 1) cp)
          have hst4 : BesSt OB FB xss (.slice la n lc) (w3.setCell ⟨FB, 1, none⟩ (.slice (some ⟨g, 0, none⟩) (m + 1) cp)) (o ++ [(k : Int)]) b' := ⟨_, _, ls, hbox4, hR4, hf4, hap3.1, hap3.2, hvn, Hfn.out, Hin.out⟩
          have hcall := ih _ _ _ (Hl.out.below hb4 hA) hst4 (by rw [List.length_append, Hln.out]; have := Hlen.out; have := Hln.out; simp; omega) (fun x hx => by
            rcases List.mem_append.1 hx with hx | hx
            · exact Hr.out x hx
            · rw [List.mem_singleton.1 hx]; omega)
          have Hcall := Lib.hid hcall
          have Hb4 := Lib.hid hb4
          clear hR hg hg2 hwl hfl hvn hbox3 hf3 hb3 hap3 hbox4 hR4 hf4 hb4 hst4 hcall e0 e1
          go_wp2_with fail
          with_reducible refine Hcall.out.mono ?_
          rintro e w5 ⟨rfl, hst5, hb5⟩
          obtain ⟨wv5, fv5, ls5, hbox5, hw5, hf5, hap5, hap6, hwn5, hfn5, hin5⟩ := hst5
          obtain ⟨g5, cp5, hve5, hgb5, hgl5⟩ := hw5.addr (by simp)
          rw [show (o ++ [(k : Int)]).length = m + 1 by rw [List.length_append, Hln.out]; rfl] at hve5
          subst hve5
          have hcap5 : m + 1 ≤ cp5 := hw5.rds.cap.1
          have i2 := hbox5.cell 1 _ rfl
          have j2 := hbox5.free 1
          have hbox6 := hbox5.set1 (j := 1) (by simp) (.slice (some ⟨g5, 0, none⟩) m cp5)
          have hw6 := (Own.takeO (k := m) hw5 (by omega)).setApart (j := 1) hwn5 (.slice (some ⟨g5, 0, none⟩) m cp5)
          rw [List.take_append_of_le_length (by rw [Hln.out]; exact Nat.le_refl _), List.take_of_length_le (by rw [Hln.out]; exact Nat.le_refl _)] at hw6
          have hf6 := hf5.setApart (j := 1) hfn5 (.slice (some ⟨g5, 0, none⟩) m cp5)
          have hb6 := (Hb4.out.trans (hb5.mono (Nat.le_refl _))).setCell (p := ⟨FB, 1, none⟩) (by show OB ≤ FB; omega) (.slice (some ⟨g5, 0, none⟩) m cp5)
          have hst6 : BesSt OB FB xss (.slice la n lc) (w5.setCell ⟨FB, 1, none⟩ (.slice (some ⟨g5, 0, none⟩) m cp5)) o (visitK xss n f o bst (k + 1)) := by
            rw [H8.out]
            exact ⟨_, _, ls5, hbox6, hw6, hf6, hap5, hap6, hwn5, hfn5, hin5⟩
          have Hst6 := Lib.hid hst6
          have Hb6 := Lib.hid hb6
          have hn1 : (m : Int) ≤ cp5 := by omega
          clear hbox5 hw5 hf5 hap5 hap6 hwn5 hfn5 hbox6 hw6 hf6 hb6 hst6 hb5 hin5
          go_wp2
          go_roundw
          case rel => exact ⟨k + 1, by omega, by go_num, Hst6.out, Hb6.out⟩
          case measure => simp [intOf]; omega
      · obtain rfl : k = n := by omega
        have HS : Hid (BesSt OB FB xss (.slice la k lc) wr o (visitK xss k f o bst k)) := Lib.hid (by rw [← hbe]; exact ⟨_, _, ls, hbox, hw, hf, hap, hap2, hwn, hfn, hin⟩)
        clear hbox hw hf hap hap2 hwn hfn hin hbe
        go_wp2
        go_end0
        refine ⟨rfl, ?_, hb⟩
        rw [visitB_succ]
        exact HS.out
end Go.Proofs.Ytpnmcgjfemaleaa
