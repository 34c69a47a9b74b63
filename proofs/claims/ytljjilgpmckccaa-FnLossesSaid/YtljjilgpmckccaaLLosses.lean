/- The law of the chapter on restarts: the program's losses and checkpoints, at inputs drawn from a code. No condition. -/
import Derived.Test.YtljjilgpmckccaaRestD
import Derived.Test.YtljjilgpmckccaaRestF
import Derived.Test.YtljjilgpmckccaaLawB
import Derived.Deep.DeepCutAuto
namespace Go.Proofs.Ytljjilgpmckccaa
open Go.ChangeShapes Go.WideShapes Go.ChangeAt Go.RowKit
set_option linter.unusedVariables false

set_option maxRecDepth 100000 in
set_option maxHeartbeats 4000000 in
theorem walk_FnLosses (w : World) {x0 : List Int} {v0 : Value} (a0 : Rds eB w.heap.size w v0 x0) :
    Calls Try.prog 9 #[v0] w fun e w' => e = .returned (.bool true) ∧ Below w.heap.size w w' := by
  by_cases hbig : (4096 : Int) < x0.length
  · go_enter Try.func9, Try.ntmps9
    go_wp2_with fail
    refine (f6big_any a0).mono ?_
    rw [decide_eq_true hbig]
    rintro e w' ⟨rfl, rfl⟩
    go_wp2
    go_ret
    exact ⟨rfl, Below.refl _ _⟩
  have Hbig := Lib.hid hbig
  clear hbig
  go_enter Try.func9, Try.ntmps9
  go_wp2_with fail
  refine (f6big_any a0).mono ?_
  rw [decide_eq_false (by have := Hbig.out; omega)]
  rintro e w' ⟨rfl, rfl⟩
  -- the first inputs
  -- the inputs and the answers
  obtain ⟨B, a⟩ : Below w.heap.size w w ∧ Rds eB w.heap.size w v0 x0 := ⟨Below.refl _ _, a0⟩
  clear a0
  go_wp2_with fail
  refine (DrawBestChecks_any a (Nat.le_refl _)).mono ?_
  rintro e w1 ⟨⟨_, ms, count, rfl, oc, l1, k1⟩, bb⟩
  replace a := a.on bb
  replace B := B.trans (bb.mono B.size)
  have c := oc.rds
  obtain ⟨_, _, rfl⟩ := oc.shape
  clear bb oc
  go_wp2_with fail
  refine (BestChecks_c (count := count) (by omega) _ _ (Nat.le_refl _) _ c).mono ?_
  rintro e w2 ⟨_, rfl, od, bb⟩
  replace a := a.on bb
  replace c := c.on bb
  replace B := B.trans (bb.mono B.size)
  have d := od.rds
  obtain ⟨_, _, rfl⟩ := od.shape
  clear bb od
  go_wp2_with fail
  refine (sBestChecks_c (count := count) _ _ (Nat.le_refl _) _ c).mono ?_
  rintro e w3 ⟨_, rfl, og, bb⟩
  replace a := a.on bb
  replace c := c.on bb
  replace d := d.on bb
  replace B := B.trans (bb.mono B.size)
  have g := og.rds
  obtain ⟨_, _, rfl⟩ := og.shape
  clear bb og
  as_aux_lemma =>
  go_wp2_with fail
  refine (DrawChecksFor_any a (Nat.le_refl _)).mono ?_
  rintro e w4 ⟨⟨_, m2, L, rfl, oh, l2, k2⟩, bb⟩
  replace a := a.on bb
  replace c := c.on bb
  replace d := d.on bb
  replace g := g.on bb
  replace B := B.trans (bb.mono B.size)
  have h := oh.rds
  obtain ⟨_, _, rfl⟩ := oh.shape
  clear bb oh
  go_wp2_with fail
  refine (ChecksFor_c (L := L) _ _ (Nat.le_refl _) _ h).mono ?_
  rintro e w5 ⟨_, rfl, oi, bb⟩
  replace a := a.on bb
  replace c := c.on bb
  replace d := d.on bb
  replace g := g.on bb
  replace h := h.on bb
  replace B := B.trans (bb.mono B.size)
  have i := oi.rds
  obtain ⟨_, _, rfl⟩ := oi.shape
  clear bb oi
  go_wp2_with fail
  refine (sChecksFor_c (L := L) _ _ _ h).mono ?_
  rintro e w6 ⟨_, rfl, oj, bb⟩
  replace a := a.on bb
  replace c := c.on bb
  replace d := d.on bb
  replace g := g.on bb
  replace h := h.on bb
  replace i := i.on bb
  replace B := B.trans (bb.mono B.size)
  have j := oj.rds
  obtain ⟨_, _, rfl⟩ := oj.shape
  clear bb oj
  as_aux_lemma =>
  go_wp2_with fail
  refine (DrawLostWork_any a (Nat.le_refl _)).mono ?_
  rintro e w7 ⟨⟨_, ma, _, ca, at_, rfl, op, l3, oq, l4, k3⟩, bb⟩
  replace a := a.on bb
  replace c := c.on bb
  replace d := d.on bb
  replace g := g.on bb
  replace h := h.on bb
  replace i := i.on bb
  replace j := j.on bb
  replace B := B.trans (bb.mono B.size)
  have p := op.rds
  have q := oq.rds
  obtain ⟨_, _, rfl⟩ := op.shape
  obtain ⟨_, _, rfl⟩ := oq.shape
  clear bb op oq
  go_wp2_with fail
  refine (LostWork_c (at_ := at_) (by omega) _ _ _ p _ _ q).mono ?_
  rintro e w8 ⟨rfl, bb⟩
  replace a := a.on bb
  replace c := c.on bb
  replace d := d.on bb
  replace g := g.on bb
  replace h := h.on bb
  replace i := i.on bb
  replace j := j.on bb
  replace p := p.on bb
  replace q := q.on bb
  replace B := B.trans (bb.mono B.size)
  clear bb
  go_wp2_with fail
  refine (sLostWork_c (at_ := at_) _ _ _ p _ _ q).mono ?_
  rintro e w9 ⟨rfl, bb⟩
  replace a := a.on bb
  replace c := c.on bb
  replace d := d.on bb
  replace g := g.on bb
  replace h := h.on bb
  replace i := i.on bb
  replace j := j.on bb
  replace p := p.on bb
  replace q := q.on bb
  replace B := B.trans (bb.mono B.size)
  clear bb
  go_wp2_with fail
  refine (WorstLoss_c _ _ (Nat.le_refl _) _ p _ (Nat.le_refl _) _ q).mono ?_
  rintro e w10 ⟨rfl, bb⟩
  replace a := a.on bb
  replace c := c.on bb
  replace d := d.on bb
  replace g := g.on bb
  replace h := h.on bb
  replace i := i.on bb
  replace j := j.on bb
  replace p := p.on bb
  replace q := q.on bb
  replace B := B.trans (bb.mono B.size)
  clear bb
  go_wp2_with fail
  refine (sWorstLoss_c _ _ _ p _ _ q).mono ?_
  rintro e w11 ⟨rfl, bb⟩
  replace a := a.on bb
  replace c := c.on bb
  replace d := d.on bb
  replace g := g.on bb
  replace h := h.on bb
  replace i := i.on bb
  replace j := j.on bb
  replace p := p.on bb
  replace q := q.on bb
  replace B := B.trans (bb.mono B.size)
  clear bb
  as_aux_lemma =>
  go_wp2_with fail
  refine (SumOfLosses_c _ _ (Nat.le_refl _) _ p _ (Nat.le_refl _) _ q).mono ?_
  rintro e w12 ⟨rfl, bb⟩
  replace a := a.on bb
  replace c := c.on bb
  replace d := d.on bb
  replace g := g.on bb
  replace h := h.on bb
  replace i := i.on bb
  replace j := j.on bb
  replace p := p.on bb
  replace q := q.on bb
  replace B := B.trans (bb.mono B.size)
  clear bb
  go_wp2_with fail
  refine (sSumOfLosses_c _ _ _ p _ _ q).mono ?_
  rintro e w13 ⟨rfl, bb⟩
  replace a := a.on bb
  replace c := c.on bb
  replace d := d.on bb
  replace g := g.on bb
  replace h := h.on bb
  replace i := i.on bb
  replace j := j.on bb
  replace p := p.on bb
  replace q := q.on bb
  replace B := B.trans (bb.mono B.size)
  clear bb
  as_aux_lemma =>
  go_wp2_with fail
  refine (DrawTotalWithFailure_any a (Nat.le_refl _)).mono ?_
  rintro e w14 ⟨⟨_, mb, _, cb, bt, save, rfl, or, l5, os, l6, k4, k5⟩, bb⟩
  replace a := a.on bb
  replace c := c.on bb
  replace d := d.on bb
  replace g := g.on bb
  replace h := h.on bb
  replace i := i.on bb
  replace j := j.on bb
  replace p := p.on bb
  replace q := q.on bb
  replace B := B.trans (bb.mono B.size)
  have r := or.rds
  have s := os.rds
  obtain ⟨_, _, rfl⟩ := or.shape
  obtain ⟨_, _, rfl⟩ := os.shape
  clear bb or os
  go_wp2_with fail
  refine (TotalWithFailure_c (at_ := bt) (save := save) (by omega) _ _ _ r _ _ s).mono ?_
  rintro e w15 ⟨rfl, bb⟩
  replace a := a.on bb
  replace c := c.on bb
  replace d := d.on bb
  replace g := g.on bb
  replace h := h.on bb
  replace i := i.on bb
  replace j := j.on bb
  replace p := p.on bb
  replace q := q.on bb
  replace r := r.on bb
  replace s := s.on bb
  replace B := B.trans (bb.mono B.size)
  clear bb
  go_wp2_with fail
  refine (sTotal_c (at_ := bt) (save := save) _ _ _ r _ _ s).mono ?_
  rintro e w16 ⟨rfl, bb⟩
  replace a := a.on bb
  replace c := c.on bb
  replace d := d.on bb
  replace g := g.on bb
  replace h := h.on bb
  replace i := i.on bb
  replace j := j.on bb
  replace p := p.on bb
  replace q := q.on bb
  replace r := r.on bb
  replace s := s.on bb
  replace B := B.trans (bb.mono B.size)
  clear bb
  -- the tests
  have F3 := order_l (ms := ma) (cs := ca) (at_ := at_)
  have F1 := kept_l (ms := m2) (L := L)
  have Fb := best_l (ms := ms) (count := count)
  have Fm := below_l (ms := ms) (count := count)
  have Fl : ms = ma → BCc ms count = 0 → codeF ma ca true = 0 → (ca.length : Int) ≤ count → WorstR ms (BCr ms count) ≤ WorstR ma ca := fun e h1 h2 h3 => by subst e; rw [(best_l h1).2.2.1]; exact least_l h1 h2 h3
  rw [Bool.decide_and] at F3
  replace F3 := Lib.hid F3
  replace F1 := Lib.hid F1
  replace Fb := Lib.hid Fb
  replace Fm := Lib.hid Fm
  replace Fl := Lib.hid Fl
  clear r s
  generalize hg : codeF ma ca (decide (0 ≤ at_) && decide (at_ ≤ (ma.length : Int) - 1)) = z3 at F3 ⊢
  clear hg
  generalize hg : codeF ma ca true = z5 at Fl ⊢
  clear hg
  generalize hg : LostR ma ca at_ = lo at F3 ⊢
  clear hg
  generalize hg : WorstR ma ca = wo at F3 Fl ⊢
  clear hg
  generalize hg : SumLR ma ca = su at F3 ⊢
  clear hg
  generalize hg : CFc m2 L = z1 at F1 ⊢
  clear hg
  generalize hg : BCc ms count = zb at Fb Fm Fl ⊢
  clear hg
  generalize hg : codeF mb cb (TotalB mb bt save) = z9
  clear hg
  generalize hg : TotalR mb cb bt save = tt0
  clear hg
  as_aux_lemma =>
  go_wp2_with fail
  with_reducible refine (f6ints_c d g).mono ?_
  rw [decide_eq_true rfl]
  rintro e w' ⟨rfl, bb⟩
  replace a := a.on bb
  replace c := c.on bb
  replace d := d.on bb
  replace g := g.on bb
  replace h := h.on bb
  replace i := i.on bb
  replace j := j.on bb
  replace p := p.on bb
  replace q := q.on bb
  replace B := B.trans (bb.mono B.size)
  clear bb
  go_wp2_with fail
  with_reducible refine (f6ints_c i j).mono ?_
  rw [decide_eq_true rfl]
  rintro e w' ⟨rfl, bb⟩
  replace a := a.on bb
  replace c := c.on bb
  replace d := d.on bb
  replace g := g.on bb
  replace h := h.on bb
  replace i := i.on bb
  replace j := j.on bb
  replace p := p.on bb
  replace q := q.on bb
  replace B := B.trans (bb.mono B.size)
  clear bb
  as_aux_lemma =>
  go_upto_region 21 with fail
  go_cut [220] (fun c wx => c = .bool false ∧ wx = w')
  case first =>
    as_aux_lemma =>
    by_cases ez : z3 = 0
    · subst ez
      obtain ⟨f31, f32⟩ := F3.out rfl
      clear F3 F1 Fb Fm Fl
      go_wp2_with fail
      go_meet
      exact ⟨congrArg Value.bool (by simp; omega), rfl⟩
    · have n3 : (z3 == 0) = false := by simpa using ez
      clear ez F3 F1 Fb Fm Fl
      go_wp2_with fail
      go_meet
      exact ⟨rfl, rfl⟩
  case rest =>
    obtain ⟨rfl, rfl⟩ := hcut
    clear F3
    as_aux_lemma =>
    go_upto_if 222 with fail
    go_cut [] (fun wx => Below wc.heap.size wc wx)
    case first =>
      as_aux_lemma =>
      by_cases ez : z1 = 0
      · subst ez
        obtain ⟨f11, f12⟩ := F1.out rfl
        clear F1 Fb Fm Fl
        go_wp2_with fail
        with_reducible refine (WorstLoss_c _ _ (Nat.le_refl _) _ h _ (Nat.le_refl _) _ i).mono ?_
        rintro e w' ⟨rfl, bb⟩
        generalize codeF m2 (CFr m2 L) true = kz at f11 ⊢
        generalize WorstR m2 (CFr m2 L) = kw at f12 ⊢
        subst f11
        go_wp2_with fail
        go_meet
        exact bb
      · have n3 : (z1 == 0) = false := by simpa using ez
        clear ez F1 Fb Fm Fl
        go_wp2_with fail
        go_meet
        exact Below.refl _ _
    case rest =>
      have bb := hcut
      clear hcut F1
      replace a := a.on bb
      replace c := c.on bb
      replace d := d.on bb
      replace g := g.on bb
      replace h := h.on bb
      replace i := i.on bb
      replace j := j.on bb
      replace p := p.on bb
      replace q := q.on bb
      replace B := B.trans (bb.mono B.size)
      clear bb
      as_aux_lemma =>
      by_cases ezb : zb = 0
      case neg =>
        have nzb : (zb != 0) = true := by simpa using ezb
        clear ezb Fb Fm Fl
        go_wp2
        go_ret
        exact ⟨rfl, B⟩
      subst ezb
      obtain ⟨f1, f2, f3, f4, f5, f6, f7⟩ := Fb.out rfl
      have fm := Fm.out rfl
      have fl : Hid (ma = ms → z5 = 0 → (ca.length : Int) ≤ count → WorstR ms (BCr ms count) ≤ wo) := fun e h2 h3 => Fl.out e.symm rfl h2 h3
      clear Fb Fm Fl
      rw [← f3] at f4 f5 f6 f7 fm
      clear f3
      go_wp2_with fail
      with_reducible refine (WorstLoss_c _ _ (Nat.le_refl _) _ c _ (Nat.le_refl _) _ d).mono ?_
      rintro e w' ⟨rfl, bb⟩
      replace a := a.on bb
      replace c := c.on bb
      replace d := d.on bb
      replace g := g.on bb
      replace h := h.on bb
      replace i := i.on bb
      replace j := j.on bb
      replace p := p.on bb
      replace q := q.on bb
      replace B := B.trans (bb.mono B.size)
      clear bb
      generalize WorstR ms (BCr ms count) = bw at f4 f5 f6 f7 fm fl ⊢
      generalize codeF ms (BCr ms count) true = bz at f1 ⊢
      subst f1
      have F5 := Lib.hid f5
      replace fm := Lib.hid fm
      have F4 := Lib.hid f4
      clear f4 f5
      generalize hn : (BCr ms count).length = nd at f2 ⊢
      have Hn := Lib.hid hn
      clear hn
      as_aux_lemma =>
      go_upto_region 32 with fail
      go_cut [269] (fun c wx => c = .bool false ∧ Below w'.heap.size w' wx)
      case first =>
        clear fm
        as_aux_lemma =>
        by_cases ez : z5 = 0
        · subst ez
          by_cases eq0 : ma = ms
          · have eq := Lib.hid eq0
            clear eq0
            go_wp2_with fail
            with_reducible refine (f6ints_c p c).mono ?_
            rw [decide_eq_true eq.out]
            rintro e w' ⟨rfl, bb⟩
            by_cases hca : (ca.length : Int) ≤ count
            · have hbw := fl.out eq.out (by first | rfl | trivial) hca
              clear fl eq
              go_wp2_with fail
              go_meet
              exact ⟨by first | rfl | exact congrArg Value.bool (by simp; omega), bb⟩
            · clear fl eq
              go_wp2_with fail
              go_meet
              exact ⟨by first | rfl | exact congrArg Value.bool (by simp; omega), bb⟩
          · have eq := Lib.hid eq0
            clear eq0
            go_wp2_with fail
            with_reducible refine (f6ints_c p c).mono ?_
            rw [decide_eq_false eq.out]
            rintro e w' ⟨rfl, bb⟩
            clear fl eq
            go_wp2_with fail
            go_meet
            exact ⟨by first | rfl | exact congrArg Value.bool (by simp; omega), bb⟩
        · have nz : (z5 == 0) = false := by simpa using ez
          clear ez fl
          go_wp2_with fail
          go_meet
          exact ⟨rfl, Below.refl _ _⟩
      case rest =>
        obtain ⟨rfl, bb⟩ := hcut
        clear fl
        replace a := a.on bb
        replace c := c.on bb
        replace d := d.on bb
        replace g := g.on bb
        replace h := h.on bb
        replace i := i.on bb
        replace j := j.on bb
        replace p := p.on bb
        replace q := q.on bb
        replace B := B.trans (bb.mono B.size)
        clear bb
        as_aux_lemma =>
        go_wp2_with fail
        with_reducible refine (ChecksFor_c (L := bw) _ _ (Nat.le_refl _) _ c).mono ?_
        rintro e w' ⟨_, rfl, ox, bb⟩
        obtain ⟨_, _, rfl⟩ := ox.shape
        clear ox
        replace a := a.on bb
        replace c := c.on bb
        replace d := d.on bb
        replace g := g.on bb
        replace h := h.on bb
        replace i := i.on bb
        replace j := j.on bb
        replace p := p.on bb
        replace q := q.on bb
        replace B := B.trans (bb.mono B.size)
        clear bb
        rw [F4.out, F5.out, Hn.out]
        by_cases h0 : bw = 0
        · subst h0
          clear fm
          go_wp2
          go_ret
          exact ⟨rfl, B⟩
        have n0 : (bw == 0) = false := by simpa using h0
        have hfm := Lib.hid (fm.out h0)
        clear h0 fm
        go_wp2_with fail
        with_reducible refine (ChecksFor_c (L := bw - 1) _ _ (Nat.le_refl _) _ c).mono ?_
        rintro e w' ⟨_, rfl, oy, bb⟩
        obtain ⟨_, _, rfl⟩ := oy.shape
        clear oy
        replace a := a.on bb
        replace c := c.on bb
        replace d := d.on bb
        replace g := g.on bb
        replace h := h.on bb
        replace i := i.on bb
        replace j := j.on bb
        replace p := p.on bb
        replace q := q.on bb
        replace B := B.trans (bb.mono B.size)
        clear bb
        rcases hfm.out with h3 | ⟨h3, h4⟩
        · rw [h3]
          clear h3
          go_wp2
          go_ret
          exact ⟨rfl, B⟩
        · rw [h3]
          clear h3
          generalize (CFr ms (bw - 1)).length = ny at h4 ⊢
          go_wp2
          go_ret
          exact ⟨rfl, B⟩
namespace fnLosses
theorem own : ownKnob Try.prog.godebug = none := by kernel_rfl
set_option maxRecDepth 100000 in
theorem lifted (os : Os) (started : os.Started) (H : Type) (enc : TypeId × Value → H) :
    ReturnsInHanded {} Try.checked os 9 .any (Rows.fnLossesSpec.pre6 enc Try.prog Try.f9 Rows.fnLossesRow.domain false) (Rows.fnLossesSpec.post enc Try.prog Try.f9 false true false false) := by
  refine returnsInHanded_of_change_sized (C := Try.checked) own started (by kernel_rfl) Try.func9
    (ChangeSpec.witness6 (enc := enc) (C := Try.checked) false ⟨#[], #[.slice none 0 0], []⟩ 8 (by kernel_rfl) (by kernel_rfl) (by kernel_rfl) (by kernel_rfl)) ?_
  intro W base args ds gs before hval0 hW hcnd hsz _
  have hval : ∀ (j : Nat) t v, Try.f9.params[j]? = some t → args[j]? = some v → Value.okWide Try.prog W .any base t v := hval0
  have hW' := hW
  obtain ⟨p, q, hA0, hV, rfl, hfz, hnd⟩ := hW
  have hA : DataW.TrodAll enc Try.prog W 0 (fun _ => true) true Try.f9.params.toList args.toList ds p := hA0
  rw [Try.params9] at hA hval
  obtain ⟨v0, vs0, d0, ds0, p0, s0, hargs, rfl, rfl, h0, q0⟩ := trodAll_cons hA
  obtain ⟨rfl, rfl, rfl⟩ := trodAll_nil q0
  obtain rfl : args = #[v0] := by cases args; simp_all
  obtain ⟨x0, r0, _⟩ := open_rdB Try.underlying35 Try.underlying5 (by kernel_rfl) (hval 0 35 v0 rfl rfl) h0
  exact (walk_FnLosses W r0).mono fun e W' hh => ⟨_, hh.1, law_post (f := Try.f9) (s := Rows.fnLossesSpec) (T := 4) (by kernel_rfl) (of_decide_eq_true (by kernel_rfl)) rfl rfl Try.underlying4 rfl hW' hh.2⟩
theorem proved : Rows.FnLossesSaid :=
  OpenClaim.holds_of_wide 9 Try.f9 rfl rfl rfl rfl rfl rfl rfl ⟨rfl, rfl, rfl, rfl, rfl⟩ rfl rfl rfl rfl rfl (by kernel_rfl) Try.func9 (by kernel_rfl)
    (of_decide_eq_true (by kernel_rfl)) (by unfold Func.isWrapper; first | (rw [if_pos (by decide +kernel)]; kernel_rfl) | (rw [if_neg (by decide +kernel)]; exact ⟨rfl, rfl⟩))
    (fun os started H enc _ => lifted os started H enc)
end fnLosses
#print axioms fnLosses.proved
end Go.Proofs.Ytljjilgpmckccaa
