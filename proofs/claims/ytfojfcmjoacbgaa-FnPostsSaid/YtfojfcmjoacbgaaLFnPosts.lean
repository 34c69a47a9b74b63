/- The law of the posts: posts that are filled have no fault, the number of fillings is 0 just if not all can be filled, and a skill that is told is enough. No condition. -/
import Derived.Test.YtfojfcmjoacbgaaOpD4
import Derived.Test.YtfojfcmjoacbgaaPostsP
import Derived.Test.YtfojfcmjoacbgaaPost3
import Derived.Test.YtfojfcmjoacbgaaLawB
import Derived.Deep.DeepCutAuto
namespace Go.Proofs.Ytfojfcmjoacbgaa
open Go.ChangeShapes Go.WideShapes Go.ChangeAt Go.RowKit
set_option linter.unusedVariables false
set_option maxRecDepth 100000
theorem sPostFault_b {xs : List OperatorT} {ps who : List Int} {v u z : Value} {w : World} {A B C : Nat} (ha : RdOperatorS A w v xs) (hp : RdI B w u ps) (hw : RdI C w z who) :
    Calls Try.prog 29 #[v, u, z] w fun e w' => e = .returned (.tuple #[.int .i64 (PFV xs ps who), .int .i64 (PFC xs ps who)]) ∧ Below w.heap.size w w' :=
  (sPostFault_c ha hp hw).mono fun e w' ⟨h1, q, h2⟩ => ⟨h1, by rw [h2]; exact (Below.refl _ _).drewNy _⟩
set_option maxRecDepth 100000 in
set_option maxHeartbeats 4000000 in
theorem walk_FnPosts (w : World) {x0 : List Int} {v0 : Value} (a0 : Rds eB w.heap.size w v0 x0) :
    Calls Try.prog 12 #[v0] w fun e w' => e = .returned (.bool true) ∧ Below w.heap.size w w' := by
  by_cases hbig : (4096 : Int) < x0.length
  · go_enter Try.func12, Try.ntmps12
    go_wp2_with fail
    refine (f6big_any a0).mono ?_
    rw [decide_eq_true hbig]
    rintro e w' ⟨rfl, rfl⟩
    go_wp2
    go_ret
    exact ⟨rfl, Below.refl _ _⟩
  have Hbig := Lib.hid hbig
  clear hbig
  go_enter Try.func12, Try.ntmps12
  go_wp2_with fail
  refine (f6big_any a0).mono ?_
  rw [decide_eq_false (by have := Hbig.out; omega)]
  rintro e w' ⟨rfl, rfl⟩
  obtain ⟨B, a⟩ : Below w.heap.size w w ∧ Rds eB w.heap.size w v0 x0 := ⟨Below.refl _ _, a0⟩
  clear a0
  go_wp2_with fail
  with_reducible refine (DrawFillPosts_any a (Nat.le_refl _)).mono ?_
  rintro e w' ⟨⟨ul, up, xs, ps, rfl, ol, l1, op, l2⟩, bb⟩
  replace a := a.on bb
  replace B := B.trans (bb.mono B.size)
  clear bb
  have l := ol.rds
  clear ol
  have p := op.rds
  clear op
  obtain ⟨po, pcap, rfl⟩ := p.shape
  go_wp2_with fail
  with_reducible refine (FillPosts_c (Nat.le_refl _) (Nat.le_refl _) l p).mono ?_
  rintro e w' ⟨uz, rfl, oz, bb⟩
  replace a := a.on bb
  replace l := l.on bb
  replace p := p.on bb
  replace B := B.trans (bb.mono B.size)
  clear bb
  have z := oz.rds
  clear oz
  go_wp2_with fail
  with_reducible refine (sFillPosts_c (Nat.le_refl _) (Nat.le_refl _) l p).mono ?_
  rintro e w' ⟨um, rfl, om, bb⟩
  replace a := a.on bb
  replace l := l.on bb
  replace p := p.on bb
  replace z := z.on bb
  replace B := B.trans (bb.mono B.size)
  clear bb
  have m := om.rds
  clear om
  go_wp2_with fail
  with_reducible refine (CountFillings_c (Nat.le_refl _) (Nat.le_refl _) l p).mono ?_
  rintro e w' ⟨rfl, bb⟩
  replace a := a.on bb
  replace l := l.on bb
  replace p := p.on bb
  replace z := z.on bb
  replace m := m.on bb
  replace B := B.trans (bb.mono B.size)
  clear bb
  go_wp2_with fail
  with_reducible refine (sCountFillings_c (Nat.le_refl _) (Nat.le_refl _) l p).mono ?_
  rintro e w' ⟨rfl, bb⟩
  replace a := a.on bb
  replace l := l.on bb
  replace p := p.on bb
  replace z := z.on bb
  replace m := m.on bb
  replace B := B.trans (bb.mono B.size)
  clear bb
  go_wp2_with fail
  with_reducible refine (MostPosts_c (Nat.le_refl _) (Nat.le_refl _) l p).mono ?_
  rintro e w' ⟨rfl, bb⟩
  replace a := a.on bb
  replace l := l.on bb
  replace p := p.on bb
  replace z := z.on bb
  replace m := m.on bb
  replace B := B.trans (bb.mono B.size)
  clear bb
  go_wp2_with fail
  with_reducible refine (sMostPosts_c (Nat.le_refl _) (Nat.le_refl _) l p).mono ?_
  rintro e w' ⟨rfl, bb⟩
  replace a := a.on bb
  replace l := l.on bb
  replace p := p.on bb
  replace z := z.on bb
  replace m := m.on bb
  replace B := B.trans (bb.mono B.size)
  clear bb
  go_wp2_with fail
  with_reducible refine (TrainOne_c (Nat.le_refl _) (Nat.le_refl _) l p).mono ?_
  rintro e w' ⟨rfl, bb⟩
  replace a := a.on bb
  replace l := l.on bb
  replace p := p.on bb
  replace z := z.on bb
  replace m := m.on bb
  replace B := B.trans (bb.mono B.size)
  clear bb
  go_wp2_with fail
  with_reducible refine (sTrainOne_c (Nat.le_refl _) (Nat.le_refl _) l p).mono ?_
  rintro e w' ⟨rfl, bb⟩
  replace a := a.on bb
  replace l := l.on bb
  replace p := p.on bb
  replace z := z.on bb
  replace m := m.on bb
  replace B := B.trans (bb.mono B.size)
  clear bb
  go_wp2_with fail
  with_reducible refine (DrawPostFault_any a (Nat.le_refl _)).mono ?_
  rintro e w' ⟨⟨ux, uy, uw, x2, p2, q2, rfl, ox, l3, oy, l4, oq, l5⟩, bb⟩
  replace a := a.on bb
  replace l := l.on bb
  replace p := p.on bb
  replace z := z.on bb
  replace m := m.on bb
  replace B := B.trans (bb.mono B.size)
  clear bb
  have x := ox.rds
  clear ox
  have y := oy.rds
  clear oy
  have q := oq.rds
  clear oq
  go_wp2_with fail
  with_reducible refine (PostFault_c x y q).mono ?_
  rintro e w' ⟨rfl, bb⟩
  replace a := a.on bb
  replace l := l.on bb
  replace p := p.on bb
  replace z := z.on bb
  replace m := m.on bb
  replace x := x.on bb
  replace y := y.on bb
  replace q := q.on bb
  replace B := B.trans (bb.mono B.size)
  clear bb
  go_wp2_with fail
  with_reducible refine (sPostFault_b x y q).mono ?_
  rintro e w' ⟨rfl, bb⟩
  replace a := a.on bb
  replace l := l.on bb
  replace p := p.on bb
  replace z := z.on bb
  replace m := m.on bb
  replace x := x.on bb
  replace y := y.on bb
  replace q := q.on bb
  replace B := B.trans (bb.mono B.size)
  clear bb
  clear x y q
  have F1 := posts_one (xs := xs) (ps := ps)
  have F2 := posts_two (xs := xs) (ps := ps)
  have F3 := posts_three (xs := xs) (ps := ps)
  replace F1 := Lib.hid F1
  replace F2 := Lib.hid F2
  replace F3 := Lib.hid F3
  generalize hg : PFV x2 p2 q2 = fv
  clear hg
  generalize hg : PFC x2 p2 q2 = fw
  clear hg
  generalize hg : TRC xs ps = tc at F2 ⊢
  clear hg
  generalize hg : TRK xs ps = tk at F2 ⊢
  clear hg
  generalize hg : TRM xs ps = tm at F2 ⊢
  clear hg
  generalize hg : MPV xs ps = mp at F1 ⊢
  clear hg
  generalize hg : PCode xs ps = pc at F1 ⊢
  clear hg
  generalize hg : CFV xs ps = cf at F1 ⊢
  clear hg
  generalize hg : FPC xs ps = fc at F1 F3 ⊢
  clear hg
  generalize hg : FPR xs ps = fr at F3 z m ⊢
  clear hg
  obtain ⟨n, hn⟩ : ∃ n, ps.length = n := ⟨_, rfl⟩
  rw [hn] at F1 F2 l2 ⊢
  rw [hn] at p
  have Hn := Lib.hid hn
  clear hn
  as_aux_lemma =>
  go_wp2_with fail
  with_reducible refine (f6ints_c z m).mono ?_
  rw [decide_eq_true rfl]
  rintro e w' ⟨rfl, bb⟩
  replace a := a.on bb
  replace l := l.on bb
  replace p := p.on bb
  replace z := z.on bb
  replace m := m.on bb
  replace B := B.trans (bb.mono B.size)
  clear bb
  clear m
  as_aux_lemma =>
  go_upto_region 17 with fail
  go_cut [184] (fun c wx => c = .bool false ∧ wx = w')
  case first =>
    as_aux_lemma =>
    by_cases ez : pc = 0
    · subst ez
      obtain ⟨⟨g1, g2⟩, g3, g4⟩ := F1.out rfl
      by_cases ec : cf = 0
      · have e1 := g1 ec
        have e2 := g3 ec
        subst ec
        subst e1
        clear g1 g2 g3 g4 F1 F2 F3
        go_wp2_with fail
        go_meet
        exact ⟨by first | rfl | exact congrArg Value.bool (by simp; omega), rfl⟩
      · have e1 : (fc == 3) = false := by simpa using fun h => ec (g2 h)
        have e2 : ¬ mp < (n : Int) := fun h => ec (g4 h)
        have e3 : (cf == 0) = false := by simpa using ec
        clear g1 g2 g3 g4 F1 F2 F3 ec
        go_wp2_with fail
        go_meet
        exact ⟨by first | rfl | exact congrArg Value.bool (by simp; omega), rfl⟩
    · have n3 : (pc == 0) = false := by simpa using ez
      clear ez F1 F2 F3
      go_wp2_with fail
      go_meet
      exact ⟨rfl, rfl⟩
  case rest =>
    obtain ⟨rfl, rfl⟩ := hcut
    clear F1
    as_aux_lemma =>
    go_upto_if 186 with fail
    go_cut [] (fun wx => Below wc.heap.size wc wx)
    case first =>
      as_aux_lemma =>
      by_cases ez : tc = 0
      · subst ez
        obtain ⟨f1, f2, f3⟩ := F2.out rfl
        have Hf1 := Lib.hid f1
        have Hf2 := Lib.hid f2
        have Hf3 := Lib.hid f3
        clear F2 F3 f1 f2 f3
        go_wp2_with fail
        with_reducible refine (TeachOperator_c tk tm l).mono ?_
        rintro e w' ⟨ut, rfl, ot, bb⟩
        rw [Hf1.out]
        replace p := p.on bb
        have t := ot.rds
        clear ot l a z
        go_wp2_with fail
        with_reducible refine (MostPosts_c (Nat.le_refl _) (Nat.le_refl _) t p).mono ?_
        rintro e w' ⟨rfl, b2⟩
        rw [Hf2.out, Hf3.out]
        have b3 := bb.trans (b2.mono bb.size)
        clear bb b2 p t B
        go_wp2_with fail
        go_meet
        exact b3
      · have n3 : (tc == 0) = false := by simpa using ez
        clear ez F2 F3
        go_wp2_with fail
        go_meet
        exact Below.refl _ _
    case rest =>
      have bb := hcut
      clear hcut F2
      replace a := a.on bb
      replace l := l.on bb
      replace p := p.on bb
      replace z := z.on bb
      replace B := B.trans (bb.mono B.size)
      clear bb
      as_aux_lemma =>
      by_cases ezb : fc = 0
      case neg =>
        have nzb : (fc != 0) = true := by simpa using ezb
        clear ezb F3
        go_wp2
        go_ret
        exact ⟨rfl, B⟩
      subst ezb
      obtain ⟨f1, f2⟩ := F3.out rfl
      have Hf1 := Lib.hid f1
      have Hf2 := Lib.hid f2
      clear F3 f1 f2
      go_wp2_with fail
      with_reducible refine (PostFault_c l p z).mono ?_
      rintro e w' ⟨rfl, bb⟩
      rw [Hf1.out, Hf2.out]
      replace B := B.trans (bb.mono B.size)
      clear bb l p z a
      go_wp2
      go_ret
      exact ⟨rfl, B⟩
namespace fnPosts
theorem own : ownKnob Try.prog.godebug = none := by kernel_rfl
set_option maxRecDepth 100000 in
theorem lifted (os : Os) (started : os.Started) (H : Type) (enc : TypeId × Value → H) :
    ReturnsInHanded {} Try.checked os 12 .any (Rows.fnPostsSpec.pre6 enc Try.prog Try.f12 Rows.fnPostsRow.domain false) (Rows.fnPostsSpec.post enc Try.prog Try.f12 false true false false) := by
  refine returnsInHanded_of_change_sized (C := Try.checked) own started (by kernel_rfl) Try.func12
    (ChangeSpec.witness6 (enc := enc) (C := Try.checked) false ⟨#[], #[.slice none 0 0], []⟩ 8 (by kernel_rfl) (by kernel_rfl) (by kernel_rfl) (by kernel_rfl)) ?_
  intro W base args ds gs before hval0 hW hcnd hsz _
  have hval : ∀ (j : Nat) t v, Try.f12.params[j]? = some t → args[j]? = some v → Value.okWide Try.prog W .any base t v := hval0
  have hW' := hW
  obtain ⟨p, q, hA0, hV, rfl, hfz, hnd⟩ := hW
  have hA : DataW.TrodAll enc Try.prog W 0 (fun _ => true) true Try.f12.params.toList args.toList ds p := hA0
  rw [Try.params12] at hA hval
  obtain ⟨v0, vs0, d0, ds0, p0, s0, hargs, rfl, rfl, h0, q0⟩ := trodAll_cons hA
  obtain ⟨rfl, rfl, rfl⟩ := trodAll_nil q0
  obtain rfl : args = #[v0] := by cases args; simp_all
  obtain ⟨x0, r0, _⟩ := open_rdB Try.underlying49 Try.underlying5 (by kernel_rfl) (hval 0 49 v0 rfl rfl) h0
  exact (walk_FnPosts W r0).mono fun e W' hh => ⟨_, hh.1, law_post (f := Try.f12) (s := Rows.fnPostsSpec) (T := 4) (by kernel_rfl) (of_decide_eq_true (by kernel_rfl)) rfl rfl Try.underlying4 rfl hW' hh.2⟩
theorem proved : Rows.FnPostsSaid :=
  OpenClaim.holds_of_wide 12 Try.f12 rfl rfl rfl rfl rfl rfl rfl ⟨rfl, rfl, rfl, rfl, rfl⟩ rfl rfl rfl rfl rfl (by kernel_rfl) Try.func12 (by kernel_rfl)
    (of_decide_eq_true (by kernel_rfl)) (by unfold Func.isWrapper; first | (rw [if_pos (by decide +kernel)]; kernel_rfl) | (rw [if_neg (by decide +kernel)]; exact ⟨rfl, rfl⟩))
    (fun os started H enc _ => lifted os started H enc)
end fnPosts
#print axioms fnPosts.proved
end Go.Proofs.Ytfojfcmjoacbgaa
