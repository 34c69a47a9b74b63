/- Fillings of posts: the program's walk through all of them, for its two visitors. No condition. -/
import Derived.Test.YtfojfcmjoacbgaaFillS2
import Derived.Test.YtfojfcmjoacbgaaPost3
namespace Go.Proofs.Ytfojfcmjoacbgaa
open Go.ChangeShapes Go.WideShapes Go.ChangeAt Go.RowKit Go.Sort
set_option linter.unusedVariables false
set_option maxRecDepth 100000
theorem within_of_below {lo hi : Nat} {w w' : World} (h : Below w.heap.size w w') : Within lo hi w w' := ⟨h.os, h.tape, h.output, h.size, fun k hk _ => h.block k hk⟩
theorem Own.within {α : Type} {E : Elt α} {e : TypeId} {base lo hi : Nat} {w w' : World} {v : Value} {xs : List α} (h : Own E e base w v xs) (hw : Within lo hi w w') (hhi : hi ≤ base) : Own E e base w' v xs := ((Own.top h).within hw hhi).1
theorem leavesK_split (xs : List OperatorT) (ps : List Int) (f : Nat) (who : List Int) (k : Nat) : ∀ d, ∃ r, leavesK xs ps f who (k + d) = leavesK xs ps f who k ++ r := by
  intro d
  induction d with
  | zero => exact ⟨[], by simp⟩
  | succ d ih =>
    obtain ⟨r, hr⟩ := ih
    exact ⟨_, by rw [← Nat.add_assoc, leavesK_succ, hr, List.append_assoc]⟩
theorem leaves_split (xs : List OperatorT) (ps : List Int) (f : Nat) (who : List Int) {k : Nat} (hk : k ≤ xs.length) : ∃ r, leaves xs ps (f + 1) who = leavesK xs ps f who k ++ r := by
  obtain ⟨r, hr⟩ := leavesK_split xs ps f who k (xs.length - k)
  rw [show k + (xs.length - k) = xs.length by omega] at hr
  exact ⟨r, by rw [leaves_succ, hr]⟩
theorem runL_stop {σ : Type} {step : σ → List Int → σ × Bool} {s : σ} {a b : List (List Int)} (h : (runL step s a).2 = false) : runL step s (a ++ b) = runL step s a := by
  rw [runL_append, h]; rfl
/- counting -/
def InvC (b : Nat) (c : Int) (W : World) : Prop := Box W b [.int .i64 c]
def preC (c : Int) (ls : List (List Int)) : Prop := 0 ≤ c ∧ c + ls.length ≤ 1000000000
theorem preC_step {c : Int} {a b r : List (List Int)} (h : preC c (a ++ b ++ r)) : preC (runL countS c a).1 b := by
  rw [runL_count]
  obtain ⟨h1, h2⟩ := h
  rw [List.length_append, List.length_append] at h2
  refine ⟨by show 0 ≤ c + _; omega, ?_⟩
  show c + (a.length : Int) + _ ≤ _
  push_cast at h2
  omega
theorem invC_on {b : Nat} {c : Int} {W W' : World} (h : InvC b c W) (hb : Below W.heap.size W W') : InvC b c W' := Box.on h hb
theorem vis_C {b : Nat} {W : World} {v : Value} {who : List Int} {c : Int} (h : InvC b c W) (hp : preC c [who]) (hw : OwnInt64S (b + 1) W v who) :
    Calls Try.prog 71 #[v, .pointer (some ⟨b, 0, none⟩)] W fun e w' => e = .returned (.bool (countS c who).2) ∧ InvC b (countS c who).1 w' ∧ Within b (b + 1) W w' := by
  have e0 := h.cell 0 _ rfl
  have f0 := h.free 0
  have hl := h.lt
  obtain ⟨hc1, hc2⟩ := hp
  have hc3 : c + 1 ≤ 1000000000 := by simpa using hc2
  obtain ⟨wa, wc, rfl⟩ := hw.shape
  have h2 := h.set1 (j := 0) (by simp) (.int .i64 (c + 1))
  have H2 : Hid (InvC b (c + 1) (W.setCell ⟨b, 0, none⟩ (.int .i64 (c + 1)))) := Lib.hid h2
  have HW : Hid (Within b (b + 1) W (W.setCell ⟨b, 0, none⟩ (.int .i64 (c + 1)))) := Lib.hid (Within.of_grown (grown_set W ⟨b, 0, none⟩ _) fun k hk => by cases hk; show b ≤ b ∧ b < b + 1; omega)
  have e1 : (countS c who).1 = c + 1 := rfl
  have e2 : (countS c who).2 = true := rfl
  rw [e1, e2]
  clear h h2 hw hc2 e1 e2
  go_enter Try.func71, Try.ntmps71
  go_wp2
  go_ret
  exact ⟨rfl, H2.out, HW.out⟩
/- the first one -/
def InvF (ob b : Nat) (s : List Int × Bool) (W : World) : Prop := ∃ ov, Box W b [ov] ∧ Box W (b + 1) [.bool s.2] ∧ OwnInt64S ob W ov s.1
def preF (s : List Int × Bool) (ls : List (List Int)) : Prop := True
theorem preF_step {s : List Int × Bool} {a b r : List (List Int)} (h : preF s (a ++ b ++ r)) : preF (runL firstS s a).1 b := trivial
theorem invF_on {ob b : Nat} {s : List Int × Bool} {W W' : World} (h : InvF ob b s W) (hb : Below W.heap.size W W') : InvF ob b s W' := by
  obtain ⟨ov, h1, h2, h3⟩ := h
  exact ⟨ov, h1.on hb, h2.on hb, h3.below hb (Nat.le_refl _)⟩
theorem vis_F {ob b : Nat} {W : World} {v : Value} {who : List Int} {s : List Int × Bool} (hob : ob ≤ b) (h : InvF ob b s W) (hp : preF s [who]) (hw : OwnInt64S (b + 2) W v who) :
    Calls Try.prog 90 #[v, .pointer (some ⟨b, 0, none⟩), .pointer (some ⟨b + 1, 0, none⟩)] W fun e w' => e = .returned (.bool (firstS s who).2) ∧ InvF ob b (firstS s who).1 w' ∧ Within b (b + 2) W w' := by
  obtain ⟨ov, h1, h2, h3⟩ := h
  obtain ⟨oa, oc, rfl⟩ := h3.shape
  have e0 := h1.cell 0 _ rfl
  have f0 := h1.free 0
  have e1 := h2.cell 0 _ rfl
  have f1 := h2.free 0
  have hl := h1.lt
  have hl2 := h2.lt
  have hwl := hw.lt
  obtain ⟨wa, wc, rfl⟩ := hw.shape
  obtain ⟨n, hn⟩ : ∃ n, n = who.length := ⟨_, rfl⟩
  rw [← hn] at hw hwl ⊢
  have b1 := ((h1.set1 (j := 0) (by simp) (.slice wa n wc)).other (p := ⟨b + 1, 0, none⟩) (by show b + 1 ≠ b; omega) (.bool true))
  have b2 := ((h2.other (p := ⟨b, 0, none⟩) (by show b ≠ b + 1; omega) (.slice wa n wc)).set1 (j := 0) (by simp) (.bool true))
  have hw2 := (hw.setApart (FB := b) (j := 0) (by intro hh; have h9 : b + 2 ≤ b := (hwl _ hh).1; omega) (.slice wa n wc)).setApart (FB := b + 1) (j := 0) (by intro hh; have h9 : b + 2 ≤ b + 1 := (hwl _ hh).1; omega) (.bool true)
  have H2 : Hid (InvF ob b (who, true) ((W.setCell ⟨b, 0, none⟩ (.slice wa n wc)).setCell ⟨b + 1, 0, none⟩ (.bool true))) := Lib.hid ⟨_, b1, b2, hw2.mono (by omega)⟩
  have HW : Hid (Within b (b + 2) W ((W.setCell ⟨b, 0, none⟩ (.slice wa n wc)).setCell ⟨b + 1, 0, none⟩ (.bool true))) := Lib.hid ((Within.of_grown (grown_set W ⟨b, 0, none⟩ _) fun k hk => by cases hk; show b ≤ b ∧ b < b + 2; omega).trans (Within.of_grown (grown_set _ ⟨b + 1, 0, none⟩ _) fun k hk => by cases hk; show b ≤ b + 1 ∧ b + 1 < b + 2; omega))
  have e5 : (firstS s who).1 = (who, true) := rfl
  have e6 : (firstS s who).2 = false := rfl
  rw [e5, e6]
  clear h1 h2 h3 hw hw2 b1 b2 hn hwl e5 e6
  go_enter Try.func90, Try.ntmps90
  go_wp2
  go_ret
  exact ⟨rfl, H2.out, HW.out⟩
set_option maxHeartbeats 2000000 in
theorem fill_C {xs : List OperatorT} {ps : List Int} {lv pv : Value} {b A B : Nat} (hv : validOs xs = true) (hp : postsB ps = true) (hA : A ≤ b) (hB : B ≤ b) :
    ∀ (f : Nat) (W : World) (who : List Int) (wv : Value) (s : Int), RdOperatorS A W lv xs → RdI B W pv ps → InvC b s W → OwnInt64S (b + 1) W wv who → b + 1 ≤ W.heap.size → who.length + f = ps.length → preC s (leaves xs ps f who) →
    Calls Try.prog 70 #[lv, pv, wv, .func (.func 71) #[] #[.pointer (some ⟨b, 0, none⟩)]] W fun e w' => e = .returned (.bool (runL countS s (leaves xs ps f who)).2) ∧ InvC b (runL countS s (leaves xs ps f who)).1 w' ∧ Within (b) (b + 1) W w' := by
  obtain ⟨hn8, hxs⟩ := validOs_parts hv
  obtain ⟨hm8, hps⟩ := postsB_parts hp
  obtain ⟨i0, hi, hz0, hz1, hz2⟩ := info_parts Try.infoInt64
  intro f
  induction f with
  | zero =>
    intro W who wv s hl hpo hinv hw hhi hlen hpre
    have e1 : leaves xs ps 0 who = [who] := rfl
    have hlen2 : who.length = ps.length := by omega
    obtain ⟨n, hn⟩ : ∃ n, n = who.length := ⟨_, rfl⟩
    have hvis := vis_C  hinv hpre hw
    rw [e1, runL_one]
    obtain ⟨wa, wc, rfl⟩ := hw.shape
    obtain ⟨pa, pc, rfl⟩ := hpo.shape
    obtain ⟨la, lc, rfl⟩ := hl.shape
    rw [← hlen2, ← hn]
    rw [← hn] at hvis
    have Hvis := Lib.hid hvis
    clear hl hpo hinv hw hlen hpre e1 hlen2 hn hvis
    go_enter Try.func70, Try.ntmps70
    go_wp2_with fail
    with_reducible refine Hvis.out.mono ?_
    rintro e w1 ⟨rfl, h1, h2⟩
    have H1 := Lib.hid h1
    have H2 := Lib.hid h2
    clear h1 h2
    go_wp2
    go_ret
    exact ⟨rfl, H1.out, H2.out⟩
  | succ f ih =>
    intro W who wv s hl hpo hinv hw hhi hlen hpre
    obtain ⟨n, hn⟩ : ∃ n, n = who.length := ⟨_, rfl⟩
    obtain ⟨L, hL⟩ : ∃ L, L = xs.length := ⟨_, rfl⟩
    obtain ⟨m, hm⟩ : ∃ m, m = ps.length := ⟨_, rfl⟩
    have hlt : n < m := by omega
    obtain ⟨la, lc, rfl, hlo⟩ := eOperator_open hl
    obtain ⟨pa, pc, rfl, hpo2⟩ := RdI.open hpo
    obtain ⟨wa, wc, rfl⟩ := hw.shape
    rw [← hL] at hlo hn8 hl ih ⊢
    rw [← hm] at hpo2 hm8 hlen hpo ih ⊢
    rw [← hn] at hw ⊢
    obtain ⟨pb, poff, rfl, plt, pcc⟩ := hpo2 (by omega)
    obtain ⟨p, hp1, pcy, _⟩ := pcc n hlt
    have hpr := hps p (List.mem_of_getElem? hp1)
    have hpat : atI ps n = p := atI_of hp1
    have hok : ∀ k, fillOk xs ps who k = (canAt xs p (k : Int) && !hasI who (k : Int)) := fun k => by unfold fillOk; rw [← hn, hpat]
    have Hl := Lib.hid hl
    have Hlo := Lib.hid hlo
    have Hpo := Lib.hid hpo
    have Hn := Lib.hid hn
    have HL := Lib.hid hL
    have Hlen := Lib.hid hlen
    have Hxs := Lib.hid hxs
    have Hpr := Lib.hid hpr
    have Hok := Lib.hid hok
    have Hinv := Lib.hid hinv
    have Hw := Lib.hid hw
    have Hpre := Lib.hid hpre
    have hne : ((n : Int) == (m : Int)) = false := by simp; omega
    have hpcy : W.cell? ⟨pb, poff + n, none⟩ = some (.int .i64 p) := pcy
    have Hpcy := Lib.hid hpcy
    have hpbF : pb < b := by omega
    have hloW : b ≤ W.heap.size := by omega
    clear hl hlo hpo hn hL hm hlen hpr hok hinv hw hpre hpo2 pcc hp1 hpat pcy hpcy
    go_enter Try.func70, Try.ntmps70
    go_wp2_with fail
    with_reducible refine (sizeO_any0 (by omega)).mono ?_
    rintro e w' ⟨rfl, rfl⟩
    go_wp2_with fail
    go_loopw [20] (fun i wr => ∃ k : Nat, k ≤ L ∧ i = .int .i64 k ∧ Hid ((runL countS s (leavesK xs ps f who k)).2 = true) ∧ InvC b (runL countS s (leavesK xs ps f who k)).1 wr ∧ OwnInt64S (b + 1) wr (.slice wa n wc) who ∧ Within (b) (b + 1) W wr) (fun i _ => L - (intOf i).toNat)
    case atStart => exact ⟨0, Nat.zero_le _, rfl, by rw [leavesK_zero]; rfl, by rw [leavesK_zero]; exact Hinv.out, Hw.out, Within.refl _ _ _⟩
    case round =>
      obtain ⟨k, hk, rfl, hgo, hinv, hw, hwi⟩ := hrel
      by_cases hkL : k < L
      · obtain ⟨b0, off, rfl, lt, cc⟩ := Hlo.out (by omega)
        obtain ⟨x, hx, ⟨x0, x1⟩, xb⟩ := cc k (by have := HL.out; omega)
        have hxr := (Hxs.out x (List.mem_of_getElem? hx)).2
        have ecan : canAt xs p (k : Int) = canB x.skills p := canAt_of hx
        have hokk := Hok.out k
        rw [ecan] at hokk
        have hb := hwi.below hloW
        have d0 := (hb.cell (p := ⟨b0, off + k * 2, none⟩) (by show b0 < b; omega)).trans x0
        have d1 := (hb.cell (p := ⟨b0, off + k * 2 + 1, none⟩) (by show b0 < b; omega)).trans x1
        have d2 := (hb.cell (p := ⟨pb, poff + n, none⟩) hpbF).trans Hpcy.out
        have f0 := cell_regrown d0
        have f1 := cell_regrown d1
        have f2 := cell_regrown d2
        have hks := leavesK_succ xs ps f who k
        have hwr := hw.rds
        have hszw := hwi.size
        have Hxr := Lib.hid hxr
        have Hokk := Lib.hid hokk
        have Hks := Lib.hid hks
        have Hwr := Lib.hid hwr
        have Hw := Lib.hid hw
        have Hinv2 := Lib.hid hinv
        have Hwi := Lib.hid hwi
        clear hx xb cc x0 x1 hxr ecan hokk hks hwr hw hinv hwi hb d0 d1 d2
        cases hcan : canB x.skills p with
        | false =>
          have hcon := fun w' => canRun_c x p w' Hxr.out Hpr.out
          have h9 := Hokk.out
          have h8 := Hks.out
          rw [hcan] at hcon h9
          rw [Bool.false_and] at h9
          rw [h9, if_neg (by decide), List.append_nil] at h8
          have Hcon := Lib.hid hcon
          have H8 := Lib.hid h8
          clear hcan hcon h9 h8
          go_wp2
          refine wp_region_quiet_below (by kernel_rfl) (by kernel_rfl) ?_
          repeat ((with_reducible refine wpQuiet_step (fun K hK => ?_)); go_simp; first | ((with_reducible refine hK _ ?_); clear hK K) | (apply Exists.intro; refine ⟨fun _ => ?_, hK _ ?_⟩; ((first | (go_at_call 58; exact qb_below (Hcon.out _)))); clear hK K))
          refine wpQuiet_nil ?_
          intro _ hw'
          obtain ⟨⟨dq, osq⟩, hw''⟩ := hw'
          subst hw''
          have hbq := below_regrown wr dq osq
          generalize grow (redrawn wr dq) osq = wq at hbq ⊢
          have hbq2 := within_of_below (lo := b) (hi := b + 1) hbq
          have hinv3 := invC_on Hinv2.out hbq
          have hw3 := Hw.out.below hbq (Nat.le_refl _)
          have Hinv3 := Lib.hid hinv3
          have Hw3 := Lib.hid hw3
          have Hwi3 := Lib.hid (Hwi.out.trans hbq2)
          clear f0 f1 f2 hbq hbq2 hinv3 hw3
          go_wp2
          go_roundw
          case rel => exact ⟨k + 1, by omega, by go_num, by show _ = true; rw [H8.out]; exact hgo.out, by rw [H8.out]; exact Hinv3.out, Hw3.out, Hwi3.out⟩
          case measure => simp [intOf]; omega
        | true =>
          have hcon := fun w' => canRun_c x p w' Hxr.out Hpr.out
          have h9 := Hokk.out
          have h8 := Hks.out
          rw [hcan] at hcon h9
          rw [Bool.true_and] at h9
          have Hcon := Lib.hid hcon
          clear hcan hcon
          cases hhas : hasI who (k : Int) with
          | true =>
            have hcon2 := fun d os => containsI_c (k : Int) (Rds.regrown Hwr.out (Nat.le_refl _) d os)
            rw [hhas] at hcon2 h9
            rw [h9, if_neg (by decide), List.append_nil] at h8
            have Hcon2 := Lib.hid hcon2
            have H8 := Lib.hid h8
            clear hhas hcon2 h9 h8
            go_wp2
            refine wp_region_quiet_below (by kernel_rfl) (by kernel_rfl) ?_
            repeat ((with_reducible refine wpQuiet_step (fun K hK => ?_)); go_simp; first | ((with_reducible refine hK _ ?_); clear hK K) | (apply Exists.intro; refine ⟨fun _ => ?_, hK _ ?_⟩; ((first | (go_at_call 58; exact qb_below (Hcon.out _)) | (go_at_call 66; exact qb_same (Hcon2.out _ _)))); clear hK K))
            refine wpQuiet_nil ?_
            intro _ hw'
            obtain ⟨⟨dq, osq⟩, hw''⟩ := hw'
            subst hw''
            have hbq := below_regrown wr dq osq
            generalize grow (redrawn wr dq) osq = wq at hbq ⊢
            have hbq2 := within_of_below (lo := b) (hi := b + 1) hbq
            have hinv3 := invC_on Hinv2.out hbq
            have hw3 := Hw.out.below hbq (Nat.le_refl _)
            have Hinv3 := Lib.hid hinv3
            have Hw3 := Lib.hid hw3
            have Hwi3 := Lib.hid (Hwi.out.trans hbq2)
            clear f0 f1 f2 hbq hbq2 hinv3 hw3
            go_wp2
            go_roundw
            case rel => exact ⟨k + 1, by omega, by go_num, by show _ = true; rw [H8.out]; exact hgo.out, by rw [H8.out]; exact Hinv3.out, Hw3.out, Hwi3.out⟩
            case measure => simp [intOf]; omega
          | false =>
            have hcon2 := fun d os => containsI_c (k : Int) (Rds.regrown Hwr.out (Nat.le_refl _) d os)
            rw [hhas] at hcon2 h9
            rw [h9, if_pos (by decide)] at h8
            have Hcon2 := Lib.hid hcon2
            have H8 := Lib.hid h8
            clear hhas hcon2 h9 h8
            go_wp2
            refine wp_region_quiet_below (by kernel_rfl) (by kernel_rfl) ?_
            repeat ((with_reducible refine wpQuiet_step (fun K hK => ?_)); go_simp; first | ((with_reducible refine hK _ ?_); clear hK K) | (apply Exists.intro; refine ⟨fun _ => ?_, hK _ ?_⟩; ((first | (go_at_call 58; exact qb_below (Hcon.out _)) | (go_at_call 66; exact qb_same (Hcon2.out _ _)))); clear hK K))
            refine wpQuiet_nil ?_
            intro _ hw'
            obtain ⟨⟨dq, osq⟩, hw''⟩ := hw'
            subst hw''
            have hbq := below_regrown wr dq osq
            generalize grow (redrawn wr dq) osq = wq at hbq ⊢
            have hwq := Hw.out.below hbq (Nat.le_refl _)
            have Hwq := Lib.hid hwq
            have Hwqr := Lib.hid hwq.rds
            have Hbq := Lib.hid hbq
            clear f0 f1 f2 hbq hwq
            have hln : who.length = n := Hn.out.symm
            have Hln := Lib.hid hln
            clear hln
            go_wp2_with fail
            with_reducible refine (copyInts_c Hwqr.out (by rw [Hln.out]; omega)).mono ?_
            rintro e w2 ⟨u, rfl, hu, hb2⟩
            have Hu := Lib.hid hu
            have Hb2 := Lib.hid hb2
            have Hqp : eI.ok (k : Int) := by show -9223372036854775808 ≤ (k : Int) ∧ (k : Int) ≤ 9223372036854775807; omega
            have hs2 := hb2.size
            have hsq := Hbq.out.size
            clear hu hb2
            go_wp2_with (first | (at_builtin; refine wpList_appS (E := eI) rfl _ _ 34 rfl Try.underlying34 hi hz0 hz1 hz2 rfl (by decide) rfl rfl (Hu.out.alloc _) (rds_one (E := eI) (x := (k : Int)) Hqp rfl) ?b1 ?b2 ?b3 ?_))
            case b1 => rw [Hln.out]; unfold maxLen; simp; omega
            case b2 => rw [Hln.out]; simp; omega
            case b3 => simp; omega
            intro v' w3 hR hg
            have hg2 := hg.alloc
            have hul := Hu.out.lt
            have hb3 : Below wr.heap.size wr w3 := hg2.below ((Hbq.out).trans (Hb2.out.mono hsq)) (by omega) (fun q hq => by have := (hul q hq).1; omega)
            have hs3 := hb3.size
            have hinv3 := invC_on Hinv2.out hb3
            have hw3 := Hw.out.below hb3 (Nat.le_refl _)
            have hwi3 := Hwi.out.trans (within_of_below (lo := b) (hi := b + 1) hb3)
            have hb4 := hwi3.below hloW
            obtain ⟨r9, hr9⟩ := leaves_split xs ps f who (k := k + 1) (by have := HL.out; omega)
            have hpre3 : preC (runL countS s (leavesK xs ps f who k)).1 (leaves xs ps f (who ++ [(k : Int)])) := by
              have h7 := Hpre.out
              rw [hr9, H8.out] at h7
              exact preC_step h7
            have hcall := ih w3 (who ++ [(k : Int)]) v' _ (Hl.out.below hb4 hA) (Hpo.out.below hb4 hB) hinv3 (hR.mono (by omega)) (by omega) (by rw [List.length_append, Hln.out]; have := Hlen.out; have := Hln.out; simp; omega) hpre3
            have hrun : runL countS s (leavesK xs ps f who (k + 1)) = runL countS (runL countS s (leavesK xs ps f who k)).1 (leaves xs ps f (who ++ [(k : Int)])) := by
              rw [H8.out, runL_append, if_pos hgo.out]
            rw [← hrun] at hcall
            have Hcall := Lib.hid hcall
            have Hw3 := Lib.hid hw3
            have Hwi3 := Lib.hid hwi3
            have Hr9 := Lib.hid hr9
            clear hR hg hg2 hul hb3 hinv3 hw3 hwi3 hb4 hr9 hpre3 hcall hrun
            go_wp2_with fail
            with_reducible refine Hcall.out.mono ?_
            cases hbool : (runL countS s (leavesK xs ps f who (k + 1))).2 with
            | true =>
              have Hbool := Lib.hid hbool
              clear hbool
              rintro e w5 ⟨rfl, h51, h52⟩
              have hw5 := Hw3.out.within h52 (Nat.le_refl _)
              have Hw5 := Lib.hid hw5
              have H51 := Lib.hid h51
              have Hwi5 := Lib.hid (Hwi3.out.trans h52)
              clear hw5 h51 h52
              go_wp2
              go_roundw
              case rel => exact ⟨k + 1, by omega, by go_num, Hbool.out, H51.out, Hw5.out, Hwi5.out⟩
              case measure => simp [intOf]; omega
            | false =>
              have Hbool := Lib.hid hbool
              clear hbool
              rintro e w5 ⟨rfl, h51, h52⟩
              have H51 := Lib.hid h51
              have Hwi5 := Lib.hid (Hwi3.out.trans h52)
              clear h51 h52
              go_wp2
              go_ret
              have hst := runL_stop (b := r9) Hbool.out
              rw [Hr9.out, hst]
              exact ⟨ret_bool Hbool.out.symm, H51.out, Hwi5.out⟩
      · obtain rfl : k = L := by omega
        have Hinv2 := Lib.hid hinv
        have Hwi := Lib.hid hwi
        clear hinv hwi hw
        go_wp2
        go_ret
        rw [leaves_succ, ← HL.out]
        exact ⟨ret_bool hgo.out.symm, Hinv2.out, Hwi.out⟩
set_option maxHeartbeats 2000000 in
theorem fill_F {xs : List OperatorT} {ps : List Int} {lv pv : Value} {ob b A B : Nat} (hv : validOs xs = true) (hp : postsB ps = true) (hA : A ≤ b) (hB : B ≤ b) (hob : ob ≤ b) :
    ∀ (f : Nat) (W : World) (who : List Int) (wv : Value) (s : List Int × Bool), RdOperatorS A W lv xs → RdI B W pv ps → InvF ob b s W → OwnInt64S (b + 2) W wv who → b + 2 ≤ W.heap.size → who.length + f = ps.length → preF s (leaves xs ps f who) →
    Calls Try.prog 70 #[lv, pv, wv, .func (.func 90) #[] #[.pointer (some ⟨b, 0, none⟩), .pointer (some ⟨b + 1, 0, none⟩)]] W fun e w' => e = .returned (.bool (runL firstS s (leaves xs ps f who)).2) ∧ InvF ob b (runL firstS s (leaves xs ps f who)).1 w' ∧ Within (b) (b + 2) W w' := by
  obtain ⟨hn8, hxs⟩ := validOs_parts hv
  obtain ⟨hm8, hps⟩ := postsB_parts hp
  obtain ⟨i0, hi, hz0, hz1, hz2⟩ := info_parts Try.infoInt64
  intro f
  induction f with
  | zero =>
    intro W who wv s hl hpo hinv hw hhi hlen hpre
    have e1 : leaves xs ps 0 who = [who] := rfl
    have hlen2 : who.length = ps.length := by omega
    obtain ⟨n, hn⟩ : ∃ n, n = who.length := ⟨_, rfl⟩
    have hvis := vis_F hob hinv hpre hw
    rw [e1, runL_one]
    obtain ⟨wa, wc, rfl⟩ := hw.shape
    obtain ⟨pa, pc, rfl⟩ := hpo.shape
    obtain ⟨la, lc, rfl⟩ := hl.shape
    rw [← hlen2, ← hn]
    rw [← hn] at hvis
    have Hvis := Lib.hid hvis
    clear hl hpo hinv hw hlen hpre e1 hlen2 hn hvis
    go_enter Try.func70, Try.ntmps70
    go_wp2_with fail
    with_reducible refine Hvis.out.mono ?_
    rintro e w1 ⟨rfl, h1, h2⟩
    have H1 := Lib.hid h1
    have H2 := Lib.hid h2
    clear h1 h2
    go_wp2
    go_ret
    exact ⟨rfl, H1.out, H2.out⟩
  | succ f ih =>
    intro W who wv s hl hpo hinv hw hhi hlen hpre
    obtain ⟨n, hn⟩ : ∃ n, n = who.length := ⟨_, rfl⟩
    obtain ⟨L, hL⟩ : ∃ L, L = xs.length := ⟨_, rfl⟩
    obtain ⟨m, hm⟩ : ∃ m, m = ps.length := ⟨_, rfl⟩
    have hlt : n < m := by omega
    obtain ⟨la, lc, rfl, hlo⟩ := eOperator_open hl
    obtain ⟨pa, pc, rfl, hpo2⟩ := RdI.open hpo
    obtain ⟨wa, wc, rfl⟩ := hw.shape
    rw [← hL] at hlo hn8 hl ih ⊢
    rw [← hm] at hpo2 hm8 hlen hpo ih ⊢
    rw [← hn] at hw ⊢
    obtain ⟨pb, poff, rfl, plt, pcc⟩ := hpo2 (by omega)
    obtain ⟨p, hp1, pcy, _⟩ := pcc n hlt
    have hpr := hps p (List.mem_of_getElem? hp1)
    have hpat : atI ps n = p := atI_of hp1
    have hok : ∀ k, fillOk xs ps who k = (canAt xs p (k : Int) && !hasI who (k : Int)) := fun k => by unfold fillOk; rw [← hn, hpat]
    have Hl := Lib.hid hl
    have Hlo := Lib.hid hlo
    have Hpo := Lib.hid hpo
    have Hn := Lib.hid hn
    have HL := Lib.hid hL
    have Hlen := Lib.hid hlen
    have Hxs := Lib.hid hxs
    have Hpr := Lib.hid hpr
    have Hok := Lib.hid hok
    have Hinv := Lib.hid hinv
    have Hw := Lib.hid hw
    have Hpre := Lib.hid hpre
    have hne : ((n : Int) == (m : Int)) = false := by simp; omega
    have hpcy : W.cell? ⟨pb, poff + n, none⟩ = some (.int .i64 p) := pcy
    have Hpcy := Lib.hid hpcy
    have hpbF : pb < b := by omega
    have hloW : b ≤ W.heap.size := by omega
    clear hl hlo hpo hn hL hm hlen hpr hok hinv hw hpre hpo2 pcc hp1 hpat pcy hpcy
    go_enter Try.func70, Try.ntmps70
    go_wp2_with fail
    with_reducible refine (sizeO_any0 (by omega)).mono ?_
    rintro e w' ⟨rfl, rfl⟩
    go_wp2_with fail
    go_loopw [20] (fun i wr => ∃ k : Nat, k ≤ L ∧ i = .int .i64 k ∧ Hid ((runL firstS s (leavesK xs ps f who k)).2 = true) ∧ InvF ob b (runL firstS s (leavesK xs ps f who k)).1 wr ∧ OwnInt64S (b + 2) wr (.slice wa n wc) who ∧ Within (b) (b + 2) W wr) (fun i _ => L - (intOf i).toNat)
    case atStart => exact ⟨0, Nat.zero_le _, rfl, by rw [leavesK_zero]; rfl, by rw [leavesK_zero]; exact Hinv.out, Hw.out, Within.refl _ _ _⟩
    case round =>
      obtain ⟨k, hk, rfl, hgo, hinv, hw, hwi⟩ := hrel
      by_cases hkL : k < L
      · obtain ⟨b0, off, rfl, lt, cc⟩ := Hlo.out (by omega)
        obtain ⟨x, hx, ⟨x0, x1⟩, xb⟩ := cc k (by have := HL.out; omega)
        have hxr := (Hxs.out x (List.mem_of_getElem? hx)).2
        have ecan : canAt xs p (k : Int) = canB x.skills p := canAt_of hx
        have hokk := Hok.out k
        rw [ecan] at hokk
        have hb := hwi.below hloW
        have d0 := (hb.cell (p := ⟨b0, off + k * 2, none⟩) (by show b0 < b; omega)).trans x0
        have d1 := (hb.cell (p := ⟨b0, off + k * 2 + 1, none⟩) (by show b0 < b; omega)).trans x1
        have d2 := (hb.cell (p := ⟨pb, poff + n, none⟩) hpbF).trans Hpcy.out
        have f0 := cell_regrown d0
        have f1 := cell_regrown d1
        have f2 := cell_regrown d2
        have hks := leavesK_succ xs ps f who k
        have hwr := hw.rds
        have hszw := hwi.size
        have Hxr := Lib.hid hxr
        have Hokk := Lib.hid hokk
        have Hks := Lib.hid hks
        have Hwr := Lib.hid hwr
        have Hw := Lib.hid hw
        have Hinv2 := Lib.hid hinv
        have Hwi := Lib.hid hwi
        clear hx xb cc x0 x1 hxr ecan hokk hks hwr hw hinv hwi hb d0 d1 d2
        cases hcan : canB x.skills p with
        | false =>
          have hcon := fun w' => canRun_c x p w' Hxr.out Hpr.out
          have h9 := Hokk.out
          have h8 := Hks.out
          rw [hcan] at hcon h9
          rw [Bool.false_and] at h9
          rw [h9, if_neg (by decide), List.append_nil] at h8
          have Hcon := Lib.hid hcon
          have H8 := Lib.hid h8
          clear hcan hcon h9 h8
          go_wp2
          refine wp_region_quiet_below (by kernel_rfl) (by kernel_rfl) ?_
          repeat ((with_reducible refine wpQuiet_step (fun K hK => ?_)); go_simp; first | ((with_reducible refine hK _ ?_); clear hK K) | (apply Exists.intro; refine ⟨fun _ => ?_, hK _ ?_⟩; ((first | (go_at_call 58; exact qb_below (Hcon.out _)))); clear hK K))
          refine wpQuiet_nil ?_
          intro _ hw'
          obtain ⟨⟨dq, osq⟩, hw''⟩ := hw'
          subst hw''
          have hbq := below_regrown wr dq osq
          generalize grow (redrawn wr dq) osq = wq at hbq ⊢
          have hbq2 := within_of_below (lo := b) (hi := b + 2) hbq
          have hinv3 := invF_on Hinv2.out hbq
          have hw3 := Hw.out.below hbq (Nat.le_refl _)
          have Hinv3 := Lib.hid hinv3
          have Hw3 := Lib.hid hw3
          have Hwi3 := Lib.hid (Hwi.out.trans hbq2)
          clear f0 f1 f2 hbq hbq2 hinv3 hw3
          go_wp2
          go_roundw
          case rel => exact ⟨k + 1, by omega, by go_num, by show _ = true; rw [H8.out]; exact hgo.out, by rw [H8.out]; exact Hinv3.out, Hw3.out, Hwi3.out⟩
          case measure => simp [intOf]; omega
        | true =>
          have hcon := fun w' => canRun_c x p w' Hxr.out Hpr.out
          have h9 := Hokk.out
          have h8 := Hks.out
          rw [hcan] at hcon h9
          rw [Bool.true_and] at h9
          have Hcon := Lib.hid hcon
          clear hcan hcon
          cases hhas : hasI who (k : Int) with
          | true =>
            have hcon2 := fun d os => containsI_c (k : Int) (Rds.regrown Hwr.out (Nat.le_refl _) d os)
            rw [hhas] at hcon2 h9
            rw [h9, if_neg (by decide), List.append_nil] at h8
            have Hcon2 := Lib.hid hcon2
            have H8 := Lib.hid h8
            clear hhas hcon2 h9 h8
            go_wp2
            refine wp_region_quiet_below (by kernel_rfl) (by kernel_rfl) ?_
            repeat ((with_reducible refine wpQuiet_step (fun K hK => ?_)); go_simp; first | ((with_reducible refine hK _ ?_); clear hK K) | (apply Exists.intro; refine ⟨fun _ => ?_, hK _ ?_⟩; ((first | (go_at_call 58; exact qb_below (Hcon.out _)) | (go_at_call 66; exact qb_same (Hcon2.out _ _)))); clear hK K))
            refine wpQuiet_nil ?_
            intro _ hw'
            obtain ⟨⟨dq, osq⟩, hw''⟩ := hw'
            subst hw''
            have hbq := below_regrown wr dq osq
            generalize grow (redrawn wr dq) osq = wq at hbq ⊢
            have hbq2 := within_of_below (lo := b) (hi := b + 2) hbq
            have hinv3 := invF_on Hinv2.out hbq
            have hw3 := Hw.out.below hbq (Nat.le_refl _)
            have Hinv3 := Lib.hid hinv3
            have Hw3 := Lib.hid hw3
            have Hwi3 := Lib.hid (Hwi.out.trans hbq2)
            clear f0 f1 f2 hbq hbq2 hinv3 hw3
            go_wp2
            go_roundw
            case rel => exact ⟨k + 1, by omega, by go_num, by show _ = true; rw [H8.out]; exact hgo.out, by rw [H8.out]; exact Hinv3.out, Hw3.out, Hwi3.out⟩
            case measure => simp [intOf]; omega
          | false =>
            have hcon2 := fun d os => containsI_c (k : Int) (Rds.regrown Hwr.out (Nat.le_refl _) d os)
            rw [hhas] at hcon2 h9
            rw [h9, if_pos (by decide)] at h8
            have Hcon2 := Lib.hid hcon2
            have H8 := Lib.hid h8
            clear hhas hcon2 h9 h8
            go_wp2
            refine wp_region_quiet_below (by kernel_rfl) (by kernel_rfl) ?_
            repeat ((with_reducible refine wpQuiet_step (fun K hK => ?_)); go_simp; first | ((with_reducible refine hK _ ?_); clear hK K) | (apply Exists.intro; refine ⟨fun _ => ?_, hK _ ?_⟩; ((first | (go_at_call 58; exact qb_below (Hcon.out _)) | (go_at_call 66; exact qb_same (Hcon2.out _ _)))); clear hK K))
            refine wpQuiet_nil ?_
            intro _ hw'
            obtain ⟨⟨dq, osq⟩, hw''⟩ := hw'
            subst hw''
            have hbq := below_regrown wr dq osq
            generalize grow (redrawn wr dq) osq = wq at hbq ⊢
            have hwq := Hw.out.below hbq (Nat.le_refl _)
            have Hwq := Lib.hid hwq
            have Hwqr := Lib.hid hwq.rds
            have Hbq := Lib.hid hbq
            clear f0 f1 f2 hbq hwq
            have hln : who.length = n := Hn.out.symm
            have Hln := Lib.hid hln
            clear hln
            go_wp2_with fail
            with_reducible refine (copyInts_c Hwqr.out (by rw [Hln.out]; omega)).mono ?_
            rintro e w2 ⟨u, rfl, hu, hb2⟩
            have Hu := Lib.hid hu
            have Hb2 := Lib.hid hb2
            have Hqp : eI.ok (k : Int) := by show -9223372036854775808 ≤ (k : Int) ∧ (k : Int) ≤ 9223372036854775807; omega
            have hs2 := hb2.size
            have hsq := Hbq.out.size
            clear hu hb2
            go_wp2_with (first | (at_builtin; refine wpList_appS (E := eI) rfl _ _ 34 rfl Try.underlying34 hi hz0 hz1 hz2 rfl (by decide) rfl rfl (Hu.out.alloc _) (rds_one (E := eI) (x := (k : Int)) Hqp rfl) ?b1 ?b2 ?b3 ?_))
            case b1 => rw [Hln.out]; unfold maxLen; simp; omega
            case b2 => rw [Hln.out]; simp; omega
            case b3 => simp; omega
            intro v' w3 hR hg
            have hg2 := hg.alloc
            have hul := Hu.out.lt
            have hb3 : Below wr.heap.size wr w3 := hg2.below ((Hbq.out).trans (Hb2.out.mono hsq)) (by omega) (fun q hq => by have := (hul q hq).1; omega)
            have hs3 := hb3.size
            have hinv3 := invF_on Hinv2.out hb3
            have hw3 := Hw.out.below hb3 (Nat.le_refl _)
            have hwi3 := Hwi.out.trans (within_of_below (lo := b) (hi := b + 2) hb3)
            have hb4 := hwi3.below hloW
            obtain ⟨r9, hr9⟩ := leaves_split xs ps f who (k := k + 1) (by have := HL.out; omega)
            have hpre3 : preF (runL firstS s (leavesK xs ps f who k)).1 (leaves xs ps f (who ++ [(k : Int)])) := by
              have h7 := Hpre.out
              rw [hr9, H8.out] at h7
              exact preF_step h7
            have hcall := ih w3 (who ++ [(k : Int)]) v' _ (Hl.out.below hb4 hA) (Hpo.out.below hb4 hB) hinv3 (hR.mono (by omega)) (by omega) (by rw [List.length_append, Hln.out]; have := Hlen.out; have := Hln.out; simp; omega) hpre3
            have hrun : runL firstS s (leavesK xs ps f who (k + 1)) = runL firstS (runL firstS s (leavesK xs ps f who k)).1 (leaves xs ps f (who ++ [(k : Int)])) := by
              rw [H8.out, runL_append, if_pos hgo.out]
            rw [← hrun] at hcall
            have Hcall := Lib.hid hcall
            have Hw3 := Lib.hid hw3
            have Hwi3 := Lib.hid hwi3
            have Hr9 := Lib.hid hr9
            clear hR hg hg2 hul hb3 hinv3 hw3 hwi3 hb4 hr9 hpre3 hcall hrun
            go_wp2_with fail
            with_reducible refine Hcall.out.mono ?_
            cases hbool : (runL firstS s (leavesK xs ps f who (k + 1))).2 with
            | true =>
              have Hbool := Lib.hid hbool
              clear hbool
              rintro e w5 ⟨rfl, h51, h52⟩
              have hw5 := Hw3.out.within h52 (Nat.le_refl _)
              have Hw5 := Lib.hid hw5
              have H51 := Lib.hid h51
              have Hwi5 := Lib.hid (Hwi3.out.trans h52)
              clear hw5 h51 h52
              go_wp2
              go_roundw
              case rel => exact ⟨k + 1, by omega, by go_num, Hbool.out, H51.out, Hw5.out, Hwi5.out⟩
              case measure => simp [intOf]; omega
            | false =>
              have Hbool := Lib.hid hbool
              clear hbool
              rintro e w5 ⟨rfl, h51, h52⟩
              have H51 := Lib.hid h51
              have Hwi5 := Lib.hid (Hwi3.out.trans h52)
              clear h51 h52
              go_wp2
              go_ret
              have hst := runL_stop (b := r9) Hbool.out
              rw [Hr9.out, hst]
              exact ⟨ret_bool Hbool.out.symm, H51.out, Hwi5.out⟩
      · obtain rfl : k = L := by omega
        have Hinv2 := Lib.hid hinv
        have Hwi := Lib.hid hwi
        clear hinv hwi hw
        go_wp2
        go_ret
        rw [leaves_succ, ← HL.out]
        exact ⟨ret_bool hgo.out.symm, Hinv2.out, Hwi.out⟩
end Go.Proofs.Ytfojfcmjoacbgaa
