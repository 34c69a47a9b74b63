/- Training one: both sides. No condition. -/
import Derived.Test.YtfojfcmjoacbgaaTrainP
namespace Go.Proofs.Ytfojfcmjoacbgaa
open Go.ChangeShapes Go.WideShapes Go.ChangeAt Go.RowKit
set_option linter.unusedVariables false
set_option maxRecDepth 100000
set_option maxHeartbeats 1000000 in
theorem TrainOne_c {xs : List OperatorT} {ps : List Int} {v u : Value} {w : World} {A B : Nat} (hA : A ≤ w.heap.size) (hB : B ≤ w.heap.size) (ha : RdOperatorS A w v xs) (hp : RdI B w u ps) :
    Calls Try.prog 37 #[v, u] w fun e w' => e = .returned (.tuple #[.int .i64 (TRK xs ps), .int .i64 (TRM xs ps), .int .i64 (TRC xs ps)]) ∧ Below w.heap.size w w' := by
  have ha1 := Rds.tight ha
  have Ha := Lib.hid ha1
  have Hp := Lib.hid (Rds.tight hp)
  by_cases hc : PCode xs ps = 0
  · obtain ⟨hv, hps⟩ := PCode_ok hc
    cases hbb : firstB xs ps with
    | true =>
      obtain ⟨e1, e2, e3⟩ := train_state hc hbb
      rw [e1, e2, e3]
      have Hc := Lib.hid hc
      have Hv := Lib.hid hv
      have Hps := Lib.hid hps
      have Hbb := Lib.hid hbb
      clear hc hbb hv hps ha hp e1 e2 e3 ha1
      go_enter Try.func37, Try.ntmps37
      go_wp2_with fail
      with_reducible refine (postCode_c Ha.out Hp.out).mono ?_
      rw [Hc.out]
      rintro e w1 ⟨rfl, hb⟩
      have hcall := filled_c hb.size hb.size (Ha.out.below hb (Nat.le_refl _)) (Hp.out.below hb (Nat.le_refl _)) Hv.out Hps.out
      rw [Hbb.out] at hcall
      have Hcall := Lib.hid hcall
      have Hb := Lib.hid hb
      clear hb hcall
      go_wp2_with fail
      with_reducible refine Hcall.out.mono ?_
      rintro e w5 ⟨r, rfl, h51, h52⟩
      have hb6 := Hb.out.trans (h52.mono Hb.out.size)
      clear h51 h52
      go_wp2
      go_ret3
      exact ⟨rfl, hb6⟩
    | false =>
      obtain ⟨hn8, hxs⟩ := validOs_parts hv
      obtain ⟨n, hn⟩ : ∃ n, n = xs.length := ⟨_, rfl⟩
      obtain ⟨la, lc, rfl, hlo⟩ := eOperator_open ha1
      obtain ⟨K, hK⟩ : ∃ K, TRK xs ps = K := ⟨_, rfl⟩
      obtain ⟨M, hM⟩ : ∃ M, TRM xs ps = M := ⟨_, rfl⟩
      obtain ⟨C, hC⟩ : ∃ C, TRC xs ps = C := ⟨_, rfl⟩
      rw [hK, hM, hC, ← hn]
      rw [← hn] at Ha hlo hn8
      have HK := Lib.hid hK
      have HM := Lib.hid hM
      have HC := Lib.hid hC
      have Hn := Lib.hid hn
      have Hlo := Lib.hid hlo
      have Hxs := Lib.hid hxs
      have Hc := Lib.hid hc
      have Hv := Lib.hid hv
      have Hps := Lib.hid hps
      have Hbb := Lib.hid hbb
      clear hc hbb hv hps ha hp ha1 hK hM hC hn hlo hxs
      go_enter Try.func37, Try.ntmps37
      go_wp2_with fail
      with_reducible refine (postCode_c Ha.out Hp.out).mono ?_
      rw [Hc.out]
      rintro e w1 ⟨rfl, hb⟩
      have hcall := filled_c hb.size hb.size (Ha.out.below hb (Nat.le_refl _)) (Hp.out.below hb (Nat.le_refl _)) Hv.out Hps.out
      rw [Hbb.out] at hcall
      have Hcall := Lib.hid hcall
      have Hb := Lib.hid hb
      clear hb hcall
      go_wp2_with fail
      with_reducible refine Hcall.out.mono ?_
      rintro e w5 ⟨r, rfl, h51, h52⟩
      have hb6 := Hb.out.trans (h52.mono Hb.out.size)
      clear h51 h52 Hb Hcall
      go_wp2_with fail
      with_reducible refine (sizeO_any0 (by omega)).mono ?_
      rintro e w' ⟨rfl, rfl⟩
      go_wp2_with fail
      go_loopw [29] (fun i wr => ∃ k : Nat, k ≤ n ∧ i = .int .i64 k ∧ Hid (∀ j, j < 6 * k → trainT xs ps j = false) ∧ Below w.heap.size w wr) (fun i _ => n - (intOf i).toNat)
      case atStart => exact ⟨0, Nat.zero_le _, rfl, fun j hj => by omega, hb6⟩
      case round =>
        obtain ⟨k, hk, rfl, hno, hbo⟩ := hrel
        clear hb6
        by_cases hkn : k < n
        · obtain ⟨b0, off, rfl, lt, cc⟩ := Hlo.out (by omega)
          obtain ⟨x, hx, ⟨x0, x1⟩, xb⟩ := cc k (by have := Hn.out; omega)
          have hxr := (Hxs.out x (List.mem_of_getElem? hx)).2
          have Hx := Lib.hid hx
          have Hx0 := Lib.hid x0
          have Hx1 := Lib.hid x1
          have Hxr := Lib.hid hxr
          clear hx x0 x1 xb cc hxr
          go_wp2_with fail
          go_loopw [32] (fun i wr => ∃ m : Nat, m ≤ 6 ∧ i = .int .i64 m ∧ Hid (∀ j, j < 6 * k + m → trainT xs ps j = false) ∧ Below w.heap.size w wr) (fun i _ => 6 - (intOf i).toNat)
          case atStart => exact ⟨0, Nat.zero_le _, rfl, hno.out, hbo⟩
          case round =>
            obtain ⟨m, hm, rfl, hno2, hb⟩ := hrel
            clear hno hbo
            by_cases hm6 : m < 6
            · have d0 := (hb.cell (p := ⟨b0, off + k * 2, none⟩) lt.2).trans Hx0.out
              have d1 := (hb.cell (p := ⟨b0, off + k * 2 + 1, none⟩) lt.2).trans Hx1.out
              have hmm : (0 : Int) ≤ (m : Int) ∧ (m : Int) ≤ 5 := by omega
              have hcan := canRun_c x (m : Int) wr Hxr.out hmm
              have htr := trainT_at xs ps (k := k) hm6
              rw [canAt_of Hx.out] at htr
              have Hmm := Lib.hid hmm
              cases hcb : canB x.skills (m : Int) with
              | true =>
                rw [hcb] at hcan htr
                have Hcan := Lib.hid hcan
                have Htr := Lib.hid htr
                have Hb := Lib.hid hb
                clear hcan htr hcb hb hmm
                go_wp2_with fail
                with_reducible refine Hcan.out.mono ?_
                rintro e w2 ⟨rfl, hb2⟩
                have hb3 := Hb.out.trans (hb2.mono Hb.out.size)
                clear d0 d1 hb2
                go_wp2
                go_roundw
                case rel => exact ⟨m + 1, by omega, by go_num, train_step hno2.out (by show trainT xs ps (6 * k + m) = false; rw [Htr.out]; rfl), hb3⟩
                case measure => simp [intOf]; omega
              | false =>
                rw [hcb] at hcan htr
                have Hcan := Lib.hid hcan
                have Htr := Lib.hid htr
                have Hb := Lib.hid hb
                clear hcan htr hcb hb hmm
                go_wp2_with fail
                with_reducible refine Hcan.out.mono ?_
                rintro e w2 ⟨rfl, hb2⟩
                have hb3 := Hb.out.trans (hb2.mono Hb.out.size)
                have hcon := taught_c (m : Int) (Ha.out.below hb3 (Nat.le_refl _)) Hx.out Hxr.out Hmm.out (by have := Hn.out; omega)
                have Hcon := Lib.hid hcon
                have Hb3 := Lib.hid hb3
                clear d0 d1 hb2 hcon hb3
                go_wp2_with fail
                with_reducible refine Hcon.out.mono ?_
                rintro e w3 ⟨r3, rfl, hr3, hb4⟩
                have hb5 := Hb3.out.trans (hb4.mono Hb3.out.size)
                have hcon := filled_c (Nat.le_refl _) hb5.size hr3.rds (Hp.out.below hb5 (Nat.le_refl _)) (validOs_taught Hv.out Hmm.out (by have := Hn.out; omega)) Hps.out
                obtain ⟨ra3, rc3, rfl⟩ := hr3.shape
                cases hfb : firstB (taughtF xs (k : Int) (m : Int)) ps with
                | true =>
                  rw [hfb] at hcon
                  have htr := Htr.out
                  rw [hfb] at htr
                  obtain ⟨e1, e2, e3⟩ := train_found Hc.out Hbb.out (by have := Hn.out; omega) hm6 hno2.out htr
                  rw [HK.out] at e1
                  rw [HM.out] at e2
                  rw [HC.out] at e3
                  subst e1
                  subst e2
                  subst e3
                  have Hcon := Lib.hid hcon
                  have Hb5 := Lib.hid hb5
                  clear hcon hb4 hb5 hr3 hfb htr
                  go_wp2_with fail
                  with_reducible refine Hcon.out.mono ?_
                  rintro e w6 ⟨r6, rfl, h61, h62⟩
                  have hb7 := Hb5.out.trans (h62.mono Hb5.out.size)
                  clear h61 h62
                  go_wp2
                  go_ret3
                  exact ⟨rfl, hb7⟩
                | false =>
                  rw [hfb] at hcon
                  have htr := Htr.out
                  rw [hfb] at htr
                  have Htr2 := Lib.hid htr
                  have Hcon := Lib.hid hcon
                  have Hb5 := Lib.hid hb5
                  clear hcon hb4 hb5 hr3 hfb htr
                  go_wp2_with fail
                  with_reducible refine Hcon.out.mono ?_
                  rintro e w6 ⟨r6, rfl, h61, h62⟩
                  have hb7 := Hb5.out.trans (h62.mono Hb5.out.size)
                  clear h61 h62
                  go_wp2
                  go_roundw
                  case rel => exact ⟨m + 1, by omega, by go_num, train_step hno2.out (by show trainT xs ps (6 * k + m) = false; rw [Htr2.out]; rfl), hb7⟩
                  case measure => simp [intOf]; omega
            · obtain rfl : m = 6 := by omega
              go_wp2
              go_roundw
              case rel => exact ⟨k + 1, by omega, by go_num, fun j hj => hno2.out j (by omega), hb⟩
              case measure => simp [intOf]; omega
        · obtain rfl : k = n := by omega
          obtain ⟨e1, e2, e3⟩ := train_none Hc.out Hbb.out (by rw [← Hn.out]; exact hno.out)
          rw [HK.out] at e1
          rw [HM.out] at e2
          rw [HC.out] at e3
          subst e1
          subst e2
          subst e3
          go_wp2
          go_ret3
          exact ⟨rfl, hbo⟩
  · obtain ⟨e1, e2, e3⟩ := train_code hc
    rw [e1, e2, e3]
    obtain ⟨c, hcc⟩ : ∃ c, PCode xs ps = c := ⟨_, rfl⟩
    have hc12 : c = 1 ∨ c = 2 := by have := PCode_01 xs ps; omega
    have Hcc := Lib.hid hcc
    rw [hcc]
    clear ha hp hc hcc e1 e2 e3 ha1
    rcases hc12 with rfl | rfl <;>
    · go_enter Try.func37, Try.ntmps37
      go_wp2_with fail
      with_reducible refine (postCode_c Ha.out Hp.out).mono ?_
      rw [Hcc.out]
      rintro e w1 ⟨rfl, hb⟩
      go_wp2
      go_ret3
      exact ⟨rfl, hb⟩
theorem most_of {xs : List OperatorT} {ps : List Int} {v u : Value} {w : World} {A B : Nat} (hA : A ≤ w.heap.size) (hB : B ≤ w.heap.size) (ha : RdOperatorS A w v xs) (hp : RdI B w u ps) (hv : validOs xs = true) (hps : postsB ps = true) :
    ∃ c : Int, (c == (ps.length : Int)) = firstB xs ps ∧ Calls Try.prog 67 #[v, u] w fun e w' => e = .returned (.int .i64 c) ∧ Below w.heap.size w w' := by
  refine ⟨_, ?_, l22Most_c hA hB ha hp hv hps⟩
  rw [firstB_kuhn, Bool.eq_iff_iff, decide_eq_true_iff, beq_iff_eq]
  omega
set_option maxHeartbeats 1000000 in
theorem sTrainOne_c {xs : List OperatorT} {ps : List Int} {v u : Value} {w : World} {A B : Nat} (hA : A ≤ w.heap.size) (hB : B ≤ w.heap.size) (ha : RdOperatorS A w v xs) (hp : RdI B w u ps) :
    Calls Try.prog 36 #[v, u] w fun e w' => e = .returned (.tuple #[.int .i64 (TRK xs ps), .int .i64 (TRM xs ps), .int .i64 (TRC xs ps)]) ∧ Below w.heap.size w w' := by
  have ha1 := Rds.tight ha
  have hp1 := Rds.tight hp
  have Ha := Lib.hid ha1
  have Hp := Lib.hid hp1
  have hple := hp.le
  by_cases hc : PCode xs ps = 0
  · obtain ⟨hv, hps⟩ := PCode_ok hc
    obtain ⟨pa, pc, rfl⟩ := hp1.shape
    obtain ⟨p, hpn⟩ : ∃ p, p = ps.length := ⟨_, rfl⟩
    rw [← hpn] at Hp hple ⊢
    have Hpn := Lib.hid hpn
    cases hbb : firstB xs ps with
    | true =>
      obtain ⟨e1, e2, e3⟩ := train_state hc hbb
      rw [e1, e2, e3]
      have Hc := Lib.hid hc
      have Hv := Lib.hid hv
      have Hps := Lib.hid hps
      have Hbb := Lib.hid hbb
      clear hc hbb hv hps ha hp e1 e2 e3 ha1 hp1 hpn
      go_enter Try.func36, Try.ntmps36
      go_wp2_with fail
      with_reducible refine (l22Code_c Ha.out Hp.out).mono ?_
      rw [Hc.out]
      rintro e w1 ⟨rfl, q, rfl⟩
      have hb := (Below.refl w.heap.size w).drewNy q
      generalize w.drewN q = w1 at hb ⊢
      obtain ⟨cm, hcm, hcall⟩ := most_of hb.size hb.size (Ha.out.below hb (Nat.le_refl _)) (Hp.out.below hb (Nat.le_refl _)) Hv.out Hps.out
      rw [Hbb.out, ← Hpn.out] at hcm
      have Hcall := Lib.hid hcall
      have Hb := Lib.hid hb
      clear hb hcall
      go_wp2_with fail
      with_reducible refine Hcall.out.mono ?_
      rintro e w5 ⟨rfl, h52⟩
      have hb6 := Hb.out.trans (h52.mono Hb.out.size)
      clear h52
      go_wp2
      go_ret3
      exact ⟨rfl, hb6⟩
    | false =>
      obtain ⟨hn8, hxs⟩ := validOs_parts hv
      obtain ⟨n, hn⟩ : ∃ n, n = xs.length := ⟨_, rfl⟩
      obtain ⟨la, lc, rfl, hlo⟩ := eOperator_open ha1
      obtain ⟨K, hK⟩ : ∃ K, TRK xs ps = K := ⟨_, rfl⟩
      obtain ⟨M, hM⟩ : ∃ M, TRM xs ps = M := ⟨_, rfl⟩
      obtain ⟨C, hC⟩ : ∃ C, TRC xs ps = C := ⟨_, rfl⟩
      rw [hK, hM, hC, ← hn]
      rw [← hn] at Ha hlo hn8
      have HK := Lib.hid hK
      have HM := Lib.hid hM
      have HC := Lib.hid hC
      have Hn := Lib.hid hn
      have Hlo := Lib.hid hlo
      have Hxs := Lib.hid hxs
      have Hc := Lib.hid hc
      have Hv := Lib.hid hv
      have Hps := Lib.hid hps
      have Hbb := Lib.hid hbb
      clear hc hbb hv hps ha hp ha1 hp1 hpn hK hM hC hn hlo hxs
      go_enter Try.func36, Try.ntmps36
      go_wp2_with fail
      with_reducible refine (l22Code_c Ha.out Hp.out).mono ?_
      rw [Hc.out]
      rintro e w1 ⟨rfl, q, rfl⟩
      have hb := (Below.refl w.heap.size w).drewNy q
      generalize w.drewN q = w1 at hb ⊢
      obtain ⟨cm, hcm, hcall⟩ := most_of hb.size hb.size (Ha.out.below hb (Nat.le_refl _)) (Hp.out.below hb (Nat.le_refl _)) Hv.out Hps.out
      rw [Hbb.out, ← Hpn.out] at hcm
      have Hcall := Lib.hid hcall
      have Hb := Lib.hid hb
      clear hb hcall
      go_wp2_with fail
      with_reducible refine Hcall.out.mono ?_
      rintro e w5 ⟨rfl, h52⟩
      have hb6 := Hb.out.trans (h52.mono Hb.out.size)
      clear h52 Hb Hcall
      go_wp2_with fail
      go_loopw [8] (fun i wr => ∃ k : Nat, k ≤ n ∧ i = .int .i64 k ∧ Hid (∀ j, j < 6 * k → trainT xs ps j = false) ∧ Below w.heap.size w wr) (fun i _ => n - (intOf i).toNat)
      case atStart => exact ⟨0, Nat.zero_le _, rfl, fun j hj => by omega, hb6⟩
      case round =>
        obtain ⟨k, hk, rfl, hno, hbo⟩ := hrel
        clear hb6 hcm
        by_cases hkn : k < n
        · obtain ⟨b0, off, rfl, lt, cc⟩ := Hlo.out (by omega)
          obtain ⟨x, hx, ⟨x0, x1⟩, xb⟩ := cc k (by have := Hn.out; omega)
          have hxr := (Hxs.out x (List.mem_of_getElem? hx)).2
          have Hx := Lib.hid hx
          have Hx1 := Lib.hid x1
          have Hxr := Lib.hid hxr
          clear hx x0 x1 xb cc hxr
          go_wp2_with fail
          go_loopw [9] (fun i wr => ∃ m : Nat, m ≤ 6 ∧ i = .int .i64 m ∧ Hid (∀ j, j < 6 * k + m → trainT xs ps j = false) ∧ Below w.heap.size w wr) (fun i _ => 6 - (intOf i).toNat)
          case atStart => exact ⟨0, Nat.zero_le _, rfl, hno.out, hbo⟩
          case round =>
            obtain ⟨m, hm, rfl, hno2, hb⟩ := hrel
            clear hno hbo
            by_cases hm6 : m < 6
            · have d1 := (hb.cell (p := ⟨b0, off + k * 2 + 1, none⟩) lt.2).trans Hx1.out
              have hmm : (0 : Int) ≤ (m : Int) ∧ (m : Int) ≤ 5 := by omega
              have hcan := l22Can_c x (m : Int) wr Hxr.out hmm (b := b0) (off := off + k * 2) d1
              have htr := trainT_at xs ps (k := k) hm6
              rw [canAt_of Hx.out] at htr
              have Hmm := Lib.hid hmm
              cases hcb : canB x.skills (m : Int) with
              | true =>
                rw [hcb] at hcan htr
                have Hcan := Lib.hid hcan
                have Htr := Lib.hid htr
                have Hb := Lib.hid hb
                clear hcan htr hcb hb hmm
                go_wp2_with fail
                with_reducible refine Hcan.out.mono ?_
                rintro e w2 ⟨rfl, rfl⟩
                go_wp2
                go_roundw
                case rel => exact ⟨m + 1, by omega, by go_num, train_step hno2.out (by show trainT xs ps (6 * k + m) = false; rw [Htr.out]; rfl), Hb.out⟩
                case measure => simp [intOf]; omega
              | false =>
                rw [hcb] at hcan htr
                have Hcan := Lib.hid hcan
                have Htr := Lib.hid htr
                have Hb3 := Lib.hid hb
                have hcon := l22Taught_c (m : Int) (Ha.out.below hb (Nat.le_refl _)) Hx.out Hxr.out Hmm.out (by have := Hn.out; omega)
                have Hcon := Lib.hid hcon
                clear hcan htr hcb hb hmm hcon d1
                go_wp2_with fail
                with_reducible refine Hcan.out.mono ?_
                rintro e w2 ⟨rfl, rfl⟩
                go_wp2_with fail
                with_reducible refine Hcon.out.mono ?_
                rintro e w3 ⟨r3, rfl, hr3, hb4⟩
                have hb5 := Hb3.out.trans (hb4.mono Hb3.out.size)
                obtain ⟨cm, hcm, hcon⟩ := most_of (Nat.le_refl _) hb5.size hr3.rds (Hp.out.below hb5 (Nat.le_refl _)) (validOs_taught Hv.out Hmm.out (by have := Hn.out; omega)) Hps.out
                obtain ⟨ra3, rc3, rfl⟩ := hr3.shape
                rw [← Hpn.out] at hcm
                cases hfb : firstB (taughtF xs (k : Int) (m : Int)) ps with
                | true =>
                  rw [hfb] at hcm
                  have htr := Htr.out
                  rw [hfb] at htr
                  obtain ⟨e1, e2, e3⟩ := train_found Hc.out Hbb.out (by have := Hn.out; omega) hm6 hno2.out htr
                  rw [HK.out] at e1
                  rw [HM.out] at e2
                  rw [HC.out] at e3
                  subst e1
                  subst e2
                  subst e3
                  have Hcon := Lib.hid hcon
                  have Hb5 := Lib.hid hb5
                  clear hcon hb4 hb5 hr3 hfb htr
                  go_wp2_with fail
                  with_reducible refine Hcon.out.mono ?_
                  rintro e w6 ⟨rfl, h62⟩
                  have hb7 := Hb5.out.trans (h62.mono Hb5.out.size)
                  clear h62
                  go_wp2
                  go_ret3
                  exact ⟨rfl, hb7⟩
                | false =>
                  rw [hfb] at hcm
                  have htr := Htr.out
                  rw [hfb] at htr
                  have Htr2 := Lib.hid htr
                  have Hcon := Lib.hid hcon
                  have Hb5 := Lib.hid hb5
                  clear hcon hb4 hb5 hr3 hfb htr
                  go_wp2_with fail
                  with_reducible refine Hcon.out.mono ?_
                  rintro e w6 ⟨rfl, h62⟩
                  have hb7 := Hb5.out.trans (h62.mono Hb5.out.size)
                  clear h62
                  go_wp2
                  go_roundw
                  case rel => exact ⟨m + 1, by omega, by go_num, train_step hno2.out (by show trainT xs ps (6 * k + m) = false; rw [Htr2.out]; rfl), hb7⟩
                  case measure => simp [intOf]; omega
            · obtain rfl : m = 6 := by omega
              go_wp2
              go_roundw
              case rel => exact ⟨k + 1, by omega, by go_num, fun j hj => hno2.out j (by omega), hb⟩
              case measure => simp [intOf]; omega
        · obtain rfl : k = n := by omega
          obtain ⟨e1, e2, e3⟩ := train_none Hc.out Hbb.out (by rw [← Hn.out]; exact hno.out)
          rw [HK.out] at e1
          rw [HM.out] at e2
          rw [HC.out] at e3
          subst e1
          subst e2
          subst e3
          go_wp2
          go_ret3
          exact ⟨rfl, hbo⟩
  · obtain ⟨e1, e2, e3⟩ := train_code hc
    rw [e1, e2, e3]
    obtain ⟨c, hcc⟩ : ∃ c, PCode xs ps = c := ⟨_, rfl⟩
    have hc12 : c = 1 ∨ c = 2 := by have := PCode_01 xs ps; omega
    have Hcc := Lib.hid hcc
    rw [hcc]
    clear ha hp hc hcc e1 e2 e3 ha1 hp1
    rcases hc12 with rfl | rfl <;>
    · go_enter Try.func36, Try.ntmps36
      go_wp2_with fail
      with_reducible refine (l22Code_c Ha.out Hp.out).mono ?_
      rw [Hcc.out]
      rintro e w1 ⟨rfl, q, rfl⟩
      go_wp2
      go_ret3
      exact ⟨rfl, (Below.refl _ _).drewNy _⟩
end Go.Proofs.Ytfojfcmjoacbgaa
