/- The first fault of posts: the program's. No condition. -/
import Derived.Test.YtfojfcmjoacbgaaPost2
import Derived.Test.YtfojfcmjoacbgaaQB
namespace Go.Proofs.Ytfojfcmjoacbgaa
open Go.ChangeShapes Go.WideShapes Go.ChangeAt Go.RowKit Go.Sort
set_option linter.unusedVariables false
set_option maxRecDepth 100000
set_option maxHeartbeats 1000000 in
theorem PostFault_c {xs : List OperatorT} {ps who : List Int} {v u z : Value} {w : World} {A B C : Nat} (ha : RdOperatorS A w v xs) (hp : RdI B w u ps) (hw : RdI C w z who) :
    Calls Try.prog 31 #[v, u, z] w fun e w' => e = .returned (.tuple #[.int .i64 (PFV xs ps who), .int .i64 (PFC xs ps who)]) ∧ Below w.heap.size w w' := by
  have Ha := Lib.hid ha
  have Hp := Lib.hid hp
  have Hw := Lib.hid hw.tight
  have hlep := hp.le
  have hlew := hw.le
  obtain ⟨ao, cap, rfl, ho⟩ := eOperator_open ha
  obtain ⟨pao, pcap, rfl, pho⟩ := RdI.open hp
  obtain ⟨wao, wcap, rfl, who_⟩ := RdI.open hw
  have hcapw := hw.cap
  have hlex := ha.le
  by_cases hc : PCode xs ps = 0
  · obtain ⟨hv, hps⟩ := PCode_ok hc
    obtain ⟨hn8, hxs⟩ := validOs_parts hv
    obtain ⟨hp8, hps2⟩ := postsB_parts hps
    by_cases hl : who.length = ps.length
    · have e1 : PFC xs ps who = 0 := by unfold PFC; rw [if_pos hc, if_pos hl]
      have e2 : PFV xs ps who = findF (faultAt xs ps who) who.length := by unfold PFV; rw [if_pos e1]
      rw [e1, e2]
      obtain ⟨n, hn⟩ : ∃ n, n = xs.length := ⟨_, rfl⟩
      obtain ⟨m, hm⟩ : ∃ m, m = who.length := ⟨_, rfl⟩
      have hlm : ps.length = m := by omega
      rw [← hn] at Ha ho hn8 hlex ⊢
      rw [hlm] at Hp pho ⊢
      rw [← hm] at Hw who_ hcapw ⊢
      have Hn := Lib.hid hn
      have Hm := Lib.hid hm
      have Hc := Lib.hid hc
      have Ho := Lib.hid ho
      have Pho := Lib.hid pho
      have Who := Lib.hid who_
      have Hxs := Lib.hid hxs
      have Hps2 := Lib.hid hps2
      have Hlm := Lib.hid hlm
      have hm8 : m ≤ 8 := by omega
      have hcw : m ≤ wcap := by omega
      clear ha hp hw ho pho who_ hxs hps hps2 hn hm hl hc hv e1 e2 hcapw hlep hlew hp8 hlm
      go_enter Try.func31, Try.ntmps31
      go_wp2_with fail
      with_reducible refine (postCode_c Ha.out Hp.out).mono ?_
      rw [Hc.out]
      rintro e w1 ⟨rfl, hb0⟩
      have Hb0 := Lib.hid hb0
      clear hb0
      go_wp2_with fail
      go_loopw [26] (fun i wr => ∃ k : Nat, k ≤ m ∧ i = .int .i64 k ∧ Hid (∀ j, j < k → faultAt xs ps who j = false) ∧ Below w.heap.size w wr) (fun i _ => m - (intOf i).toNat)
      case atStart => exact ⟨0, Nat.zero_le _, rfl, fun j h => by omega, Hb0.out⟩
      case round =>
        obtain ⟨k, hk, rfl, hp, hbb⟩ := hrel
        by_cases hkm : k < m
        · obtain ⟨wb, woff, rfl, wlt, wc⟩ := Who.out (by omega)
          obtain ⟨y, hy, wcy, yb⟩ := wc k hkm
          obtain ⟨pb, poff, rfl, plt, pc⟩ := Pho.out (by omega)
          obtain ⟨p, hp1, pcy, pb2⟩ := pc k hkm
          have hpr := Hps2.out p (List.mem_of_getElem? hp1)
          have hat : faultAt xs ps who k = (!(inB xs.length y) || (!(canAt xs p y) || hasI (who.take k) y)) := by unfold faultAt; rw [atI_of hy, atI_of hp1]
          have Hat := Lib.hid hat
          have hcap : (k : Int) ≤ wcap := by omega
          have wcy' := (hbb.cell (p := ⟨wb, woff + k, none⟩) wlt.2).trans wcy
          have pcy' := (hbb.cell (p := ⟨pb, poff + k, none⟩) plt.2).trans pcy
          have Hbb := Lib.hid hbb
          clear wc pc hy hp1 hat wcy pcy hbb
          by_cases hin : 0 ≤ y ∧ y ≤ (n : Int) - 1
          · have e3 : inB xs.length y = true := by unfold inB; rw [← Hn.out]; exact decide_eq_true hin
            rw [e3] at Hat
            obtain ⟨yy, rfl⟩ : ∃ yy : Nat, y = yy := ⟨y.toNat, by omega⟩
            obtain ⟨b, off, rfl, lt, c⟩ := Ho.out (by omega)
            obtain ⟨x, hx, ⟨c0, c1⟩, xb⟩ := c yy (by have := Hn.out; omega)
            have hxr := (Hxs.out x (List.mem_of_getElem? hx)).2
            have ecan : canAt xs p (yy : Int) = canB x.skills p := canAt_of hx
            rw [ecan] at Hat
            have d0 := (Hbb.out.cell (p := ⟨b, off + yy * 2, none⟩) lt.2).trans c0
            have d1 := (Hbb.out.cell (p := ⟨b, off + yy * 2 + 1, none⟩) lt.2).trans c1
            have Hxr := Lib.hid hxr
            have Hpr := Lib.hid hpr
            have hr := (Hw.out.below Hbb.out (Nat.le_refl _)).takeN (k := k) (by omega)
            have hr2 := hr.tight
            have Hr := Lib.hid hr2
            have hyn : (yy : Int) < n := by omega
            have z0 : IntKind.i64.wrap ((n : Int) - 1) = (n : Int) - 1 := IntWalk.i64_in _ (by omega)
            clear hx c xb hxr hpr hr hr2 e3 ecan hin c0 c1
            have f0 := cell_regrown d0
            have f1 := cell_regrown d1
            have f2 := cell_regrown pcy'
            clear d0 d1 pcy'
            cases hcan : canB x.skills p with
            | false =>
              have Hcan := Lib.hid hcan
              have hcon := fun w' => canRun_c x p w' Hxr.out Hpr.out
              rw [Hcan.out] at hcon Hat
              have Hcon := Lib.hid hcon
              clear hcan hcon
              go_wp2
              refine wp_region_quiet_below (by kernel_rfl) (by kernel_rfl) ?_
              repeat ((with_reducible refine wpQuiet_step (fun K hK => ?_)); go_simp; first | ((with_reducible refine hK _ ?_); clear hK K) | (apply Exists.intro; refine ⟨fun _ => ?_, hK _ ?_⟩; ((first | (go_at_call 57; exact qb_same (sizeO_any0 (by omega))) | (go_at_call 50; exact qb_same (inside_yes _ _ _ _ (by omega) (by omega))) | (go_at_call 58; exact qb_below (Hcon.out _)))); clear hK K))
              refine wpQuiet_nil ?_
              intro _ hw'
              obtain ⟨⟨dq, osq⟩, hw''⟩ := hw'
              subst hw''
              have hbq := below_regrown wr dq osq
              generalize grow (redrawn wr dq) osq = wq at hbq ⊢
              have hbq2 := Hbb.out.trans (hbq.mono Hbb.out.size)
              clear f0 f1 f2 hbq
              go_wp2
              go_ret2
              exact ⟨by rw [findF_some (k := k) (by omega) hp.out (by rw [Hat.out]; rfl)]; rfl, hbq2⟩
            | true =>
              have Hcan := Lib.hid hcan
              have hcon := fun w' => canRun_c x p w' Hxr.out Hpr.out
              rw [Hcan.out] at hcon Hat
              have Hcon := Lib.hid hcon
              clear hcan hcon
              cases hhas : hasI (who.take k) (yy : Int) with
              | true =>
                have hcon2 := fun d os => containsI_c (yy : Int) (Rds.regrown Hr.out (Nat.le_refl _) d os)
                rw [hhas] at hcon2 Hat
                have Hcon2 := Lib.hid hcon2
                clear hhas hcon2
                go_wp2
                refine wp_region_quiet_below (by kernel_rfl) (by kernel_rfl) ?_
                repeat ((with_reducible refine wpQuiet_step (fun K hK => ?_)); go_simp; first | ((with_reducible refine hK _ ?_); clear hK K) | (apply Exists.intro; refine ⟨fun _ => ?_, hK _ ?_⟩; ((first | (go_at_call 57; exact qb_same (sizeO_any0 (by omega))) | (go_at_call 50; exact qb_same (inside_yes _ _ _ _ (by omega) (by omega))) | (go_at_call 58; exact qb_below (Hcon.out _)) | (go_at_call 66; exact qb_same (Hcon2.out _ _)))); clear hK K))
                refine wpQuiet_nil ?_
                intro _ hw'
                obtain ⟨⟨dq, osq⟩, hw''⟩ := hw'
                subst hw''
                have hbq := below_regrown wr dq osq
                generalize grow (redrawn wr dq) osq = wq at hbq ⊢
                have hbq2 := Hbb.out.trans (hbq.mono Hbb.out.size)
                clear f0 f1 f2 hbq
                go_wp2
                go_ret2
                exact ⟨by rw [findF_some (k := k) (by omega) hp.out (by rw [Hat.out]; rfl)]; rfl, hbq2⟩
              | false =>
                have hcon2 := fun d os => containsI_c (yy : Int) (Rds.regrown Hr.out (Nat.le_refl _) d os)
                rw [hhas] at hcon2 Hat
                have Hcon2 := Lib.hid hcon2
                clear hhas hcon2
                go_wp2
                refine wp_region_quiet_below (by kernel_rfl) (by kernel_rfl) ?_
                repeat ((with_reducible refine wpQuiet_step (fun K hK => ?_)); go_simp; first | ((with_reducible refine hK _ ?_); clear hK K) | (apply Exists.intro; refine ⟨fun _ => ?_, hK _ ?_⟩; ((first | (go_at_call 57; exact qb_same (sizeO_any0 (by omega))) | (go_at_call 50; exact qb_same (inside_yes _ _ _ _ (by omega) (by omega))) | (go_at_call 58; exact qb_below (Hcon.out _)) | (go_at_call 66; exact qb_same (Hcon2.out _ _)))); clear hK K))
                refine wpQuiet_nil ?_
                intro _ hw'
                obtain ⟨⟨dq, osq⟩, hw''⟩ := hw'
                subst hw''
                have hbq := below_regrown wr dq osq
                generalize grow (redrawn wr dq) osq = wq at hbq ⊢
                have hbq2 := Hbb.out.trans (hbq.mono Hbb.out.size)
                clear f0 f1 f2 hbq
                go_wp2
                go_roundw
                case rel =>
                  refine ⟨k + 1, by omega, by go_num, ?_, hbq2⟩
                  intro j hj
                  by_cases e : j < k
                  · exact hp.out j e
                  · obtain rfl : j = k := by omega
                    rw [Hat.out]; rfl
                case measure => simp [intOf]; omega
          · have e3 : inB xs.length y = false := by unfold inB; rw [← Hn.out]; exact decide_eq_false hin
            rw [e3] at Hat
            have hno : y < 0 ∨ (n : Int) - 1 < y := by omega
            have Hno := Lib.hid hno
            have z0 : IntKind.i64.wrap ((n : Int) - 1) = (n : Int) - 1 := IntWalk.i64_in _ (by omega)
            have f0 : True := trivial
            have f1 : True := trivial
            have f2 : True := trivial
            clear hin hno e3 hpr
            go_wp2
            refine wp_region_quiet_below (by kernel_rfl) (by kernel_rfl) ?_
            repeat ((with_reducible refine wpQuiet_step (fun K hK => ?_)); go_simp; first | ((with_reducible refine hK _ ?_); clear hK K) | (apply Exists.intro; refine ⟨fun _ => ?_, hK _ ?_⟩; ((first | (go_at_call 57; exact qb_same (sizeO_any0 (by omega))) | (go_at_call 50; exact qb_same (inside_no _ _ _ _ Hno.out)))); clear hK K))
            refine wpQuiet_nil ?_
            intro _ hw'
            obtain ⟨⟨dq, osq⟩, hw''⟩ := hw'
            subst hw''
            have hbq := below_regrown wr dq osq
            generalize grow (redrawn wr dq) osq = wq at hbq ⊢
            have hbq2 := Hbb.out.trans (hbq.mono Hbb.out.size)
            clear f0 f1 f2 hbq
            go_wp2
            go_ret2
            exact ⟨by rw [findF_some (k := k) (by omega) hp.out (by rw [Hat.out]; rfl)]; rfl, hbq2⟩
        · go_wp2
          go_ret2
          exact ⟨by rw [findF_none (fun j hj => hp.out j (by omega))]; rfl, hbb⟩
    · have e1 : PFC xs ps who = 2 := by unfold PFC; rw [if_pos hc, if_neg hl]
      have e2 : PFV xs ps who = 0 := by unfold PFV; rw [e1]; rfl
      rw [e1, e2]
      have hf : ((who.length : Int) != (ps.length : Int)) = true := by simp; omega
      obtain ⟨n, hn⟩ : ∃ n, n = ps.length := ⟨_, rfl⟩
      obtain ⟨m, hm⟩ : ∃ m, m = who.length := ⟨_, rfl⟩
      rw [← hn] at Hp hf hlep ⊢
      rw [← hm] at hf hlew ⊢
      have Hc := Lib.hid hc
      clear ha hp hw ho pho who_ hn hm hl hc e1 e2 hcapw
      go_enter Try.func31, Try.ntmps31
      go_wp2_with fail
      with_reducible refine (postCode_c Ha.out Hp.out).mono ?_
      rw [Hc.out]
      rintro e w1 ⟨rfl, hb0⟩
      go_wp2
      go_ret2
      exact ⟨rfl, hb0⟩
  · have e1 : PFC xs ps who = PCode xs ps := by unfold PFC; rw [if_neg hc]
    have e2 : PFV xs ps who = 0 := by unfold PFV; rw [e1, if_neg hc]
    rw [e1, e2]
    obtain ⟨c, hcc⟩ : ∃ c, PCode xs ps = c := ⟨_, rfl⟩
    have hc12 : c = 1 ∨ c = 2 := by have := PCode_01 xs ps; omega
    have Hcc := Lib.hid hcc
    rw [hcc]
    clear ha hp hw ho pho who_ hc e1 e2 hcapw hcc
    rcases hc12 with rfl | rfl <;>
    · go_enter Try.func31, Try.ntmps31
      go_wp2_with fail
      with_reducible refine (postCode_c Ha.out Hp.out).mono ?_
      rw [Hcc.out]
      rintro e w1 ⟨rfl, hb0⟩
      go_wp2
      go_ret2
      exact ⟨rfl, hb0⟩
end Go.Proofs.Ytfojfcmjoacbgaa
