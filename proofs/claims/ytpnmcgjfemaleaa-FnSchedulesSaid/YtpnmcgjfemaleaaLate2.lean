/- Late jobs: the program's. No condition. -/
import Derived.Test.YtpnmcgjfemaleaaLate
namespace Go.Proofs.Ytpnmcgjfemaleaa
open Go.ChangeShapes Go.WideShapes Go.ChangeAt Go.RowKit
set_option linter.unusedVariables false
set_option maxRecDepth 100000
theorem within_grown {lo hi : Nat} {w2 wr w' : World} {row : Option Nat} (h : Within lo hi w2 wr) (hg : wr.grownBy w' row) (hr : ∀ k, row = some k → (lo ≤ k ∧ k < hi) ∨ w2.heap.size ≤ k) : Within lo hi w2 w' :=
  ⟨hg.os.trans h.os, hg.tape.trans h.tape, hg.output.trans h.output, Nat.le_trans h.size hg.size, fun k hk hh => (hg.block k (Nat.lt_of_lt_of_le hk h.size) (fun e => by have := hr k e.symm; omega)).trans (h.block k hk hh)⟩
theorem within_same {lo hi : Nat} {w2 wr w' : World} (h : Within lo hi w2 wr) (hb : Below wr.heap.size wr w') : Within lo hi w2 w' :=
  ⟨hb.os.trans h.os, hb.tape.trans h.tape, hb.output.trans h.output, Nat.le_trans h.size hb.size, fun k hk hh => (hb.block k (Nat.lt_of_lt_of_le hk h.size)).trans (h.block k hk hh)⟩
theorem clo_badD (x : Int) (w : World) (_h : -9223372036854775808 ≤ x ∧ x ≤ 9223372036854775807) : Calls Try.prog 81 #[.int .i64 x] w fun e w' => e = .returned (.bool (badD x)) ∧ w = w' := by
  unfold badD
  go_enter Try.func81, Try.ntmps81
  go_wp2_with fail
  with_reducible refine (inside_any _ _ _ _).mono ?_
  rintro e w' ⟨rfl, rfl⟩
  go_wp2
  go_ret
  exact ⟨ret_bool (by by_cases h1 : 0 ≤ x <;> by_cases h2 : x ≤ 1000000 <;> simp [h1, h2]), rfl⟩
theorem indexFunc_badD {xs : List Int} {v : Value} {w : World} {A : Nat} (ha : RdI A w v xs) :
    Calls Try.prog 86 #[v, .func (.func 81) #[] #[]] w fun e w' => (∃ r : Int, e = .returned (.int .i64 r) ∧ -1 ≤ r ∧ (0 ≤ r ↔ xs.any badD = true)) ∧ w = w' := by
  have hle := ha.le
  obtain ⟨ao, cap, rfl, ho⟩ := ha.open
  obtain ⟨l, hl⟩ : ∃ l, l = xs.length := ⟨_, rfl⟩
  rw [← hl]
  have Hl := Lib.hid hl
  have Ho := Lib.hid ho
  have hl' : l ≤ 9223372036854775807 := by omega
  clear ho hl hle ha
  go_enter Try.func86, Try.ntmps86
  go_wp2
  go_loop [8] (fun i => ∃ k : Nat, k ≤ l ∧ i = .int .i64 k ∧ Hid ((xs.take k).any badD = false)) (fun i => l - (intOf i).toNat)
  case atStart => exact ⟨0, Nat.zero_le _, rfl, rfl⟩
  case round =>
    obtain ⟨k, hk, rfl, hp⟩ := hrel
    by_cases hkn : k < l
    · obtain ⟨b, off, rfl, hlt, hc⟩ := Ho.out (by have := Hl.out; omega)
      obtain ⟨x, hx, hcx, bx⟩ := hc k (by have := Hl.out; omega)
      have Hx := Lib.hid hx
      have Hb := Lib.hid bx
      clear hx hc bx
      cases hq : badD x with
      | true =>
        have Hq := Lib.hid hq
        clear hq
        go_wp2_with (go_at_call 81; refine (clo_badD x _ Hb.out).mono ?_; rw [Hq.out]; rintro e w' ⟨rfl, rfl⟩)
        go_ret
        refine ⟨⟨_, rfl, by omega, ?_⟩, rfl⟩
        have : xs.any badD = true := List.any_eq_true.2 ⟨x, List.mem_of_getElem? Hx.out, Hq.out⟩
        simp [this]
      | false =>
        have Hq := Lib.hid hq
        clear hq
        go_wp2_with (go_at_call 81; refine (clo_badD x _ Hb.out).mono ?_; rw [Hq.out]; rintro e w' ⟨rfl, rfl⟩)
        go_round
        case rel => exact ⟨k + 1, by omega, by go_num, by show _ = false; rw [take_snoc Hx.out, List.any_append, hp.out]; simp [Hq.out]⟩
        case measure => simp [intOf]; omega
    · go_wp2
      go_ret
      refine ⟨⟨_, rfl, by omega, ?_⟩, rfl⟩
      have hq := hp.out
      rw [List.take_of_length_le (by have := Hl.out; omega)] at hq
      exact any_end hq
theorem any_badD {xs : List Int} {v : Value} {w : World} {A : Nat} (ha : RdI A w v xs) :
    Calls Try.prog 49 #[v, .func (.func 81) #[] #[]] w fun e w' => e = .returned (.bool (xs.any badD)) ∧ w = w' := by
  have Ha := Lib.hid ha
  obtain ⟨ao, cap, rfl⟩ := ha.shape
  clear ha
  go_enter Try.func49, Try.ntmps49
  go_wp2_with fail
  refine (indexFunc_badD Ha.out).mono ?_
  rintro e w' ⟨⟨r, rfl, hr, hi⟩, rfl⟩
  have Hi := Lib.hid hi
  clear hi
  go_wp2
  go_ret
  refine ⟨ret_bool ?_, rfl⟩
  rw [Bool.eq_iff_iff, decide_eq_true_iff]
  exact Hi.out
set_option maxHeartbeats 1000000 in
theorem LateJobs_c {xss : List (List Int)} {o dl : List Int} {v u z : Value} {w : World} {A B C : Nat} (hA : A ≤ w.heap.size) (hB : B ≤ w.heap.size) (ha : RdInt64SS A w v xss) (ho : RdI B w u o) (hd : RdI C w z dl) (hlo : o.length ≤ 2097152) :
    Calls Try.prog 40 #[v, u, z] w fun e w' => ∃ u0, e = .returned (.tuple #[u0, .int .i64 (LTC xss o dl)]) ∧ OwnInt64S w.heap.size w' u0 (LTV xss o dl) ∧ Below w.heap.size w w' := by
  have ha0 := ha.tight
  have Ha := Lib.hid ha0
  have Ho := Lib.hid (Rds.tight ho)
  have hdle := hd.le
  have hxle := ha.le
  have Hd := Lib.hid (Rds.tight hd)
  obtain ⟨dao, dcap, rfl, hdo⟩ := RdI.open (Rds.tight hd)
  obtain ⟨ao, cap, rfl, _⟩ := ha0.open
  have hcode : OCodeIn xss o (inD xss dl) = LTC xss o dl := rfl
  have Hlo := Lib.hid hlo
  by_cases hco : LTC xss o dl = 0
  · have hin : inD xss dl = true := by
      cases h : inD xss dl with
      | true => rfl
      | false => unfold LTC OCodeIn at hco; rw [h] at hco; split at hco <;> simp at hco
    have hoc : OCode xss o = 0 := by
      have h1 := hcode.trans hco
      rw [hin, OCodeIn_true] at h1
      exact h1
    unfold inD at hin
    rw [Bool.and_eq_true, decide_eq_true_iff] at hin
    obtain ⟨hlen, hany⟩ := hin
    have hany2 : dl.any badD = false := by simpa using hany
    obtain ⟨hv, hr, hl8, hne⟩ := ordP_parts hoc
    obtain ⟨n, m, hn, hon, hn0, hn8, hm, hm4, hel, heg, hix, hfb⟩ := late_facts hoc
    have hcode2 : OCodeIn xss o true = 0 := by rw [OCodeIn_true]; exact hoc
    have hdn : dl.length = n := by omega
    have e2 : LTV xss o dl = sortL (lateL xss o dl n) := by unfold LTV; rw [if_pos hco, hon]
    rw [hco, e2]
    obtain ⟨i0, hi, hz0, hz1, hz2⟩ := info_parts Try.infoInt64
    have ho1 := Ho.out
    obtain ⟨oao, ocap, rfl, hoo⟩ := RdI.open ho1
    rw [hdn] at hdo hdle ⊢
    rw [hdn] at Hd
    rw [hn] at Ha ⊢
    rw [hon] at Ho hoo ⊢
    have Hdo := Lib.hid hdo
    have Hv := Lib.hid hv
    have Hr := Lib.hid hr
    have Hany := Lib.hid hany2
    have Hcode := Lib.hid hcode2
    have Hoo := Lib.hid hoo
    have Hel := Lib.hid hel
    have Heg := Lib.hid heg
    have Hix := Lib.hid hix
    have Hfb := Lib.hid hfb
    have Hm := Lib.hid hm
    have Hon := Lib.hid hon
    clear hco hlen hany hany2 hv hr hne hn hon hm hel heg hix hfb hcode hcode2 e2 hdn ha ho hd ha0 ho1 hoo hdo hlo hoc
    go_enter Try.func40, Try.ntmps40
    go_wp2_with fail
    with_reducible refine (any_badD Hd.out).mono ?_
    rw [Hany.out]
    rintro e w' ⟨rfl, rfl⟩
    go_wp2_with fail
    with_reducible refine (orderCode_c true (Nat.le_refl _) Ha.out Ho.out Hlo.out).mono ?_
    rw [Hcode.out]
    rintro e w1 ⟨rfl, hb1⟩
    have ho0 : OwnInt64S w1.heap.size (w1.alloc (.cells #[] 2)) (.slice (some ⟨w1.heap.size, 0, none⟩) 0 0) (lateL xss o dl 0) := Own.lit (E := eI) (xs := []) (cs := #[]) (Nat.le_refl _) rfl rfl (by decide) (fun x hx => by cases hx)
    have hb0 : Below w.heap.size w (w1.alloc (.cells #[] 2)) := hb1.alloc hb1.size _
    have hs0 : (w1.alloc (.cells #[] 2)).heap.size = w1.heap.size + 1 := by simp
    have hcon := endTimes_c hb0.size hb0.size (Ha.out.below hb0 (Nat.le_refl _)) (Ho.out.below hb0 (Nat.le_refl _)) Hv.out Hr.out hl8
    have Hcon := Lib.hid hcon
    have Ho0 := Lib.hid ho0
    have Hb0 := Lib.hid hb0
    have Hs0 := Lib.hid hs0
    have hw1 : w.heap.size ≤ w1.heap.size := hb1.size
    clear hcon hb1 ho0 hb0 hs0
    go_wp2_with fail
    with_reducible refine Hcon.out.mono ?_
    rintro e w2 ⟨r, rfl, hR, hb2⟩
    have hb3 := Hb0.out.trans (hb2.mono Hb0.out.size)
    have ho2 := Ho0.out.below hb2 (Nat.le_refl _)
    have hw2 : w1.heap.size + 1 ≤ w2.heap.size := by have := hb2.size; rw [Hs0.out] at this; exact this
    obtain ⟨ra, rcp, rfl, _⟩ := hR.rds.open
    have HR := Lib.hid hR
    rw [Hel.out]
    clear hb2 hR
    go_wp2_with fail
    go_loopw [10, 35] (fun v i wr => ∃ j : Nat, j ≤ n ∧ i = .int .i64 j ∧ OwnInt64S w1.heap.size wr v (lateL xss o dl j) ∧ Below w.heap.size w wr ∧ Within w1.heap.size (w1.heap.size + 1) w2 wr ∧ Hid (∀ q, v.ownBlock = some q → q = w1.heap.size ∨ w2.heap.size ≤ q)) (fun _ i _ => n - (intOf i).toNat)
    case atStart => exact ⟨0, Nat.zero_le _, rfl, ho2, hb3, Within.refl _ _ _, fun q hq => by cases hq; exact .inl rfl⟩
    case round =>
      obtain ⟨j, hj, rfl, hown, hbw, hwi, hqq⟩ := hrel
      clear ho2 hb3
      by_cases hjn : j < n
      · obtain ⟨ix, hix, hixn⟩ := Hix.out j hjn
        obtain ⟨ob, ooff, rfl, olt, occ⟩ := Hoo.out (by omega)
        obtain ⟨x, hx, hcx, bx⟩ := occ j hjn
        obtain rfl : x = (ix : Int) := by rw [hix] at hx; exact (Option.some.inj hx).symm
        have d1 := (hbw.cell (p := ⟨ob, ooff + j, none⟩) olt.2).trans hcx
        obtain ⟨db, doff, rfl, dlt, dcc⟩ := Hdo.out (by omega)
        obtain ⟨y, hy, hcy, by2⟩ := dcc ix hixn
        have d2 := (hbw.cell (p := ⟨db, doff + ix, none⟩) dlt.2).trans hcy
        have hRr := HR.out.within hwi (by rw [Hs0.out]; exact Nat.le_refl _)
        obtain ⟨_, _, hshR, hro⟩ := hRr.rds.open
        rw [Hel.out] at hshR hro
        injection hshR with hs4 hs5 hs6
        subst hs4; subst hs6
        obtain ⟨rb, roff, rfl, rlt, rcc⟩ := hro (by omega)
        obtain ⟨yr, q0, qc0, hyr, g0, hrd⟩ := rcc j hjn
        obtain rfl : yr = cf (freeJ xss (o.take (j + 1))) (m + 1) := by have := Heg.out j hjn; rw [hyr] at this; exact Option.some.inj this
        obtain ⟨_, _, hsh, hin⟩ := RdI.open hrd
        injection hsh with hs1 hs2 hs3
        subst hs1; subst hs3
        obtain ⟨tb, toff, rfl, tlt, tc⟩ := hin (by rw [cf_length]; omega)
        obtain ⟨zz, hzz, kz, _⟩ := tc m (by rw [cf_length]; omega)
        obtain rfl : zz = freeJ xss (o.take (j + 1)) m := by rw [cf_get (by omega)] at hzz; exact (Option.some.inj hzz).symm
        rw [cf_length] at g0
        have hff := Hfb.out (j + 1) (by omega)
        have hlb : lateB xss o dl j = decide (y < freeJ xss (o.take (j + 1)) m) := by unfold lateB; rw [atI_of hix, Int.toNat_natCast, atI_of hy, Hm.out]; rfl
        generalize freeJ xss (o.take (j + 1)) m = ff at *
        have hls := lateL_succ xss o dl j
        rw [hlb, atI_of hix] at hls
        have hlen2 := lateL_len xss o dl j
        have Hls := Lib.hid hls
        have Hown := Lib.hid hown
        have Hbw := Lib.hid hbw
        have Hwi := Lib.hid hwi
        have Hcx := Lib.hid hcx
        have hz : IntKind.i64.wrap (((m + 1 : Nat) : Int) - 1) = (m : Int) := by rw [show ((m + 1 : Nat) : Int) - 1 = (m : Int) by omega]; exact IntWalk.i64_in _ (by omega)
        have hlen9 : ((m + 1 : Nat) : Int) = (m : Int) + 1 := by omega
        have hokx : eI.ok (ix : Int) := bx
        clear hls hown hbw hwi hcx hlb hix hx occ dcc hy hcy hyr hrd hin tc hzz hs2 hs5 hRr hro rcc
        by_cases hgt : y < ff
        · have hl2 := Hls.out
          rw [decide_eq_true hgt, if_pos rfl] at hl2
          have Hl2 := Lib.hid hl2
          clear hl2
          go_wp2
          go_quiet (fail)
          have hbq : Below wr.heap.size wr (wr.drewN nq) := (Below.refl _ _).drewNy _
          have hown2 := Hown.out.below hbq (Nat.le_refl _)
          have hbw2 := Hbw.out.trans (hbq.mono Hbw.out.size)
          have hwi2 := within_same Hwi.out hbq
          clear d1 d2 g0 kz hbq Hown Hbw Hwi
          generalize wr.drewN nq = w4 at hown2 hbw2 hwi2 ⊢
          have d1 := (hbw2.cell (p := ⟨ob, ooff + j, none⟩) olt.2).trans Hcx.out
          have hsz4 := hwi2.size
          have Hown2 := Lib.hid hown2
          have Hbw2 := Lib.hid hbw2
          have Hwi2 := Lib.hid hwi2
          clear hown2 hbw2 hwi2
          go_wp2_with (first | (at_builtin; refine wpList_appS (E := eI) rfl _ _ 29 rfl Try.underlying29 hi hz0 hz1 hz2 rfl (by decide) rfl rfl (Hown2.out.alloc _) (rds_one (E := eI) (x := (ix : Int)) hokx rfl) ?b1 ?b2 ?b3 ?_))
          case b1 => unfold maxLen; (try simp); omega
          case b2 => (try simp); omega
          case b3 => (try simp); omega
          intro v' w5 hown5 hg5
          have hg6 := hg5.alloc
          have hb5 : Below w.heap.size w w5 := hg6.below Hbw2.out Hbw2.out.size (fun q hq => Nat.le_trans hw1 (Hown2.out.lt q hq).1)
          have hwi5 := within_grown Hwi2.out hg6.1 (fun q hq => by have := hqq.out q hq; omega)
          have hqq5 : ∀ q, v'.ownBlock = some q → q = w1.heap.size ∨ w2.heap.size ≤ q := by
            intro q hq
            rcases hg6.2 with h6 | ⟨q6, h6, h7⟩
            · exact hqq.out q (by rw [← h6]; exact hq)
            · rw [h6] at hq; cases hq; exact .inr (Nat.le_trans hsz4 h7)
          have Hwi5 := Lib.hid hwi5
          have Hqq5 := Lib.hid hqq5
          clear hg5 hg6 Hbw2 Hwi2 Hown2 d1 hwi5 hqq5
          go_wp2
          go_roundw
          case rel => exact ⟨j + 1, by omega, by go_num, by rw [Hl2.out]; exact hown5, hb5, Hwi5.out, Hqq5.out⟩
          case measure => simp [intOf]; omega
        · have hl2 := Hls.out
          rw [decide_eq_false hgt, if_neg (by decide), List.append_nil] at hl2
          have Hl2 := Lib.hid hl2
          clear hl2
          go_wp2
          go_quiet (fail)
          have hbq : Below wr.heap.size wr (wr.drewN nq) := (Below.refl _ _).drewNy _
          have hown2 := Hown.out.below hbq (Nat.le_refl _)
          have hbw2 := Hbw.out.trans (hbq.mono Hbw.out.size)
          have hwi2 := within_same Hwi.out hbq
          clear d1 d2 g0 kz hbq Hown Hbw Hwi
          generalize wr.drewN nq = w4 at hown2 hbw2 hwi2 ⊢
          have Hwi2 := Lib.hid hwi2
          clear hwi2
          go_wp2
          go_roundw
          case rel => exact ⟨j + 1, by omega, by go_num, by rw [Hl2.out]; exact hown2, hbw2, Hwi2.out, hqq.out⟩
          case measure => simp [intOf]; omega
      · obtain rfl : j = n := by omega
        have hlen2 := lateL_len xss o dl j
        have Hown := Lib.hid hown
        have Hbw := Lib.hid hbw
        clear hown hbw hwi
        go_wp2_with fail
        with_reducible refine (sortI_c Hown.out (by omega)).mono ?_
        rintro e w6 ⟨rfl, hs6, hg6⟩
        have hb6 := Hbw.out.grown hg6 Hbw.out.size (fun q hq => Nat.le_trans hw1 (Hown.out.lt q hq).1)
        have Hs6 := Lib.hid (hs6.mono hw1)
        clear hs6 hg6
        go_wp2
        go_ret2
        exact ⟨_, rfl, Hs6.out, hb6⟩
  · have e2 : LTV xss o dl = [] := by unfold LTV; rw [if_neg hco]
    have h12 := OCodeIn_cases xss o (inD xss dl)
    obtain ⟨c, hcc⟩ : ∃ c, LTC xss o dl = c := ⟨_, rfl⟩
    have hc12 : c = 1 ∨ c = 2 := by omega
    rw [e2, hcc]
    by_cases hlen : dl.length = xss.length
    · obtain ⟨b9, hb9⟩ : ∃ b9, dl.any badD = b9 := ⟨_, rfl⟩
      have hcode9 : OCodeIn xss o (!b9) = c := by rw [← hcc, ← hcode]; unfold inD; rw [hb9, decide_eq_true hlen, Bool.true_and]
      rw [hlen]
      rw [hlen] at Hd hdle
      have Hb9 := Lib.hid hb9
      have Hcode := Lib.hid hcode9
      clear ha ho hd ha0 hdo hco e2 hcc hlo hcode hcode9 h12 hb9
      cases b9 <;> rcases hc12 with rfl | rfl <;>
      · go_enter Try.func40, Try.ntmps40
        go_wp2_with fail
        with_reducible refine (any_badD Hd.out).mono ?_
        rw [Hb9.out]
        rintro e w' ⟨rfl, rfl⟩
        go_wp2_with fail
        with_reducible refine (orderCode_c _ (Nat.le_refl _) Ha.out Ho.out Hlo.out).mono ?_
        first | rw [show OCodeIn xss o true = _ from Hcode.out] | rw [show OCodeIn xss o false = _ from Hcode.out]
        rintro e w1 ⟨rfl, hb1⟩
        go_wp2
        go_ret2
        exact ⟨_, rfl, Own.nil _ _ _ _, hb1⟩
    · have hcode9 : OCodeIn xss o false = c := by rw [← hcc, ← hcode]; unfold inD; rw [decide_eq_false hlen, Bool.false_and]
      have hf : ((dl.length : Int) == (xss.length : Int)) = false := by simp; omega
      obtain ⟨nd, hnd⟩ : ∃ nd, nd = dl.length := ⟨_, rfl⟩
      obtain ⟨nx, hnx⟩ : ∃ nx, nx = xss.length := ⟨_, rfl⟩
      rw [← hnd] at Hd hdle hf hlen ⊢
      rw [← hnx] at Ha hf hlen hxle ⊢
      have Hcode := Lib.hid hcode9
      clear ha ho hd ha0 hdo hco e2 hcc hlo hcode hcode9 h12 hnd hnx
      rcases hc12 with rfl | rfl <;>
      · go_enter Try.func40, Try.ntmps40
        go_wp2_with fail
        with_reducible refine (orderCode_c _ (Nat.le_refl _) Ha.out Ho.out Hlo.out).mono ?_
        rw [Hcode.out]
        rintro e w1 ⟨rfl, hb1⟩
        go_wp2
        go_ret2
        exact ⟨_, rfl, Own.nil _ _ _ _, hb1⟩
end Go.Proofs.Ytpnmcgjfemaleaa
