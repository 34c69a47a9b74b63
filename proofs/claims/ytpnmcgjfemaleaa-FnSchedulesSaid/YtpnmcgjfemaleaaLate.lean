/- Late jobs: the reference's. No condition. -/
import Derived.Test.YtpnmcgjfemaleaaEnd4
import Derived.Test.YtpnmcgjfemaleaaIdle
import Derived.Test.YtpnmcgjfemaleaaPutW
namespace Go.Proofs.Ytpnmcgjfemaleaa
open Go.ChangeShapes Go.WideShapes Go.ChangeAt Go.RowKit
set_option linter.unusedVariables false
set_option maxRecDepth 100000
def badD (x : Int) : Bool := !(decide (0 ≤ x ∧ x ≤ 1000000))
def inD (xss : List (List Int)) (dl : List Int) : Bool := decide (dl.length = xss.length) && !dl.any badD
def LTC (xss : List (List Int)) (o dl : List Int) : Int := OCodeIn xss o (inD xss dl)
def lateB (xss : List (List Int)) (o dl : List Int) (k : Nat) : Bool := decide (atI dl (atI o k).toNat < freeJ xss (o.take (k + 1)) (colsJ xss - 1))
def lateL (xss : List (List Int)) (o dl : List Int) : Nat → List Int
  | 0 => []
  | k + 1 => lateL xss o dl k ++ (if lateB xss o dl k = true then [atI o k] else [])
def LTV (xss : List (List Int)) (o dl : List Int) : List Int := if LTC xss o dl = 0 then sortL (lateL xss o dl o.length) else []
theorem lateL_succ (xss : List (List Int)) (o dl : List Int) (k : Nat) : lateL xss o dl (k + 1) = lateL xss o dl k ++ (if lateB xss o dl k = true then [atI o k] else []) := rfl
theorem lateL_len (xss : List (List Int)) (o dl : List Int) (k : Nat) : (lateL xss o dl k).length ≤ k := by
  induction k with
  | zero => exact Nat.le_refl _
  | succ k ih => rw [lateL_succ, List.length_append]; split <;> simp <;> omega
theorem lateL_sub (xss : List (List Int)) (o dl : List Int) : ∀ k, k ≤ o.length → (lateL xss o dl k).Sublist (o.take k) := by
  intro k
  induction k with
  | zero => intro _; exact List.nil_sublist _
  | succ k ih =>
    intro h
    have hg : o[k]? = some (atI o k) := by
      obtain ⟨x, hx⟩ : ∃ x, o[k]? = some x := ⟨_, List.getElem?_eq_getElem (by omega)⟩
      rw [hx, atI_of hx]
    rw [lateL_succ, take_snoc hg]
    refine (ih (by omega)).append ?_
    split
    · exact List.Sublist.refl _
    · exact List.nil_sublist _
theorem lateL_sort {xss : List (List Int)} {o dl : List Int} (h : o.Nodup) : (lateL xss o dl o.length).foldl putL [] = sortL (lateL xss o dl o.length) := by
  have h1 := lateL_sub xss o dl o.length (Nat.le_refl _)
  rw [List.take_length] at h1
  exact putL_sortL (h1.nodup h)
theorem putL_fold_len : ∀ (l a : List Int), (l.foldl putL a).length ≤ a.length + l.length := by
  intro l
  induction l with
  | nil => intro a; exact Nat.le_refl _
  | cons x l ih =>
    intro a
    have h1 := ih (putL a x)
    have h2 := putL_len a x
    simp only [List.foldl_cons, List.length_cons]
    omega
theorem any_take {p : Int → Bool} {xs : List Int} {k : Nat} {x : Int} (h : xs[k]? = some x) : (xs.take (k + 1)).any p = ((xs.take k).any p || p x) := by rw [take_snoc h, List.any_append]; simp
theorem LTC_of {xss : List (List Int)} {o dl : List Int} (h : OCode xss o ≠ 0) : LTC xss o dl = OCode xss o := by
  unfold LTC OCodeIn OCode at *
  by_cases h1 : validJ xss = true
  · rw [if_pos h1] at h ⊢
    by_cases h2 : orderP xss.length o
    · rw [if_pos h2] at h; exact absurd rfl h
    · rw [if_neg (fun h => h2 h.1), if_pos h1, if_neg h2]
  · rw [if_neg h1, if_neg h1]
theorem LTC_ok {xss : List (List Int)} {o dl : List Int} (h : OCode xss o = 0) : LTC xss o dl = if inD xss dl = true then 0 else 2 := by
  obtain ⟨h1, h2⟩ := OCode_ok h
  unfold LTC OCodeIn
  rw [if_pos h1]
  simp [h2]
theorem badD_no {x : Int} (h : badD x = false) : 0 ≤ x ∧ x ≤ 1000000 := by unfold badD at h; simpa using h
theorem badD_yes {x : Int} (h : badD x = true) : x < 0 ∨ 1000000 < x := by unfold badD at h; simp at h; omega
/-- what the walks read of a job's end -/
theorem late_facts {xss : List (List Int)} {o : List Int} (h : OCode xss o = 0) :
    ∃ n m, xss.length = n ∧ o.length = n ∧ 0 < n ∧ n ≤ 8 ∧ colsJ xss = m + 1 ∧ m < 4 ∧ (endsJ xss o).length = n ∧ (∀ k, k < n → (endsJ xss o)[k]? = some (cf (freeJ xss (o.take (k + 1))) (m + 1))) ∧
      (∀ k, k < n → ∃ ix : Nat, o[k]? = some (ix : Int) ∧ ix < n) ∧ (∀ k, k ≤ n → 0 ≤ freeJ xss (o.take k) m ∧ freeJ xss (o.take k) m ≤ 32000) := by
  obtain ⟨hv, hr, hl8, hne⟩ := ordP_parts h
  obtain ⟨hn8, hm4, hrows⟩ := validJ_parts hv
  have hnl := (OCode_ok h).2.1
  have hb := fun o' => freeJ_bound (xss := xss) (fun r h => (hrows r h).2) o' (k := colsJ xss - 1) (by omega)
  refine ⟨xss.length, colsJ xss - 1, rfl, hnl, by omega, by omega, by omega, by omega, ?_, ?_, ?_, ?_⟩
  · unfold endsJ; rw [rowsJ_length, hnl]
  · intro k hk
    unfold endsJ
    rw [rowsJ_get (by omega), show colsJ xss - 1 + 1 = colsJ xss by omega]
  · intro k hk
    obtain ⟨x, hx⟩ : ∃ x, o[k]? = some x := ⟨_, List.getElem?_eq_getElem (by omega)⟩
    have := hr x (List.mem_of_getElem? hx)
    exact ⟨x.toNat, by rw [hx]; congr 1; omega, by omega⟩
  · intro k hk
    have := hb (o.take k)
    rw [List.length_take] at this
    omega
set_option maxHeartbeats 1000000 in
theorem sLateJobs_c {xss : List (List Int)} {o dl : List Int} {v u z : Value} {w : World} {A B C : Nat} (hA : A ≤ w.heap.size) (hB : B ≤ w.heap.size) (ha : RdInt64SS A w v xss) (ho : RdI B w u o) (hd : RdI C w z dl) :
    Calls Try.prog 39 #[v, u, z] w fun e w' => ∃ u0, e = .returned (.tuple #[u0, .int .i64 (LTC xss o dl)]) ∧ OwnInt64S w.heap.size w' u0 (LTV xss o dl) ∧ Below w.heap.size w w' := by
  have ha0 := ha.tight
  have Ha := Lib.hid ha0
  have Ho := Lib.hid (Rds.tight ho)
  have hdle := hd.le
  obtain ⟨dao, dcap, rfl, hdo⟩ := RdI.open (Rds.tight hd)
  obtain ⟨nd, hnd⟩ : ∃ nd, nd = dl.length := ⟨_, rfl⟩
  rw [← hnd] at hdo hdle ⊢
  have Hdo := Lib.hid hdo
  have Hnd := Lib.hid hnd
  by_cases hco : OCode xss o = 0
  · obtain ⟨hv, hr, hl8, hne⟩ := ordP_parts hco
    have hnod := (OCode_ok hco).2.2.2
    have hlc := LTC_ok (dl := dl) hco
    obtain ⟨n, m, hn, hon, hn0, hn8, hm, hm4, hel, heg, hix, hfb⟩ := late_facts hco
    have Hco := Lib.hid hco
    have Hv := Lib.hid hv
    have Hr := Lib.hid hr
    cases hany : dl.any badD with
    | true =>
      have e1 : LTC xss o dl = 2 := by rw [hlc]; unfold inD; rw [hany]; simp
      have e2 : LTV xss o dl = [] := by unfold LTV; rw [e1]; rfl
      rw [e1, e2]
      have Hany := Lib.hid hany
      clear hlc hnod hv hr hne e1 e2 hany hdo hnd ha ho hd ha0 hn hon hm hel heg hix hfb hco
      go_enter Try.func39, Try.ntmps39
      go_wp2_with fail
      with_reducible refine (l21Code_c Ha.out Ho.out).mono ?_
      rw [Hco.out]
      rintro e w1 ⟨rfl, q, rfl⟩
      have hb1 := (Below.refl w.heap.size w).drewNy q
      generalize w.drewN q = w1 at hb1 ⊢
      have Hb1 := Lib.hid hb1
      clear hb1
      go_wp2_with fail
      go_loop [9] (fun i => ∃ k : Nat, k ≤ nd ∧ i = .int .i64 k ∧ Hid ((dl.take k).any badD = false)) (fun i => nd - (intOf i).toNat)
      case atStart => exact ⟨0, Nat.zero_le _, rfl, rfl⟩
      case round =>
        obtain ⟨k, hk, rfl, hp⟩ := hrel
        by_cases hkn : k < nd
        · obtain ⟨b, off, rfl, hlt, hc⟩ := Hdo.out (by omega)
          obtain ⟨x, hx, hcx, bx⟩ := hc k hkn
          have d1 := (Hb1.out.cell (p := ⟨b, off + k, none⟩) hlt.2).trans hcx
          have hat := any_take (p := badD) hx
          rw [hp.out, Bool.false_or] at hat
          have Hat := Lib.hid hat
          clear hx hcx hc hat
          cases hbx : badD x with
          | true =>
            have Hno := Lib.hid (badD_yes hbx)
            clear hbx
            go_wp2_with fail
            with_reducible refine (l00In_no _ _ _ _ Hno.out).mono ?_
            rintro e w' ⟨rfl, rfl⟩
            go_wp2
            go_ret2
            exact ⟨_, rfl, Own.nil _ _ _ _, Hb1.out⟩
          | false =>
            have Hyes := Lib.hid (badD_no hbx)
            have Hbx := Lib.hid hbx
            clear hbx
            go_wp2_with fail
            with_reducible refine (l00In_yes _ _ _ _ Hyes.out.1 Hyes.out.2).mono ?_
            rintro e w' ⟨rfl, rfl⟩
            go_wp2
            go_round
            case rel => exact ⟨k + 1, by omega, by go_num, by show _ = false; rw [Hat.out, Hbx.out]⟩
            case measure => simp [intOf]; omega
        · obtain rfl : k = nd := by omega
          have h1 := hp.out
          rw [Hnd.out, List.take_length, Hany.out] at h1
          cases h1
    | false =>
      have hall : ∀ x ∈ dl, 0 ≤ x ∧ x ≤ 1000000 := fun x hx => badD_no (by rw [List.any_eq_false] at hany; simpa using hany x hx)
      have Hall := Lib.hid hall
      by_cases hl : nd = n
      · subst hl
        have e1 : LTC xss o dl = 0 := by rw [hlc]; unfold inD; rw [hany, decide_eq_true (by omega)]; rfl
        have e2 : LTV xss o dl = (lateL xss o dl nd).foldl putL [] := by unfold LTV; rw [e1, if_pos rfl, ← lateL_sort hnod, hon]
        rw [e1, e2]
        have ha1 := Ha.out
        have ho1 := Ho.out
        obtain ⟨ao, cap, rfl, _⟩ := ha1.open
        obtain ⟨oao, ocap, rfl, hoo⟩ := RdI.open ho1
        rw [hn, hon] at *
        have Hoo := Lib.hid hoo
        have Hel := Lib.hid hel
        have Heg := Lib.hid heg
        have Hix := Lib.hid hix
        have Hfb := Lib.hid hfb
        have Hm := Lib.hid hm
        clear hlc hnod hv hr hne e1 e2 hany hdo hnd ha ho hd ha0 hn hon hm hel heg hix hfb hco ha1 ho1 hall hoo
        go_enter Try.func39, Try.ntmps39
        go_wp2_with fail
        with_reducible refine (l21Code_c Ha.out Ho.out).mono ?_
        rw [Hco.out]
        rintro e w1 ⟨rfl, q, rfl⟩
        have hb1 := (Below.refl w.heap.size w).drewNy q
        generalize w.drewN q = w1 at hb1 ⊢
        have Hb1 := Lib.hid hb1
        clear hb1
        go_wp2_with fail
        go_loop [9] (fun i => ∃ k : Nat, k ≤ nd ∧ i = .int .i64 k) (fun i => nd - (intOf i).toNat)
        case atStart => exact ⟨0, Nat.zero_le _, rfl⟩
        case round =>
          obtain ⟨k, hk, rfl⟩ := hrel
          by_cases hkn : k < nd
          · obtain ⟨b, off, rfl, hlt, hc⟩ := Hdo.out (by omega)
            obtain ⟨x, hx, hcx, bx⟩ := hc k hkn
            have d1 := (Hb1.out.cell (p := ⟨b, off + k, none⟩) hlt.2).trans hcx
            have Hyes := Lib.hid (Hall.out x (List.mem_of_getElem? hx))
            clear hx hcx hc
            go_wp2_with fail
            with_reducible refine (l00In_yes _ _ _ _ Hyes.out.1 Hyes.out.2).mono ?_
            rintro e w' ⟨rfl, rfl⟩
            go_wp2
            go_round
            case rel => exact ⟨k + 1, by omega, by go_num⟩
            case measure => simp [intOf]; omega
          · obtain rfl : k = nd := by omega
            have hcon := l21Ends_c Hb1.out.size Hb1.out.size (Ha.out.below Hb1.out (Nat.le_refl _)) (Ho.out.below Hb1.out (Nat.le_refl _)) Hv.out Hr.out hl8
            have Hcon := Lib.hid hcon
            clear hcon
            go_wp2_with fail
            with_reducible refine Hcon.out.mono ?_
            rintro e w2 ⟨r, rfl, hR, hb2⟩
            have hb3 := Hb1.out.trans (hb2.mono Hb1.out.size)
            obtain ⟨ra, rcp, rfl, hro⟩ := hR.rds.open
            obtain ⟨rb, roff, rfl, rlt, rcc⟩ := hro (by have := Hel.out; omega)
            rw [Hel.out] at rcc ⊢
            have Hrcc := Lib.hid rcc
            have Hb3 := Lib.hid hb3
            clear hb2 hb3 hR hro rcc
            have ho0 : OwnInt64S w2.heap.size (w2.alloc (.cells #[] 2)) (.slice (some ⟨w2.heap.size, 0, none⟩) 0 0) ((lateL xss o dl 0).foldl putL []) := Own.lit (E := eI) (xs := []) (cs := #[]) (Nat.le_refl _) rfl rfl (by decide) (fun x hx => by cases hx)
            have hb0 : Below w2.heap.size w2 (w2.alloc (.cells #[] 2)) := (Below.refl _ _).alloc (Nat.le_refl _) _
            go_wp2_with fail
            go_loopw [11, 12] (fun v i wr => ∃ k' : Nat, k' ≤ k ∧ i = .int .i64 k' ∧ OwnInt64S w2.heap.size wr v ((lateL xss o dl k').foldl putL []) ∧ Below w2.heap.size w2 wr) (fun _ i _ => k - (intOf i).toNat)
            case atStart => exact ⟨0, Nat.zero_le _, rfl, ho0, hb0⟩
            case round =>
              obtain ⟨j, hj, rfl, hown, hb⟩ := hrel
              clear ho0 hb0
              have hbw := Hb3.out.trans (hb.mono Hb3.out.size)
              by_cases hjn : j < k
              · obtain ⟨ix, hix, hixn⟩ := Hix.out j hjn
                obtain ⟨ob, ooff, rfl, olt, occ⟩ := Hoo.out (by omega)
                obtain ⟨x, hx, hcx, bx⟩ := occ j hjn
                obtain rfl : x = (ix : Int) := by rw [hix] at hx; exact (Option.some.inj hx).symm
                have d1 := (hbw.cell (p := ⟨ob, ooff + j, none⟩) olt.2).trans hcx
                obtain ⟨db, doff, rfl, dlt, dcc⟩ := Hdo.out (by omega)
                obtain ⟨y, hy, hcy, by2⟩ := dcc ix hixn
                have d2 := (hbw.cell (p := ⟨db, doff + ix, none⟩) dlt.2).trans hcy
                obtain ⟨yr, q0, qc0, hyr, g0, hrd⟩ := Hrcc.out j hjn
                obtain rfl : yr = cf (freeJ xss (o.take (j + 1))) (m + 1) := by have := Heg.out j hjn; rw [hyr] at this; exact Option.some.inj this
                obtain ⟨_, _, hsh, hin⟩ := RdI.open hrd
                injection hsh with hs1 hs2 hs3
                subst hs1; subst hs3
                obtain ⟨tb, toff, rfl, tlt, tc⟩ := hin (by rw [cf_length]; omega)
                obtain ⟨zz, hzz, kz, _⟩ := tc m (by rw [cf_length]; omega)
                obtain rfl : zz = freeJ xss (o.take (j + 1)) m := by rw [cf_get (by omega)] at hzz; exact (Option.some.inj hzz).symm
                rw [cf_length] at g0
                have d3 := (hb.cell (p := ⟨rb, roff + j, none⟩) rlt.2).trans g0
                have d4 := (hb.cell (p := ⟨tb, toff + m, none⟩) tlt.2).trans kz
                have hff := Hfb.out (j + 1) (by omega)
                have hlb : lateB xss o dl j = decide (y < freeJ xss (o.take (j + 1)) m) := by unfold lateB; rw [atI_of hix, Int.toNat_natCast, atI_of hy, Hm.out]; rfl
                generalize freeJ xss (o.take (j + 1)) m = ff at *
                have hls := lateL_succ xss o dl j
                rw [hlb, atI_of hix] at hls
                have hlen := putL_fold_len (lateL xss o dl j) []
                have hlen2 := lateL_len xss o dl j
                simp only [List.length_nil, Nat.zero_add] at hlen
                have Hls := Lib.hid hls
                have Hown := Lib.hid hown
                have Hb := Lib.hid hb
                have Hbw := Lib.hid hbw
                have Hcx := Lib.hid hcx
                have hz : IntKind.i64.wrap (((m + 1 : Nat) : Int) - 1) = (m : Int) := by rw [show ((m + 1 : Nat) : Int) - 1 = (m : Int) by omega]; exact IntWalk.i64_in _ (by omega)
                have hlen9 : ((m + 1 : Nat) : Int) = (m : Int) + 1 := by omega
                have hokx : eI.ok (ix : Int) := bx
                clear hls hown hb hbw hcx hlb hix hx occ dcc hy hcy hyr g0 hrd hin tc hzz kz hs2
                by_cases hgt : y < ff
                · have hl2 := Hls.out
                  rw [decide_eq_true hgt, if_pos rfl] at hl2
                  have Hl2 := Lib.hid hl2
                  clear hl2
                  go_wp2
                  go_quiet (fail)
                  have hbq : Below wr.heap.size wr (wr.drewN nq) := (Below.refl _ _).drewNy _
                  have hown2 := Hown.out.below hbq (Nat.le_refl _)
                  have hb2 := Hb.out.trans (hbq.mono Hb.out.size)
                  have hbw2 := Hbw.out.trans (hbq.mono Hbw.out.size)
                  clear d1 d2 d3 d4 hbq Hown Hb Hbw
                  generalize wr.drewN nq = w4 at hown2 hb2 hbw2 ⊢
                  have d1 := (hbw2.cell (p := ⟨ob, ooff + j, none⟩) olt.2).trans Hcx.out
                  have hcon := l00Put_c (ix : Int) hokx hown2.rds (by omega)
                  have Hcon := Lib.hid hcon
                  have Hb2 := Lib.hid hb2
                  clear hcon hown2 hbw2 hb2
                  go_wp2_with fail
                  with_reducible refine Hcon.out.mono ?_
                  rintro e w5 ⟨u5, rfl, hown5, hb5⟩
                  have hb6 := Hb2.out.trans (hb5.mono Hb2.out.size)
                  have hown6 := hown5.mono Hb2.out.size
                  clear hown5 hb5
                  go_wp2
                  go_roundw
                  case rel => exact ⟨j + 1, by omega, by go_num, by rw [Hl2.out, List.foldl_append]; exact hown6, hb6⟩
                  case measure => simp [intOf]; omega
                · have hl2 := Hls.out
                  rw [decide_eq_false hgt, if_neg (by decide), List.append_nil] at hl2
                  have Hl2 := Lib.hid hl2
                  clear hl2
                  go_wp2
                  go_quiet (fail)
                  have hbq : Below wr.heap.size wr (wr.drewN nq) := (Below.refl _ _).drewNy _
                  have hown2 := Hown.out.below hbq (Nat.le_refl _)
                  have hb2 := Hb.out.trans (hbq.mono Hb.out.size)
                  clear d1 d2 d3 d4 hbq Hown Hb Hbw
                  generalize wr.drewN nq = w4 at hown2 hb2 ⊢
                  go_wp2
                  go_roundw
                  case rel => exact ⟨j + 1, by omega, by go_num, by rw [Hl2.out]; exact hown2, hb2⟩
                  case measure => simp [intOf]; omega
              · obtain rfl : j = k := by omega
                go_wp2
                go_ret2
                exact ⟨_, rfl, hown.mono Hb3.out.size, hbw⟩
      · have e1 : LTC xss o dl = 2 := by rw [hlc]; unfold inD; rw [decide_eq_false (by omega)]; rfl
        have e2 : LTV xss o dl = [] := by unfold LTV; rw [e1]; rfl
        rw [e1, e2]
        have ha1 := Ha.out
        obtain ⟨ao, cap, rfl, _⟩ := ha1.open
        rw [hn] at *
        have hf : ((nd : Int) != (n : Int)) = true := by simp; omega
        clear hlc hnod hv hr hne e1 e2 hany hdo hnd ha ho hd ha0 hn hon hm hel heg hix hfb hco ha1 hall
        go_enter Try.func39, Try.ntmps39
        go_wp2_with fail
        with_reducible refine (l21Code_c Ha.out Ho.out).mono ?_
        rw [Hco.out]
        rintro e w1 ⟨rfl, q, rfl⟩
        have hb1 := (Below.refl w.heap.size w).drewNy q
        generalize w.drewN q = w1 at hb1 ⊢
        have Hb1 := Lib.hid hb1
        clear hb1
        go_wp2_with fail
        go_loop [9] (fun i => ∃ k : Nat, k ≤ nd ∧ i = .int .i64 k) (fun i => nd - (intOf i).toNat)
        case atStart => exact ⟨0, Nat.zero_le _, rfl⟩
        case round =>
          obtain ⟨k, hk, rfl⟩ := hrel
          by_cases hkn : k < nd
          · obtain ⟨b, off, rfl, hlt, hc⟩ := Hdo.out (by omega)
            obtain ⟨x, hx, hcx, bx⟩ := hc k hkn
            have d1 := (Hb1.out.cell (p := ⟨b, off + k, none⟩) hlt.2).trans hcx
            have Hyes := Lib.hid (Hall.out x (List.mem_of_getElem? hx))
            clear hx hcx hc
            go_wp2_with fail
            with_reducible refine (l00In_yes _ _ _ _ Hyes.out.1 Hyes.out.2).mono ?_
            rintro e w' ⟨rfl, rfl⟩
            go_wp2
            go_round
            case rel => exact ⟨k + 1, by omega, by go_num⟩
            case measure => simp [intOf]; omega
          · obtain rfl : k = nd := by omega
            go_wp2
            go_ret2
            exact ⟨_, rfl, Own.nil _ _ _ _, Hb1.out⟩
  · have hee := LTC_of (dl := dl) hco
    have e2 : LTV xss o dl = [] := by unfold LTV; rw [hee, if_neg hco]
    obtain ⟨c, hcc⟩ : ∃ c, OCode xss o = c := ⟨_, rfl⟩
    have hc12 : c = 1 ∨ c = 2 := by have := OCode_cases xss o; omega
    have Hcc := Lib.hid hcc
    rw [e2, hee, hcc]
    clear ha ho hd ha0 hdo hnd hco e2 hee hcc
    rcases hc12 with rfl | rfl <;>
    · go_enter Try.func39, Try.ntmps39
      go_wp2_with fail
      with_reducible refine (l21Code_c Ha.out Ho.out).mono ?_
      rw [Hcc.out]
      rintro e w1 ⟨rfl, qd, rfl⟩
      go_wp2
      go_ret2
      exact ⟨_, rfl, Own.nil _ _ _ _, (Below.refl _ _).drewNy _⟩
end Go.Proofs.Ytpnmcgjfemaleaa
