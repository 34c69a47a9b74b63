/- Cards that occur before: the reference's. No condition. -/
import Derived.Test.YtjmiecjlpndfbaaCardS
import Derived.Test.YtjmiecjlpndfbaaDblI
namespace Go.Proofs.Ytjmiecjlpndfbaa
open Go.ChangeShapes Go.WideShapes Go.ChangeAt Go.RowKit Go.Sort
set_option linter.unusedVariables false
set_option maxRecDepth 100000
set_option maxHeartbeats 1000000 in
theorem sDoubleCards_c {xss : List (List Int)} {v : Value} {w : World} {A : Nat} (ha : RdInt64SS A w v xss) :
    Calls Try.prog 5 #[v] w fun e w' => ∃ u, e = .returned (.tuple #[u, .int .i64 (DBC xss)]) ∧ Own eI 2 w.heap.size w' u (DBR xss) ∧ Below w.heap.size w w' := by
  have hle := ha.le
  have Ha := Lib.hid ha
  obtain ⟨ao, cap, rfl, ho⟩ := ha.open
  obtain ⟨n, hn⟩ : ∃ n, n = xss.length := ⟨_, rfl⟩
  rw [← hn] at Ha ⊢
  have Hn := Lib.hid hn
  have Ho := Lib.hid ho
  have hle' : n ≤ 9223372036854775807 := by omega
  clear hn ha hle ho
  cases hv : deckB xss with
  | false =>
    have e1 : DBC xss = 1 := by unfold DBC; rw [hv]; rfl
    have e2 : DBR xss = [] := by unfold DBR; rw [hv]; rfl
    rw [e1, e2]
    have Hv := Lib.hid hv
    clear hv e1 e2
    go_enter Try.func5, Try.ntmps5
    go_wp2_with fail
    with_reducible refine (l02Deck_c Ha.out).mono ?_
    rw [Hv.out]
    rintro e w1 ⟨rfl, m, rfl⟩
    go_wp2
    go_ret2
    exact ⟨_, rfl, Own.nil _ _ _ _, (Below.refl _ _).drewNy _⟩
  | true =>
    have e1 : DBC xss = 0 := by unfold DBC; rw [hv]; rfl
    have e2 : DBR xss = selI (dblAt xss) n := by unfold DBR; rw [if_pos hv, ← Hn.out]
    have h40 : n ≤ 40 := by rw [Hn.out]; exact (deckB_parts hv).1
    rw [e1, e2]
    have Hv := Lib.hid hv
    clear hv e1 e2
    obtain ⟨i0, hi, hz0, hz1, hz2⟩ := info_parts Try.infoInt64
    go_enter Try.func5, Try.ntmps5
    go_wp2_with fail
    with_reducible refine (l02Deck_c Ha.out).mono ?_
    rw [Hv.out]
    rintro e w1 ⟨rfl, m, rfl⟩
    have hb0 : Below w.heap.size w (w.drewN m) := (Below.refl _ _).drewNy _
    obtain ⟨w1, hw1⟩ : ∃ w1, w1 = w.drewN m := ⟨_, rfl⟩
    have hs1 : w1.heap.size = w.heap.size := by rw [hw1]; rfl
    rw [← hw1] at hb0 ⊢
    have HO0 := Lib.hid (Own.lit (E := eI) (e := 2) (base := w.heap.size) (w := w1) (xs := []) (cs := #[]) (n := 0) (by omega) rfl rfl (by decide) (fun x hx => by cases hx))
    have Hb0 := Lib.hid (hb0.alloc (by omega) (.cells #[] 2))
    clear hb0 hw1
    go_wp2
    go_loopw [5, 4] (fun iv ov wr => ∃ i : Nat, i ≤ n ∧ iv = .int .i64 i ∧ Own eI 2 w.heap.size wr ov (selI (dblAt xss) i) ∧ Below w.heap.size w wr) (fun iv _ _ => n - (intOf iv).toNat)
    case atStart => exact ⟨0, Nat.zero_le _, rfl, by have h := HO0.out; rw [hs1] at h; exact h, Hb0.out⟩
    case round =>
      obtain ⟨i, hin, rfl, hO, hb⟩ := hrel
      clear HO0 Hb0
      by_cases hi' : i < n
      · obtain ⟨b, off, rfl, hlt, hc⟩ := Ho.out (by have := Hn.out; omega)
        obtain ⟨x, ro, rc, hx, hcell, hrd⟩ := hc i (by have := Hn.out; omega)
        have hd : dblAt xss (i : Int) = (xss.take i).any fun y => decide (y = x) := by
          unfold dblAt
          rw [Int.toNat_natCast, List.getD_eq_getElem?_getD, hx]
          rfl
        have hss := selI_succ (dblAt xss) i
        rw [hd] at hss
        have hsl := selI_len (dblAt xss) i
        have hini : (i : Int) < (n : Int) := by omega
        have Hss := Lib.hid hss
        have Hc := Lib.hid hc
        have HO := Lib.hid hO
        have Hb := Lib.hid hb
        have Hcell := Lib.hid ((hb.cell (p := ⟨b, off + i, none⟩) hlt.2).trans hcell)
        have Hrd := Lib.hid (Rds.onn hrd hb)
        have hbw : b < w.heap.size := hlt.2
        clear hss hc hO hb hx hcell hrd hd
        go_wp2
        go_loopw [6, 4] (fun kv ov wz => ∃ k : Nat, k ≤ i ∧ kv = .int .i64 k ∧ ov = u4 ∧ Hid ((xss.take k).any (fun y => decide (y = x)) = false) ∧ ∃ q, wz = wr.drewN q) (fun kv _ _ => i - (intOf kv).toNat)
        case atStart => exact ⟨0, Nat.zero_le _, rfl, rfl, rfl, 0, rfl⟩
        case round =>
          obtain ⟨k, hki, rfl, rfl, hp, q, rfl⟩ := hrel
          have hbq : Below wr.heap.size wr (wr.drewN q) := (Below.refl _ _).drewNy _
          by_cases hk : k < i
          · obtain ⟨y, qo, qc, hy, hcell2, hrd2⟩ := Hc.out k (by have := Hn.out; omega)
            have d0 : wr.cell? ⟨b, off + k, none⟩ = some (.slice qo y.length qc) := (Hb.out.cell (p := ⟨b, off + k, none⟩) hbw).trans hcell2
            have d1 := Hcell.out
            have hkii : (k : Int) < (i : Int) := by omega
            have hkni : (k : Int) < (n : Int) := by omega
            have hkn : k < n := by omega
            have hst := any_take_snoc (fun z => decide (z = x)) hy
            rw [hp.out, Bool.false_or] at hst
            have hcon := fun a => l00Same_c (w := wr.drewN a) (xs := y) (ys := x) ((Rds.onn hrd2 Hb.out).drewN a) (Hrd.out.drewN a)
            have Hcon := Lib.hid hcon
            have Hst := Lib.hid hst
            have Hy := Lib.hid hy
            clear hy hcell2 hrd2 hcon hst
            cases hq : decide (y = x) with
            | false =>
              rw [hq] at Hcon
              have Hst2 : Hid ((xss.take (k + 1)).any (fun z => decide (z = x)) = false) := Lib.hid (by rw [Hst.out]; exact hq)
              clear hq
              go_wp2
              go_quiet ((go_at_call 15; first | with_reducible exact quiet_atN (Hcon.out _) | with_reducible exact quiet_atN0 (Hcon.out _)))
              clear d0 d1
              go_wp2
              go_roundw
              case rel => exact ⟨k + 1, by omega, by go_num, rfl, Hst2, _, rfl⟩
              case measure => simp [intOf]; omega
            | true =>
              rw [hq] at Hcon
              have Hany : Hid ((xss.take i).any (fun z => decide (z = x)) = true) := Lib.hid (List.any_eq_true.2 ⟨y, by
                have e : (xss.take i)[k]? = some y := by rw [List.getElem?_take, if_pos hk]; exact Hy.out
                exact List.mem_of_getElem? e, hq⟩)
              clear hq
              have Hqp : Hid (eI.ok (i : Int)) := Lib.hid (by show -9223372036854775808 ≤ (i : Int) ∧ (i : Int) ≤ 9223372036854775807; omega)
              go_wp2
              go_quiet ((go_at_call 15; first | with_reducible exact quiet_atN (Hcon.out _) | with_reducible exact quiet_atN0 (Hcon.out _)))
              clear d0 d1
              have hbx : Below wr.heap.size wr (wr.drewN (q + nq)) := (Below.refl _ _).drewNy _
              have HOx := Lib.hid (HO.out.below hbx (Nat.le_refl _))
              have Hbx := Lib.hid (Hb.out.trans (hbx.mono Hb.out.size))
              clear hbx
              rw [World.drewN_drewN]
              generalize wr.drewN (q + nq) = wq at HOx Hbx ⊢
              have hsz := Hbx.out.size
              go_wp2_with (first | (at_builtin; refine wpList_appS (E := eI) rfl _ _ 24 rfl Try.underlying24 hi hz0 hz1 hz2 rfl (by decide) rfl rfl (HOx.out.alloc _) (rds_one (E := eI) (x := (i : Int)) Hqp.out rfl) ?b1 ?b2 ?b3 ?_))
              case b1 => unfold maxLen; (try simp) <;> omega
              case b2 => (try simp) <;> omega
              case b3 => (try simp) <;> omega
              intro v3 w3 hO3 hg3
              have hb3 := hg3.alloc.below Hbx.out hsz (fun z hz => (HOx.out.lt z hz).1)
              have HO3 := Lib.hid hO3
              have Hb3 := Lib.hid hb3
              clear hO3 hg3 hb3
              go_wp2
              go_roundw
              case rel => exact ⟨i + 1, by omega, by go_num, by rw [Hss.out, Hany.out, if_pos rfl]; exact HO3.out, Hb3.out⟩
              case measure => simp [intOf]; omega
          · obtain rfl : k = i := by omega
            have HOx := Lib.hid (HO.out.below hbq (Nat.le_refl _))
            have Hbx := Lib.hid (Hb.out.trans (hbq.mono Hb.out.size))
            clear hbq
            go_wp2
            go_roundw
            case rel => exact ⟨k + 1, by omega, by go_num, by rw [Hss.out, hp.out, if_neg (by decide), List.append_nil]; exact HOx.out, Hbx.out⟩
            case measure => simp [intOf]; omega
      · obtain rfl : i = n := by omega
        obtain ⟨oa, oc, hov⟩ := hO.shape
        have HO := Lib.hid hO
        have Hb := Lib.hid hb
        clear hO hb
        go_wp2
        go_ret2
        exact ⟨_, rfl, HO.out, Hb.out⟩
end Go.Proofs.Ytjmiecjlpndfbaa
