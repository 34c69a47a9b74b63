/- Johnson's order: the reference's loops. No condition. -/
import Derived.Test.YtpnmcgjfemaleaaJohS
namespace Go.Proofs.Ytpnmcgjfemaleaa
open Go.ChangeShapes Go.WideShapes Go.ChangeAt Go.RowKit
set_option linter.unusedVariables false
set_option maxRecDepth 100000
theorem range_succ (n : Nat) : rangeI (n + 1) = rangeI n ++ [(n : Int)] := by unfold rangeI; rw [List.range_succ, List.map_append]; rfl
theorem ins_at {b : Int → Int → Bool} {x : Int} {out : List Int} {j : Nat} (h1 : ∀ y ∈ out.drop j, b x y = true) (h2 : ∀ y, 0 < j → out[j - 1]? = some y → b x y = false) (hj : j ≤ out.length) : Ins b x out (out.take j ++ x :: out.drop j) := by
  refine ⟨out.take j, out.drop j, (List.take_append_drop j out).symm, rfl, h1, fun p' y hp => ?_⟩
  have hl := congrArg List.length hp
  rw [List.length_take, List.length_append, List.length_singleton] at hl
  refine h2 y (by omega) ?_
  have h3 : (out.take j)[j - 1]? = some y := by rw [hp, List.getElem?_append_right (by omega)]; rw [show j - 1 - p'.length = 0 by omega]; rfl
  rwa [List.getElem?_take_of_lt (by omega)] at h3
set_option maxHeartbeats 1000000 in
theorem sJohnsonOrder_c {xss : List (List Int)} {v : Value} {w : World} {A : Nat} (ha : RdInt64SS A w v xss) :
    Calls Try.prog 27 #[v] w fun e w' => ∃ u0, e = .returned (.tuple #[u0, .int .i64 (JC xss)]) ∧ OwnInt64S w.heap.size w' u0 (JR xss) ∧ Below w.heap.size w w' := by
  have ha1 := ha.tight
  have hxle := ha.le
  obtain ⟨ao, cap0, rfl, hao⟩ := ha1.open
  obtain ⟨n, hn⟩ : ∃ n, n = xss.length := ⟨_, rfl⟩
  rw [← hn] at ha1 hao hxle ⊢
  have Ha := Lib.hid ha1
  have Hn := Lib.hid hn
  cases hv : validJ xss with
  | false =>
    have e1 : JC xss = 1 := by unfold JC; rw [hv]; rfl
    rw [JR_no (by rw [e1]; decide), e1]
    have Hv := Lib.hid hv
    clear hv e1 ha ha1 hao hn
    go_enter Try.func27, Try.ntmps27
    go_wp2_with fail
    with_reducible refine (l21Ok_c Ha.out).mono ?_
    rw [Hv.out]
    rintro e w1 ⟨rfl, q, rfl⟩
    go_wp2
    go_ret2
    exact ⟨_, rfl, Own.nil _ _ _ _, (Below.refl _ _).drewNy _⟩
  | true =>
    obtain ⟨hn8, hm4, hrows⟩ := validJ_parts hv
    rw [← hn] at hn8
    obtain ⟨b, off, rfl, hlt, hc⟩ := hao (by omega)
    obtain ⟨x0, ro0, rc0, hx0, hcell0, _⟩ := hc 0 (by omega)
    obtain ⟨m, hm⟩ : ∃ m, m = colsJ xss := ⟨_, rfl⟩
    have hx0m : x0.length = m := by rw [hm, colsJ_of hx0]
    have hcell0' : w.cell? ⟨b, off, none⟩ = some (.slice ro0 m rc0) := by rw [← hx0m]; simpa using hcell0
    have Hv := Lib.hid hv
    have Hcell := Lib.hid hcell0'
    by_cases hm2 : m = 2
    · have e1 : JC xss = 0 := by unfold JC; rw [hv, if_pos rfl, ← hm, if_pos hm2]
      subst hm2
      have hr2 : ∀ r ∈ xss, r.length = 2 ∧ ∀ x ∈ r, 0 ≤ x ∧ x ≤ 1000 := fun r hr => ⟨by rw [(hrows r hr).1, ← hm], (hrows r hr).2⟩
      have E1 := Lib.hid e1
      have Hr2 := Lib.hid hr2
      obtain ⟨i0, hi, hz0, hz1, hz2⟩ := info_parts Try.infoInt64
      rw [e1]
      clear hv e1 ha ha1 hao hrows hc hx0 hcell0 hx0m hcell0' hm hr2 hn
      go_enter Try.func27, Try.ntmps27
      go_wp2_with fail
      with_reducible refine (l21Ok_c Ha.out).mono ?_
      rw [Hv.out]
      rintro e w1 ⟨rfl, q, rfl⟩
      have hb1 := (Below.refl w.heap.size w).drewNy q
      generalize w.drewN q = w1 at hb1 ⊢
      have d0 := (hb1.cell (p := ⟨b, off, none⟩) hlt.1).trans Hcell.out
      have ho0 : OwnInt64S w.heap.size (w1.alloc (.cells #[] 2)) (.slice (some ⟨w1.heap.size, 0, none⟩) 0 0) [] := Own.lit (E := eI) (xs := []) (cs := #[]) hb1.size rfl rfl (by decide) (fun x hx => by cases hx)
      have hb0 : Below w.heap.size w (w1.alloc (.cells #[] 2)) := hb1.alloc hb1.size _
      clear hb1
      go_wp2_with fail
      clear d0
      go_loopw [4, 5] (fun v i wr => ∃ (k g cap : Nat) (out : List Int), k ≤ n ∧ i = .int .i64 k ∧ v = .slice (some ⟨g, 0, none⟩) k cap ∧ OwnInt64S w.heap.size wr v out ∧ out.length = k ∧ (k = 0 → cap = 0) ∧ Hid (InsAll (johX xss) (rangeI k) [] out) ∧ Below w.heap.size w wr) (fun _ i _ => n - (intOf i).toNat)
      case atStart => exact ⟨0, _, 0, [], Nat.zero_le _, rfl, rfl, ho0, rfl, fun _ => rfl, rfl, hb0⟩
      case round =>
        obtain ⟨k, g, cap, out, hk, rfl, rfl, hown, hol, hcap, Hia, hb⟩ := hrel
        clear ho0 hb0
        have hperm := Hia.out.perm
        rw [List.append_nil] at hperm
        have Hperm := Lib.hid hperm
        have Hol := Lib.hid hol
        clear hperm
        by_cases hkn : k < n
        · go_wp2_with fail
          go_loopw [6] (fun i wr => ∃ j : Nat, j ≤ k ∧ i = .int .i64 (j : Int) ∧ Hid (∀ y ∈ out.drop j, johX xss k y = true) ∧ OwnInt64S w.heap.size wr (.slice (some ⟨g, 0, none⟩) k cap) out ∧ Below w.heap.size w wr) (fun i _ => (intOf i).toNat)
          case atStart => exact ⟨k, Nat.le_refl _, rfl, (fun y hy => by rw [List.drop_of_length_le (by omega)] at hy; cases hy), hown, hb⟩
          case round =>
            obtain ⟨j, hjk, rfl, Hall, hown2, hb2⟩ := hrel
            clear hown hb
            by_cases hj0 : j = 0
            · have Hins := Lib.hid (ins_at (b := johX xss) (x := (k : Int)) Hall.out (fun y h _ => by omega) (by omega))
              subst hj0
              have hr1 := hown2.rds.takeN (k := 0) hjk
              have Hr1 := Lib.hid hr1
              have Hown2 := Lib.hid hown2
              have Hb2 := Lib.hid hb2
              clear hr1 hown2 hb2
              go_wp2_with fail
              with_reducible refine (l00Own_c Hr1.out (by rw [List.length_take]; omega)).mono ?_
              rintro e w3 ⟨u3, rfl, hu3, hb3⟩
              have hs2 := Hb2.out.size
              have hs3 := hb3.size
              have hb3' := Hb2.out.trans (hb3.mono hs2)
              have hownA := Hown2.out.below hb3 (Nat.le_refl _)
              have Hqp : eI.ok (k : Int) := by show -9223372036854775808 ≤ (k : Int) ∧ (k : Int) ≤ 9223372036854775807; omega
              have hlt : (out.take 0).length = 0 := by rw [List.length_take]; omega
              have hld : (out.drop 0).length = k - 0 := by rw [List.length_drop]; omega
              have Hu3 := Lib.hid hu3
              have Hb3 := Lib.hid hb3
              have Hb3' := Lib.hid hb3'
              have HownA := Lib.hid hownA
              clear hu3 hb3 hb3' hownA
              go_wp2_with (first | (at_builtin; refine wpList_appS (E := eI) rfl _ _ 29 rfl Try.underlying29 hi hz0 hz1 hz2 rfl (by decide) rfl rfl (Hu3.out.alloc _) (rds_one (E := eI) (x := (k : Int)) Hqp rfl) ?b1 ?b2 ?b3 ?_))
              case b1 => rw [hlt]; unfold maxLen; (try simp) <;> omega
              case b2 => rw [hlt]; (try simp) <;> omega
              case b3 => (try simp) <;> omega
              intro v4 w4 hR4 hg4
              have hg4' := hg4.alloc
              have hu3l := Hu3.out.lt
              have hb4 := hg4'.below Hb3.out (by omega) (fun q hq => (hu3l q hq).1)
              have hb4' := Hb2.out.trans (hb4.mono hs2)
              have hownB := Hown2.out.below hb4 (Nat.le_refl _)
              have hs4 := hb4.size
              have HR4 := Lib.hid hR4
              have Hb4 := Lib.hid hb4
              have hrB := hownB.rds
              have HrB := Lib.hid hrB
              clear hR4 hg4 hg4' hu3l hb4 hb4' hownB hrB
              have hkc : k ≤ cap := by have := Rds.cap HrB.out; omega
              have hjk9 : ((0 : Nat) : Int) ≤ (k : Int) := by omega
              by_cases hq : cap = 0
              case' pos =>
                have Hr2 : Hid (RdI w4.heap.size w4 (.slice (some ⟨g, 0, none⟩) (k - 0) 0) (out.drop 0)) := Lib.hid (Rds.drop0 HrB.out (by have := Rds.cap HrB.out; omega))
              case' neg =>
                have Hr2 : Hid (RdI w4.heap.size w4 (.slice (some ⟨g, 0 + 0, none⟩) (k - 0) (cap - 0)) (out.drop 0)) := Lib.hid (Rds.dropI HrB.out (by omega) (by omega))
                simp only [Nat.zero_add, Nat.sub_zero] at Hr2
              all_goals
                go_wp2_with (first | (at_builtin; refine wpList_appS (E := eI) rfl _ _ 29 rfl Try.underlying29 hi hz0 hz1 hz2 rfl (by decide) rfl rfl HR4.out Hr2.out ?b1 ?b2 ?b3 ?_))
                case b1 => first | rw [List.length_append, hlt, hld] | rw [hld]
                           unfold maxLen; (try simp) <;> omega
                case b2 => first | rw [List.length_append, hlt, hld] | rw [hld]
                           (try simp) <;> omega
                case b3 => omega
                intro v5 w5 hR5 hg5
                have hb5 := hg5.below Hb4.out (by omega) (fun q hq => (HR4.out.lt q hq).1)
                have hb5' := Hb2.out.trans (hb5.mono hs2)
                have hl5 : (out.take 0 ++ (k : Int) :: out.drop 0).length = k + 1 := by rw [List.length_append, List.length_cons, hlt, hld]; omega
                obtain ⟨g5, cap5, hv5⟩ : ∃ g5 cap5, v5 = .slice (some ⟨g5, 0, none⟩) (k + 1) cap5 := by
                  rcases hR5.1.2 with ⟨h5, h6⟩ | ⟨g5, cap5, cur, h5, _⟩
                  · have h7 : k + 1 = 0 := hl5.symm.trans h6
                    omega
                  · exact ⟨g5, cap5, h5.trans (congrArg (fun z => Value.slice (some ⟨g5, 0, none⟩) z cap5) hl5)⟩
                subst hv5
                have hR6 := hR5.mono hs2
                have HR6 := Lib.hid hR6
                have Hb5 := Lib.hid hb5'
                have Hl5 := Lib.hid hl5
                clear hR5 hg5 hb5 hb5' hR6 hl5
                go_wp2
                go_roundw
                case rel => exact ⟨k + 1, g5, cap5, _, by omega, by go_num, rfl, HR6.out, Hl5.out, fun h => by omega, by show InsAll _ (rangeI (k + 1)) [] _; rw [range_succ]; exact InsAll.snoc Hia.out Hins.out, Hb5.out⟩
                case measure => simp [intOf]; omega
            · obtain ⟨j', rfl⟩ : ∃ j', j = j' + 1 := ⟨j - 1, by omega⟩
              obtain ⟨ao2, cap2, hsh, hro⟩ := RdI.open hown2.rds
              rw [hol] at hro hsh
              injection hsh with hs1 hs2 hs3
              subst hs3
              subst hs1
              obtain ⟨g2, off2, hgo, rlt, rc⟩ := hro (by omega)
              cases hgo
              obtain ⟨y, hy, hcy, _⟩ := rc j' (by omega)
              rw [Nat.zero_add] at hcy
              have hyr := rangeI_mem.1 (Hperm.out.mem_iff.1 (List.mem_of_getElem? hy))
              obtain ⟨ix, rfl⟩ : ∃ ix : Nat, y = ix := ⟨y.toNat, by omega⟩
              have hcon := l21Before_c (i := k) (j := ix) (Ha.out.below hb2 (Nat.le_refl _)) Hr2.out hkn (by omega)
              have hjt : decide ((0 : Int) < (j' : Int) + 1) = true := decide_eq_true (by omega)
              have hjk2 : j' < k := by omega
              have hjk3 : (j' : Int) < (k : Int) := by omega
              have hzz : IntKind.i64.wrap (((j' + 1 : Nat) : Int) - 1) = (j' : Int) := by rw [show ((j' + 1 : Nat) : Int) - 1 = (j' : Int) by omega]; exact IntWalk.i64_in _ (by omega)
              have hjz : ((j' + 1 : Nat) : Int) = (j' : Int) + 1 := by omega
              have Hy := Lib.hid hy
              clear hro hs2 rc hy hj0 hyr
              cases hbf : johX xss (k : Int) (ix : Int) with
              | true =>
                rw [hbf] at hcon
                have Hbf := Lib.hid hbf
                have Hcon := Lib.hid hcon
                have Hown2 := Lib.hid hown2
                have Hb2 := Lib.hid hb2
                clear hbf hcon hown2 hb2
                go_wp2_with fail
                with_reducible refine Hcon.out.mono ?_
                rintro e w9 ⟨rfl, q9, rfl⟩
                have hbq : Below wr.heap.size wr (wr.drewN q9) := (Below.refl _ _).drewNy _
                have hownq := Hown2.out.below hbq (Nat.le_refl _)
                have hbq2 := Hb2.out.trans (hbq.mono Hb2.out.size)
                clear hbq hcy
                generalize wr.drewN q9 = w9 at hownq hbq2 ⊢
                go_wp2
                go_roundw
                case rel =>
                  refine ⟨j', by omega, by go_num, ?_, hownq, hbq2⟩
                  intro y hy
                  rw [List.drop_eq_getElem?_toList_append] at hy
                  rw [Hy.out] at hy
                  rcases List.mem_append.1 hy with hy | hy
                  · have : y = (ix : Int) := by simpa using hy
                    rw [this]; exact Hbf.out
                  · exact Hall.out y hy
                case measure => simp [intOf]
              | false =>
                rw [hbf] at hcon
                have Hcon := Lib.hid hcon
                have Hins := Lib.hid (ins_at (b := johX xss) (x := (k : Int)) Hall.out (fun y _ h => by rw [show j' + 1 - 1 = j' by omega, Hy.out] at h; cases h; exact hbf) (by omega))
                have Hown2 := Lib.hid hown2
                have Hb2 := Lib.hid hb2
                clear hbf hcon hown2 hb2
                go_wp2_with fail
                with_reducible refine Hcon.out.mono ?_
                rintro e w9 ⟨rfl, q9, rfl⟩
                have hbq : Below wr.heap.size wr (wr.drewN q9) := (Below.refl _ _).drewNy _
                have hown2 := Hown2.out.below hbq (Nat.le_refl _)
                have hb2 := Hb2.out.trans (hbq.mono Hb2.out.size)
                clear hbq hcy Hown2 Hb2 Hcon
                generalize wr.drewN q9 = w9 at hown2 hb2 ⊢
                have hkc0 : (j' : Int) + 1 ≤ (cap : Int) := by have := Rds.cap hown2.rds; omega
                have hr1 := hown2.rds.takeN (k := (j' + 1)) hjk
                have Hr1 := Lib.hid hr1
                have Hown2 := Lib.hid hown2
                have Hb2 := Lib.hid hb2
                clear hr1 hown2 hb2
                go_wp2_with fail
                with_reducible refine (l00Own_c Hr1.out (by rw [List.length_take]; omega)).mono ?_
                rintro e w3 ⟨u3, rfl, hu3, hb3⟩
                have hs2 := Hb2.out.size
                have hs3 := hb3.size
                have hb3' := Hb2.out.trans (hb3.mono hs2)
                have hownA := Hown2.out.below hb3 (Nat.le_refl _)
                have Hqp : eI.ok (k : Int) := by show -9223372036854775808 ≤ (k : Int) ∧ (k : Int) ≤ 9223372036854775807; omega
                have hlt : (out.take (j' + 1)).length = (j' + 1) := by rw [List.length_take]; omega
                have hld : (out.drop (j' + 1)).length = k - (j' + 1) := by rw [List.length_drop]; omega
                have Hu3 := Lib.hid hu3
                have Hb3 := Lib.hid hb3
                have Hb3' := Lib.hid hb3'
                have HownA := Lib.hid hownA
                clear hu3 hb3 hb3' hownA
                go_wp2_with (first | (at_builtin; refine wpList_appS (E := eI) rfl _ _ 29 rfl Try.underlying29 hi hz0 hz1 hz2 rfl (by decide) rfl rfl (Hu3.out.alloc _) (rds_one (E := eI) (x := (k : Int)) Hqp rfl) ?b1 ?b2 ?b3 ?_))
                case b1 => rw [hlt]; unfold maxLen; (try simp) <;> omega
                case b2 => rw [hlt]; (try simp) <;> omega
                case b3 => (try simp) <;> omega
                intro v4 w4 hR4 hg4
                have hg4' := hg4.alloc
                have hu3l := Hu3.out.lt
                have hb4 := hg4'.below Hb3.out (by omega) (fun q hq => (hu3l q hq).1)
                have hb4' := Hb2.out.trans (hb4.mono hs2)
                have hownB := Hown2.out.below hb4 (Nat.le_refl _)
                have hs4 := hb4.size
                have HR4 := Lib.hid hR4
                have Hb4 := Lib.hid hb4
                have hrB := hownB.rds
                have HrB := Lib.hid hrB
                clear hR4 hg4 hg4' hu3l hb4 hb4' hownB hrB
                have hkc : k ≤ cap := by have := Rds.cap HrB.out; omega
                have hjk9 : (((j' + 1) : Nat) : Int) ≤ (k : Int) := by omega
                by_cases hq : cap = j' + 1
                case' pos =>
                  subst hq
                  have Hr2 : Hid (RdI w4.heap.size w4 (.slice (some ⟨g, 0, none⟩) (k - (j' + 1)) 0) (out.drop (j' + 1))) := Lib.hid (Rds.drop0 HrB.out (by have := Rds.cap HrB.out; omega))
                  rw [show k - (j' + 1) = 0 by omega] at Hr2
                case' neg =>
                  have Hr2 : Hid (RdI w4.heap.size w4 (.slice (some ⟨g, 0 + (j' + 1), none⟩) (k - (j' + 1)) (cap - (j' + 1))) (out.drop (j' + 1))) := Lib.hid (Rds.dropI HrB.out (by omega) (by omega))
                  rw [Nat.zero_add] at Hr2
                all_goals
                  go_wp2_with (first | (at_builtin; refine wpList_appS (E := eI) rfl _ _ 29 rfl Try.underlying29 hi hz0 hz1 hz2 rfl (by decide) rfl rfl HR4.out Hr2.out ?b1 ?b2 ?b3 ?_))
                  case b1 => first | rw [List.length_append, hlt, hld] | rw [hld]
                             unfold maxLen; (try simp) <;> omega
                  case b2 => first | rw [List.length_append, hlt, hld] | rw [hld]
                             (try simp) <;> omega
                  case b3 => omega
                  intro v5 w5 hR5 hg5
                  have hb5 := hg5.below Hb4.out (by omega) (fun q hq => (HR4.out.lt q hq).1)
                  have hb5' := Hb2.out.trans (hb5.mono hs2)
                  have hl5 : (out.take (j' + 1) ++ (k : Int) :: out.drop (j' + 1)).length = k + 1 := by rw [List.length_append, List.length_cons, hlt, hld]; omega
                  obtain ⟨g5, cap5, hv5⟩ : ∃ g5 cap5, v5 = .slice (some ⟨g5, 0, none⟩) (k + 1) cap5 := by
                    rcases hR5.1.2 with ⟨h5, h6⟩ | ⟨g5, cap5, cur, h5, _⟩
                    · have h7 : k + 1 = 0 := hl5.symm.trans h6
                      omega
                    · exact ⟨g5, cap5, h5.trans (congrArg (fun z => Value.slice (some ⟨g5, 0, none⟩) z cap5) hl5)⟩
                  subst hv5
                  have hR6 := hR5.mono hs2
                  have HR6 := Lib.hid hR6
                  have Hb5 := Lib.hid hb5'
                  have Hl5 := Lib.hid hl5
                  clear hR5 hg5 hb5 hb5' hR6 hl5
                  go_wp2
                  go_roundw
                  case rel => exact ⟨k + 1, g5, cap5, _, by omega, by go_num, rfl, HR6.out, Hl5.out, fun h => by omega, by show InsAll _ (rangeI (k + 1)) [] _; rw [range_succ]; exact InsAll.snoc Hia.out Hins.out, Hb5.out⟩
                  case measure => simp [intOf]; omega
        · have hrk : k = n := by omega
          subst hrk
          have hj := joh_ins (xss := xss) (r := out) (by rw [← Hn.out]; exact Hia.out)
          have hJR := JR_eq E1.out hj
          have HJR := Lib.hid hJR
          clear hj hJR
          go_wp2
          go_ret2
          exact ⟨_, rfl, by rw [← HJR.out]; exact hown, hb⟩
    · have e1 : JC xss = 6 := by unfold JC; rw [hv, if_pos rfl, ← hm, if_neg hm2]
      rw [JR_no (by rw [e1]; decide), e1]
      have hf : ((m : Int) != 2) = true := by simp; omega
      clear hv e1 ha ha1 hao hrows hc hx0 hcell0 hx0m hcell0' hm hn hm2
      go_enter Try.func27, Try.ntmps27
      go_wp2_with fail
      with_reducible refine (l21Ok_c Ha.out).mono ?_
      rw [Hv.out]
      rintro e w1 ⟨rfl, q, rfl⟩
      have hb1 := (Below.refl w.heap.size w).drewNy q
      generalize w.drewN q = w1 at hb1 ⊢
      have d0 := (hb1.cell (p := ⟨b, off, none⟩) hlt.1).trans Hcell.out
      go_wp2
      go_ret2
      exact ⟨_, rfl, Own.nil _ _ _ _, hb1⟩
end Go.Proofs.Ytpnmcgjfemaleaa
