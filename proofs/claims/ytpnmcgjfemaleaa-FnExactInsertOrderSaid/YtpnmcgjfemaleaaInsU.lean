/- Inserting jobs: the reference's loops. No condition. -/
import Derived.Test.YtpnmcgjfemaleaaInsS
namespace Go.Proofs.Ytpnmcgjfemaleaa
open Go.ChangeShapes Go.WideShapes Go.ChangeAt Go.RowKit Go.Sort
set_option linter.unusedVariables false
set_option maxRecDepth 100000
set_option maxHeartbeats 2000000 in
theorem sInsertOrder_c {xss : List (List Int)} {v : Value} {w : World} {A : Nat} (ha : RdInt64SS A w v xss) :
    Calls Try.prog 29 #[v] w fun e w' => ∃ u0, e = .returned (.tuple #[u0, .int .i64 (IOC xss)]) ∧ OwnInt64S w.heap.size w' u0 (IOR xss) ∧ Below w.heap.size w w' := by
  have ha1 := ha.tight
  have hxle := ha.le
  obtain ⟨ao, cap0, rfl, hao⟩ := ha1.open
  obtain ⟨n, hn⟩ : ∃ n, n = xss.length := ⟨_, rfl⟩
  rw [← hn] at ha1 hao hxle ⊢
  have Ha := Lib.hid ha1
  have Hn := Lib.hid hn
  cases hv : validJ xss with
  | false =>
    have e1 : IOC xss = 1 := by unfold IOC; rw [hv]; rfl
    rw [IOR_no (by rw [e1]; decide), e1]
    have Hv := Lib.hid hv
    clear hv e1 ha ha1 hao hn
    go_enter Try.func29, Try.ntmps29
    go_wp2_with fail
    with_reducible refine (l21Ok_c Ha.out).mono ?_
    rw [Hv.out]
    rintro e w1 ⟨rfl, q, rfl⟩
    go_wp2
    go_ret2
    exact ⟨_, rfl, Own.nil _ _ _ _, (Below.refl _ _).drewNy _⟩
  | true =>
    obtain ⟨hn8, hm4, hrows⟩ := validJ_parts hv
    rw [← hn] at hn8
    obtain ⟨b, off, rfl, hlt, hc⟩ := hao (by omega)
    have Hv := Lib.hid hv
    have e1 : IOC xss = 0 := by unfold IOC; rw [if_pos hv]
    have hrowb : ∀ r ∈ xss, (∀ z ∈ r, 0 ≤ z ∧ z ≤ 1000000000) ∧ r.length ≤ 1000000 := fun r hr => ⟨fun z hz => by have := (hrows r hr).2 z hz; omega, by have := (hrows r hr).1; omega⟩
    have Hrowb := Lib.hid hrowb
    obtain ⟨i0, hi, hz0, hz1, hz2⟩ := info_parts Try.infoInt64
    rw [e1, IOR_yes hv]
    clear hv e1 ha ha1 hao hrows hrowb hc hn
    go_enter Try.func29, Try.ntmps29
    go_wp2_with fail
    with_reducible refine (l21Ok_c Ha.out).mono ?_
    rw [Hv.out]
    rintro e w1 ⟨rfl, q, rfl⟩
    have hb1 := (Below.refl w.heap.size w).drewNy q
    generalize w.drewN q = w1 at hb1 ⊢
    have ho0 : OwnInt64S w.heap.size (w1.alloc (.cells #[] 2)) (.slice (some ⟨w1.heap.size, 0, none⟩) 0 0) [] := Own.lit (E := eI) (xs := []) (cs := #[]) hb1.size rfl rfl (by decide) (fun x hx => by cases hx)
    have hb0 : Below w.heap.size w (w1.alloc (.cells #[] 2)) := hb1.alloc hb1.size _
    clear hb1
    go_wp2_with fail
    go_loopw [4, 5] (fun v i wr => ∃ (k g cap : Nat) (out : List Int), k ≤ n ∧ i = .int .i64 k ∧ v = .slice (some ⟨g, 0, none⟩) k cap ∧ OwnInt64S w.heap.size wr v out ∧ out.length = k ∧ (k = 0 → cap = 0) ∧ Hid (InsAll (insX xss) (rangeI k) [] out) ∧ Below w.heap.size w wr) (fun _ i _ => n - (intOf i).toNat)
    case atStart => exact ⟨0, _, 0, [], Nat.zero_le _, rfl, rfl, ho0, rfl, fun _ => rfl, rfl, hb0⟩
    case round =>
      obtain ⟨k, g, cap, out, hk, rfl, rfl, hown, hol, hcap, Hia, hb⟩ := hrel
      clear ho0 hb0
      have hperm := Hia.out.perm
      rw [List.append_nil] at hperm
      have Hperm := Lib.hid hperm
      have Hol := Lib.hid hol
      clear hperm
      by_cases hkn : k < n
      · go_wp2_with fail
        go_loopw [6] (fun i wr => ∃ j : Nat, j ≤ k ∧ i = .int .i64 (j : Int) ∧ Hid (∀ y ∈ out.drop j, insX xss k y = true) ∧ OwnInt64S w.heap.size wr (.slice (some ⟨g, 0, none⟩) k cap) out ∧ Below w.heap.size w wr) (fun i _ => (intOf i).toNat)
        case atStart => exact ⟨k, Nat.le_refl _, rfl, (fun y hy => by rw [List.drop_of_length_le (by omega)] at hy; cases hy), hown, hb⟩
        case round =>
          obtain ⟨j, hjk, rfl, Hall, hown2, hb2⟩ := hrel
          clear hown hb
          by_cases hj0 : j = 0
          · have Hins := Lib.hid (ins_at (b := insX xss) (x := (k : Int)) Hall.out (fun y h _ => by omega) (by omega))
            subst hj0
            have Hown2 := Lib.hid hown2
            have Hb2 := Lib.hid hb2
            clear hown2 hb2
            go_wp2
            go_quiet (fail)
            have hbq : Below wr.heap.size wr (wr.drewN nq) := (Below.refl _ _).drewNy _
            have hown2 := Hown2.out.below hbq (Nat.le_refl _)
            have hb2 := Hb2.out.trans (hbq.mono Hb2.out.size)
            clear hbq Hown2 Hb2
            generalize wr.drewN nq = w9 at hown2 hb2 ⊢
            have hr1 := hown2.rds.takeN (k := 0) hjk
            have Hr1 := Lib.hid hr1
            have Hown2 := Lib.hid hown2
            have Hb2 := Lib.hid hb2
            clear hr1 hown2 hb2
            go_wp2_with fail
            with_reducible refine (l00Own_c Hr1.out (by rw [List.length_take]; omega)).mono ?_
            rintro e w3 ⟨u3, rfl, hu3, hb3⟩
            have hs2 := Hb2.out.size
            have hs3 := hb3.size
            have hb3' := Hb2.out.trans (hb3.mono hs2)
            have hownA := Hown2.out.below hb3 (Nat.le_refl _)
            have Hqp : eI.ok (k : Int) := by show -9223372036854775808 ≤ (k : Int) ∧ (k : Int) ≤ 9223372036854775807; omega
            have hlt : (out.take 0).length = 0 := by rw [List.length_take]; omega
            have hld : (out.drop 0).length = k - 0 := by rw [List.length_drop]; omega
            have Hu3 := Lib.hid hu3
            have Hb3 := Lib.hid hb3
            have Hb3' := Lib.hid hb3'
            have HownA := Lib.hid hownA
            clear hu3 hb3 hb3' hownA
            go_wp2_with (first | (at_builtin; refine wpList_appS (E := eI) rfl _ _ 29 rfl Try.underlying29 hi hz0 hz1 hz2 rfl (by decide) rfl rfl (Hu3.out.alloc _) (rds_one (E := eI) (x := (k : Int)) Hqp rfl) ?b1 ?b2 ?b3 ?_))
            case b1 => rw [hlt]; unfold maxLen; (try simp) <;> omega
            case b2 => rw [hlt]; (try simp) <;> omega
            case b3 => (try simp) <;> omega
            intro v4 w4 hR4 hg4
            have hg4' := hg4.alloc
            have hu3l := Hu3.out.lt
            have hb4 := hg4'.below Hb3.out (by omega) (fun q hq => (hu3l q hq).1)
            have hb4' := Hb2.out.trans (hb4.mono hs2)
            have hownB := Hown2.out.below hb4 (Nat.le_refl _)
            have hs4 := hb4.size
            have HR4 := Lib.hid hR4
            have Hb4 := Lib.hid hb4
            have hrB := hownB.rds
            have HrB := Lib.hid hrB
            clear hR4 hg4 hg4' hu3l hb4 hb4' hownB hrB
            have hkc : k ≤ cap := by have := Rds.cap HrB.out; omega
            have hjk9 : ((0 : Nat) : Int) ≤ (k : Int) := by omega
            by_cases hq : cap = 0
            case' pos =>
              have Hr2 : Hid (RdI w4.heap.size w4 (.slice (some ⟨g, 0, none⟩) (k - 0) 0) (out.drop 0)) := Lib.hid (Rds.drop0 HrB.out (by have := Rds.cap HrB.out; omega))
            case' neg =>
              have Hr2 : Hid (RdI w4.heap.size w4 (.slice (some ⟨g, 0 + 0, none⟩) (k - 0) (cap - 0)) (out.drop 0)) := Lib.hid (Rds.dropI HrB.out (by omega) (by omega))
              simp only [Nat.zero_add, Nat.sub_zero] at Hr2
            all_goals
              go_wp2_with (first | (at_builtin; refine wpList_appS (E := eI) rfl _ _ 29 rfl Try.underlying29 hi hz0 hz1 hz2 rfl (by decide) rfl rfl HR4.out Hr2.out ?b1 ?b2 ?b3 ?_))
              case b1 => first | rw [List.length_append, hlt, hld] | rw [hld]
                         unfold maxLen; (try simp) <;> omega
              case b2 => first | rw [List.length_append, hlt, hld] | rw [hld]
                         (try simp) <;> omega
              case b3 => omega
              intro v5 w5 hR5 hg5
              have hb5 := hg5.below Hb4.out (by omega) (fun q hq => (HR4.out.lt q hq).1)
              have hb5' := Hb2.out.trans (hb5.mono hs2)
              have hl5 : (out.take 0 ++ (k : Int) :: out.drop 0).length = k + 1 := by rw [List.length_append, List.length_cons, hlt, hld]; omega
              obtain ⟨g5, cap5, hv5⟩ : ∃ g5 cap5, v5 = .slice (some ⟨g5, 0, none⟩) (k + 1) cap5 := by
                rcases hR5.1.2 with ⟨h5, h6⟩ | ⟨g5, cap5, cur, h5, _⟩
                · have h7 : k + 1 = 0 := hl5.symm.trans h6
                  omega
                · exact ⟨g5, cap5, h5.trans (congrArg (fun z => Value.slice (some ⟨g5, 0, none⟩) z cap5) hl5)⟩
              subst hv5
              have hR6 := hR5.mono hs2
              have HR6 := Lib.hid hR6
              have Hb5 := Lib.hid hb5'
              have Hl5 := Lib.hid hl5
              clear hR5 hg5 hb5 hb5' hR6 hl5
              go_wp2
              go_roundw
              case rel => exact ⟨k + 1, g5, cap5, _, by omega, by go_num, rfl, HR6.out, Hl5.out, fun h => by omega, by show InsAll _ (rangeI (k + 1)) [] _; rw [range_succ]; exact InsAll.snoc Hia.out Hins.out, Hb5.out⟩
              case measure => simp [intOf]; omega
          · obtain ⟨j', rfl⟩ : ∃ j', j = j' + 1 := ⟨j - 1, by omega⟩
            obtain ⟨ao2, cap2, hsh, hro⟩ := RdI.open hown2.rds
            rw [hol] at hro hsh
            injection hsh with hs1 hs2 hs3
            subst hs3
            subst hs1
            obtain ⟨g2, off2, hgo, rlt, rc⟩ := hro (by omega)
            cases hgo
            obtain ⟨y, hy, hcy, _⟩ := rc j' (by omega)
            rw [Nat.zero_add] at hcy
            have hyr := rangeI_mem.1 (Hperm.out.mem_iff.1 (List.mem_of_getElem? hy))
            obtain ⟨ix, rfl⟩ : ∃ ix : Nat, y = ix := ⟨y.toNat, by omega⟩
            obtain ⟨x1, rx1, cx1, hx1, c1, r1, e1⟩ := jobRow (Ha.out.below hb2 (Nat.le_refl _)) hkn
            obtain ⟨y1, ry1, cy1, hy1, c2, r2, e2⟩ := jobRow (i := ix) (Ha.out.below hb2 (Nat.le_refl _)) (by omega)
            have bx := Hrowb.out x1 (List.mem_of_getElem? hx1)
            have bY := Hrowb.out y1 (List.mem_of_getElem? hy1)
            have R1 := Lib.hid r1
            have R2 := Lib.hid r2
            have BX := Lib.hid bx
            have BY := Lib.hid bY
            have hbx : insX xss (k : Int) (ix : Int) = decide (sumI y1 < sumI x1) := by unfold insX; rw [e1, e2]
            have hixn : (ix : Int) < (n : Int) := by omega
            clear r1 r2 bx bY e1 e2 hx1 hy1
            have hjt : decide ((0 : Int) < (j' : Int) + 1) = true := decide_eq_true (by omega)
            have hjk2 : j' < k := by omega
            have hjk3 : (j' : Int) < (k : Int) := by omega
            have hzz : IntKind.i64.wrap (((j' + 1 : Nat) : Int) - 1) = (j' : Int) := by rw [show ((j' + 1 : Nat) : Int) - 1 = (j' : Int) by omega]; exact IntWalk.i64_in _ (by omega)
            have hjz : ((j' + 1 : Nat) : Int) = (j' : Int) + 1 := by omega
            have Hy := Lib.hid hy
            clear hro hs2 rc hy hj0 hyr
            generalize hsx : sumI x1 = sx at hbx
            generalize hsy : sumI y1 = sy at hbx
            have HSx := Lib.hid hsx
            have HSy := Lib.hid hsy
            clear hsx hsy
            cases hbf : insX xss (k : Int) (ix : Int) with
            | true =>
              rw [hbf] at hbx
              have hbx' := hbx.symm
              rw [← HSx.out, ← HSy.out] at hbx'
              clear hbx
              have Hbf := Lib.hid hbf
              have Hown2 := Lib.hid hown2
              have Hb2 := Lib.hid hb2
              clear hbf hown2 hb2
              go_wp2
              go_quiet (first
                | (go_at_call 51; first | exact quiet_at0 (l21Sum_any R1.out BX.out.1 BX.out.2) | exact quiet_at (l21Sum_any R1.out BX.out.1 BX.out.2) | exact quiet_at0 (l21Sum_any R2.out BY.out.1 BY.out.2) | exact quiet_at (l21Sum_any R2.out BY.out.1 BY.out.2) | exact quiet_at (l21Sum_any (R1.out.drewN _) BX.out.1 BX.out.2) | exact quiet_at (l21Sum_any (R2.out.drewN _) BY.out.1 BY.out.2)))
              have hbq : Below wr.heap.size wr (wr.drewN nq) := (Below.refl _ _).drewNy _
              have hownq := Hown2.out.below hbq (Nat.le_refl _)
              have hbq2 := Hb2.out.trans (hbq.mono Hb2.out.size)
              clear hbq hcy c1 c2 hbx'
              generalize wr.drewN nq = w9 at hownq hbq2 ⊢
              go_wp2
              go_roundw
              case rel =>
                refine ⟨j', by omega, by go_num, ?_, hownq, hbq2⟩
                intro y hy
                rw [List.drop_eq_getElem?_toList_append] at hy
                rw [Hy.out] at hy
                rcases List.mem_append.1 hy with hy | hy
                · have : y = (ix : Int) := by simpa using hy
                  rw [this]; exact Hbf.out
                · exact Hall.out y hy
              case measure => simp [intOf]
            | false =>
              rw [hbf] at hbx
              have hbx' := hbx.symm
              rw [← HSx.out, ← HSy.out] at hbx'
              clear hbx
              have Hins := Lib.hid (ins_at (b := insX xss) (x := (k : Int)) Hall.out (fun y _ h => by rw [show j' + 1 - 1 = j' by omega, Hy.out] at h; cases h; exact hbf) (by omega))
              have Hown2 := Lib.hid hown2
              have Hb2 := Lib.hid hb2
              clear hbf hown2 hb2
              go_wp2
              go_quiet (first
                | (go_at_call 51; first | exact quiet_at0 (l21Sum_any R1.out BX.out.1 BX.out.2) | exact quiet_at (l21Sum_any R1.out BX.out.1 BX.out.2) | exact quiet_at0 (l21Sum_any R2.out BY.out.1 BY.out.2) | exact quiet_at (l21Sum_any R2.out BY.out.1 BY.out.2) | exact quiet_at (l21Sum_any (R1.out.drewN _) BX.out.1 BX.out.2) | exact quiet_at (l21Sum_any (R2.out.drewN _) BY.out.1 BY.out.2)))
              have hbq : Below wr.heap.size wr (wr.drewN nq) := (Below.refl _ _).drewNy _
              have hown2 := Hown2.out.below hbq (Nat.le_refl _)
              have hb2 := Hb2.out.trans (hbq.mono Hb2.out.size)
              clear hbq hcy c1 c2 hbx' Hown2 Hb2
              generalize wr.drewN nq = w9 at hown2 hb2 ⊢
              have hkc0 : (j' : Int) + 1 ≤ (cap : Int) := by have := Rds.cap hown2.rds; omega
              have hr1 := hown2.rds.takeN (k := (j' + 1)) hjk
              have Hr1 := Lib.hid hr1
              have Hown2 := Lib.hid hown2
              have Hb2 := Lib.hid hb2
              clear hr1 hown2 hb2
              go_wp2_with fail
              with_reducible refine (l00Own_c Hr1.out (by rw [List.length_take]; omega)).mono ?_
              rintro e w3 ⟨u3, rfl, hu3, hb3⟩
              have hs2 := Hb2.out.size
              have hs3 := hb3.size
              have hb3' := Hb2.out.trans (hb3.mono hs2)
              have hownA := Hown2.out.below hb3 (Nat.le_refl _)
              have Hqp : eI.ok (k : Int) := by show -9223372036854775808 ≤ (k : Int) ∧ (k : Int) ≤ 9223372036854775807; omega
              have hlt : (out.take (j' + 1)).length = (j' + 1) := by rw [List.length_take]; omega
              have hld : (out.drop (j' + 1)).length = k - (j' + 1) := by rw [List.length_drop]; omega
              have Hu3 := Lib.hid hu3
              have Hb3 := Lib.hid hb3
              have Hb3' := Lib.hid hb3'
              have HownA := Lib.hid hownA
              clear hu3 hb3 hb3' hownA
              go_wp2_with (first | (at_builtin; refine wpList_appS (E := eI) rfl _ _ 29 rfl Try.underlying29 hi hz0 hz1 hz2 rfl (by decide) rfl rfl (Hu3.out.alloc _) (rds_one (E := eI) (x := (k : Int)) Hqp rfl) ?b1 ?b2 ?b3 ?_))
              case b1 => rw [hlt]; unfold maxLen; (try simp) <;> omega
              case b2 => rw [hlt]; (try simp) <;> omega
              case b3 => (try simp) <;> omega
              intro v4 w4 hR4 hg4
              have hg4' := hg4.alloc
              have hu3l := Hu3.out.lt
              have hb4 := hg4'.below Hb3.out (by omega) (fun q hq => (hu3l q hq).1)
              have hb4' := Hb2.out.trans (hb4.mono hs2)
              have hownB := Hown2.out.below hb4 (Nat.le_refl _)
              have hs4 := hb4.size
              have HR4 := Lib.hid hR4
              have Hb4 := Lib.hid hb4
              have hrB := hownB.rds
              have HrB := Lib.hid hrB
              clear hR4 hg4 hg4' hu3l hb4 hb4' hownB hrB
              have hkc : k ≤ cap := by have := Rds.cap HrB.out; omega
              have hjk9 : (((j' + 1) : Nat) : Int) ≤ (k : Int) := by omega
              by_cases hq : cap = j' + 1
              case' pos =>
                subst hq
                have Hr2 : Hid (RdI w4.heap.size w4 (.slice (some ⟨g, 0, none⟩) (k - (j' + 1)) 0) (out.drop (j' + 1))) := Lib.hid (Rds.drop0 HrB.out (by have := Rds.cap HrB.out; omega))
                rw [show k - (j' + 1) = 0 by omega] at Hr2
              case' neg =>
                have Hr2 : Hid (RdI w4.heap.size w4 (.slice (some ⟨g, 0 + (j' + 1), none⟩) (k - (j' + 1)) (cap - (j' + 1))) (out.drop (j' + 1))) := Lib.hid (Rds.dropI HrB.out (by omega) (by omega))
                rw [Nat.zero_add] at Hr2
              all_goals
                go_wp2_with (first | (at_builtin; refine wpList_appS (E := eI) rfl _ _ 29 rfl Try.underlying29 hi hz0 hz1 hz2 rfl (by decide) rfl rfl HR4.out Hr2.out ?b1 ?b2 ?b3 ?_))
                case b1 => first | rw [List.length_append, hlt, hld] | rw [hld]
                           unfold maxLen; (try simp) <;> omega
                case b2 => first | rw [List.length_append, hlt, hld] | rw [hld]
                           (try simp) <;> omega
                case b3 => omega
                intro v5 w5 hR5 hg5
                have hb5 := hg5.below Hb4.out (by omega) (fun q hq => (HR4.out.lt q hq).1)
                have hb5' := Hb2.out.trans (hb5.mono hs2)
                have hl5 : (out.take (j' + 1) ++ (k : Int) :: out.drop (j' + 1)).length = k + 1 := by rw [List.length_append, List.length_cons, hlt, hld]; omega
                obtain ⟨g5, cap5, hv5⟩ : ∃ g5 cap5, v5 = .slice (some ⟨g5, 0, none⟩) (k + 1) cap5 := by
                  rcases hR5.1.2 with ⟨h5, h6⟩ | ⟨g5, cap5, cur, h5, _⟩
                  · have h7 : k + 1 = 0 := hl5.symm.trans h6
                    omega
                  · exact ⟨g5, cap5, h5.trans (congrArg (fun z => Value.slice (some ⟨g5, 0, none⟩) z cap5) hl5)⟩
                subst hv5
                have hR6 := hR5.mono hs2
                have HR6 := Lib.hid hR6
                have Hb5 := Lib.hid hb5'
                have Hl5 := Lib.hid hl5
                clear hR5 hg5 hb5 hb5' hR6 hl5
                go_wp2
                go_roundw
                case rel => exact ⟨k + 1, g5, cap5, _, by omega, by go_num, rfl, HR6.out, Hl5.out, fun h => by omega, by show InsAll _ (rangeI (k + 1)) [] _; rw [range_succ]; exact InsAll.snoc Hia.out Hins.out, Hb5.out⟩
                case measure => simp [intOf]; omega
      · have hrk : k = n := by omega
        subst hrk
        have hr := IOS_eq (by rw [← Hn.out]; exact Hia.out)
        have Hr := Lib.hid hr
        have Hown := Lib.hid hown
        have Hb := Lib.hid hb
        have hsw : w.heap.size ≤ wr.heap.size := hb.size
        clear hr hown hb
        generalize wr = w2 at Hown Hb hsw ⊢
        have hR0 : OwnInt64S w2.heap.size (w2.alloc (.cells #[] 2)) (.slice (some ⟨w2.heap.size, 0, none⟩) 0 0) ([] : List Int) := Own.lit (E := eI) (xs := []) (cs := #[]) (Nat.le_refl _) rfl rfl (by decide) (fun x hx => by cases hx)
        have hBL : Below w2.heap.size w2 (w2.alloc (.cells #[] 2)) := (Below.refl _ _).alloc (Nat.le_refl _) _
        go_wp2
        go_loopw [8, 9] (fun v i wz => ∃ (j g2 cap2 : Nat), j ≤ k ∧ i = .int .i64 j ∧ v = .slice (some ⟨g2, 0, none⟩) j cap2 ∧ OwnInt64S w2.heap.size wz v (insO xss [] (out.take j)) ∧ Below w2.heap.size w2 wz) (fun _ i _ => k - (intOf i).toNat)
        case atStart => exact ⟨0, _, 0, Nat.zero_le _, rfl, rfl, hR0, hBL⟩
        case round =>
          obtain ⟨j, g2, cap2, hj, rfl, rfl, hO, hb⟩ := hrel
          clear hR0 hBL
          have hf := insO_facts (xss := xss) Hperm.out hj
          by_cases hjk : j < k
          · obtain ⟨ao', rc', hsh, hin⟩ := RdI.open (Hown.out.rds.below hb (Nat.le_refl _))
            rw [hol] at hsh hin
            injection hsh with hs1 hs2 hs3
            subst hs1
            subst hs3
            obtain ⟨b2, off2, hgo, hlt2, hc2⟩ := hin (by omega)
            cases hgo
            obtain ⟨y, hy, hcy, hby⟩ := hc2 j (by omega)
            rw [Nat.zero_add] at hcy
            have hyn := rangeI_mem.1 (Hperm.out.mem_iff.1 (List.mem_of_getElem? hy))
            have hns := insO_snoc xss y (out.take j) []
            rw [← take_snoc hy, hf.1] at hns
            have hbw := Hb.out.trans (hb.mono hsw)
            have hj5 := Ha.out.below hbw (Nat.le_refl _)
            have hcon := l21Insert_c (y := y) hbw.size (Nat.le_refl _) hj5 hO.rds Hv.out (fun i hi => by have := hf.2 i hi; rwa [Hn.out] at this) (by omega) (by rwa [Hn.out] at hyn)
            have Hns := Lib.hid hns
            have Hcon := Lib.hid hcon
            have Hb2 := Lib.hid hb
            have hsz2 := hb.size
            clear hns hcon hb hj5 hbw hO hy hf hin hc2 hyn hby hol
            go_wp2_with fail
            with_reducible refine Hcon.out.mono ?_
            rintro e w4 ⟨g5, cap5, rfl, hO5, hb5⟩
            have HO5 := Lib.hid (hO5.mono hsz2)
            have Hb5 := Lib.hid (Hb2.out.trans (hb5.mono hsz2))
            clear hO5 hb5 hcy
            go_wp2
            go_roundw
            case rel => exact ⟨j + 1, g5, cap5, by omega, by go_num, rfl, by rw [Hns.out]; exact HO5.out, Hb5.out⟩
            case measure => simp [intOf]; omega
          · obtain rfl : j = k := by omega
            rw [List.take_of_length_le (by omega)] at hO
            have HO := Lib.hid (hO.mono hsw)
            have Hb2 := Lib.hid (Hb.out.trans (hb.mono hsw))
            clear hO hb hf hol
            go_wp2
            go_ret2
            exact ⟨_, rfl, by rw [← Hr.out]; exact HO.out, Hb2.out⟩
end Go.Proofs.Ytpnmcgjfemaleaa
