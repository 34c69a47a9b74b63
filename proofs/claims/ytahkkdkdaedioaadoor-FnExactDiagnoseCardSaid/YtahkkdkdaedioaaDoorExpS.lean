/- The first explanation with the fewest faults, and how many there are: the reference's. No condition. -/
import Derived.Test.YtahkkdkdaedioaaDoorDiaE
import Derived.Test.YtahkkdkdaedioaaDoorExp1
import Derived.Test.YtahkkdkdaedioaaDoorExp2
import Derived.Test.YtahkkdkdaedioaaDoorAllS
import Derived.Test.YtahkkdkdaedioaaDoorSglI
namespace Go.Proofs.YtahkkdkdaedioaaDoor
open Go.ChangeShapes Go.WideShapes Go.ChangeAt Go.RowKit Go.Sort
set_option linter.unusedVariables false
set_option maxRecDepth 100000
theorem neq_rep (x y : ReportT) (w : World) : (binOp .neq 29 (vReport x) (vReport y)).run Tryd.prog w = .ok (.bool (!(x == y))) w := by
  have h := eql_rep x y w
  rw [run_eql_struct] at h
  rw [run_neq_struct]
  cases hq : (Op.equalIn 10000 29 (vReport x) (vReport y)).run Tryd.prog w with
  | ok b w' =>
    rw [hq] at h
    simp only [Result.andThen_ok] at h ⊢
    injection h with h1 h2
    injection h1 with h1
    rw [h1, h2]
  | _ => rw [hq] at h; cases h
theorem neq_run {x y : ReportT} {b : Bool} (h : (x == y) = b) (w : World) : (binOp .neq 29 (vReport x) (vReport y)).run Tryd.prog w = .ok (.bool (!b)) w := by rw [neq_rep, h]
theorem sless_a1 (r x : ReportT) (w : World) :
    Calls Tryd.prog 71 #[vReport r, vReport x] w fun e w' => e = .returned (.agg #[.int .i64 (lessW r x).count, .int .i64 (lessW r x).sum, .int .i64 (lessW r x).digits]) ∧ Below w.heap.size w w' := l19Less_c r x w
set_option maxHeartbeats 2000000 in
theorem l19Explain_c {xs : List Int} {r : ReportT} {v : Value} {w : World} {A : Nat} (ha : RdI A w v xs) (hx : amtOk xs = true) (hr : okReport r) :
    Calls Tryd.prog 46 #[v, vReport r] w fun e w' => ∃ u, e = .returned (.tuple #[u, .int .i64 (fewN xs r), .bool (fewB xs r)]) ∧ OwnFaultS w.heap.size w' u (fewA xs r) ∧ Below w.heap.size w w' := by
  obtain ⟨i0, hi, hz0, hz1, hz2⟩ := info_parts infoReportN
  obtain ⟨hl, hxx⟩ := amtOk_parts hx
  obtain ⟨N, hN⟩ : ∃ N, N = w.heap.size := ⟨_, rfl⟩
  obtain ⟨W0, hW0⟩ : ∃ W0, W0 = w.alloc (.cells #[.int .i64 r.count, .int .i64 r.sum, .int .i64 r.digits] 29) := ⟨_, rfl⟩
  have hs0 : W0.heap.size = N + 1 := by rw [hW0, hN]; simp
  have hR0 : Box W0 N [.int .i64 r.count, .int .i64 r.sum, .int .i64 r.digits] := by rw [hW0, hN]; exact Box.new w [.int .i64 r.count, .int .i64 r.sum, .int .i64 r.digits] _
  have hb0 : Below N w W0 := by rw [hW0, hN]; exact (Below.refl _ _).alloc (Nat.le_refl _) _
  have ha0 := Rds.onn ha (show Below w.heap.size w W0 by rw [← hN]; exact hb0)
  have HW0 := Lib.hid hW0
  have HN := Lib.hid hN
  have HR0 := Lib.hid hR0
  have Hb0 := Lib.hid hb0
  have Ha0 := Lib.hid ha0
  have Hx := Lib.hid hx
  have Hxx := Lib.hid hxx
  have Hl := Lib.hid hl
  have Hr := Lib.hid hr
  have Hs0 := Lib.hid hs0
  obtain ⟨ao, cap, rfl⟩ := ha.shape
  clear ha hx hr hl hxx hW0 hs0 hR0 hb0 ha0
  rw [← hN]
  clear hN
  go_enter Tryd.func46, Tryd.ntmps46
  go_wp2_with fail
  rw [← HN.out, ← HW0.out]
  with_reducible refine (l19Report_c Ha0.out Hxx.out (by have := Hl.out; omega)).mono ?_
  rintro e w1 ⟨rfl, hb1⟩
  obtain ⟨B, hB⟩ : ∃ B, B = w1.heap.size := ⟨_, rfl⟩
  obtain ⟨bs, hbs⟩ : ∃ bs, bs = repOf xs := ⟨_, rfl⟩
  rw [← hbs]
  obtain ⟨W1, hW1⟩ : ∃ W1, W1 = w1.alloc (.cells #[.int .i64 bs.count, .int .i64 bs.sum, .int .i64 bs.digits] 29) := ⟨_, rfl⟩
  have hbW : Below W0.heap.size W0 W1 := by rw [hW1]; exact hb1.alloc hb1.size _
  have hQ1 : Box W1 B [.int .i64 bs.count, .int .i64 bs.sum, .int .i64 bs.digits] := by rw [hW1, hB]; exact Box.new w1 [.int .i64 bs.count, .int .i64 bs.sum, .int .i64 bs.digits] _
  have HQ1 := Lib.hid hQ1
  have HR1 := Lib.hid (HR0.out.on hbW)
  have Ha1 := Lib.hid (Ha0.out.onn hbW)
  have Hb1 := Lib.hid (Hb0.out.trans (hbW.mono (by have := Hs0.out; omega)))
  have hBN : N + 1 ≤ B := by have := Hs0.out; have := hb1.size; omega
  have HW1 := Lib.hid hW1
  have HbW := Lib.hid hbW
  have Hbs := Lib.hid hbs
  have HBe := Lib.hid hB
  have hNW1 : N ≤ W1.heap.size := by have := HQ1.out.lt; omega
  clear hb1 hbW hQ1 hbs hW1 hB
  obtain ⟨p, hp⟩ : ∃ p, p = (r == bs) := ⟨_, rfl⟩
  have Hp := Lib.hid hp
  clear hp
  go_upto_region 2 with fail
  rw [← HBe.out, ← HW1.out]
  go_cut [22] (fun v wx => v = .bool p ∧ wx = W1)
  case first =>
    have x0 := HR1.out.cell 0 _ rfl
    have x1 := HR1.out.cell 1 _ rfl
    have x2 := HR1.out.cell 2 _ rfl
    have y0 := HQ1.out.cell 0 _ rfl
    have y1 := HQ1.out.cell 1 _ rfl
    have y2 := HQ1.out.cell 2 _ rfl
    have hrun := fun W => eql_run (x := r) (y := bs) (b := p) Hp.out.symm W
    go_wp2_with fail
    go_meet
    exact ⟨rfl, rfl⟩
  case rest =>
    obtain ⟨rfl, rfl⟩ := hcut
    cases p with
    | true =>
      have hq : r = bs := beq_iff_eq.1 Hp.out.symm
      have hfe := few_same Hx.out (show repOf xs = r by rw [hq, Hbs.out])
      have e1 : fewA xs r = [] := by unfold fewA; rw [hfe]; rfl
      have e2 : fewN xs r = 1 := by unfold fewN; rw [hfe]; rfl
      have e3 : fewB xs r = true := by unfold fewB; rw [hfe]; rfl
      have E1 := Lib.hid e1
      have E2 := Lib.hid e2
      have E3 := Lib.hid e3
      clear e1 e2 e3 hfe hq
      go_wp2
      go_ret3
      rw [E1.out, E2.out, E3.out]
      exact ⟨_, rfl, Own.lit (E := eFault) (xs := []) (cs := #[]) hNW1 rfl rfl (by decide) (fun x hx => by cases hx), Hb1.out.alloc hNW1 _⟩
    | false =>
      have hne : ¬ repOf xs = r := by
        intro h
        have h2 := Hp.out
        rw [Hbs.out, h] at h2
        simp at h2
      have Hne := Lib.hid hne
      clear hne
      have x0 := HR1.out.cell 0 _ rfl
      have x1 := HR1.out.cell 1 _ rfl
      have x2 := HR1.out.cell 2 _ rfl
      go_wp2_with fail
      with_reducible refine (l19Small_c r _).mono ?_
      rintro e w2 ⟨rfl, hb2⟩
      clear x0 x1 x2
      have HR2 := Lib.hid (HR1.out.on hb2)
      have HQ2 := Lib.hid (HQ1.out.on hb2)
      have Ha2 := Lib.hid (Ha1.out.onn hb2)
      have Hb2 := Lib.hid (Hb1.out.trans (hb2.mono hNW1))
      have hs12 := hb2.size
      clear hb2 HR1 HQ1 Ha1 Hb1
      cases hir : isRep r with
      | false =>
        have hfe := few_big (xs := xs) hir
        have e1 : fewA xs r = [] := by unfold fewA; rw [hfe]; rfl
        have e2 : fewN xs r = 0 := by unfold fewN; rw [hfe]; rfl
        have e3 : fewB xs r = false := by unfold fewB; rw [hfe]; rfl
        have E1 := Lib.hid e1
        have E2 := Lib.hid e2
        have E3 := Lib.hid e3
        clear e1 e2 e3 hfe hir
        go_wp2
        go_ret3
        rw [E1.out, E2.out, E3.out]
        exact ⟨_, rfl, Own.nil _ _ _ _, Hb2.out⟩
      | true =>
        have Hir := Lib.hid hir
        clear hir
        have x0 := HR2.out.cell 0 _ rfl
        have x1 := HR2.out.cell 1 _ rfl
        have x2 := HR2.out.cell 2 _ rfl
        have y0 := HQ2.out.cell 0 _ rfl
        have y1 := HQ2.out.cell 1 _ rfl
        have y2 := HQ2.out.cell 2 _ rfl
        go_wp2_with fail
        with_reducible refine (l19Less_c r bs _).mono ?_
        rintro e w3 ⟨rfl, hb3⟩
        clear x0 x1 x2 y0 y1 y2
        obtain ⟨wn, hwn⟩ : ∃ wn, wn = lessW r bs := ⟨_, rfl⟩
        rw [← hwn]
        obtain ⟨D, hD⟩ : ∃ D, D = w3.heap.size := ⟨_, rfl⟩
        obtain ⟨W3, hW3⟩ : ∃ W3, W3 = w3.alloc (.cells #[.int .i64 wn.count, .int .i64 wn.sum, .int .i64 wn.digits] 29) := ⟨_, rfl⟩
        have hbW : Below w2.heap.size w2 W3 := by rw [hW3]; exact hb3.alloc hb3.size _
        have hD3 : Box W3 D [.int .i64 wn.count, .int .i64 wn.sum, .int .i64 wn.digits] := by rw [hW3, hD]; exact Box.new w3 [.int .i64 wn.count, .int .i64 wn.sum, .int .i64 wn.digits] _
        have HD3 := Lib.hid hD3
        have Ha3 := Lib.hid (Ha2.out.onn hbW)
        have Hb3 := Lib.hid (Hb2.out.trans (hbW.mono (by omega)))
        have Hwn := Lib.hid hwn
        have HW3 := Lib.hid hW3
        have HDe := Lib.hid hD
        have hs23 := hbW.size
        clear hb3 hbW hD3 hwn hW3 hD HR2 HQ2 Ha2 Hb2
        go_wp2_with fail
        rw [← HDe.out, ← HW3.out]
        with_reducible refine (l19All_c Ha3.out Hx.out).mono ?_
        rintro e w4 ⟨z, rfl, hz, hb4⟩
        have hfl := allK_len xs xs.length
        have hfm : ∀ f ∈ allF xs, fOk xs f := fun f hf => mem_allF.1 hf
        obtain ⟨m, hm⟩ : ∃ m, m = (allF xs).length := ⟨_, rfl⟩
        have hm5 : m ≤ 504 := by rw [hm]; have := Hl.out; unfold allF; omega
        obtain ⟨za, zc, rfl⟩ := hz.shape
        rw [← hm] at hz ⊢
        have Hz := Lib.hid hz
        have HD4 := Lib.hid (HD3.out.on hb4)
        have Ha4 := Lib.hid (Ha3.out.onn hb4)
        have Hb4 := Lib.hid (Hb3.out.trans (hb4.mono (by omega)))
        have hw34 := hb4.size
        have Hfm := Lib.hid hfm
        have Hm := Lib.hid hm
        have hC0 : Own eReport 29 w4.heap.size (w4.alloc (.cells #[] 29)) (.slice (some ⟨w4.heap.size, 0, none⟩) 0 0) [] := Own.lit (E := eReport) (xs := []) (cs := #[]) (Nat.le_refl _) rfl rfl (by decide) (fun x hx => by cases hx)
        have hbC : Below w4.heap.size w4 (w4.alloc (.cells #[] 29)) := (Below.refl _ _).alloc (Nat.le_refl _) _
        have HC0 := Lib.hid hC0
        have HbC := Lib.hid hbC
        clear hz hb4 hfl hfm hm hC0 hbC HD3 Ha3 Hb3
        go_wp2
        go_loopw [11, 10] (fun iv cv wr => ∃ k : Nat, k ≤ m ∧ iv = .int .i64 k ∧ Own eReport 29 w4.heap.size wr cv (((allF xs).map (chgF xs)).take k) ∧ Below w4.heap.size w4 wr) (fun iv _ _ => m - (intOf iv).toNat)
        case atStart => exact ⟨0, Nat.zero_le _, rfl, HC0.out, HbC.out⟩
        case round =>
          obtain ⟨k, hk, rfl, hC, hbk⟩ := hrel
          clear HC0 HbC
          by_cases hkm : k < m
          · have hzk := Rds.below Hz.out.rds hbk (Nat.le_refl _)
            obtain ⟨zo, zcap, hsh, hzo⟩ := eFault_open hzk
            rw [← Hm.out] at hsh hzo
            injection hsh with h1 h2 h3
            subst h1
            clear h2 h3
            obtain ⟨zb, zoff, rfl, hzl, hzc⟩ := hzo (by omega)
            obtain ⟨f, hfk, ⟨c0, c1, c2, c3⟩, hfo⟩ := hzc k hkm
            have hfx := Hfm.out f (List.mem_of_getElem? hfk)
            have hsz := hbk.size
            have hkmi : (k : Int) < (m : Int) := by omega
            have hcon := l19Change_c (f := f) (Rds.onn Ha4.out hbk) Hx.out hfx
            have hcb := chgF_bound Hx.out hfx
            have hco : okReport (chgF xs f) := by unfold okReport; omega
            have hlk : (((allF xs).map (chgF xs)).take k).length = k := by rw [List.length_take, List.length_map, ← Hm.out]; omega
            have hsn : ((allF xs).map (chgF xs)).take (k + 1) = ((allF xs).map (chgF xs)).take k ++ [chgF xs f] := take_snoc (by rw [List.getElem?_map, hfk]; rfl)
            have HC := Lib.hid hC
            have Hbk := Lib.hid hbk
            have Hcon := Lib.hid hcon
            have Hco := Lib.hid hco
            have Hlk := Lib.hid hlk
            have Hsn := Lib.hid hsn
            clear hC hbk hzk hzo hzc hfk hfx hcon hcb hco hlk hsn hfo
            go_wp2_with fail
            with_reducible refine Hcon.out.mono ?_
            rintro e w5 ⟨rfl, hb5⟩
            generalize chgF xs f = q at Hco Hsn
            have HC5 := Lib.hid (HC.out.below hb5 (Nat.le_refl _))
            have Hb5 := Lib.hid (Hbk.out.trans (hb5.mono Hbk.out.size))
            have hs5 : w4.heap.size ≤ w5.heap.size := Hb5.out.size
            clear hb5 c0 c1 c2 c3 HC Hbk Hcon
            go_wp2_with (first | (at_builtin; refine wpList_appS (E := eReport) rfl _ _ 86 rfl Tryd.underlying86 hi hz0 hz1 hz2 rfl (by decide) rfl rfl (HC5.out.alloc _) (rds_one (E := eReport) (x := q) Hco.out rfl) ?b1 ?b2 ?b3 ?_))
            case b1 => rw [Hlk.out]; unfold maxLen; (try simp) <;> omega
            case b2 => rw [Hlk.out]; (try simp) <;> omega
            case b3 => (try simp) <;> omega
            intro v6 w6 hC6 hg6
            have hb6 := hg6.alloc.below Hb5.out hs5 (fun y hy => (HC5.out.lt y hy).1)
            have HC6 := Lib.hid hC6
            have Hb6 := Lib.hid hb6
            clear hC6 hg6 hb6
            go_wp2
            go_roundw
            case rel => exact ⟨k + 1, by omega, by go_num, by rw [Hsn.out]; exact HC6.out, Hb6.out⟩
            case measure => simp [intOf]; omega
          · obtain rfl : k = m := by omega
            rw [List.take_of_length_le (by rw [List.length_map]; have := Hm.out; omega)] at hC
            obtain ⟨ca, cc, hcv⟩ := hC.shape
            rw [List.length_map, ← Hm.out] at hcv
            subst hcv
            obtain ⟨w5, hw5⟩ : ∃ w5, w5 = wr := ⟨_, rfl⟩
            rw [← hw5] at hC hbk ⊢
            have HC := Lib.hid hC.rds
            have Hz5 := Lib.hid (Hz.out.below hbk (Nat.le_refl _)).rds
            have HD5 := Lib.hid (HD4.out.on hbk)
            have Hb5 := Lib.hid (Hb4.out.trans (hbk.mono (by have := Hb4.out.size; omega)))
            have hN5 : N ≤ w5.heap.size := by have := Hb5.out.size; have := HN.out; omega
            have hF0 : OwnFaultS w5.heap.size (w5.alloc (.cells #[] 40)) (.slice (some ⟨w5.heap.size, 0, none⟩) 0 0) [] := Own.lit (E := eFault) (xs := []) (cs := #[]) (Nat.le_refl _) rfl rfl (by decide) (fun x hx => by cases hx)
            have hbF : Below w5.heap.size w5 (w5.alloc (.cells #[] 40)) := (Below.refl _ _).alloc (Nat.le_refl _) _
            have HF0 := Lib.hid hF0
            have HbF := Lib.hid hbF
            have HCF := Lib.hid (rfl : (allF xs).map (chgF xs) = (allF xs).map (chgF xs))
            clear hC hbk hw5 hF0 hbF Hz HD4 Hb4 Ha4
            go_wp2
            go_loopw [14, 13, 12] (fun iv nv fv wr => ∃ i : Nat, i ≤ k ∧ iv = .int .i64 i ∧ nv = .int .i64 ((wantK xs r i).length : Nat) ∧ OwnFaultS w5.heap.size wr fv ((wantK xs r i).take 1) ∧ Below w5.heap.size w5 wr) (fun iv _ _ _ => k - (intOf iv).toNat)
            case atStart => exact ⟨0, Nat.zero_le _, rfl, rfl, HF0.out, HbF.out⟩
            case round =>
              obtain ⟨i, hi3, rfl, rfl, hF, hbi⟩ := hrel
              clear HF0 HbF
              by_cases hik : i < k
              · obtain ⟨zo, zcap, hsh, hzo⟩ := eFault_open (Rds.below Hz5.out hbi (Nat.le_refl _))
                rw [← Hm.out] at hsh hzo
                injection hsh with h1 h2 h3
                subst h1
                clear h2 h3
                obtain ⟨zb, zoff, rfl, hzl, hzc⟩ := hzo (by omega)
                obtain ⟨f, hfk, ⟨c0, c1, c2, c3⟩, hfo⟩ := hzc i hik
                obtain ⟨co, ccap, hsc, hco⟩ := eReport_open (Rds.below HC.out hbi (Nat.le_refl _))
                rw [List.length_map, ← Hm.out] at hsc hco
                injection hsc with h1 h2 h3
                subst h1
                clear h2 h3
                obtain ⟨cb, coff, rfl, hcl, hcc⟩ := hco (by omega)
                obtain ⟨q, hqk, ⟨q0, q1, q2⟩, hqo⟩ := hcc i hik
                have hqf : chgF xs f = q := by rw [List.getElem?_map, hfk] at hqk; exact Option.some.inj hqk
                have hsu := wantK_succ (r := r) hfk
                rw [hqf, ← Hbs.out, ← Hwn.out] at hsu
                have hwl := wantK_len xs r i
                have hDr := HD5.out.on hbi
                have d0 := hDr.cell 0 _ rfl
                have d1 := hDr.cell 1 _ rfl
                have d2 := hDr.cell 2 _ rfl
                have hsz := hbi.size
                have hiki : (i : Int) < (k : Int) := by omega
                obtain ⟨S, hS⟩ : ∃ S, S = wantK xs r i := ⟨_, rfl⟩
                rw [← hS] at hsu hwl hF ⊢
                obtain ⟨sn, hsn⟩ : ∃ sn, sn = S.length := ⟨_, rfl⟩
                rw [← hsn] at hwl ⊢
                obtain ⟨fo, fc, hfv⟩ := hF.shape
                obtain ⟨b, hb⟩ : ∃ b, b = (q == wn) := ⟨_, rfl⟩
                have hr1 := fun w => eql_run (x := q) (y := wn) (b := b) hb.symm w
                rw [← hb] at hsu
                have HF := Lib.hid hF
                have Hbi := Lib.hid hbi
                have Hfo : Hid (okFault f) := Lib.hid hfo
                have Hsn := Lib.hid hsn
                clear hzo hzc hco hcc hfk hqk hqf hqo hfo hDr hF hbi hsn hS hb
                subst hfv
                cases b with
                | false =>
                  have Hsu : Hid (wantK xs r (i + 1) = S) := Lib.hid (by rw [hsu]; simp)
                  clear hsu
                  go_wp2
                  go_quiet (fail)
                  have hbq : Below wr.heap.size wr (wr.drewN nq) := (Below.refl _ _).drewNy _
                  have HF6 := Lib.hid (HF.out.below hbq (Nat.le_refl _))
                  have Hb6 := Lib.hid (Hbi.out.trans (hbq.mono hsz))
                  clear hbq q0 q1 q2 d0 d1 d2 c0 c1 c2 c3 hr1 HF Hbi
                  go_wp2
                  go_roundw
                  case rel => exact ⟨i + 1, by omega, by go_num, by rw [Hsu.out, ← Hsn.out], by rw [Hsu.out]; exact HF6.out, Hb6.out⟩
                  case measure => simp [intOf]; omega
                | true =>
                  have Hsu : Hid (wantK xs r (i + 1) = S ++ [f]) := Lib.hid (by rw [hsu]; simp)
                  clear hsu
                  go_wp2
                  go_quiet (fail)
                  have hbq : Below wr.heap.size wr (wr.drewN nq) := (Below.refl _ _).drewNy _
                  have HF6 := Lib.hid (HF.out.below hbq (Nat.le_refl _))
                  have Hb6 := Lib.hid (Hbi.out.trans (hbq.mono hsz))
                  replace c0 := (hbq.cell (p := ⟨zb, zoff + i * 4, none⟩) hzl.2).trans c0
                  replace c1 := (hbq.cell (p := ⟨zb, zoff + i * 4 + 1, none⟩) hzl.2).trans c1
                  replace c2 := (hbq.cell (p := ⟨zb, zoff + i * 4 + 2, none⟩) hzl.2).trans c2
                  replace c3 := (hbq.cell (p := ⟨zb, zoff + i * 4 + 3, none⟩) hzl.2).trans c3
                  clear hbq q0 q1 q2 d0 d1 d2 hr1 HF Hbi
                  generalize wr.drewN nq = wq at HF6 Hb6 c0 c1 c2 c3 ⊢
                  have hsq := Hb6.out.size
                  have hlit := Own.lit (E := eFault) (e := 40) (base := w5.heap.size) (w := wq) (xs := [f]) (cs := #[.int .i64 f.kind, .int .i64 f.card, .int .i64 f.place, .int .i64 f.digit]) (n := 1) hsq rfl rfl (by decide) (fun y hy => by rw [List.mem_singleton] at hy; rw [hy]; exact Hfo.out)
                  have hbl := Hb6.out.alloc hsq (.cells #[.int .i64 f.kind, .int .i64 f.card, .int .i64 f.place, .int .i64 f.digit] 40)
                  have Hlit := Lib.hid hlit
                  have Hbl := Lib.hid hbl
                  clear hlit hbl
                  by_cases h0 : sn = 0
                  · have hSn : S = [] := List.eq_nil_of_length_eq_zero (by have := Hsn.out; omega)
                    have HSn := Lib.hid hSn
                    subst h0
                    clear hSn
                    go_wp2
                    clear c0 c1 c2 c3
                    go_roundw
                    case rel => exact ⟨i + 1, by omega, by go_num, by rw [Hsu.out, HSn.out]; rfl, by rw [Hsu.out, HSn.out]; exact Hlit.out, Hbl.out⟩
                    case measure => simp [intOf]; omega
                  · have hS1 : (S ++ [f]).take 1 = S.take 1 := by
                      rw [List.take_append_of_le_length (by have := Hsn.out; omega)]
                    have HS1 := Lib.hid hS1
                    have h0' : ((sn : Int) == 0) = false := by simpa using h0
                    clear hS1 c0 c1 c2 c3
                    go_wp2
                    go_roundw
                    case rel => exact ⟨i + 1, by omega, by go_num, by rw [Hsu.out, List.length_append, ← Hsn.out]; go_num, by rw [Hsu.out, HS1.out]; exact HF6.out, Hb6.out⟩
                    case measure => simp [intOf]; omega
              · obtain rfl : i = k := by omega
                have hwf := wantK_full Hx.out Hr.out Hm.out
                rw [hwf] at hF ⊢
                obtain ⟨S, hS⟩ : ∃ S, S = sglF xs r := ⟨_, rfl⟩
                rw [← hS] at hF ⊢
                obtain ⟨w6, hw6⟩ : ∃ w6, w6 = wr := ⟨_, rfl⟩
                rw [← hw6] at hF hbi ⊢
                obtain ⟨sn, hsn⟩ : ∃ sn, sn = S.length := ⟨_, rfl⟩
                rw [← hsn]
                have hsl : sn ≤ 504 := by rw [hsn, hS]; exact sglF_len Hx.out r
                have HF := Lib.hid hF
                have Hbi := Lib.hid hbi
                have hs6 : w5.heap.size ≤ w6.heap.size := hbi.size
                obtain ⟨fo, fc, hfv⟩ := hF.shape
                have Hsn := Lib.hid hsn
                have HS := Lib.hid hS
                have hN6 : N ≤ w6.heap.size := by omega
                clear hF hbi hw6 hwf hsn hS
                subst hfv
                by_cases h0 : sn = 0
                · have hS0 : S = [] := List.eq_nil_of_length_eq_zero (by have := Hsn.out; omega)
                  have hsg : sglF xs r = [] := by rw [← HS.out]; exact hS0
                  have HS0 := Lib.hid hS0
                  have Hsg := Lib.hid hsg
                  have hHF : OwnFaultS w5.heap.size w6 (.slice fo (S.take 1).length fc) [] := by have h := HF.out; rw [HS0.out] at h ⊢; exact h
                  have HHF := Lib.hid hHF
                  have hl0 : (S.take 1).length = 0 := by rw [HS0.out]; rfl
                  have Hl0 := Lib.hid hl0
                  rw [Hl0.out] at HHF ⊢
                  subst h0
                  clear hS0 hsg hHF hl0 HF
                  go_wp2
                  go_loopw [15, 13, 12] (fun iv nv fv wr => ∃ j : Nat, j ≤ i ∧ iv = .int .i64 j ∧ nv = .int .i64 ((pairsK xs r j).length : Nat) ∧ OwnFaultS w5.heap.size wr fv ((pairsK xs r j).headD []) ∧ Below w6.heap.size w6 wr) (fun iv _ _ _ => i - (intOf iv).toNat)
                  case atStart => exact ⟨0, Nat.zero_le _, rfl, rfl, HHF.out, Below.refl _ _⟩
                  case round =>
                    obtain ⟨j, hj, rfl, rfl, hF, hbj⟩ := hrel
                    clear HHF
                    have htwo := pairs_two (xs := xs) (r := r) (k := j)
                    have hpl := pairsK_len xs r j
                    have hbig : (allF xs).length * j ≤ 504 * 504 := Nat.mul_le_mul (by rw [← Hm.out]; exact hm5) (by omega)
                    obtain ⟨PJ, hPJ⟩ : ∃ PJ, PJ = pairsK xs r j := ⟨_, rfl⟩
                    rw [← hPJ] at htwo hpl hF ⊢
                    obtain ⟨ln, hln⟩ : ∃ ln, ln = PJ.length := ⟨_, rfl⟩
                    rw [← hln] at hpl ⊢
                    obtain ⟨ho, hc2, hfv⟩ := hF.shape
                    obtain ⟨hd, hhd⟩ : ∃ hd, hd = (PJ.headD []).length := ⟨_, rfl⟩
                    rw [← hhd] at hfv
                    have hor : ln = 0 ∨ (0 < ln ∧ hd = 2) := by
                      cases PJ with
                      | nil => left; simpa using hln
                      | cons p ps => right; exact ⟨by rw [hln]; simp, by rw [hhd]; exact htwo p (by simp)⟩
                    have HF := Lib.hid hF
                    have Hbj := Lib.hid hbj
                    have Hln := Lib.hid hln
                    have HPJ := Lib.hid hPJ
                    have Hhd := Lib.hid hhd
                    have hszj := hbj.size
                    clear hF hbj htwo hln hPJ hhd
                    subst hfv
                    by_cases hji : j < i
                    · have hsplit : (((ln : Int) == 0) = true) ∨ (((ln : Int) == 0) = false ∧ ((hd : Int) == 2) = true) := by
                        rcases hor with h | ⟨h1, h2⟩
                        · left; simp; omega
                        · right; simp; omega
                      clear hor
                      rcases hsplit with hz | ⟨hz, hd2⟩
                      all_goals
                        have hb5j := Hbi.out.trans (Hbj.out.mono hs6)
                        obtain ⟨zo, zcap, hsh, hzo⟩ := eFault_open (Rds.below Hz5.out hb5j (Nat.le_refl _))
                        rw [← Hm.out] at hsh hzo
                        injection hsh with h1 h2 h3
                        subst h1
                        clear h2 h3
                        obtain ⟨zb, zoff, rfl, hzl, hzc⟩ := hzo (by omega)
                        obtain ⟨f, hfk, ⟨c0, c1, c2, c3⟩, hfo⟩ := hzc j hji
                        obtain ⟨co, ccap, hsc, hco⟩ := eReport_open (Rds.below HC.out hb5j (Nat.le_refl _))
                        rw [List.length_map, ← Hm.out] at hsc hco
                        injection hsc with h1 h2 h3
                        subst h1
                        clear h2 h3
                        obtain ⟨cb, coff, rfl, hcl, hcc⟩ := hco (by omega)
                        obtain ⟨q, hqk, ⟨q0, q1, q2⟩, hqo⟩ := hcc j hji
                        have hqf : q = chgF xs f := by rw [List.getElem?_map, hfk] at hqk; exact (Option.some.inj hqk).symm
                        have hms : missF xs r f = lessW wn q := by rw [hqf, Hwn.out, Hbs.out]; rfl
                        have hDr := HD5.out.on hb5j
                        have hDl := hDr.lt
                        have d0 := hDr.cell 0 _ rfl
                        have d1 := hDr.cell 1 _ rfl
                        have d2 := hDr.cell 2 _ rfl
                        have hcbl : cb < wr.heap.size := hcl.2
                        have hzbl : zb < wr.heap.size := hzl.2
                        have hjii : (j : Int) < (i : Int) := by omega
                        have hfi : fGo (allF xs) j = f := by unfold fGo; rw [List.getD_eq_getElem?_getD, hfk]; rfl
                        have hzb5 : zb < w5.heap.size := by
                          obtain ⟨zo', zcap', hsh', hzo'⟩ := eFault_open Hz5.out
                          rw [← Hm.out] at hzo' hsh'
                          obtain ⟨zb', zoff', hq', hzl', _⟩ := hzo' (by omega)
                          injection hsh' with h1 h2 h3
                          rw [hq'] at h1
                          injection h1 with h1
                          injection h1 with h1 h2
                          rw [h1]
                          exact hzl'.2
                        have hcb5 : cb < w5.heap.size := by
                          obtain ⟨zo', zcap', hsh', hzo'⟩ := eReport_open HC.out
                          rw [List.length_map, ← Hm.out] at hzo' hsh'
                          obtain ⟨zb', zoff', hq', hzl', _⟩ := hzo' (by omega)
                          injection hsh' with h1 h2 h3
                          rw [hq'] at h1
                          injection h1 with h1
                          injection h1 with h1 h2
                          rw [h1]
                          exact hzl'.2
                        have Hfk := Lib.hid hfk
                        have Hfi := Lib.hid hfi
                        have Hms := Lib.hid hms
                        have Hfo : Hid (okFault f) := Lib.hid hfo
                        clear hzo hzc hco hcc hfk hqk hqo hqf hfo hfi hms hb5j
                        generalize hMS : missF xs r f = ms at Hms
                        have HMS := Lib.hid hMS
                        clear hMS
                        go_upto_region 25 with fail
                        go_cut [16] (fun pv wx => ∃ X, pv = .pointer (some ⟨X, 0, none⟩) ∧ Box wx X [.int .i64 ms.count, .int .i64 ms.sum, .int .i64 ms.digits] ∧ wr.heap.size ≤ X ∧ Below wr.heap.size wr wx)
                        case first =>
                          have HZ0 : Hid (Box (wr.drew.alloc (.cells #[.int .i64 0, .int .i64 0, .int .i64 0] 29)) wr.heap.size [.int .i64 0, .int .i64 0, .int .i64 0]) := Lib.hid (Box.new wr.drew [.int .i64 0, .int .i64 0, .int .i64 0] 29)
                          have nT : wr.heap.size ≠ cb := by omega
                          have nD : wr.heap.size ≠ D := by omega
                          have hTd : Below wr.heap.size wr wr.drew := (Below.refl _ _).drew1
                          go_region_law (first
                            | (go_simp; go_at_call 71; (with_reducible refine (sless_a1 wn q _).mono ?_); rintro e w8 ⟨rfl, hb8⟩; have hT8 : Below wr.heap.size wr w8 := (by first | exact hTd.trans hb8 | exact (hTd.alloc (Nat.le_refl _) _).trans (hb8.mono (by simp))); (try (have HZ8 := HZ0.out.on hb8; have z0 := HZ8.cell 0 _ rfl; have z1 := HZ8.cell 1 _ rfl; have z2 := HZ8.cell 2 _ rfl; have y0 := HZ8.free 0; have y1 := HZ8.free 1; have y2 := HZ8.free 2))))
                          all_goals
                            go_wp2_with fail
                            go_meet
                            rw [Hms.out]
                            first
                              | exact ⟨_, rfl, Box.new w8 [.int .i64 (lessW wn q).count, .int .i64 (lessW wn q).sum, .int .i64 (lessW wn q).digits] _, hT8.size, hT8.alloc hT8.size _⟩
                              | exact ⟨_, rfl, ((HZ8.set1 (j := 0) (by simp) _).set1 (j := 1) (by simp) _).set1 (j := 2) (by simp) _, Nat.le_refl _, ((hT8.setCell (p := ⟨wr.heap.size, 0, none⟩) (Nat.le_refl _) _).setCell (p := ⟨wr.heap.size, 1, none⟩) (Nat.le_refl _) _).setCell (p := ⟨wr.heap.size, 2, none⟩) (Nat.le_refl _) _⟩
                        case rest =>
                          obtain ⟨X, rfl, hX, hXl, hTx⟩ := hcut
                          have hbc := Hbj.out.trans (hTx.mono hszj)
                          have hszc := hTx.size
                          have HFc := Lib.hid (HF.out.below hTx (Nat.le_refl _))
                          have Hbc := Lib.hid hbc
                          have HX := Lib.hid hX
                          have hps := pairsK_succ xs r j
                          rw [← HPJ.out] at hps
                          have Hps := Lib.hid hps
                          clear hbc hX hTx hps HF Hbj c0 c1 c2 c3 q0 q1 q2 d0 d1 d2 hDr Hms hz
                          go_wp2_with fail
                          have hz16 : (j : Int) + 1 = ((j + 1 : Nat) : Int) := rfl
                          go_loopw [17, 13, 12] (fun kv nv fv wz => ∃ kk : Nat, j + 1 ≤ kk ∧ kk ≤ i ∧ kv = .int .i64 kk ∧ nv = .int .i64 ((PJ ++ pairK xs r j kk).length : Nat) ∧ OwnFaultS w5.heap.size wz fv ((PJ ++ pairK xs r j kk).headD []) ∧ Box wz X [.int .i64 ms.count, .int .i64 ms.sum, .int .i64 ms.digits] ∧ Below w6.heap.size w6 wz) (fun kv _ _ _ => i - (intOf kv).toNat)
                          case atStart => exact ⟨j + 1, Nat.le_refl _, by omega, by first | rfl | go_num, by rw [pairK_start, List.append_nil, ← Hln.out], by rw [pairK_start, List.append_nil]; exact HFc.out, HX.out, Hbc.out⟩
                          case round =>
                            obtain ⟨kk, hkk1, hkk, rfl, rfl, hFz, hXz, hbz⟩ := hrel
                            clear HFc Hbc hz16 HX
                            by_cases hkkk : kk < i
                            · have hszz := hbz.size
                              have hb5z := Hbi.out.trans (hbz.mono hs6)
                              obtain ⟨zo, zcap, hsh, hzo⟩ := eFault_open (Rds.below Hz5.out hb5z (Nat.le_refl _))
                              rw [← Hm.out] at hsh hzo
                              injection hsh with h1 h2 h3
                              subst h1
                              clear h2 h3
                              obtain ⟨zb', zoff', hzz, hzl', hzc⟩ := hzo (by omega)
                              cases hzz
                              obtain ⟨g, hgk, ⟨c0, c1, c2, c3⟩, hgo⟩ := hzc kk hkkk
                              obtain ⟨f', hfk', ⟨e0, e1, e2, e3⟩, hfo'⟩ := hzc j hji
                              obtain rfl : f = f' := Option.some.inj (Hfk.out.symm.trans hfk')
                              obtain ⟨co, ccap, hsc, hco⟩ := eReport_open (Rds.below HC.out hb5z (Nat.le_refl _))
                              rw [List.length_map, ← Hm.out] at hsc hco
                              injection hsc with h1 h2 h3
                              subst h1
                              clear h2 h3
                              obtain ⟨cb', coff', hcc', hcl', hcc⟩ := hco (by omega)
                              cases hcc'
                              obtain ⟨q', hqk, ⟨q0, q1, q2⟩, hqo⟩ := hcc kk hkkk
                              have hqf : chgF xs g = q' := by rw [List.getElem?_map, hgk] at hqk; exact Option.some.inj hqk
                              have hfg : fGo (allF xs) kk = g := by unfold fGo; rw [List.getD_eq_getElem?_getD, hgk]; rfl
                              have hsu := pairK_succ xs r j kk (by omega)
                              have hpt : pairT xs r f g = (decide (f.card < g.card) && (q' == ms)) := by unfold pairT; rw [hqf, HMS.out]
                              rw [Hfi.out, hfg, hpt] at hsu
                              have hbef := pairs_before Hfk.out hgk (by omega)
                              have hkki : (kk : Int) < (i : Int) := by omega
                              have hpl2 := pairK_len xs r j kk
                              have x0 := hXz.cell 0 _ rfl
                              have x1 := hXz.cell 1 _ rfl
                              have x2 := hXz.cell 2 _ rfl
                              obtain ⟨PK, hPK⟩ : ∃ PK, PK = PJ ++ pairK xs r j kk := ⟨_, rfl⟩
                              have hPKs : PJ ++ pairK xs r j (kk + 1) = PK ++ (if (decide (f.card < g.card) && (q' == ms)) = true then [[f, g]] else []) := by rw [hsu, hPK, List.append_assoc]
                              rw [← hPK] at hFz ⊢
                              have hlk : PK.length ≤ 300000 := by rw [hPK, List.length_append, ← Hln.out]; omega
                              obtain ⟨lk, hlke⟩ : ∃ lk, lk = PK.length := ⟨_, rfl⟩
                              rw [← hlke] at hlk ⊢
                              have HFz := Lib.hid hFz
                              have HXz := Lib.hid hXz
                              have Hbz := Lib.hid hbz
                              have Hgo : Hid (okFault g) := Lib.hid hgo
                              have Hlk := Lib.hid hlke
                              obtain ⟨fvo, fvc, hfvv⟩ := hFz.shape
                              clear hzo hzc hgk hfk' hfo' hco hcc hqk hqo hqf hfg hsu hpt hFz hXz hbz hgo hPK hlke hpl2 hb5z
                              cases hlt : decide (f.card < g.card) with
                              | false =>
                                have hce : g.card = f.card := by have := of_decide_eq_false hlt; omega
                                rw [hlt, Bool.false_and] at hPKs
                                have Hsu : Hid (PJ ++ pairK xs r j (kk + 1) = PK) := Lib.hid (by rw [hPKs]; simp)
                                rw [hce] at c1
                                have hcq : (f.card == f.card) = true := by simp
                                clear hPKs hlt hbef hce
                                go_wp2
                                go_quiet (fail)
                                have hbq : Below wr.heap.size wr (wr.drewN nq) := (Below.refl _ _).drewNy _
                                have HF6 := Lib.hid (HFz.out.below hbq (Nat.le_refl _))
                                have Hb6 := Lib.hid (Hbz.out.trans (hbq.mono hszz))
                                have HX6 := Lib.hid (HXz.out.on hbq)
                                clear hbq c0 c1 c2 c3 e0 e1 e2 e3 q0 q1 q2 x0 x1 x2 HFz HXz Hbz
                                go_wp2
                                go_roundw
                                case rel => exact ⟨kk + 1, by omega, by omega, by go_num, by rw [Hsu.out, ← Hlk.out], by rw [Hsu.out]; exact HF6.out, HX6.out, Hb6.out⟩
                                case measure => simp [intOf]; omega
                              | true =>
                                have hlt' : f.card < g.card := of_decide_eq_true hlt
                                have hne1 : (g.card == f.card) = false := by simp; omega
                                have hne2 : ¬ g.card = f.card := by omega
                                rw [hlt, Bool.true_and] at hPKs
                                clear hlt hbef hlt'
                                cases hqm : (q' == ms) with
                                | false =>
                                  rw [hqm] at hPKs
                                  have Hsu : Hid (PJ ++ pairK xs r j (kk + 1) = PK) := Lib.hid (by rw [hPKs]; simp)
                                  have hr1 := fun w => neq_run (x := q') (y := ms) (b := false) hqm w
                                  clear hPKs hqm
                                  go_wp2
                                  go_quiet (fail)
                                  have hbq : Below wr.heap.size wr (wr.drewN nq) := (Below.refl _ _).drewNy _
                                  have HF6 := Lib.hid (HFz.out.below hbq (Nat.le_refl _))
                                  have Hb6 := Lib.hid (Hbz.out.trans (hbq.mono hszz))
                                  have HX6 := Lib.hid (HXz.out.on hbq)
                                  clear hbq c0 c1 c2 c3 e0 e1 e2 e3 q0 q1 q2 x0 x1 x2 HFz HXz Hbz hr1 hne1 hne2
                                  go_wp2
                                  go_roundw
                                  case rel => exact ⟨kk + 1, by omega, by omega, by go_num, by rw [Hsu.out, ← Hlk.out], by rw [Hsu.out]; exact HF6.out, HX6.out, Hb6.out⟩
                                  case measure => simp [intOf]; omega
                                | true =>
                                  rw [hqm] at hPKs
                                  have Hsu : Hid (PJ ++ pairK xs r j (kk + 1) = PK ++ [[f, g]]) := Lib.hid (by rw [hPKs]; simp)
                                  have hr1 := fun w => neq_run (x := q') (y := ms) (b := true) hqm w
                                  clear hPKs hqm
                                  go_wp2
                                  go_quiet (fail)
                                  have hbq : Below wr.heap.size wr (wr.drewN nq) := (Below.refl _ _).drewNy _
                                  have HF6 := Lib.hid (HFz.out.below hbq (Nat.le_refl _))
                                  have Hb6 := Lib.hid (Hbz.out.trans (hbq.mono hszz))
                                  have HX6 := Lib.hid (HXz.out.on hbq)
                                  replace c0 := (hbq.cell (p := ⟨zb, zoff + kk * 4, none⟩) hzl'.2).trans c0
                                  replace c1 := (hbq.cell (p := ⟨zb, zoff + kk * 4 + 1, none⟩) hzl'.2).trans c1
                                  replace c2 := (hbq.cell (p := ⟨zb, zoff + kk * 4 + 2, none⟩) hzl'.2).trans c2
                                  replace c3 := (hbq.cell (p := ⟨zb, zoff + kk * 4 + 3, none⟩) hzl'.2).trans c3
                                  replace e0 := (hbq.cell (p := ⟨zb, zoff + j * 4, none⟩) hzl'.2).trans e0
                                  replace e1 := (hbq.cell (p := ⟨zb, zoff + j * 4 + 1, none⟩) hzl'.2).trans e1
                                  replace e2 := (hbq.cell (p := ⟨zb, zoff + j * 4 + 2, none⟩) hzl'.2).trans e2
                                  replace e3 := (hbq.cell (p := ⟨zb, zoff + j * 4 + 3, none⟩) hzl'.2).trans e3
                                  clear hbq q0 q1 q2 x0 x1 x2 HFz HXz Hbz hr1 hne1 hne2
                                  generalize wr.drewN nq = wq at HF6 Hb6 HX6 c0 c1 c2 c3 e0 e1 e2 e3 ⊢
                                  have hsq := Hb6.out.size
                                  have hlit := Own.lit (E := eFault) (e := 40) (base := w5.heap.size) (w := wq.drew) (xs := [f, g]) (cs := #[.int .i64 f.kind, .int .i64 f.card, .int .i64 f.place, .int .i64 f.digit, .int .i64 g.kind, .int .i64 g.card, .int .i64 g.place, .int .i64 g.digit]) (n := 2) (by show w5.heap.size ≤ wq.heap.size; omega) rfl rfl (by decide) (fun y hy => by
                                    rcases List.mem_cons.1 hy with h | h
                                    · rw [h]; exact Hfo.out
                                    · rw [List.mem_singleton] at h; rw [h]; exact Hgo.out)
                                  have hbl : Below wq.heap.size wq (wq.drew.alloc (.cells #[.int .i64 f.kind, .int .i64 f.card, .int .i64 f.place, .int .i64 f.digit, .int .i64 g.kind, .int .i64 g.card, .int .i64 g.place, .int .i64 g.digit] 40)) := (Below.refl wq.heap.size wq).drew1.alloc (Nat.le_refl _) _
                                  have Hlit := Lib.hid hlit
                                  have HXl := Lib.hid (HX6.out.on hbl)
                                  have Hbl := Lib.hid (Hb6.out.trans (hbl.mono hsq))
                                  clear hlit hbl
                                  by_cases h0 : lk = 0
                                  · have hSn : PK = [] := List.eq_nil_of_length_eq_zero (by have := Hlk.out; omega)
                                    have HSn := Lib.hid hSn
                                    subst h0
                                    clear hSn
                                    go_wp2
                                    go_region
                                    all_goals
                                      clear c0 c1 c2 c3 e0 e1 e2 e3
                                      go_wp2
                                      go_roundw
                                      case rel => exact ⟨kk + 1, by omega, by omega, by go_num, by rw [Hsu.out, HSn.out]; rfl, by rw [Hsu.out, HSn.out]; exact Hlit.out, HXl.out, Hbl.out⟩
                                      case measure => simp [intOf]; omega
                                  · have hPne : PK ≠ [] := by intro h; rw [h] at Hlk; exact h0 Hlk.out
                                    have HS1 := Lib.hid (headD_app PK [[f, g]] [] hPne)
                                    have h0' : ((lk : Int) == 0) = false := by simpa using h0
                                    clear hPne c0 c1 c2 c3 e0 e1 e2 e3
                                    go_wp2
                                    go_roundw
                                    case rel => exact ⟨kk + 1, by omega, by omega, by go_num, by rw [Hsu.out, List.length_append, ← Hlk.out]; go_num, by rw [Hsu.out, HS1.out]; exact HF6.out, HX6.out, Hb6.out⟩
                                    case measure => simp [intOf]; omega
                            · obtain rfl : kk = i := by omega
                              have hpe : PJ ++ pairK xs r j kk = pairsK xs r (j + 1) := by rw [Hps.out, ← Hm.out]
                              rw [hpe] at hFz ⊢
                              have HFz := Lib.hid hFz
                              have Hbz := Lib.hid hbz
                              clear hFz hXz hbz hpe
                              go_wp2
                              go_roundw
                              case rel => exact ⟨j + 1, by omega, by go_num, rfl, HFz.out, Hbz.out⟩
                              case measure => simp [intOf]; omega
                    · obtain rfl : j = i := by omega
                      have hfin := few_pair Hir.out Hne.out Hsg.out
                      have hpf : pairsF xs r = PJ := by unfold pairsF; rw [HPJ.out, ← Hm.out]
                      rw [hpf] at hfin
                      have e1 : fewA xs r = PJ.headD [] := by unfold fewA; rw [hfin]
                      have e2 : fewN xs r = ln := by unfold fewN; rw [hfin, Hln.out]
                      have e3 : fewB xs r = decide (0 < ln) := by
                        unfold fewB
                        rw [hfin, Hln.out]
                        cases PJ <;> simp
                      have E1 := Lib.hid e1
                      have E2 := Lib.hid e2
                      have E3 := Lib.hid e3
                      clear e1 e2 e3 hpf hfin
                      have Hfb := Lib.hid (Hb5.out.trans ((Hbi.out.trans (Hbj.out.mono hs6)).mono (by have := HN.out; omega)))
                      have HF2 := Lib.hid (HF.out.mono hN5)
                      clear HF Hbj hor
                      go_wp2
                      go_ret3
                      rw [E1.out, E2.out, E3.out]
                      exact ⟨_, rfl, HF2.out, Hfb.out⟩
                · have hSne : S ≠ [] := by intro h; rw [h] at Hsn; exact h0 Hsn.out
                  have hsg : sglF xs r ≠ [] := by rw [← HS.out]; exact hSne
                  have hfin := few_sgl Hir.out Hne.out hsg
                  rw [← HS.out] at hfin
                  have hl1 : (S.take 1).length = 1 := by
                    rw [List.length_take]; have := Hsn.out; omega
                  have e1 : fewA xs r = S.take 1 := by
                    unfold fewA
                    rw [hfin]
                    cases S with
                    | nil => exact absurd rfl hSne
                    | cons a b => rfl
                  have e2 : fewN xs r = sn := by unfold fewN; rw [hfin, Hsn.out, List.length_map]
                  have e3 : fewB xs r = decide (0 < sn) := by
                    rw [show decide (0 < sn) = true by simp; omega]
                    unfold fewB
                    rw [hfin]
                    cases S with
                    | nil => exact absurd rfl hSne
                    | cons a b => rfl
                  have E1 := Lib.hid e1
                  have E2 := Lib.hid e2
                  have E3 := Lib.hid e3
                  have Hfb := Lib.hid (Hb5.out.trans (Hbi.out.mono hN5))
                  have HF2 := Lib.hid (HF.out.mono hN5)
                  have Hl1 := Lib.hid hl1
                  have h0' : ((sn : Int) == 0) = false := by simpa using h0
                  have h0i : (0 : Int) < (sn : Int) := by omega
                  rw [Hl1.out]
                  clear e1 e2 e3 hfin hsg hSne HF hl1
                  go_wp2
                  go_loopw [15, 13, 12] (fun iv nv fv wr => iv = .int .i64 0 ∧ nv = .int .i64 (sn : Int) ∧ fv = .slice fo 1 fc ∧ wr = w6) (fun iv _ _ _ => 0)
                  case atStart => exact ⟨rfl, rfl, rfl, rfl⟩
                  case round =>
                    obtain ⟨rfl, rfl, rfl, rfl⟩ := hrel
                    by_cases hi0 : i = 0
                    · subst hi0
                      go_wp2
                      go_ret3
                      rw [E1.out, E2.out, E3.out]
                      exact ⟨_, rfl, by have h := HF2.out; rw [Hl1.out] at h; exact h, Hfb.out⟩
                    · have hii : (0 : Int) < (i : Int) := by omega
                      go_wp2
                      go_ret3
                      rw [E1.out, E2.out, E3.out]
                      exact ⟨_, rfl, by have h := HF2.out; rw [Hl1.out] at h; exact h, Hfb.out⟩
end Go.Proofs.YtahkkdkdaedioaaDoor
