/- Explanations of a report with two faults: the program's. The condition: the library's table of powers of ten lies as its text lays it. -/
import Derived.Test.YtahkkdkdaedioaaDoorChg
import Derived.Test.YtahkkdkdaedioaaDoorWth
import Derived.Test.YtahkkdkdaedioaaDoorRegL
namespace Go.Proofs.YtahkkdkdaedioaaDoor
open Go.ChangeShapes Go.WideShapes Go.ChangeAt Go.RowKit Go.Sort
set_option linter.unusedVariables false
set_option maxRecDepth 100000
theorem rdsDrew {α : Type} {E : Elt α} {B : Nat} {w : World} {v : Value} {xs : List α} (h : Rds E B w v xs) : Rds E B w.drew v xs := h
theorem growDrew {w w' : World} {o : Obj} {v v' : Value} (h : Grew (w.alloc o).drew w' v v') : Grew w w' v v' := Grew.alloc (o := o) ⟨⟨h.1.os, h.1.tape, h.1.output, h.1.size, h.1.block⟩, h.2⟩
theorem BldG.own {α : Type} {E : Elt α} {er e : TypeId} {base rb tp : Nat} {w : World} {v : Value} {xss : List (List α)} (h : BldG E er e base rb tp w v xss) : ∀ k, v.ownBlock = some k → k < tp := by
  obtain ⟨hs, h1, _⟩ := h
  exact h1.2
theorem less_a2 (r x : ReportT) (w : World) :
    Calls Tryd.prog 64 #[vReport r, vReport x] w fun e w' => e = .returned (.agg #[.int .i64 (lessW r x).count, .int .i64 (lessW r x).sum, .int .i64 (lessW r x).digits]) ∧ Below w.heap.size w w' := less_c r x w
set_option maxHeartbeats 2000000 in
theorem explan2_c {xs : List Int} {r : ReportT} {v : Value} {w : World} {A : Nat} (ha : RdI A w v xs) (hx : amtOk xs = true) (hr : okReport r) (ht : PowAt w) :
    Calls Tryd.prog 37 #[v, vReport r, .int .i64 2] w fun e w' => ∃ u, e = .returned u ∧ BldG eFault 40 25 w.heap.size w.heap.size w'.heap.size w' u (explF xs r 2) ∧ Below w.heap.size w w' := by
  obtain ⟨i0, hi, hz0, hz1, hz2⟩ := info_parts infoReportN
  obtain ⟨i1, hi1, hy0, hy1, hy2⟩ := info_parts infoSlF
  obtain ⟨hl, hxx⟩ := amtOk_parts hx
  obtain ⟨N, hN⟩ : ∃ N, N = w.heap.size := ⟨_, rfl⟩
  obtain ⟨W0, hW0⟩ : ∃ W0, W0 = (w.alloc (.cells #[.int .i64 r.count, .int .i64 r.sum, .int .i64 r.digits] 29)).alloc (.cells #[] 25) := ⟨_, rfl⟩
  have hs1 : (w.alloc (.cells #[.int .i64 r.count, .int .i64 r.sum, .int .i64 r.digits] 29)).heap.size = N + 1 := by rw [hN]; simp
  have hs0 : W0.heap.size = N + 1 + 1 := by rw [hW0, hN]; simp
  have hR0 : Box W0 N [.int .i64 r.count, .int .i64 r.sum, .int .i64 r.digits] := by rw [hW0, hN]; exact (Box.new w [.int .i64 r.count, .int .i64 r.sum, .int .i64 r.digits] _).alloc _
  have hO0 : Own eS 25 N W0 (.slice (some ⟨N + 1, 0, none⟩) 0 0) [] := by
    have h := Own.lit (E := eS) (e := 25) (base := N) (w := w.alloc (.cells #[.int .i64 r.count, .int .i64 r.sum, .int .i64 r.digits] 29)) (xs := []) (cs := #[]) (n := 0) (by omega) rfl rfl (by decide) (fun x hx => by cases hx)
    rw [hs1] at h
    rw [hW0]
    exact h
  have hb0 : Below N w W0 := by rw [hW0, hN]; exact ((Below.refl _ _).alloc (Nat.le_refl _) _).alloc (by simp) _
  have hB0 : BldG eFault 40 25 N N W0.heap.size W0 (.slice (some ⟨N + 1, 0, none⟩) 0 0) ([] : List (List FaultT)) := BldG.empty rfl hO0 (by omega)
  have ha0 := Rds.onn ha (show Below w.heap.size w W0 by rw [← hN]; exact hb0)
  have ht0 := ht.below (show Below w.heap.size w W0 by rw [← hN]; exact hb0)
  have HW0 := Lib.hid hW0
  have HN := Lib.hid hN
  have HR0 := Lib.hid hR0
  have Hb0 := Lib.hid hb0
  have HB0 := Lib.hid hB0
  have Ha0 := Lib.hid ha0
  have Ht0 := Lib.hid ht0
  have Hx := Lib.hid hx
  have Hxx := Lib.hid hxx
  have Hl := Lib.hid hl
  have Hr := Lib.hid hr
  have Hs0 := Lib.hid hs0
  obtain ⟨ao, cap, rfl⟩ := ha.shape
  clear ha hx hr ht hl hxx hW0 hs1 hs0 hR0 hO0 hb0 hB0 ha0 ht0
  rw [← hN]
  clear hN
  go_enter Tryd.func37, Tryd.ntmps37
  go_wp2_with fail
  rw [← HN.out, ← HW0.out]
  with_reducible refine (reportOf_c Ha0.out Hxx.out (by have := Hl.out; omega) Ht0.out).mono ?_
  rintro e w1 ⟨rfl, hb1⟩
  obtain ⟨B, hB⟩ : ∃ B, B = w1.heap.size := ⟨_, rfl⟩
  obtain ⟨bs, hbs⟩ : ∃ bs, bs = repOf xs := ⟨_, rfl⟩
  rw [← hbs]
  obtain ⟨W1, hW1⟩ : ∃ W1, W1 = w1.alloc (.cells #[.int .i64 bs.count, .int .i64 bs.sum, .int .i64 bs.digits] 29) := ⟨_, rfl⟩
  have hbW : Below W0.heap.size W0 W1 := by rw [hW1]; exact hb1.alloc hb1.size _
  have hQ1 : Box W1 B [.int .i64 bs.count, .int .i64 bs.sum, .int .i64 bs.digits] := by rw [hW1, hB]; exact Box.new w1 [.int .i64 bs.count, .int .i64 bs.sum, .int .i64 bs.digits] _
  have HQ1 := Lib.hid hQ1
  have HR1 := Lib.hid (HR0.out.on hbW)
  have Ha1 := Lib.hid (Ha0.out.onn hbW)
  have Ht1 := Lib.hid (Ht0.out.below hbW)
  have HB1 := Lib.hid (HB0.out.below hbW (Nat.le_refl _))
  have Hb1 := Lib.hid (Hb0.out.trans (hbW.mono (by have := Hs0.out; omega)))
  have hBN : N + 1 + 1 ≤ B := by have := Hs0.out; have := hb1.size; omega
  have HW1 := Lib.hid hW1
  have HbW := Lib.hid hbW
  have Hbs := Lib.hid hbs
  have HBe := Lib.hid hB
  clear hb1 hbW hQ1 hbs hW1 hB
  go_wp2_with fail
  rw [← HBe.out, ← HW1.out]
  with_reducible refine (allFaults_c Ha1.out Hx.out).mono ?_
  rintro e w2 ⟨z, rfl, hz, hb2⟩
  have hfl := allK_len xs xs.length
  have hfm : ∀ f ∈ allF xs, fOk xs f := fun f hf => mem_allF.1 hf
  obtain ⟨m, hm⟩ : ∃ m, m = (allF xs).length := ⟨_, rfl⟩
  have hm5 : m ≤ 504 := by rw [hm]; have := Hl.out; unfold allF; omega
  obtain ⟨za, zc, rfl⟩ := hz.shape
  rw [← hm] at hz ⊢
  have Hz := Lib.hid hz
  have HQ2 := Lib.hid (HQ1.out.on hb2)
  have HR2 := Lib.hid (HR1.out.on hb2)
  have Ha2 := Lib.hid (Ha1.out.onn hb2)
  have Ht2 := Lib.hid (Ht1.out.below hb2)
  have HB2 := Lib.hid ((HB1.out.mono (show W0.heap.size ≤ W1.heap.size from HbW.out.size)).below hb2 (Nat.le_refl _))
  have Hb2 := Lib.hid (Hb1.out.trans (hb2.mono (by have := Hb1.out.size; have := HN.out; omega)))
  have hW1B : B < W1.heap.size := HQ1.out.lt
  have hw12 := hb2.size
  have Hfm := Lib.hid hfm
  have Hm := Lib.hid hm
  have hC0 : Own eReport 29 w2.heap.size (w2.alloc (.cells #[] 29)) (.slice (some ⟨w2.heap.size, 0, none⟩) 0 0) [] := Own.lit (E := eReport) (xs := []) (cs := #[]) (Nat.le_refl _) rfl rfl (by decide) (fun x hx => by cases hx)
  have hbC : Below w2.heap.size w2 (w2.alloc (.cells #[] 29)) := (Below.refl _ _).alloc (Nat.le_refl _) _
  have HC0 := Lib.hid hC0
  have HbC := Lib.hid hbC
  clear hz hb2 hfl hfm hm hC0 hbC HQ1 HR1 Ha1 Ht1 HB1 Hb1 HbW
  go_wp2
  go_loopw [35, 10] (fun iv cv wr => ∃ k : Nat, k ≤ m ∧ iv = .int .i64 k ∧ Own eReport 29 w2.heap.size wr cv (((allF xs).map (chgF xs)).take k) ∧ Below w2.heap.size w2 wr) (fun iv _ _ => m - (intOf iv).toNat)
  case atStart => exact ⟨0, Nat.zero_le _, rfl, HC0.out, HbC.out⟩
  case round =>
    obtain ⟨k, hk, rfl, hC, hbk⟩ := hrel
    clear HC0 HbC
    by_cases hkm : k < m
    · have hzk := Rds.below Hz.out.rds hbk (Nat.le_refl _)
      obtain ⟨zo, zcap, hsh, hzo⟩ := eFault_open hzk
      rw [← Hm.out] at hsh hzo
      injection hsh with h1 h2 h3
      subst h1
      clear h2 h3
      obtain ⟨zb, zoff, rfl, hzl, hzc⟩ := hzo (by omega)
      obtain ⟨f, hfk, ⟨c0, c1, c2, c3⟩, hfo⟩ := hzc k hkm
      have hfx := Hfm.out f (List.mem_of_getElem? hfk)
      have hsz := hbk.size
      have hba := hbk.alloc hsz (.cells #[.int .i64 f.kind, .int .i64 f.card, .int .i64 f.place, .int .i64 f.digit] 40)
      have hcon := change_c (f := f) (Ha2.out.below hba (Nat.le_refl _)) Hx.out hfx (Ht2.out.below hba)
      have hcb := chgF_bound Hx.out hfx
      have hco : okReport (chgF xs f) := by unfold okReport; omega
      have hlk : (((allF xs).map (chgF xs)).take k).length = k := by rw [List.length_take, List.length_map, ← Hm.out]; omega
      have hsn : ((allF xs).map (chgF xs)).take (k + 1) = ((allF xs).map (chgF xs)).take k ++ [chgF xs f] := take_snoc (by rw [List.getElem?_map, hfk]; rfl)
      have HC := Lib.hid (hC.alloc (.cells #[.int .i64 f.kind, .int .i64 f.card, .int .i64 f.place, .int .i64 f.digit] 40))
      have Hba := Lib.hid hba
      have Hcon := Lib.hid hcon
      have Hco := Lib.hid hco
      have Hlk := Lib.hid hlk
      have Hsn := Lib.hid hsn
      clear hC hbk hzk hzo hzc hfk hfx hba hcon hcb hco hlk hsn hfo
      go_wp2_with fail
      with_reducible refine Hcon.out.mono ?_
      rintro e w5 ⟨rfl, hb5⟩
      generalize chgF xs f = q at Hco Hsn
      have HC5 := Lib.hid (HC.out.below hb5 (Nat.le_refl _))
      have Hb5 := Lib.hid (Hba.out.trans (hb5.mono Hba.out.size))
      have hs5 : w2.heap.size ≤ w5.heap.size := Hb5.out.size
      clear hb5 c0 c1 c2 c3 HC Hba Hcon
      go_wp2_with (first | (at_builtin; refine wpList_appS (E := eReport) rfl _ _ 86 rfl Tryd.underlying86 hi hz0 hz1 hz2 rfl (by decide) rfl rfl (HC5.out.alloc _) (rds_one (E := eReport) (x := q) Hco.out rfl) ?b1 ?b2 ?b3 ?_))
      case b1 => rw [Hlk.out]; unfold maxLen; (try simp) <;> omega
      case b2 => rw [Hlk.out]; (try simp) <;> omega
      case b3 => (try simp) <;> omega
      intro v6 w6 hC6 hg6
      have hb6 := hg6.alloc.below Hb5.out hs5 (fun y hy => (HC5.out.lt y hy).1)
      have HC6 := Lib.hid hC6
      have Hb6 := Lib.hid hb6
      clear hC6 hg6 hb6
      go_wp2
      go_roundw
      case rel => exact ⟨k + 1, by omega, by go_num, by rw [Hsn.out]; exact HC6.out, Hb6.out⟩
      case measure => simp [intOf]; omega
    · obtain rfl : k = m := by omega
      rw [List.take_of_length_le (by rw [List.length_map]; have := Hm.out; omega)] at hC
      obtain ⟨ca, cc, hcv⟩ := hC.shape
      rw [List.length_map, ← Hm.out] at hcv
      subst hcv
      obtain ⟨w3, hw3⟩ : ∃ w3, w3 = wr := ⟨_, rfl⟩
      rw [← hw3] at hC hbk ⊢
      have HC := Lib.hid hC
      have Hz3 := Lib.hid (Hz.out.below hbk (Nat.le_refl _))
      have HQ3 := Lib.hid (HQ2.out.on hbk)
      have HR3 := Lib.hid (HR2.out.on hbk)
      have hB3 := (HB2.out.mono (show W1.heap.size ≤ w2.heap.size from hw12)).below hbk (Nat.le_refl _)
      have HB3 := Lib.hid (hB3.mono (show w2.heap.size ≤ w3.heap.size from hbk.size))
      have Hb3 := Lib.hid (Hb2.out.trans (hbk.mono (by have := Hb2.out.size; have := HN.out; omega)))
      have hs3 : w2.heap.size ≤ w3.heap.size := hbk.size
      clear hC hbk hB3 hw3
      go_wp2
      go_loopw [48, 7] (fun iv ov wr => ∃ i : Nat, i ≤ k ∧ iv = .int .i64 i ∧ BldG eFault 40 25 N N wr.heap.size wr ov (pairsK xs r i) ∧ Within (N + 1) (N + 1 + 1) w3 wr ∧ (∀ y, ov.ownBlock = some y → y = N + 1 ∨ w3.heap.size ≤ y)) (fun iv _ _ => k - (intOf iv).toNat)
      case atStart => exact ⟨0, Nat.zero_le _, rfl, HB3.out, Within.refl _ _ _, fun y hy => .inl (Option.some.inj hy).symm⟩
      case round =>
        obtain ⟨i, hi3, rfl, hO, hwi, hob⟩ := hrel
        clear HB3
        by_cases hik : i < k
        · have hsz := hwi.size
          have hzi := Hz3.out.wth hwi (show N + 1 + 1 ≤ W1.heap.size by omega)
          obtain ⟨zo, zcap, hsh, hzo⟩ := eFault_open hzi.rds
          rw [← Hm.out] at hsh hzo
          injection hsh with h1 h2 h3
          subst h1
          clear h2 h3
          obtain ⟨zb, zoff, rfl, hzl, hzc⟩ := hzo (by omega)
          obtain ⟨f, hfk, ⟨c0, c1, c2, c3⟩, hfo⟩ := hzc i hik
          have hCi := HC.out.wth hwi (show N + 1 + 1 ≤ w2.heap.size by omega)
          obtain ⟨co, ccap, hsc, hco⟩ := eReport_open hCi.rds
          rw [List.length_map, ← Hm.out] at hsc hco
          injection hsc with h1 h2 h3
          subst h1
          clear h2 h3
          obtain ⟨cb, coff, rfl, hcl, hcc⟩ := hco (by omega)
          obtain ⟨q, hqk, ⟨q0, q1, q2⟩, hqo⟩ := hcc i hik
          have hqf : q = chgF xs f := by rw [List.getElem?_map, hfk] at hqk; exact (Option.some.inj hqk).symm
          have hQi := HQ3.out.wth hwi (by omega)
          have hRi := HR3.out.wth hwi (by omega)
          have hms : missF xs r f = lessW (lessW r bs) q := by rw [hqf, Hbs.out]; rfl
          have hfok : okFault f := hfo
          have ik : (i : Int) < (k : Int) := by omega
          obtain ⟨T, hT⟩ : ∃ T, T = wr.alloc (.cells #[.int .i64 f.kind, .int .i64 f.card, .int .i64 f.place, .int .i64 f.digit] 40) := ⟨_, rfl⟩
          have hbT : Below wr.heap.size wr T := by rw [hT]; exact (Below.refl _ _).alloc (Nat.le_refl _) _
          have hF : Box T wr.heap.size [.int .i64 f.kind, .int .i64 f.card, .int .i64 f.place, .int .i64 f.digit] := by rw [hT]; exact Box.new wr [.int .i64 f.kind, .int .i64 f.card, .int .i64 f.place, .int .i64 f.digit] _
          have hTs : T.heap.size = wr.heap.size + 1 := by rw [hT]; simp
          have HT := Lib.hid hT
          have HbT := Lib.hid hbT
          have HF := Lib.hid hF
          have HTs := Lib.hid hTs
          have HQi := Lib.hid (hQi.on hbT)
          have HRi := Lib.hid (hRi.on hbT)
          have HOi := Lib.hid (hO.below hbT (Nat.le_refl _))
          have Hwi := Lib.hid (wth_same hwi hbT)
          have Hob := Lib.hid hob
          have r0 := HRi.out.cell 0 _ rfl
          have r1 := HRi.out.cell 1 _ rfl
          have r2 := HRi.out.cell 2 _ rfl
          have b0 := HQi.out.cell 0 _ rfl
          have b1 := HQi.out.cell 1 _ rfl
          have b2 := HQi.out.cell 2 _ rfl
          have p0 := (hbT.cell (p := ⟨cb, coff + i * 3, none⟩) hcl.2).trans q0
          have p1 := (hbT.cell (p := ⟨cb, coff + i * 3 + 1, none⟩) hcl.2).trans q1
          have p2 := (hbT.cell (p := ⟨cb, coff + i * 3 + 2, none⟩) hcl.2).trans q2
          have Hfk := Lib.hid hfk
          have Hms := Lib.hid hms
          have Hfok := Lib.hid hfok
          have hcbl : cb < T.heap.size := by have := hcl.2; omega
          clear hzi hzo hzc hfk hfo hCi hco hcc hqk hqo hqf hQi hRi hms hfok hbT hF hTs hT hO hwi hob q0 q1 q2
          generalize hMS : missF xs r f = ms at Hms
          have HMS := Lib.hid hMS
          clear hMS
          go_upto_region 15 with fail
          rw [← HT.out]
          clear c0 c1 c2 c3
          go_cut [15] (fun pv wx => ∃ X, pv = .pointer (some ⟨X, 0, none⟩) ∧ Box wx X [.int .i64 ms.count, .int .i64 ms.sum, .int .i64 ms.digits] ∧ T.heap.size ≤ X ∧ Below T.heap.size T wx)
          case first =>
            have HZ0 : Hid (Box (T.drew.alloc (.cells #[.int .i64 0, .int .i64 0, .int .i64 0] 29)) T.heap.size [.int .i64 0, .int .i64 0, .int .i64 0]) := Lib.hid (Box.new T.drew [.int .i64 0, .int .i64 0, .int .i64 0] 29)
            have nT : T.heap.size ≠ cb := by omega
            have mB : B < T.heap.size := HQi.out.lt
            have mN : N < T.heap.size := HRi.out.lt
            have nB : T.heap.size ≠ B := by omega
            have nN : T.heap.size ≠ N := by omega
            have hTd : Below T.heap.size T T.drew := (Below.refl _ _).drew1
            go_region_law (first
              | (go_simp; go_at_call 64; (with_reducible refine (less_a2 r bs _).mono ?_); rintro e w8 ⟨rfl, hb8⟩; have hT8 : Below T.heap.size T w8 := (by first | exact hTd.trans hb8 | exact (hTd.alloc (Nat.le_refl _) _).trans (hb8.mono (by simp))); have m8 : cb < w8.heap.size := (by have := hT8.size; omega); have n8 : w8.heap.size ≠ cb := (by omega); have g0 := (hT8.cell (p := ⟨cb, coff + i * 3, none⟩) hcbl).trans p0; have g1 := (hT8.cell (p := ⟨cb, coff + i * 3 + 1, none⟩) hcbl).trans p1; have g2 := (hT8.cell (p := ⟨cb, coff + i * 3 + 2, none⟩) hcbl).trans p2; (try (have HZ8 := HZ0.out.on hb8; have z0 := HZ8.cell 0 _ rfl; have z1 := HZ8.cell 1 _ rfl; have z2 := HZ8.cell 2 _ rfl; have y0 := HZ8.free 0; have y1 := HZ8.free 1; have y2 := HZ8.free 2)))
              | (go_simp; go_at_call 64; (with_reducible refine (less_a2 (lessW r bs) q _).mono ?_); rintro e w9 ⟨rfl, hb9⟩; have h89 : Below w8.heap.size w8 w9 := (by first | exact hb9 | exact ((Below.refl _ _).alloc (Nat.le_refl _) _).trans (hb9.mono (by simp))); (try (have HZ9 := HZ8.on h89; have x0 := HZ9.cell 0 _ rfl; have x1 := HZ9.cell 1 _ rfl; have x2 := HZ9.cell 2 _ rfl; have v0 := HZ9.free 0; have v1 := HZ9.free 1; have v2 := HZ9.free 2)); (try (have HZ9 := (Box.new w8 [.int .i64 0, .int .i64 0, .int .i64 0] 29).on hb9; have x0 := HZ9.cell 0 _ rfl; have x1 := HZ9.cell 1 _ rfl; have x2 := HZ9.cell 2 _ rfl; have v0 := HZ9.free 0; have v1 := HZ9.free 1; have v2 := HZ9.free 2))))
            all_goals
              go_wp2_with fail
              go_meet
              rw [Hms.out]
              have hT9 := hT8.trans (h89.mono hT8.size)
              first
                | exact ⟨_, rfl, Box.new w9 [.int .i64 (lessW (lessW r bs) q).count, .int .i64 (lessW (lessW r bs) q).sum, .int .i64 (lessW (lessW r bs) q).digits] _, hT9.size, hT9.alloc hT9.size _⟩
                | exact ⟨_, rfl, ((HZ9.set1 (j := 0) (by simp) _).set1 (j := 1) (by simp) _).set1 (j := 2) (by simp) _, hT8.size, ((hT9.setCell (p := ⟨w8.heap.size, 0, none⟩) hT8.size _).setCell (p := ⟨w8.heap.size, 1, none⟩) hT8.size _).setCell (p := ⟨w8.heap.size, 2, none⟩) hT8.size _⟩
                | exact ⟨_, rfl, ((HZ9.set1 (j := 0) (by simp) _).set1 (j := 1) (by simp) _).set1 (j := 2) (by simp) _, Nat.le_refl _, ((hT9.setCell (p := ⟨T.heap.size, 0, none⟩) (Nat.le_refl _) _).setCell (p := ⟨T.heap.size, 1, none⟩) (Nat.le_refl _) _).setCell (p := ⟨T.heap.size, 2, none⟩) (Nat.le_refl _) _⟩
          case rest =>
            obtain ⟨X, rfl, hX, hXl, hTx⟩ := hcut
            have hFw := HF.out.on hTx
            have hOw := HOi.out.below hTx (show wr.heap.size ≤ T.heap.size by have := HTs.out; omega)
            have hww := wth_same Hwi.out hTx
            have x0 := hX.cell 0 _ rfl
            have x1 := hX.cell 1 _ rfl
            have x2 := hX.cell 2 _ rfl
            have f0 := hFw.cell 0 _ rfl
            have f1 := hFw.cell 1 _ rfl
            have f2 := hFw.cell 2 _ rfl
            have f3 := hFw.cell 3 _ rfl
            have hTs := hTx.size
            have hwT : wr.heap.size ≤ wc.heap.size := by have := HTs.out; omega
            have hws : w3.heap.size ≤ wc.heap.size := hww.size
            have Hww := Lib.hid hww
            have HOw := Lib.hid (hOw.mono hwT)
            have hF2 := hFw
            have hX2 := hX
            have hOT := hOw
            clear hFw hOw hww hX hTx HF HOi Hwi HRi HQi p0 p1 p2 r0 r1 r2 b0 b1 b2 HT HbT Hms
            obtain ⟨T0, hT0⟩ : ∃ T0, T0 = wr.heap.size := ⟨_, rfl⟩
            have hXc : X < wc.heap.size := hX2.lt
            have hT0c : wr.heap.size < wc.heap.size := hF2.lt
            rw [← hT0] at hwT hT0c hF2 hOT ⊢
            have hTX : T0 ≤ X := by have := HTs.out; omega
            have hT3 : w3.heap.size ≤ T0 := by rw [hT0]; exact hsz
            have HF2 := Lib.hid hF2
            have HX2 := Lib.hid hX2
            have Hob2 : Hid (∀ y, u7.ownBlock = some y → y = N + 1 ∨ (w3.heap.size ≤ y ∧ (y < T0 ∨ wc.heap.size ≤ y))) := Lib.hid (fun y hy => by
              rcases Hob.out y hy with h | h
              · exact .inl h
              · exact .inr ⟨h, .inl (hOT.own y hy)⟩)
            have hps := pairsK_succ xs r i
            have Hps := Lib.hid hps
            have hfi : fGo (allF xs) i = f := by unfold fGo; rw [List.getD_eq_getElem?_getD, Hfk.out]; rfl
            have Hfi := Lib.hid hfi
            clear hps hfi hT0 hF2 hX2 hOT Hob hsz HTs
            go_wp2_with fail
            clear x0 x1 x2 f0 f1 f2 f3
            have hz16 : (i : Int) + 1 = ((i + 1 : Nat) : Int) := rfl
            go_loopw [16, 7] (fun kv ov wz => ∃ kk : Nat, i + 1 ≤ kk ∧ kk ≤ k ∧ kv = .int .i64 kk ∧ BldG eFault 40 25 N N wz.heap.size wz ov (pairsK xs r i ++ pairK xs r i kk) ∧ Within (N + 1) (N + 1 + 1) w3 wz ∧ Box wz T0 [.int .i64 f.kind, .int .i64 f.card, .int .i64 f.place, .int .i64 f.digit] ∧ Box wz X [.int .i64 ms.count, .int .i64 ms.sum, .int .i64 ms.digits] ∧ wc.heap.size ≤ wz.heap.size ∧ (∀ y, ov.ownBlock = some y → y = N + 1 ∨ (w3.heap.size ≤ y ∧ (y < T0 ∨ wc.heap.size ≤ y)))) (fun kv _ _ => k - (intOf kv).toNat)
            case atStart => exact ⟨i + 1, Nat.le_refl _, by omega, by first | rfl | go_num, by rw [pairK_start, List.append_nil]; exact HOw.out, Hww.out, HF2.out, HX2.out, Nat.le_refl _, Hob2.out⟩
            case round =>
              obtain ⟨kk, hkk1, hkk, rfl, hOz, hwz, hFz, hXz, hcz, hoz⟩ := hrel
              clear HOw Hww HF2 HX2 Hob2 hz16
              by_cases hkkk : kk < k
              · have hzi := Hz3.out.wth hwz (show N + 1 + 1 ≤ W1.heap.size by omega)
                obtain ⟨zo, zcap, hsh, hzo⟩ := eFault_open hzi.rds
                rw [← Hm.out] at hsh hzo
                injection hsh with h1 h2 h3
                subst h1
                clear h2 h3
                obtain ⟨zb', zoff', hzz, hzl', hzc⟩ := hzo (by omega)
                cases hzz
                obtain ⟨g, hgk, ⟨c0, c1, c2, c3⟩, hgo⟩ := hzc kk hkkk
                have hCi := HC.out.wth hwz (show N + 1 + 1 ≤ w2.heap.size by omega)
                obtain ⟨co, ccap, hsc, hco⟩ := eReport_open hCi.rds
                rw [List.length_map, ← Hm.out] at hsc hco
                injection hsc with h1 h2 h3
                subst h1
                clear h2 h3
                obtain ⟨cb', coff', hcc', hcl', hcc⟩ := hco (by omega)
                cases hcc'
                obtain ⟨q', hqk, ⟨q0, q1, q2⟩, hqo⟩ := hcc kk hkkk
                have hqf : chgF xs g = q' := by rw [List.getElem?_map, hgk] at hqk; exact Option.some.inj hqk
                have hfg : fGo (allF xs) kk = g := by unfold fGo; rw [List.getD_eq_getElem?_getD, hgk]; rfl
                have hsu := pairK_succ xs r i kk (by omega)
                have hpt : pairT xs r f g = (decide (f.card < g.card) && (q' == ms)) := by unfold pairT; rw [hqf, HMS.out]
                rw [Hfi.out, hfg, hpt] at hsu
                have hkki : (kk : Int) < (k : Int) := by omega
                have x0 := hXz.cell 0 _ rfl
                have x1 := hXz.cell 1 _ rfl
                have x2 := hXz.cell 2 _ rfl
                have f0 := hFz.cell 0 _ rfl
                have f1 := hFz.cell 1 _ rfl
                have f2 := hFz.cell 2 _ rfl
                have f3 := hFz.cell 3 _ rfl
                have HOz := Lib.hid hOz
                have Hwz := Lib.hid hwz
                have HFz := Lib.hid hFz
                have HXz := Lib.hid hXz
                have Hoz := Lib.hid hoz
                have Hgo : Hid (okFault g) := Lib.hid hgo
                have Hpl := Lib.hid (pairsK_len xs r i)
                have Hpl2 := Lib.hid (pairK_len xs r i kk)
                clear hzi hzo hzc hgk hCi hco hcc hqk hqf hfg hpt hOz hwz hFz hXz hoz hgo hqo
                cases hlt : decide (f.card < g.card) with
                | false =>
                  rw [hlt, Bool.false_and] at hsu
                  have Hsu : Hid (pairK xs r i (kk + 1) = pairK xs r i kk) := Lib.hid (by rw [hsu]; simp)
                  have hlt' : ¬ f.card < g.card := of_decide_eq_false hlt
                  clear hsu
                  go_wp2
                  go_quiet (fail)
                  have hbq : Below wr.heap.size wr (wr.drewN nq) := (Below.refl _ _).drewNy _
                  have HO6 := Lib.hid (HOz.out.below hbq (Nat.le_refl _))
                  have Hw6 := Lib.hid (wth_same Hwz.out hbq)
                  have HF6 := Lib.hid (HFz.out.on hbq)
                  have HX6 := Lib.hid (HXz.out.on hbq)
                  clear hbq c0 c1 c2 c3 q0 q1 q2 x0 x1 x2 f0 f1 f2 f3 HOz Hwz HFz HXz hlt hlt'
                  go_wp2
                  go_roundw
                  case rel => exact ⟨kk + 1, by omega, by omega, by go_num, by rw [Hsu.out]; exact HO6.out, Hw6.out, HF6.out, HX6.out, hcz, Hoz.out⟩
                  case measure => simp [intOf]; omega
                | true =>
                  rw [hlt, Bool.true_and] at hsu
                  have hlt' : f.card < g.card := of_decide_eq_true hlt
                  cases hqm : (q' == ms) with
                  | false =>
                    rw [hqm] at hsu
                    have Hsu : Hid (pairK xs r i (kk + 1) = pairK xs r i kk) := Lib.hid (by rw [hsu]; simp)
                    have hr1 := fun w => eql_run (x := q') (y := ms) (b := false) hqm w
                    clear hsu
                    go_wp2
                    go_quiet (fail)
                    have hbq : Below wr.heap.size wr (wr.drewN nq) := (Below.refl _ _).drewNy _
                    have HO6 := Lib.hid (HOz.out.below hbq (Nat.le_refl _))
                    have Hw6 := Lib.hid (wth_same Hwz.out hbq)
                    have HF6 := Lib.hid (HFz.out.on hbq)
                    have HX6 := Lib.hid (HXz.out.on hbq)
                    clear hbq c0 c1 c2 c3 q0 q1 q2 x0 x1 x2 f0 f1 f2 f3 HOz Hwz HFz HXz hlt hlt' hr1 hqm
                    go_wp2
                    go_roundw
                    case rel => exact ⟨kk + 1, by omega, by omega, by go_num, by rw [Hsu.out]; exact HO6.out, Hw6.out, HF6.out, HX6.out, hcz, Hoz.out⟩
                    case measure => simp [intOf]; omega
                  | true =>
                    rw [hqm] at hsu
                    have Hsu : Hid (pairK xs r i (kk + 1) = pairK xs r i kk ++ [[f, g]]) := Lib.hid (by rw [hsu]; simp)
                    have hr1 := fun w => eql_run (x := q') (y := ms) (b := true) hqm w
                    clear hsu
                    go_wp2
                    go_quiet (fail)
                    have hbq : Below wr.heap.size wr (wr.drewN nq) := (Below.refl _ _).drewNy _
                    replace c0 := (hbq.cell (p := ⟨zb, zoff + kk * 4, none⟩) hzl'.2).trans c0
                    replace c1 := (hbq.cell (p := ⟨zb, zoff + kk * 4 + 1, none⟩) hzl'.2).trans c1
                    replace c2 := (hbq.cell (p := ⟨zb, zoff + kk * 4 + 2, none⟩) hzl'.2).trans c2
                    replace c3 := (hbq.cell (p := ⟨zb, zoff + kk * 4 + 3, none⟩) hzl'.2).trans c3
                    have HO6 := Lib.hid (HOz.out.below hbq (Nat.le_refl _))
                    have Hw6 := Lib.hid (wth_same Hwz.out hbq)
                    have HF6 := Lib.hid (HFz.out.on hbq)
                    have HX6 := Lib.hid (HXz.out.on hbq)
                    have hsq : (wr.drewN nq).heap.size = wr.heap.size := rfl
                    have hzq : zb < (wr.drewN nq).heap.size := hzl'.2
                    clear hbq q0 q1 q2 x0 x1 x2 f0 f1 f2 f3 HOz Hwz HFz HXz hlt hlt' hr1 hqm
                    generalize wr.drewN nq = wq at c0 c1 c2 c3 HO6 Hw6 HF6 HX6 hsq hzq ⊢
                    rw [← hsq] at hcz HO6
                    clear hsq
                    have f0 := HF6.out.cell 0 _ rfl
                    have f1 := HF6.out.cell 1 _ rfl
                    have f2 := HF6.out.cell 2 _ rfl
                    have f3 := HF6.out.cell 3 _ rfl
                    have hR := Own.lit (E := eFault) (e := 40) (base := wq.heap.size) (w := wq) (xs := [f, g]) (cs := #[.int .i64 f.kind, .int .i64 f.card, .int .i64 f.place, .int .i64 f.digit, .int .i64 g.kind, .int .i64 g.card, .int .i64 g.place, .int .i64 g.digit]) (n := 2) (Nat.le_refl _) rfl rfl (by decide) (fun y hy => by
                      rcases List.mem_cons.1 hy with h | h
                      · rw [h]; exact Hfok.out
                      · rw [List.mem_singleton] at h; rw [h]; exact Hgo.out)
                    have hbl : Below wq.heap.size wq (wq.alloc (.cells #[.int .i64 f.kind, .int .i64 f.card, .int .i64 f.place, .int .i64 f.digit, .int .i64 g.kind, .int .i64 g.card, .int .i64 g.place, .int .i64 g.digit] 40)) := (Below.refl wq.heap.size wq).alloc (Nat.le_refl _) _
                    have hBw := HO6.out.below hbl (Nat.le_refl _)
                    have hNq : N ≤ wq.heap.size := by omega
                    obtain ⟨hs', xh, hval, hokx, hlen, hO, hfn⟩ := hBw.app hR hNq (by simp)
                    have hcells : (#[.slice (some ⟨wq.heap.size, 0, none⟩) 2 2] : Array Value) = (eS.cells xh).toArray := by have h : xh.val = .slice (some ⟨wq.heap.size, 0, none⟩) 2 2 := hval; rw [← h]; rfl
                    have hlen2 : hs'.length ≤ 1000000 := by
                      rw [hlen, List.length_append]
                      have h1 := Hpl.out
                      have h2 := Hpl2.out
                      have h3 : (allF xs).length * i ≤ 504 * 504 := Nat.mul_le_mul (by rw [← Hm.out]; exact hm5) (by omega)
                      omega
                    have HO := Lib.hid hO
                    have Hfn := Lib.hid hfn
                    have Hcells := Lib.hid hcells
                    have Hokx := Lib.hid hokx
                    clear hR hBw hval hlen hO hfn hcells hokx HO6
                    go_wp2
                    go_region_law (refine step_appS (E := eS) rfl _ _ 59 (by rfl) Tryd.underlying59 hi1 hy0 hy1 hy2 rfl (by decide) (by rfl) (by rfl) (HO.out.alloc _).drew (rdsDrew (rds_one' (E := eS) (x := xh) (H := wq.heap.size + 1) (by simp) Hokx.out Hcells.out)) (by unfold maxLen; (try simp) <;> omega) (by (try simp) <;> omega) (by (try simp) <;> omega) ?_; intro v6 w6 hO6 hg6)
                    all_goals
                      have hg6' := growDrew hg6
                      have HB6 := Lib.hid (Hfn.out w6 v6 hO6 hg6')
                      have hrow : ∀ y, u7.ownBlock = some y → y ≠ T0 ∧ y ≠ X ∧ ((N + 1 ≤ y ∧ y < N + 1 + 1) ∨ w3.heap.size ≤ y) := fun y hy => by rcases Hoz.out y hy with h | h <;> omega
                      have Hwx := Lib.hid (wth_grown (wth_same Hw6.out hbl) hg6'.1 (fun y hy => (hrow y hy).2.2))
                      have HFx := Lib.hid ((HF6.out.on hbl).keptW hg6'.1 (fun h => (hrow _ h).1 rfl))
                      have HXx := Lib.hid ((HX6.out.on hbl).keptW hg6'.1 (fun h => (hrow _ h).2.1 rfl))
                      have hczx : wc.heap.size ≤ w6.heap.size := Nat.le_trans hcz (Nat.le_trans hbl.size hg6'.1.size)
                      have Hox : Hid (∀ y, v6.ownBlock = some y → y = N + 1 ∨ (w3.heap.size ≤ y ∧ (y < T0 ∨ wc.heap.size ≤ y))) := Lib.hid (fun y hy => by
                        rcases hg6'.2 with h | ⟨y', h, hl'⟩
                        · rw [h] at hy; exact Hoz.out y hy
                        · rw [h] at hy
                          have h2 := Option.some.inj hy
                          have h3 : wq.heap.size + 1 ≤ y' := by simpa using hl'
                          right; omega)
                      clear hg6' hO6 hg6 hrow hbl c0 c1 c2 c3 f0 f1 f2 f3 HO Hfn
                      go_wp2
                      go_roundw
                      case rel => exact ⟨kk + 1, by omega, by omega, by go_num, by rw [Hsu.out, ← List.append_assoc]; exact HB6.out, Hwx.out, HFx.out, HXx.out, hczx, Hox.out⟩
                      case measure => simp [intOf]; omega
              · obtain rfl : kk = k := by omega
                have hpl : pairsK xs r (i + 1) = pairsK xs r i ++ pairK xs r i kk := by rw [Hps.out, Hm.out]
                have Hpl := Lib.hid hpl
                have HO6 := Lib.hid hOz
                have Hw6 := Lib.hid hwz
                have Ho6 : Hid (∀ y, u7.ownBlock = some y → y = N + 1 ∨ w3.heap.size ≤ y) := Lib.hid (fun y hy => by rcases hoz y hy with h | h; exact .inl h; exact .inr h.1)
                clear hOz hwz hFz hXz hoz hpl
                go_wp2
                go_roundw
                case rel => exact ⟨i + 1, by omega, by go_num, by rw [Hpl.out]; exact HO6.out, Hw6.out, Ho6.out⟩
                case measure => simp [intOf]; omega
        · obtain rfl : i = k := by omega
          have hfin : (pairsK xs r i) = explF xs r 2 := by
            have h := Hm.out
            unfold explF pairsF
            rw [if_neg (by decide), if_neg (by decide), ← h]
          rw [hfin] at hO
          have HO := Lib.hid hO
          have hbf := Hb3.out.trans ((hwi.below (show N + 1 ≤ w3.heap.size by omega)).mono (show N ≤ N + 1 by omega))
          have Hbf := Lib.hid hbf
          clear hO hwi hob hfin hbf
          go_wp2
          go_ret
          exact ⟨_, rfl, HO.out, Hbf.out⟩
end Go.Proofs.YtahkkdkdaedioaaDoor
