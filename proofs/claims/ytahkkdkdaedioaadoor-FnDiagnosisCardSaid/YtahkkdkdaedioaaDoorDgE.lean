/- Faults: valid ones are taken, the report behind them, both readings. The condition: the library's table of powers of ten lies as its text lays it. -/
import Derived.Test.YtahkkdkdaedioaaDoorDgC
import Derived.Test.YtahkkdkdaedioaaDoorAft
import Derived.Test.YtahkkdkdaedioaaDoorAftS
import Derived.Test.YtahkkdkdaedioaaDoorRepS
namespace Go.Proofs.YtahkkdkdaedioaaDoor
open Go.ChangeShapes Go.WideShapes Go.ChangeAt Go.RowKit Go.Sort
set_option linter.unusedVariables false
set_option maxRecDepth 100000
theorem fsOk_rd {xs : List Int} {fs : List FaultT} (h : fsOk xs fs) : ∀ f ∈ fs, fRd f := by
  intro f hf h3
  rcases (h.1 f hf).2 with ⟨h1, _⟩ | ⟨_, h1, h2, _⟩
  · omega
  · exact ⟨h1, h2⟩
theorem fsOk_card {xs : List Int} {fs : List FaultT} (h : fsOk xs fs) : ∀ f ∈ fs, 0 ≤ f.card := fun f hf => (h.1 f hf).1.1
theorem afterL_ok {xs : List Int} {fs : List FaultT} (hx : amtOk xs = true) (h : fsOk xs fs) : (afterL xs fs).length ≤ 24 ∧ ∀ n ∈ afterL xs fs, 0 ≤ n ∧ n ≤ 9999 := by
  have hp := amtOk_parts hx
  constructor
  · have := afterK_len xs fs xs.length
    unfold afterL
    omega
  · intro n hn
    unfold afterL afterK at hn
    obtain ⟨i, hi, hm⟩ := List.mem_flatMap.1 hn
    have hi2 : i < xs.length := List.mem_range.1 hi
    have hgd : xs.getD i 0 ∈ xs := by
      rw [List.getD_eq_getElem?_getD, List.getElem?_eq_getElem hi2]
      exact List.getElem_mem hi2
    cases hf : findF fs (i : Int) with
    | none =>
      rw [hf] at hm
      unfold readAt at hm
      rw [List.mem_singleton] at hm
      rw [hm]
      exact hp.2 _ hgd
    | some f =>
      rw [hf] at hm
      have hfm : f ∈ fs := List.mem_of_find?_eq_some hf
      have hc : f.card = (i : Int) := by have := List.find?_some hf; simpa using this
      have ha : atN xs f.card = xs.getD i 0 := by unfold atN; rw [hc, Int.toNat_natCast]
      have h2 := (after_ok hx (h.1 f hfm)).2 n
      rw [ha] at h2
      exact h2 hm
set_option maxHeartbeats 1000000 in
theorem isFault_yes {xs : List Int} (f : FaultT) (h : fOk xs f) (w : World) : Calls Tryd.prog 43 #[vFault f] w fun e w' => e = .returned (.bool true) ∧ Below w.heap.size w w' := by
  obtain ⟨k, c, p, d⟩ := f
  rcases h.2 with ⟨h1, h2, h3⟩ | ⟨h1, h2, h3, _⟩
  · simp only at h1 h2 h3
    subst h2
    subst h3
    have h3' : (k == 3) = false := by simp; omega
    have H1 := Lib.hid h1
    clear h1 h
    go_enter Tryd.func43, Tryd.ntmps43
    go_wp2_with fail
    with_reducible refine (inside_yes _ _ _ _ (by have := H1.out; omega) (by have := H1.out; omega)).mono ?_
    rintro e w' ⟨rfl, rfl⟩
    go_wp2
    go_ret
    exact ⟨rfl, (Below.refl _ _).alloc (Nat.le_refl _) _⟩
  · simp only at h1 h2 h3
    subst h1
    have H2 := Lib.hid h2
    have H3 := Lib.hid h3
    clear h2 h3 h
    go_enter Tryd.func43, Tryd.ntmps43
    go_wp2_with fail
    with_reducible refine (inside_yes _ _ _ _ H2.out.1 H2.out.2).mono ?_
    rintro e w' ⟨rfl, rfl⟩
    go_wp2_with fail
    with_reducible refine (inside_yes _ _ _ _ H3.out.1 H3.out.2).mono ?_
    rintro e w' ⟨rfl, rfl⟩
    go_wp2
    go_ret
    exact ⟨rfl, (Below.refl _ _).alloc (Nat.le_refl _) _⟩
set_option maxHeartbeats 2000000 in
theorem areFaults_yes {xs : List Int} {fs : List FaultT} {v u : Value} {w : World} {A B : Nat} (ha : RdI A w v xs) (hf : RdFaultS B w u fs) (hxs : amtOk xs = true) (hfs : fsOk xs fs) :
    Calls Tryd.prog 39 #[v, u] w fun e w' => e = .returned (.bool true) ∧ Below w.heap.size w w' := by
  obtain ⟨hl, hx⟩ := amtOk_parts hxs
  obtain ⟨ao, cap, rfl, hoa⟩ := ha.open
  obtain ⟨m, hm⟩ : ∃ m, m = xs.length := ⟨_, rfl⟩
  rw [← hm] at hoa hl ⊢
  have Hm := Lib.hid hm
  have Hoa := Lib.hid hoa
  have hfle := hf.le
  obtain ⟨fo, fcap, rfl, hfc⟩ := eFault_open hf
  obtain ⟨n, hn⟩ : ∃ n, n = fs.length := ⟨_, rfl⟩
  have hn2 : n ≤ 2 := by have := hfs.2.2; omega
  rw [← hn] at hfle hfc ⊢
  have Hn := Lib.hid hn
  have Hfc := Lib.hid hfc
  have Hx := Lib.hid hx
  have Hfs := Lib.hid hfs
  clear ha hf hfc hn hx hm hoa hfs hxs
  go_enter Tryd.func39, Tryd.ntmps39
  go_wp2
  go_loopw [9] (fun i wr => ∃ k : Nat, k ≤ n ∧ i = .int .i64 k ∧ Below w.heap.size w wr) (fun i _ => n - (intOf i).toNat)
  case atStart => exact ⟨0, Nat.zero_le _, rfl, Below.refl _ _⟩
  case round =>
    obtain ⟨k, hk, rfl, hb⟩ := hrel
    by_cases hkn : k < n
    · obtain ⟨b, off, rfl, hlt, hc⟩ := Hfc.out (by omega)
      obtain ⟨y, hy, ⟨c0, c1, c2, c3⟩, hyo⟩ := hc k hkn
      replace c0 := (hb.cell (p := ⟨b, off + k * 4, none⟩) hlt.2).trans c0
      replace c1 := (hb.cell (p := ⟨b, off + k * 4 + 1, none⟩) hlt.2).trans c1
      replace c2 := (hb.cell (p := ⟨b, off + k * 4 + 2, none⟩) hlt.2).trans c2
      replace c3 := (hb.cell (p := ⟨b, off + k * 4 + 3, none⟩) hlt.2).trans c3
      obtain ⟨T, hT⟩ : ∃ T, T = wr.alloc (.cells #[.int .i64 y.kind, .int .i64 y.card, .int .i64 y.place, .int .i64 y.digit] 40) := ⟨_, rfl⟩
      have hbT : Below wr.heap.size wr T := by rw [hT]; exact (Below.refl _ _).alloc (Nat.le_refl _) _
      have hBT : Box T wr.heap.size [.int .i64 y.kind, .int .i64 y.card, .int .i64 y.place, .int .i64 y.digit] := by rw [hT]; exact Box.new wr [.int .i64 y.kind, .int .i64 y.card, .int .i64 y.place, .int .i64 y.digit] _
      have f0 := cell_regrown (hBT.cell 0 _ rfl)
      have f1 := cell_regrown (hBT.cell 1 _ rfl)
      have f2 := cell_regrown (hBT.cell 2 _ rfl)
      have f3 := cell_regrown (hBT.cell 3 _ rfl)
      have hyk : fOk xs y := Hfs.out.1 y (List.mem_of_getElem? hy)
      have hcm : 0 ≤ y.card ∧ y.card < (m : Int) := by have := hyk.1; have := Hm.out; omega
      obtain ⟨hcm0, hcm1⟩ := hcm
      obtain ⟨ca, hca⟩ := Int.eq_ofNat_of_zero_le hcm0
      have hcam : ca < m := by omega
      obtain ⟨b2, off2, rfl, hlt2, hcc⟩ := Hoa.out (by omega)
      obtain ⟨x, hxk, hcx, _⟩ := hcc ca hcam
      have hxb := Hx.out x (List.mem_of_getElem? hxk)
      replace hcx := (hb.cell (p := ⟨b2, off2 + ca, none⟩) hlt2.2).trans hcx
      have hwr2 : b2 < wr.heap.size := Nat.lt_of_lt_of_le hlt2.2 hb.size
      have hcxT := (hbT.cell (p := ⟨b2, off2 + ca, none⟩) hwr2).trans hcx
      have hat : atN xs y.card = x := by unfold atN; rw [hca, Int.toNat_natCast, List.getD_eq_getElem?_getD, hxk]; rfl
      have hisf := fun d os => isFault_yes y hyk (grow (redrawn T d) os)
      have Hisf := Lib.hid hisf
      have Hyk := Lib.hid hyk
      have Hat := Lib.hid hat
      have Hca := Lib.hid hca
      have HcxT := Lib.hid hcxT
      have HBT := Lib.hid hBT
      have HT := Lib.hid hT
      have HbT := Lib.hid hbT
      have Hb := Lib.hid hb
      have Hxb := Lib.hid hxb
      have hsm : IntKind.i64.wrap ((m : Int) - 1) = (m : Int) - 1 := IntWalk.i64_in _ (by omega)
      have hkni : (k : Int) < (n : Int) := by omega
      have Hy := Lib.hid hy
      clear hisf hyk hat hca hxk hcx hcxT hBT hT hbT hcc hxb hy hyo
      have hend : ∀ (wq : World), Below T.heap.size T wq → Below w.heap.size w wq := fun wq hbq => Hb.out.trans ((HbT.out.trans (hbq.mono HbT.out.size)).mono Hb.out.size)
      have Hend := Lib.hid hend
      clear hend
      have hcm2 : y.card ≤ (m : Int) - 1 := by omega
      rcases k with _ | k
      · simp only [Nat.zero_mul, Nat.add_zero] at c0 c1 c2 c3
        clear hc
        go_upto_region 4 with fail
        rw [← HT.out]
        clear HT
        refine wp_region_quiet_below (by kernel_rfl) (by kernel_rfl) ?_
        repeat ((with_reducible refine wpQuiet_step (fun K hK => ?_)); go_simp; first | ((with_reducible refine hK _ ?_); clear hK K) | ((with_reducible rw [if_neg]); rotate_left; (intro hgd; cases hgd); (with_reducible refine hK _ ?_); clear hK K) | (apply Exists.intro; refine ⟨fun _ => ?_, hK _ ?_⟩; ((first | (go_at_call 43; with_reducible exact qb_below (Hisf.out _ _)) | (go_at_call 53; exact qb_same (size_any0 (by omega))) | (go_at_call 44; exact qb_same (inside_yes _ _ _ _ hcm0 hcm2)))); clear hK K))
        refine wpQuiet_nil ?_
        intro _ hw'
        obtain ⟨⟨dq, osq⟩, hw''⟩ := hw'
        subst hw''
        have hbq := below_regrown T dq osq
        generalize grow (redrawn T dq) osq = wq at hbq ⊢
        have hq1 := hbq
        have hBq := HBT.out.on hbq
        have gx := cell_regrown ((hbq.cell (p := ⟨b2, off2 + ca, none⟩) (Nat.lt_of_lt_of_le hwr2 HbT.out.size)).trans HcxT.out)
        have g0 := cell_regrown (hBq.cell 0 _ rfl)
        have g1 := cell_regrown (hBq.cell 1 _ rfl)
        have g2 := cell_regrown (hBq.cell 2 _ rfl)
        have g3 := cell_regrown (hBq.cell 3 _ rfl)
        have Hq1 := Lib.hid hq1
        clear hbq hq1 hBq f0 f1 f2 f3 
        go_upto_region 6 with fail
        rcases Hyk.out.2 with ⟨h1, _, _⟩ | ⟨h1, h2, h3, h4⟩
        · have hk3 : (y.kind == 3) = false := by simp; omega
          clear h1
          refine wp_region_quiet_below (by kernel_rfl) (by kernel_rfl) ?_
          repeat ((with_reducible refine wpQuiet_step (fun K hK => ?_)); go_simp; first | ((with_reducible refine hK _ ?_); clear hK K) | ((with_reducible rw [if_neg]); rotate_left; (intro hgd; cases hgd); (with_reducible refine hK _ ?_); clear hK K) | (apply Exists.intro; refine ⟨fun _ => ?_, hK _ ?_⟩; ((fail)); clear hK K))
          refine wpQuiet_nil ?_
          intro _ hw'
          obtain ⟨⟨dq, osq⟩, hw''⟩ := hw'
          subst hw''
          have hbq := below_regrown wq dq osq
          generalize grow (redrawn wq dq) osq = wq at hbq ⊢
          have Hb2 := Lib.hid ((Hend.out _ Hq1.out).trans (hbq.mono (Hend.out _ Hq1.out).size))
          clear hbq g0 g1 g2 g3 gx hk3 Hq1 Hend
          go_wp2
          go_roundw
          case rel => exact ⟨1, by omega, by go_num, Hb2.out⟩
          case measure => simp [intOf]; omega
        · have hk3 : (y.kind == 3) = true := by simpa using h1
          obtain ⟨p, hp⟩ := Int.eq_ofNat_of_zero_le h2.1
          have hp4 : p < 4 := by omega
          have hne : (digA x y.place == y.digit) = false := by rw [← Hat.out]; simpa using h4
          have hdg := fun d os => digitAt_c (w := grow (redrawn wq d) os) Hxb.out hp4
          rw [← hp] at hdg
          have Hdg := Lib.hid hdg
          have hca2 : y.card = (ca : Int) := Hca.out
          rw [hca2] at g1
          have hcai : (ca : Int) < (m : Int) := by omega
          clear hp h1 h2 h3 h4 hdg hca2
          refine wp_region_quiet_below (by kernel_rfl) (by kernel_rfl) ?_
          repeat ((with_reducible refine wpQuiet_step (fun K hK => ?_)); go_simp; first | ((with_reducible refine hK _ ?_); clear hK K) | ((with_reducible rw [if_neg]); rotate_left; (intro hgd; cases hgd); (with_reducible refine hK _ ?_); clear hK K) | (apply Exists.intro; refine ⟨fun _ => ?_, hK _ ?_⟩; ((first | (go_at_call 66; with_reducible exact qb_below (Hdg.out _ _)))); clear hK K))
          refine wpQuiet_nil ?_
          intro _ hw'
          obtain ⟨⟨dq, osq⟩, hw''⟩ := hw'
          subst hw''
          have hbq := below_regrown wq dq osq
          generalize grow (redrawn wq dq) osq = wq at hbq ⊢
          have Hb2 := Lib.hid ((Hend.out _ Hq1.out).trans (hbq.mono (Hend.out _ Hq1.out).size))
          clear hbq g0 g1 g2 g3 gx hk3 Hq1 Hend hne hcai
          go_wp2
          go_roundw
          case rel => exact ⟨1, by omega, by go_num, Hb2.out⟩
          case measure => simp [intOf]; omega
      · obtain ⟨z, hz, ⟨_, d1, _, _⟩, _⟩ := hc k (by omega)
        have hwr3 : b < wr.heap.size := Nat.lt_of_lt_of_le hlt.2 Hb.out.size
        have hpv := cell_regrown ((HbT.out.cell (p := ⟨b, off + k * 4 + 1, none⟩) hwr3).trans ((Hb.out.cell (p := ⟨b, off + k * 4 + 1, none⟩) hlt.2).trans d1))
        have hlt3 := (okK_of Hfs.out (k + 1) y (by have := Hn.out; omega) Hy.out).2 k z rfl hz
        have ht : decide (y.card ≤ z.card) = false := by simp; omega
        have hs1 : IntKind.i64.wrap ((k : Int) + 1 - 1) = (k : Int) := by rw [show (k : Int) + 1 - 1 = (k : Int) by omega]; exact IntWalk.i64_in _ (by omega)
        have hs2 : IntKind.i64.wrap (k : Int) = (k : Int) := IntWalk.i64_in _ (by omega)
        have hkn4 : (k : Int) + 1 < (n : Int) := by omega
        have hkn6 : (0 : Int) < (k : Int) + 1 := by omega
        have hkn7 : (0 : Int) ≤ (k : Int) + 1 := by omega
        have hkn2 : (k : Int) < (n : Int) := by omega
        have hkn3 : k < n := by omega
        clear hc d1 hlt3
        go_upto_region 4 with fail
        rw [← HT.out]
        clear HT
        refine wp_region_quiet_below (by kernel_rfl) (by kernel_rfl) ?_
        repeat ((with_reducible refine wpQuiet_step (fun K hK => ?_)); go_simp; first | ((with_reducible refine hK _ ?_); clear hK K) | ((with_reducible rw [if_neg]); rotate_left; (intro hgd; cases hgd); (with_reducible refine hK _ ?_); clear hK K) | (apply Exists.intro; refine ⟨fun _ => ?_, hK _ ?_⟩; ((first | (go_at_call 43; with_reducible exact qb_below (Hisf.out _ _)) | (go_at_call 53; exact qb_same (size_any0 (by omega))) | (go_at_call 44; exact qb_same (inside_yes _ _ _ _ hcm0 hcm2)))); clear hK K))
        refine wpQuiet_nil ?_
        intro _ hw'
        obtain ⟨⟨dq, osq⟩, hw''⟩ := hw'
        subst hw''
        have hbq := below_regrown T dq osq
        generalize grow (redrawn T dq) osq = wq at hbq ⊢
        have hq1 := hbq
        have hBq := HBT.out.on hbq
        have gx := cell_regrown ((hbq.cell (p := ⟨b2, off2 + ca, none⟩) (Nat.lt_of_lt_of_le hwr2 HbT.out.size)).trans HcxT.out)
        have g0 := cell_regrown (hBq.cell 0 _ rfl)
        have g1 := cell_regrown (hBq.cell 1 _ rfl)
        have g2 := cell_regrown (hBq.cell 2 _ rfl)
        have g3 := cell_regrown (hBq.cell 3 _ rfl)
        have Hq1 := Lib.hid hq1
        clear hbq hq1 hBq f0 f1 f2 f3 hpv hs1 hs2 hz hkn4 hkn6 hkn7 ht
        go_upto_region 6 with fail
        rcases Hyk.out.2 with ⟨h1, _, _⟩ | ⟨h1, h2, h3, h4⟩
        · have hk3 : (y.kind == 3) = false := by simp; omega
          clear h1
          refine wp_region_quiet_below (by kernel_rfl) (by kernel_rfl) ?_
          repeat ((with_reducible refine wpQuiet_step (fun K hK => ?_)); go_simp; first | ((with_reducible refine hK _ ?_); clear hK K) | ((with_reducible rw [if_neg]); rotate_left; (intro hgd; cases hgd); (with_reducible refine hK _ ?_); clear hK K) | (apply Exists.intro; refine ⟨fun _ => ?_, hK _ ?_⟩; ((fail)); clear hK K))
          refine wpQuiet_nil ?_
          intro _ hw'
          obtain ⟨⟨dq, osq⟩, hw''⟩ := hw'
          subst hw''
          have hbq := below_regrown wq dq osq
          generalize grow (redrawn wq dq) osq = wq at hbq ⊢
          have Hb2 := Lib.hid ((Hend.out _ Hq1.out).trans (hbq.mono (Hend.out _ Hq1.out).size))
          clear hbq g0 g1 g2 g3 gx hk3 Hq1 Hend
          go_wp2
          go_roundw
          case rel => exact ⟨k + 2, by omega, by go_num, Hb2.out⟩
          case measure => simp [intOf]; omega
        · have hk3 : (y.kind == 3) = true := by simpa using h1
          obtain ⟨p, hp⟩ := Int.eq_ofNat_of_zero_le h2.1
          have hp4 : p < 4 := by omega
          have hne : (digA x y.place == y.digit) = false := by rw [← Hat.out]; simpa using h4
          have hdg := fun d os => digitAt_c (w := grow (redrawn wq d) os) Hxb.out hp4
          rw [← hp] at hdg
          have Hdg := Lib.hid hdg
          have hca2 : y.card = (ca : Int) := Hca.out
          rw [hca2] at g1
          have hcai : (ca : Int) < (m : Int) := by omega
          clear hp h1 h2 h3 h4 hdg hca2
          refine wp_region_quiet_below (by kernel_rfl) (by kernel_rfl) ?_
          repeat ((with_reducible refine wpQuiet_step (fun K hK => ?_)); go_simp; first | ((with_reducible refine hK _ ?_); clear hK K) | ((with_reducible rw [if_neg]); rotate_left; (intro hgd; cases hgd); (with_reducible refine hK _ ?_); clear hK K) | (apply Exists.intro; refine ⟨fun _ => ?_, hK _ ?_⟩; ((first | (go_at_call 66; with_reducible exact qb_below (Hdg.out _ _)))); clear hK K))
          refine wpQuiet_nil ?_
          intro _ hw'
          obtain ⟨⟨dq, osq⟩, hw''⟩ := hw'
          subst hw''
          have hbq := below_regrown wq dq osq
          generalize grow (redrawn wq dq) osq = wq at hbq ⊢
          have Hb2 := Lib.hid ((Hend.out _ Hq1.out).trans (hbq.mono (Hend.out _ Hq1.out).size))
          clear hbq g0 g1 g2 g3 gx hk3 Hq1 Hend hne hcai
          go_wp2
          go_roundw
          case rel => exact ⟨k + 2, by omega, by go_num, Hb2.out⟩
          case measure => simp [intOf]; omega
    · go_wp2
      go_ret
      exact ⟨ret_bool (by simp; omega), hb⟩
end Go.Proofs.YtahkkdkdaedioaaDoor
