/- What trays a flow uses: the reference's answer by its contract. No condition. -/
import Derived.Test.YtipldgbfenhknaaStpS
import Derived.Test.YtipldgbfenhknaaUseP
namespace Go.Proofs.Ytipldgbfenhknaa
open Go.ChangeShapes Go.WideShapes Go.ChangeAt Go.RowKit
set_option linter.unusedVariables false
set_option maxRecDepth 100000
def UseC (xs : List StepT) : Int := if flB xs 20 = true then 0 else 2
def UseR (xs : List StepT) : List Int := if flB xs 20 = true then selI (usesF xs).1 6 else []
/-- two slices of the call's own share no block -/
def Apart (v u : Value) : Prop := v.ownBlock = none ∨ v.ownBlock ≠ u.ownBlock
theorem Apart.new {v u : Value} {B : Nat} (h1 : ∀ k, v.ownBlock = some k → B ≤ k) (h2 : ∀ k, u.ownBlock = some k → k < B) : Apart v u := by
  unfold Apart
  cases hv : v.ownBlock with
  | none => exact .inl rfl
  | some g =>
    refine .inr fun e => ?_
    have a := h1 g hv
    have b := h2 g e.symm
    omega
theorem Apart.grew {v u u' : Value} {w w' : World} (h : Apart v u) (hv : ∀ k, v.ownBlock = some k → k < w.heap.size) (hg : Grew w w' u u') : Apart v u' := by
  rcases h with h | h
  · exact .inl h
  · cases hq : v.ownBlock with
    | none => exact .inl hq
    | some g =>
      refine .inr fun e => ?_
      rcases hg.2 with h2 | ⟨k, h2, h3⟩
      · exact h (by rw [e, h2])
      · rw [hq] at e
        rw [h2] at e
        have := hv g hq
        have h4 : g = k := by injection e
        omega
theorem step1_put {s : UM} {x : StepT} (h : s.2 x.ta = false) : (step1 s x).1 = addT s.1 x.ta true := by unfold step1; rw [h]; rfl
theorem step1_skip {s : UM} {x : StepT} (h : s.2 x.ta = true) : (step1 s x).1 = s.1 := by unfold step1; rw [h]; exact add_false _ _
set_option maxHeartbeats 2000000 in
theorem sFlowUses_c {xs : List StepT} {v : Value} {w : World} {A : Nat} (ha : RdStepS A w v xs) :
    Calls Try.prog 16 #[v] w fun e w' => ∃ u, e = .returned (.tuple #[u, .int .i64 (UseC xs)]) ∧ OwnInt64S w.heap.size w' u (UseR xs) ∧ Below w.heap.size w w' := by
  obtain ⟨i0, hi, hz0, hz1, hz2⟩ := info_parts Try.infoInt64
  have hle := ha.le
  have Ha := Lib.hid ha
  obtain ⟨ao, cap, rfl, ho⟩ := eStep_open ha
  obtain ⟨n, hn⟩ : ∃ n, n = xs.length := ⟨_, rfl⟩
  rw [← hn] at Ha hle ho ⊢
  have Hn := Lib.hid hn
  have Ho := Lib.hid ho
  clear ho hn ha
  cases hf : flB xs 20 with
  | false =>
    have e1 : UseC xs = 2 := by unfold UseC; rw [hf]; rfl
    have e2 : UseR xs = [] := by unfold UseR; rw [hf]; rfl
    rw [e1, e2]
    have Hf := Lib.hid hf
    clear e1 e2 hf
    go_enter Try.func16, Try.ntmps16
    go_wp2_with fail
    with_reducible refine (l15Flow_c 20 ⟨by decide, by decide⟩ Ha.out).mono ?_
    rw [Hf.out]
    rintro e w1 ⟨rfl, hb⟩
    go_wp2
    go_ret2
    exact ⟨_, rfl, Own.nil _ _ _ _, hb⟩
  | true =>
    have e1 : UseC xs = 0 := by unfold UseC; rw [hf]; rfl
    have e2 : UseR xs = selI (usesF xs).1 6 := by unfold UseR; rw [hf]; rfl
    rw [e1, e2]
    have Hfp := Lib.hid (flB_parts hf)
    have hn20 : n ≤ 20 := by have := Hfp.out.1; have := Hn.out; omega
    have Hf := Lib.hid hf
    clear e1 e2 hf
    go_enter Try.func16, Try.ntmps16
    go_wp2_with fail
    with_reducible refine (l15Flow_c 20 ⟨by decide, by decide⟩ Ha.out).mono ?_
    rw [Hf.out]
    rintro e w1 ⟨rfl, hb⟩
    have h0 : OwnInt64S w.heap.size ((w1.alloc (.cells #[] 2)).alloc (.cells #[] 2)) (.slice (some ⟨w1.heap.size, 0, none⟩) 0 0) [] := (Own.lit (E := eI) (xs := []) (cs := #[]) hb.size rfl rfl (by decide) (fun x hx => by cases hx)).alloc _
    have h1 : OwnInt64S w.heap.size ((w1.alloc (.cells #[] 2)).alloc (.cells #[] 2)) (.slice (some ⟨w1.heap.size + 1, 0, none⟩) 0 0) [] := by
      have h := Own.lit (E := eI) (e := 2) (w := w1.alloc (.cells #[] 2)) (xs := []) (cs := #[]) (n := 0) (base := w.heap.size) (by have := hb.size; simp; omega) rfl rfl (by decide) (fun x hx => by cases hx)
      simpa using h
    have hb0 : Below w.heap.size w ((w1.alloc (.cells #[] 2)).alloc (.cells #[] 2)) := (hb.alloc hb.size _).alloc (by have := hb.size; simp; omega) _
    have H0 := Lib.hid h0
    have H1 := Lib.hid h1
    have Hb0 := Lib.hid hb0
    clear h0 h1 hb0 hb
    go_wp2_with fail
    go_loopw [4, 5, 6] (fun v f i wr => ∃ (k : Nat) (F : List Int), k ≤ n ∧ i = .int .i64 k ∧ Hid (∀ t, hasI F t = (usesF (xs.take k)).2 t) ∧ F.length ≤ k ∧ OwnInt64S w.heap.size wr v (selI (usesF (xs.take k)).1 6) ∧ OwnInt64S w.heap.size wr f F ∧ Apart v f ∧ Below w.heap.size w wr) (fun _ _ i _ => n - (intOf i).toNat)
    case atStart => exact ⟨0, [], Nat.zero_le _, rfl, (fun t => rfl), Nat.le_refl _, H0.out, H1.out, .inr (by intro h; simp [Value.ownBlock] at h), Hb0.out⟩
    case round =>
      obtain ⟨k, F, hk, rfl, hF, hFl, hown, hfil, hap, hbb⟩ := hrel
      clear H0 H1 Hb0
      by_cases hkn : k < n
      · obtain ⟨b, off, rfl, hlt, hcc⟩ := Ho.out (by omega)
        obtain ⟨x, hx, ⟨c0, c1, c2, c3, c4, c5, c6, c7, c8⟩, bx⟩ := hcc k hkn
        have hA : StAt w b (off + k * 9) x := ⟨hlt.2, c0, c1, c2, c3, c4, c5, c6, c7, c8⟩
        have HA := Lib.hid (hA.below hbb hlt.2)
        have Hx := Lib.hid hx
        have Hok := Lib.hid (Hfp.out.2 x (List.mem_of_getElem? hx))
        have Hbx := Lib.hid bx
        have Hqa : Hid (eI.ok x.ta) := Lib.hid (by have := bx; unfold okStep at this; exact this.2.1)
        have Hqb : Hid (eI.ok x.tb) := Lib.hid (by have := bx; unfold okStep at this; exact this.2.2.1)
        have Hs := Lib.hid (usesF_snoc hx)
        obtain ⟨s, hs⟩ : ∃ s, usesF (xs.take k) = s := ⟨_, rfl⟩
        rw [hs] at hF hown
        have Hse := Lib.hid hs
        have hF1 := hF.out
        have Hb := Lib.hid hbb
        have Hown := Lib.hid hown
        have Hfil := Lib.hid hfil
        have Hap := Lib.hid hap
        have a0 := HA.out.c0
        have a1 := HA.out.c1
        have a2 := HA.out.c2
        have a3 := HA.out.c3
        clear hx hcc bx c0 c1 c2 c3 c4 c5 c6 c7 c8 hA hs hbb hown hfil hap
        go_wp2_with fail
        with_reducible refine (l00Has_c x.ta Hfil.out.rds).mono ?_
        cases hm : s.2 x.ta with
        | true =>
          have hm2 : hasI F x.ta = true := by rw [hF1, hm]
          rw [hm2]
          have Hm := Lib.hid hm
          clear hm hm2 hF1
          rintro e w2 ⟨rfl, rfl⟩
          have Hown1 : Hid (OwnInt64S w.heap.size wr _ (selI (step1 s x).1 6)) := Lib.hid (by rw [step1_skip Hm.out]; exact Hown.out)
          have Hb1 := Hb
          have Hfil1 := Hfil
          have Hap1 := Hap
          clear Hown Hb Hfil Hap
          have hF1 : ∀ t, hasI F t = (step1 s x).2 t := hF.out
          generalize hs1 : step1 s x = s1 at hF1 Hown1
          have Hs1 := Lib.hid hs1
          clear hs1
          by_cases h2 : twoP x.kd
          · have H2 := Lib.hid h2
            clear h2
            go_wp2_with fail
            with_reducible refine (l15Both_yes _ _ H2.out).mono ?_
            rintro e w9 ⟨rfl, rfl⟩
            go_wp2_with fail
            with_reducible refine (l00Has_c x.tb Hfil1.out.rds).mono ?_
            cases hm : s1.2 x.tb with
            | true =>
              have hm2 : hasI F x.tb = true := by rw [hF1, hm]
              rw [hm2]
              have Hm2 := Lib.hid hm
              have HF1 := Lib.hid hF1
              clear hm hm2 hF1
              rintro e w9 ⟨rfl, rfl⟩
              have Hown2 : Hid (OwnInt64S w.heap.size wr _ (selI (step2 s1 x).1 6)) := Lib.hid (by rw [step2_two H2.out]; dsimp only; rw [Hm2.out]; rw [show (!true) = false from rfl, add_false]; exact Hown1.out)
              have Hb2 := Hb1
              have Hfil2 := Hfil1
              have Hap2 := Hap1
              have HF2 : Hid (∀ t, hasI F t = (step2 s1 x).2 t) := Lib.hid (by rw [step2_two H2.out]; exact HF1.out)
              clear Hown1 Hb1 Hfil1 Hap1
              by_cases h7 : x.kd = 7
              · have q7 : (x.kd != 7) = false := by simpa using h7
                have Hst : Hid (usesF (xs.take (k + 1)) = step2 s1 x) := Lib.hid (by rw [Hs.out, Hse.out, stepU_eq, if_pos h7, Hs1.out])
                clear h7
                go_wp2
                go_roundw
                case rel => exact ⟨k + 1, F, by omega, by go_num, (by rw [Hst.out]; exact HF2.out), by omega, (by rw [Hst.out]; exact Hown2.out), Hfil2.out, Hap2.out, Hb2.out⟩
                case measure => simp [intOf]; omega
              · have q7 : (x.kd != 7) = true := by simpa using h7
                have Hst : Hid (usesF (xs.take (k + 1)) = ((step2 s1 x).1, addT (step2 s1 x).2 x.tc true)) := Lib.hid (by rw [Hs.out, Hse.out, stepU_eq, if_neg h7, Hs1.out])
                have Hqp : eI.ok x.tc := by have := Hbx.out; unfold okStep at this; exact this.2.2.2.1
                have hsz := Hb2.out.size
                clear h7
                go_wp2_with (first | (at_builtin; refine wpList_appS (E := eI) rfl _ _ 24 rfl Try.underlying24 hi hz0 hz1 hz2 rfl (by decide) rfl rfl (Hfil2.out.alloc _) (rds_one (E := eI) (x := x.tc) Hqp rfl) ?b1 ?b2 ?b3 ?_))
                case b1 => unfold maxLen; (try simp); omega
                case b2 => (try simp); omega
                case b3 => (try simp); omega
                intro v' w7 hown3 hg3
                have hb3 : Below w.heap.size w w7 := hg3.alloc.below Hb2.out Hb2.out.size (fun j hj => (Hfil2.out.lt j hj).1)
                have Hown3 := Lib.hid (Hown2.out.kept hg3.alloc.1 Hap2.out)
                have Hap3 := Lib.hid (Hap2.out.grew (fun q hq => (Hown2.out.lt q hq).2) hg3.alloc)
                have Hfil3 := Lib.hid hown3
                clear hg3 hown3 Hb2 Hfil2 Hap2 Hown2 a0 a1 a2 a3 HA
                go_wp2
                go_roundw
                case rel => exact ⟨k + 1, F ++ [x.tc], by omega, by go_num, (by rw [Hst.out]; intro t; rw [has_snoc, HF2.out t]; unfold addT; simp), by simp; omega, (by rw [Hst.out]; exact Hown3.out), Hfil3.out, Hap3.out, hb3⟩
                case measure => simp [intOf]; omega
            | false =>
              have hm2 : hasI F x.tb = false := by rw [hF1, hm]
              rw [hm2]
              have Hm2 := Lib.hid hm
              have HF1 := Lib.hid hF1
              clear hm hm2 hF1
              rintro e w9 ⟨rfl, rfl⟩
              go_wp2_with fail
              with_reducible refine (l00Put_c x.tb Hqb.out Hown1.out.rds (by have := selI_len s1.1 6; omega)).mono ?_
              rintro e w3 ⟨u3, rfl, hu, hb3⟩
              have Hown2 : Hid (OwnInt64S w.heap.size w3 u3 (selI (step2 s1 x).1 6)) := Lib.hid (by rw [step2_two H2.out]; dsimp only; rw [Hm2.out, show (!false) = true from rfl, ← put_sel s1.1 Hok.out.tb]; exact hu.mono Hb1.out.size)
              have Hb2 := Lib.hid (Hb1.out.trans (hb3.mono Hb1.out.size))
              have Hfil2 := Lib.hid (Hfil1.out.below hb3 (Nat.le_refl _))
              have Hap2 : Hid (Apart u3 _) := Lib.hid (Apart.new (B := wr.heap.size) (fun q hq => (hu.lt q hq).1) (fun q hq => (Hfil1.out.lt q hq).2))
              have HA1 := Lib.hid (HA.out.on hb3)
              have HF2 : Hid (∀ t, hasI F t = (step2 s1 x).2 t) := Lib.hid (by rw [step2_two H2.out]; exact HF1.out)
              clear hu hb3 Hown1 Hb1 Hfil1 Hap1 a0 a1 a2 a3 HA
              have a0 := HA1.out.c0
              have a1 := HA1.out.c1
              have a2 := HA1.out.c2
              have a3 := HA1.out.c3
              have HA := HA1
              clear HA1
              by_cases h7 : x.kd = 7
              · have q7 : (x.kd != 7) = false := by simpa using h7
                have Hst : Hid (usesF (xs.take (k + 1)) = step2 s1 x) := Lib.hid (by rw [Hs.out, Hse.out, stepU_eq, if_pos h7, Hs1.out])
                clear h7
                go_wp2
                go_roundw
                case rel => exact ⟨k + 1, F, by omega, by go_num, (by rw [Hst.out]; exact HF2.out), by omega, (by rw [Hst.out]; exact Hown2.out), Hfil2.out, Hap2.out, Hb2.out⟩
                case measure => simp [intOf]; omega
              · have q7 : (x.kd != 7) = true := by simpa using h7
                have Hst : Hid (usesF (xs.take (k + 1)) = ((step2 s1 x).1, addT (step2 s1 x).2 x.tc true)) := Lib.hid (by rw [Hs.out, Hse.out, stepU_eq, if_neg h7, Hs1.out])
                have Hqp : eI.ok x.tc := by have := Hbx.out; unfold okStep at this; exact this.2.2.2.1
                have hsz := Hb2.out.size
                clear h7
                go_wp2_with (first | (at_builtin; refine wpList_appS (E := eI) rfl _ _ 24 rfl Try.underlying24 hi hz0 hz1 hz2 rfl (by decide) rfl rfl (Hfil2.out.alloc _) (rds_one (E := eI) (x := x.tc) Hqp rfl) ?b1 ?b2 ?b3 ?_))
                case b1 => unfold maxLen; (try simp); omega
                case b2 => (try simp); omega
                case b3 => (try simp); omega
                intro v' w7 hown3 hg3
                have hb3 : Below w.heap.size w w7 := hg3.alloc.below Hb2.out Hb2.out.size (fun j hj => (Hfil2.out.lt j hj).1)
                have Hown3 := Lib.hid (Hown2.out.kept hg3.alloc.1 Hap2.out)
                have Hap3 := Lib.hid (Hap2.out.grew (fun q hq => (Hown2.out.lt q hq).2) hg3.alloc)
                have Hfil3 := Lib.hid hown3
                clear hg3 hown3 Hb2 Hfil2 Hap2 Hown2 a0 a1 a2 a3 HA
                go_wp2
                go_roundw
                case rel => exact ⟨k + 1, F ++ [x.tc], by omega, by go_num, (by rw [Hst.out]; intro t; rw [has_snoc, HF2.out t]; unfold addT; simp), by simp; omega, (by rw [Hst.out]; exact Hown3.out), Hfil3.out, Hap3.out, hb3⟩
                case measure => simp [intOf]; omega
          · have H2 := Lib.hid h2
            clear h2
            go_wp2_with fail
            with_reducible refine (l15Both_no _ _ H2.out).mono ?_
            rintro e w9 ⟨rfl, rfl⟩
            have Hown2 : Hid (OwnInt64S w.heap.size wr _ (selI (step2 s1 x).1 6)) := Lib.hid (by rw [step2_one H2.out]; exact Hown1.out)
            have Hb2 := Hb1
            have Hfil2 := Hfil1
            have Hap2 := Hap1
            have HF2 : Hid (∀ t, hasI F t = (step2 s1 x).2 t) := Lib.hid (by rw [step2_one H2.out]; exact hF1)
            clear Hown1 Hb1 Hfil1 Hap1 hF1
            by_cases h7 : x.kd = 7
            · have q7 : (x.kd != 7) = false := by simpa using h7
              have Hst : Hid (usesF (xs.take (k + 1)) = step2 s1 x) := Lib.hid (by rw [Hs.out, Hse.out, stepU_eq, if_pos h7, Hs1.out])
              clear h7
              go_wp2
              go_roundw
              case rel => exact ⟨k + 1, F, by omega, by go_num, (by rw [Hst.out]; exact HF2.out), by omega, (by rw [Hst.out]; exact Hown2.out), Hfil2.out, Hap2.out, Hb2.out⟩
              case measure => simp [intOf]; omega
            · have q7 : (x.kd != 7) = true := by simpa using h7
              have Hst : Hid (usesF (xs.take (k + 1)) = ((step2 s1 x).1, addT (step2 s1 x).2 x.tc true)) := Lib.hid (by rw [Hs.out, Hse.out, stepU_eq, if_neg h7, Hs1.out])
              have Hqp : eI.ok x.tc := by have := Hbx.out; unfold okStep at this; exact this.2.2.2.1
              have hsz := Hb2.out.size
              clear h7
              go_wp2_with (first | (at_builtin; refine wpList_appS (E := eI) rfl _ _ 24 rfl Try.underlying24 hi hz0 hz1 hz2 rfl (by decide) rfl rfl (Hfil2.out.alloc _) (rds_one (E := eI) (x := x.tc) Hqp rfl) ?b1 ?b2 ?b3 ?_))
              case b1 => unfold maxLen; (try simp); omega
              case b2 => (try simp); omega
              case b3 => (try simp); omega
              intro v' w7 hown3 hg3
              have hb3 : Below w.heap.size w w7 := hg3.alloc.below Hb2.out Hb2.out.size (fun j hj => (Hfil2.out.lt j hj).1)
              have Hown3 := Lib.hid (Hown2.out.kept hg3.alloc.1 Hap2.out)
              have Hap3 := Lib.hid (Hap2.out.grew (fun q hq => (Hown2.out.lt q hq).2) hg3.alloc)
              have Hfil3 := Lib.hid hown3
              clear hg3 hown3 Hb2 Hfil2 Hap2 Hown2 a0 a1 a2 a3 HA
              go_wp2
              go_roundw
              case rel => exact ⟨k + 1, F ++ [x.tc], by omega, by go_num, (by rw [Hst.out]; intro t; rw [has_snoc, HF2.out t]; unfold addT; simp), by simp; omega, (by rw [Hst.out]; exact Hown3.out), Hfil3.out, Hap3.out, hb3⟩
              case measure => simp [intOf]; omega
        | false =>
          have hm2 : hasI F x.ta = false := by rw [hF1, hm]
          rw [hm2]
          have Hm := Lib.hid hm
          clear hm hm2 hF1
          rintro e w2 ⟨rfl, rfl⟩
          go_wp2_with fail
          with_reducible refine (l00Put_c x.ta Hqa.out Hown.out.rds (by have := selI_len s.1 6; omega)).mono ?_
          rintro e w2 ⟨u, rfl, hu, hb2⟩
          have Hown1 : Hid (OwnInt64S w.heap.size w2 u (selI (step1 s x).1 6)) := Lib.hid (by rw [step1_put Hm.out, ← put_sel s.1 Hok.out.ta]; exact hu.mono Hb.out.size)
          have Hb1 := Lib.hid (Hb.out.trans (hb2.mono Hb.out.size))
          have Hfil1 := Lib.hid (Hfil.out.below hb2 (Nat.le_refl _))
          have Hap1 : Hid (Apart u _) := Lib.hid (Apart.new (B := wr.heap.size) (fun q hq => (hu.lt q hq).1) (fun q hq => (Hfil.out.lt q hq).2))
          have HA1 := Lib.hid (HA.out.on hb2)
          clear hu hb2 Hown Hb Hfil Hap a0 a1 a2 a3 HA
          have a0 := HA1.out.c0
          have a1 := HA1.out.c1
          have a2 := HA1.out.c2
          have a3 := HA1.out.c3
          have HA := HA1
          clear HA1
          have hF1 : ∀ t, hasI F t = (step1 s x).2 t := hF.out
          generalize hs1 : step1 s x = s1 at hF1 Hown1
          have Hs1 := Lib.hid hs1
          clear hs1
          by_cases h2 : twoP x.kd
          · have H2 := Lib.hid h2
            clear h2
            go_wp2_with fail
            with_reducible refine (l15Both_yes _ _ H2.out).mono ?_
            rintro e w9 ⟨rfl, rfl⟩
            go_wp2_with fail
            with_reducible refine (l00Has_c x.tb Hfil1.out.rds).mono ?_
            cases hm : s1.2 x.tb with
            | true =>
              have hm2 : hasI F x.tb = true := by rw [hF1, hm]
              rw [hm2]
              have Hm2 := Lib.hid hm
              have HF1 := Lib.hid hF1
              clear hm hm2 hF1
              rintro e w9 ⟨rfl, rfl⟩
              have Hown2 : Hid (OwnInt64S w.heap.size w2 _ (selI (step2 s1 x).1 6)) := Lib.hid (by rw [step2_two H2.out]; dsimp only; rw [Hm2.out]; rw [show (!true) = false from rfl, add_false]; exact Hown1.out)
              have Hb2 := Hb1
              have Hfil2 := Hfil1
              have Hap2 := Hap1
              have HF2 : Hid (∀ t, hasI F t = (step2 s1 x).2 t) := Lib.hid (by rw [step2_two H2.out]; exact HF1.out)
              clear Hown1 Hb1 Hfil1 Hap1
              by_cases h7 : x.kd = 7
              · have q7 : (x.kd != 7) = false := by simpa using h7
                have Hst : Hid (usesF (xs.take (k + 1)) = step2 s1 x) := Lib.hid (by rw [Hs.out, Hse.out, stepU_eq, if_pos h7, Hs1.out])
                clear h7
                go_wp2
                go_roundw
                case rel => exact ⟨k + 1, F, by omega, by go_num, (by rw [Hst.out]; exact HF2.out), by omega, (by rw [Hst.out]; exact Hown2.out), Hfil2.out, Hap2.out, Hb2.out⟩
                case measure => simp [intOf]; omega
              · have q7 : (x.kd != 7) = true := by simpa using h7
                have Hst : Hid (usesF (xs.take (k + 1)) = ((step2 s1 x).1, addT (step2 s1 x).2 x.tc true)) := Lib.hid (by rw [Hs.out, Hse.out, stepU_eq, if_neg h7, Hs1.out])
                have Hqp : eI.ok x.tc := by have := Hbx.out; unfold okStep at this; exact this.2.2.2.1
                have hsz := Hb2.out.size
                clear h7
                go_wp2_with (first | (at_builtin; refine wpList_appS (E := eI) rfl _ _ 24 rfl Try.underlying24 hi hz0 hz1 hz2 rfl (by decide) rfl rfl (Hfil2.out.alloc _) (rds_one (E := eI) (x := x.tc) Hqp rfl) ?b1 ?b2 ?b3 ?_))
                case b1 => unfold maxLen; (try simp); omega
                case b2 => (try simp); omega
                case b3 => (try simp); omega
                intro v' w7 hown3 hg3
                have hb3 : Below w.heap.size w w7 := hg3.alloc.below Hb2.out Hb2.out.size (fun j hj => (Hfil2.out.lt j hj).1)
                have Hown3 := Lib.hid (Hown2.out.kept hg3.alloc.1 Hap2.out)
                have Hap3 := Lib.hid (Hap2.out.grew (fun q hq => (Hown2.out.lt q hq).2) hg3.alloc)
                have Hfil3 := Lib.hid hown3
                clear hg3 hown3 Hb2 Hfil2 Hap2 Hown2 a0 a1 a2 a3 HA
                go_wp2
                go_roundw
                case rel => exact ⟨k + 1, F ++ [x.tc], by omega, by go_num, (by rw [Hst.out]; intro t; rw [has_snoc, HF2.out t]; unfold addT; simp), by simp; omega, (by rw [Hst.out]; exact Hown3.out), Hfil3.out, Hap3.out, hb3⟩
                case measure => simp [intOf]; omega
            | false =>
              have hm2 : hasI F x.tb = false := by rw [hF1, hm]
              rw [hm2]
              have Hm2 := Lib.hid hm
              have HF1 := Lib.hid hF1
              clear hm hm2 hF1
              rintro e w9 ⟨rfl, rfl⟩
              go_wp2_with fail
              with_reducible refine (l00Put_c x.tb Hqb.out Hown1.out.rds (by have := selI_len s1.1 6; omega)).mono ?_
              rintro e w3 ⟨u3, rfl, hu, hb3⟩
              have Hown2 : Hid (OwnInt64S w.heap.size w3 u3 (selI (step2 s1 x).1 6)) := Lib.hid (by rw [step2_two H2.out]; dsimp only; rw [Hm2.out, show (!false) = true from rfl, ← put_sel s1.1 Hok.out.tb]; exact hu.mono Hb1.out.size)
              have Hb2 := Lib.hid (Hb1.out.trans (hb3.mono Hb1.out.size))
              have Hfil2 := Lib.hid (Hfil1.out.below hb3 (Nat.le_refl _))
              have Hap2 : Hid (Apart u3 _) := Lib.hid (Apart.new (B := w2.heap.size) (fun q hq => (hu.lt q hq).1) (fun q hq => (Hfil1.out.lt q hq).2))
              have HA1 := Lib.hid (HA.out.on hb3)
              have HF2 : Hid (∀ t, hasI F t = (step2 s1 x).2 t) := Lib.hid (by rw [step2_two H2.out]; exact HF1.out)
              clear hu hb3 Hown1 Hb1 Hfil1 Hap1 a0 a1 a2 a3 HA
              have a0 := HA1.out.c0
              have a1 := HA1.out.c1
              have a2 := HA1.out.c2
              have a3 := HA1.out.c3
              have HA := HA1
              clear HA1
              by_cases h7 : x.kd = 7
              · have q7 : (x.kd != 7) = false := by simpa using h7
                have Hst : Hid (usesF (xs.take (k + 1)) = step2 s1 x) := Lib.hid (by rw [Hs.out, Hse.out, stepU_eq, if_pos h7, Hs1.out])
                clear h7
                go_wp2
                go_roundw
                case rel => exact ⟨k + 1, F, by omega, by go_num, (by rw [Hst.out]; exact HF2.out), by omega, (by rw [Hst.out]; exact Hown2.out), Hfil2.out, Hap2.out, Hb2.out⟩
                case measure => simp [intOf]; omega
              · have q7 : (x.kd != 7) = true := by simpa using h7
                have Hst : Hid (usesF (xs.take (k + 1)) = ((step2 s1 x).1, addT (step2 s1 x).2 x.tc true)) := Lib.hid (by rw [Hs.out, Hse.out, stepU_eq, if_neg h7, Hs1.out])
                have Hqp : eI.ok x.tc := by have := Hbx.out; unfold okStep at this; exact this.2.2.2.1
                have hsz := Hb2.out.size
                clear h7
                go_wp2_with (first | (at_builtin; refine wpList_appS (E := eI) rfl _ _ 24 rfl Try.underlying24 hi hz0 hz1 hz2 rfl (by decide) rfl rfl (Hfil2.out.alloc _) (rds_one (E := eI) (x := x.tc) Hqp rfl) ?b1 ?b2 ?b3 ?_))
                case b1 => unfold maxLen; (try simp); omega
                case b2 => (try simp); omega
                case b3 => (try simp); omega
                intro v' w7 hown3 hg3
                have hb3 : Below w.heap.size w w7 := hg3.alloc.below Hb2.out Hb2.out.size (fun j hj => (Hfil2.out.lt j hj).1)
                have Hown3 := Lib.hid (Hown2.out.kept hg3.alloc.1 Hap2.out)
                have Hap3 := Lib.hid (Hap2.out.grew (fun q hq => (Hown2.out.lt q hq).2) hg3.alloc)
                have Hfil3 := Lib.hid hown3
                clear hg3 hown3 Hb2 Hfil2 Hap2 Hown2 a0 a1 a2 a3 HA
                go_wp2
                go_roundw
                case rel => exact ⟨k + 1, F ++ [x.tc], by omega, by go_num, (by rw [Hst.out]; intro t; rw [has_snoc, HF2.out t]; unfold addT; simp), by simp; omega, (by rw [Hst.out]; exact Hown3.out), Hfil3.out, Hap3.out, hb3⟩
                case measure => simp [intOf]; omega
          · have H2 := Lib.hid h2
            clear h2
            go_wp2_with fail
            with_reducible refine (l15Both_no _ _ H2.out).mono ?_
            rintro e w9 ⟨rfl, rfl⟩
            have Hown2 : Hid (OwnInt64S w.heap.size w2 _ (selI (step2 s1 x).1 6)) := Lib.hid (by rw [step2_one H2.out]; exact Hown1.out)
            have Hb2 := Hb1
            have Hfil2 := Hfil1
            have Hap2 := Hap1
            have HF2 : Hid (∀ t, hasI F t = (step2 s1 x).2 t) := Lib.hid (by rw [step2_one H2.out]; exact hF1)
            clear Hown1 Hb1 Hfil1 Hap1 hF1
            by_cases h7 : x.kd = 7
            · have q7 : (x.kd != 7) = false := by simpa using h7
              have Hst : Hid (usesF (xs.take (k + 1)) = step2 s1 x) := Lib.hid (by rw [Hs.out, Hse.out, stepU_eq, if_pos h7, Hs1.out])
              clear h7
              go_wp2
              go_roundw
              case rel => exact ⟨k + 1, F, by omega, by go_num, (by rw [Hst.out]; exact HF2.out), by omega, (by rw [Hst.out]; exact Hown2.out), Hfil2.out, Hap2.out, Hb2.out⟩
              case measure => simp [intOf]; omega
            · have q7 : (x.kd != 7) = true := by simpa using h7
              have Hst : Hid (usesF (xs.take (k + 1)) = ((step2 s1 x).1, addT (step2 s1 x).2 x.tc true)) := Lib.hid (by rw [Hs.out, Hse.out, stepU_eq, if_neg h7, Hs1.out])
              have Hqp : eI.ok x.tc := by have := Hbx.out; unfold okStep at this; exact this.2.2.2.1
              have hsz := Hb2.out.size
              clear h7
              go_wp2_with (first | (at_builtin; refine wpList_appS (E := eI) rfl _ _ 24 rfl Try.underlying24 hi hz0 hz1 hz2 rfl (by decide) rfl rfl (Hfil2.out.alloc _) (rds_one (E := eI) (x := x.tc) Hqp rfl) ?b1 ?b2 ?b3 ?_))
              case b1 => unfold maxLen; (try simp); omega
              case b2 => (try simp); omega
              case b3 => (try simp); omega
              intro v' w7 hown3 hg3
              have hb3 : Below w.heap.size w w7 := hg3.alloc.below Hb2.out Hb2.out.size (fun j hj => (Hfil2.out.lt j hj).1)
              have Hown3 := Lib.hid (Hown2.out.kept hg3.alloc.1 Hap2.out)
              have Hap3 := Lib.hid (Hap2.out.grew (fun q hq => (Hown2.out.lt q hq).2) hg3.alloc)
              have Hfil3 := Lib.hid hown3
              clear hg3 hown3 Hb2 Hfil2 Hap2 Hown2 a0 a1 a2 a3 HA
              go_wp2
              go_roundw
              case rel => exact ⟨k + 1, F ++ [x.tc], by omega, by go_num, (by rw [Hst.out]; intro t; rw [has_snoc, HF2.out t]; unfold addT; simp), by simp; omega, (by rw [Hst.out]; exact Hown3.out), Hfil3.out, Hap3.out, hb3⟩
              case measure => simp [intOf]; omega
      · obtain rfl : k = n := by omega
        go_wp2
        go_ret2
        have hN := Hn.out
        rw [List.take_of_length_le (by omega)] at hown
        exact ⟨_, rfl, hown, hbb⟩
end Go.Proofs.Ytipldgbfenhknaa
