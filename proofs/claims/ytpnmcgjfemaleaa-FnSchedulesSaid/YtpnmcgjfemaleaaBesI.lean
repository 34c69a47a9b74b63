/- Best orders: the program's walk through all orders. No condition. -/
import Derived.Test.YtpnmcgjfemaleaaBesS2
import Derived.Test.YtpnmcgjfemaleaaRegL
import Derived.Deep.DrawnRows
import Derived.Deep.DeepCutAuto
namespace Go.Proofs.Ytpnmcgjfemaleaa
open Go.ChangeShapes Go.WideShapes Go.ChangeAt Go.RowKit Go.Sort
set_option linter.unusedVariables false
set_option maxRecDepth 100000
attribute [local go_sem ↓] Go.wp_at_zero Go.wp_at_succ
theorem Box.within {w w' : World} {b lo hi : Nat} {cs : List Value} (h : Box w b cs) (hw : Within lo hi w w') (hb : b < lo ∨ hi ≤ b) : Box w' b cs := by
  have h2 := hw.block b h.lt hb
  exact ⟨Nat.lt_of_lt_of_le h.lt hw.size, fun j v hj => (World.cell?_of_block (w := w) (a := ⟨b, j, none⟩) h2).trans (h.cell j v hj), fun j => (World.frozen?_of_block (w := w) (a := ⟨b, j, none⟩) h2).trans (h.free j)⟩
theorem within_of_below {lo hi : Nat} {w w' : World} (h : Below w.heap.size w w') : Within lo hi w w' := ⟨h.os, h.tape, h.output, h.size, fun k hk _ => h.block k hk⟩
theorem Own.within {α : Type} {E : Elt α} {e : TypeId} {base lo hi : Nat} {w w' : World} {v : Value} {xs : List α} (h : Own E e base w v xs) (hw : Within lo hi w w') (hhi : hi ≤ base) : Own E e base w' v xs := ((Own.top h).within hw hhi).1
theorem rds_after {w w3 : World} {k : Int} {T : TypeId} (hb : Below (w.alloc (.cells #[.int .i64 k] T)).drew.heap.size (w.alloc (.cells #[.int .i64 k] T)).drew w3) (hk : eI.ok k) : RdI (w.heap.size + 1) w3 (.slice (some ⟨w.heap.size, 0, none⟩) 1 1) [k] := by
  have h := rds_one (E := eI) (e := T) (w := w) (x := k) (cs := #[.int .i64 k]) hk rfl
  exact Rds.below (w := (w.alloc (.cells #[.int .i64 k] T)).drew) h hb (by show w.heap.size + 1 ≤ (w.alloc (.cells #[.int .i64 k] T)).heap.size; simp)
/-- the best one so far -/
def BstI (OB BB : Nat) (xss : List (List Int)) (W : World) (bst : List Int) : Prop :=
  ∃ fv, Box W BB [fv] ∧ OwnInt64S OB W fv bst ∧ fv.ownBlock ≠ some BB ∧ (bst = [] ∨ (bst.length = xss.length ∧ ∀ i ∈ bst, 0 ≤ i ∧ i < xss.length))
theorem BstI.on {OB BB : Nat} {xss : List (List Int)} {W W' : World} {bst : List Int} (h : BstI OB BB xss W bst) (hb : Below W.heap.size W W') : BstI OB BB xss W' bst := by
  obtain ⟨fv, h1, h2, h3⟩ := h
  exact ⟨fv, h1.on hb, h2.below hb (Nat.le_refl _), h3⟩
/-- what the walk finds -/
structure EnvI (A J BB VB OB : Nat) (xss : List (List Int)) (jv : Value) (W : World) : Prop where
  jobs : RdInt64SS A W jv xss
  jbox : Box W J [jv]
  vbox : Box W VB [.func (.func 57) #[] #[.pointer (some ⟨J, 0, none⟩), .pointer (some ⟨VB, 0, none⟩), .pointer (some ⟨BB, 0, none⟩)]]
theorem EnvI.on {A J BB VB OB : Nat} {xss : List (List Int)} {jv : Value} {W W' : World} (h : EnvI A J BB VB OB xss jv W) (hA : A ≤ W.heap.size) (hb : Below W.heap.size W W') : EnvI A J BB VB OB xss jv W' := ⟨h.jobs.below hb hA, h.jbox.on hb, h.vbox.on hb⟩
theorem EnvI.within {A J BB VB OB : Nat} {xss : List (List Int)} {jv : Value} {W W' : World} (h : EnvI A J BB VB OB xss jv W) (hA : A ≤ BB) (hJ : J < BB) (hV : BB < VB) (hB : BB ≤ W.heap.size) (hw : Within BB (BB + 1) W W') : EnvI A J BB VB OB xss jv W' :=
  ⟨h.jobs.below (hw.below hB) hA, h.jbox.within hw (.inl hJ), h.vbox.within hw (.inr hV)⟩
set_option maxHeartbeats 4000000 in
theorem bvisit_c {xss : List (List Int)} {jv : Value} {A J BB VB OB : Nat} (hv : validJ xss = true) (hA : A ≤ BB) (hJ : J < BB) (hV : BB < VB) (hO : OB ≤ BB) :
    ∀ (f : Nat) (W : World) (wv : Value) (o bst : List Int), EnvI A J BB VB OB xss jv W → BstI OB BB xss W bst → OwnInt64S (VB + 1) W wv o → o.length + f = xss.length → (∀ i ∈ o, 0 ≤ i ∧ i < xss.length) → o.Nodup →
    Calls Try.prog 57 #[wv, .pointer (some ⟨J, 0, none⟩), .pointer (some ⟨VB, 0, none⟩), .pointer (some ⟨BB, 0, none⟩)] W fun e w' => e = .returned (.tuple #[]) ∧ BstI OB BB xss w' (visitB xss xss.length f o bst) ∧ Within BB (BB + 1) W w' := by
  obtain ⟨hn8, hm4, hrows⟩ := validJ_parts hv
  obtain ⟨i0, hi, hz0, hz1, hz2⟩ := info_parts Try.infoInt64
  intro f
  induction f with
  | zero =>
    intro W wv o bst henv hbst hw hlen hr hnd
    obtain ⟨n, hn⟩ : ∃ n, n = xss.length := ⟨_, rfl⟩
    have hol : o.length = n := by omega
    have hall : ∀ k : Nat, k < n → hasI o (k : Int) = true := by
      intro k hk
      have hp := orderP_perm.1 (show orderP n o from ⟨hol, by rw [hn]; exact hr, hnd⟩)
      have : (k : Int) ∈ o := hp.mem_iff.2 (rangeI_mem.2 ⟨by omega, by omega⟩)
      rw [hasI_contains]
      simpa using this
    have ev : visitB xss xss.length 0 o bst = bStep xss bst o := rfl
    rw [ev]
    have hVl := henv.vbox.lt
    have hwr := hw.rds
    obtain ⟨wa, wc, hwe⟩ := hw.shape
    obtain ⟨la, lc, hle⟩ := henv.jobs.shape
    rw [hol] at hwe
    rw [← hn] at hle hn8
    subst hwe hle
    have c0 := henv.jbox.cell 0 _ rfl
    have Henv := Lib.hid henv
    have Hbst := Lib.hid hbst
    have Hw := Lib.hid hw
    have Hall := Lib.hid hall
    have Hn := Lib.hid hn
    have Hol := Lib.hid hol
    have Hr := Lib.hid hr
    clear henv hbst hw hall hn hol hr hnd hlen hwr ev
    go_enter Try.func57, Try.ntmps57
    go_wp2_with fail
    with_reducible refine (sizeS_any (xss := []) (by omega)).mono ?_
    rintro e w1 ⟨rfl, rfl⟩
    go_wp2
    clear c0
    go_loop [8] (fun i => ∃ k : Nat, k ≤ n ∧ i = .int .i64 k) (fun i => n - (intOf i).toNat)
    case atStart => exact ⟨0, Nat.zero_le _, rfl⟩
    case round =>
      obtain ⟨k, hk, rfl⟩ := hrel
      by_cases hkn : k < n
      · go_wp2_with fail
        with_reducible refine (containsI_c (k : Int) Hw.out.rds).mono ?_
        rw [Hall.out k hkn]
        rintro e w2 ⟨rfl, rfl⟩
        go_wp2
        go_round
        case rel => exact ⟨k + 1, by omega, by go_num⟩
        case measure => simp [intOf]; omega
      · obtain rfl : k = n := by omega
        obtain ⟨fv, hbb, hf, hfn, hin⟩ := Hbst.out
        obtain ⟨fa, fc, hfe⟩ := hf.shape
        obtain ⟨nf, hnf⟩ : ∃ nf, nf = bst.length := ⟨_, rfl⟩
        rw [← hnf] at hfe
        subst hfe
        have c0 := Henv.out.jbox.cell 0 _ rfl
        have c3 := hbb.cell 0 _ rfl
        have hBl := hbb.lt
        have hjz : A ≤ W.heap.size ∧ VB + 1 ≤ W.heap.size := by omega
        have hcon1 := fun d os => spanOf_c (w := grow (redrawn W d) os) (A := A) (B := W.heap.size) (Nat.le_trans hjz.1 (below_regrown W d os).size) (below_regrown W d os).size (Henv.out.jobs.below (below_regrown W d os) hjz.1) (Rds.regrown Hw.out.rds (Nat.le_refl _) d os) hv Hr.out (by have := Hol.out; omega) (fun h => by have := Hol.out; rw [h] at this; simp at this; omega)
        have f0 := cell_regrown c0
        have f3 := cell_regrown c3
        have t1 : ((k : Int) == (k : Int)) = true := by simp
        generalize hsp : spanJ xss o = sp at hcon1
        have Hsp := Lib.hid hsp
        have Hcon1 := Lib.hid hcon1
        have Hbb := Lib.hid hbb
        have Hf := Lib.hid hf
        have Hfn := Lib.hid hfn
        have Hnf := Lib.hid hnf
        have Hin := Lib.hid hin
        clear c0 c3 hcon1 hbb hf hfn hnf hin hsp
        by_cases h0 : nf = 0
        · have t0 : ((nf : Int) == 0) = true := by simp; omega
          have Hbs : Hid (bStep xss bst o = o) := Lib.hid (by unfold bStep; rw [if_pos (.inl (List.eq_nil_of_length_eq_zero (by have := Hnf.out; omega)))])
          clear h0
          go_wp2
          refine wp_region_quiet_below (by kernel_rfl) (by kernel_rfl) ?_
          repeat ((with_reducible refine wpQuiet_step (fun K hK => ?_)); go_simp; first | ((with_reducible refine hK _ ?_); clear hK K) | (apply Exists.intro; refine ⟨fun _ => ?_, hK _ ?_⟩; ((fail)); clear hK K))
          refine wpQuiet_nil ?_
          intro _ hw'
          obtain ⟨⟨dq, osq⟩, hw''⟩ := hw'
          subst hw''
          have hbq := below_regrown W dq osq
          generalize grow (redrawn W dq) osq = wq at hbq ⊢
          have HB2 := Lib.hid (Hbb.out.on hbq)
          have HW2 := Lib.hid (Hw.out.below hbq (Nat.le_refl _))
          have Hq := Lib.hid hbq
          have g3 := HB2.out.cell 0 _ rfl
          have e3 := HB2.out.free 0
          have hun : (Value.slice wa k wc).ownBlock ≠ some BB := fun hh => by have h9 : VB + 1 ≤ BB := (HW2.out.lt _ hh).1; omega
          have HS : Hid (BstI OB BB xss (wq.setCell ⟨BB, 0, none⟩ (.slice wa k wc)) (bStep xss bst o)) := Lib.hid (by
            rw [Hbs.out]
            exact ⟨_, HB2.out.set1 (j := 0) (by simp) (.slice wa k wc), (HW2.out.mono (show OB ≤ VB + 1 by omega)).setApart (j := 0) hun (.slice wa k wc), hun, .inr ⟨by rw [Hol.out, Hn.out], Hr.out⟩⟩)
          have HWi : Hid (Within BB (BB + 1) W (wq.setCell ⟨BB, 0, none⟩ (.slice wa k wc))) := Lib.hid ((within_of_below Hq.out).trans (Within.of_grown (grown_set wq ⟨BB, 0, none⟩ _) fun k hk => by cases hk; show BB ≤ BB ∧ BB < BB + 1; omega))
          clear f0 f3 hbq hun
          go_wp2
          go_end0
          exact ⟨rfl, HS.out, HWi.out⟩
        · have t0 : ((nf : Int) == 0) = false := by simp; omega
          have hne : bst ≠ [] := fun h => h0 (by have := Hnf.out; rw [h] at this; exact this)
          have hbi := Hin.out.resolve_left hne
          have hcon2 := fun d os => spanOf_c (w := grow (redrawn W d) os) (A := A) (B := W.heap.size) (Nat.le_trans hjz.1 (below_regrown W d os).size) (below_regrown W d os).size (Henv.out.jobs.below (below_regrown W d os) hjz.1) (Rds.regrown Hf.out.rds (Nat.le_refl _) d os) hv hbi.2 (by have := Hn.out; omega) hne
          generalize hsb : spanJ xss bst = sb at hcon2
          have Hsb := Lib.hid hsb
          have Hcon2 := Lib.hid hcon2
          have Hne := Lib.hid hne
          clear hcon2 hsb hbi h0 hne
          by_cases h1 : sp < sb
          · have Hbs : Hid (bStep xss bst o = o) := Lib.hid (by unfold bStep; rw [if_pos (.inr (by rw [Hsp.out, Hsb.out]; exact h1))])
            have t2 : decide (sp < sb) = true := decide_eq_true h1
            go_wp2
            refine wp_region_quiet_below (by kernel_rfl) (by kernel_rfl) ?_
            repeat ((with_reducible refine wpQuiet_step (fun K hK => ?_)); go_simp; first | ((with_reducible refine hK _ ?_); clear hK K) | (apply Exists.intro; refine ⟨fun _ => ?_, hK _ ?_⟩; ((first | (go_at_call 60; with_reducible exact qb_below (Hcon1.out _ _)) | (go_at_call 60; with_reducible exact qb_below (Hcon2.out _ _)))); clear hK K))
            refine wpQuiet_nil ?_
            intro _ hw'
            obtain ⟨⟨dq, osq⟩, hw''⟩ := hw'
            subst hw''
            have hbq := below_regrown W dq osq
            generalize grow (redrawn W dq) osq = wq at hbq ⊢
            have HB2 := Lib.hid (Hbb.out.on hbq)
            have HW2 := Lib.hid (Hw.out.below hbq (Nat.le_refl _))
            have Hq := Lib.hid hbq
            have g3 := HB2.out.cell 0 _ rfl
            have e3 := HB2.out.free 0
            have hun : (Value.slice wa k wc).ownBlock ≠ some BB := fun hh => by have h9 : VB + 1 ≤ BB := (HW2.out.lt _ hh).1; omega
            have HS : Hid (BstI OB BB xss (wq.setCell ⟨BB, 0, none⟩ (.slice wa k wc)) (bStep xss bst o)) := Lib.hid (by
              rw [Hbs.out]
              exact ⟨_, HB2.out.set1 (j := 0) (by simp) (.slice wa k wc), (HW2.out.mono (show OB ≤ VB + 1 by omega)).setApart (j := 0) hun (.slice wa k wc), hun, .inr ⟨by rw [Hol.out, Hn.out], Hr.out⟩⟩)
            have HWi : Hid (Within BB (BB + 1) W (wq.setCell ⟨BB, 0, none⟩ (.slice wa k wc))) := Lib.hid ((within_of_below Hq.out).trans (Within.of_grown (grown_set wq ⟨BB, 0, none⟩ _) fun k hk => by cases hk; show BB ≤ BB ∧ BB < BB + 1; omega))
            clear f0 f3 hbq hun
            go_wp2
            go_end0
            exact ⟨rfl, HS.out, HWi.out⟩
          · have Hbs : Hid (bStep xss bst o = bst) := Lib.hid (by unfold bStep; rw [if_neg (by rw [Hsp.out, Hsb.out]; exact fun h => h.elim (fun h => Hne.out h) h1)])
            have t2 : decide (sp < sb) = false := decide_eq_false h1
            clear h1
            go_wp2
            refine wp_region_quiet_below (by kernel_rfl) (by kernel_rfl) ?_
            repeat ((with_reducible refine wpQuiet_step (fun K hK => ?_)); go_simp; first | ((with_reducible refine hK _ ?_); clear hK K) | (apply Exists.intro; refine ⟨fun _ => ?_, hK _ ?_⟩; ((first | (go_at_call 60; with_reducible exact qb_below (Hcon1.out _ _)) | (go_at_call 60; with_reducible exact qb_below (Hcon2.out _ _)))); clear hK K))
            refine wpQuiet_nil ?_
            intro _ hw'
            obtain ⟨⟨dq, osq⟩, hw''⟩ := hw'
            subst hw''
            have hbq := below_regrown W dq osq
            generalize grow (redrawn W dq) osq = wq at hbq ⊢
            have HS : Hid (BstI OB BB xss wq (bStep xss bst o)) := Lib.hid (by
              rw [Hbs.out]
              exact ⟨_, Hbb.out.on hbq, Hf.out.below hbq (Nat.le_refl _), Hfn.out, Hin.out⟩)
            have HWi : Hid (Within BB (BB + 1) W wq) := Lib.hid (within_of_below hbq)
            clear f0 f3 hbq
            go_wp2
            go_end0
            exact ⟨rfl, HS.out, HWi.out⟩
  | succ f ih =>
    intro W wv o bst henv hbst hw hlen hr hnd
    obtain ⟨n, hn⟩ : ∃ n, n = xss.length := ⟨_, rfl⟩
    obtain ⟨m, hm⟩ : ∃ m, m = o.length := ⟨_, rfl⟩
    have hlt : m < n := by omega
    have hVl := henv.vbox.lt
    obtain ⟨wa, wc, hwe⟩ := hw.shape
    obtain ⟨la, lc, hle⟩ := henv.jobs.shape
    rw [← hm] at hwe
    rw [← hn] at hle hn8 hlen hr ih ⊢
    subst hwe hle
    have hBB : BB ≤ W.heap.size := by omega
    have c0 := henv.jbox.cell 0 _ rfl
    have Henv := Lib.hid henv
    have Hbst := Lib.hid hbst
    have Hw := Lib.hid hw
    have Hn := Lib.hid hn
    have Hm := Lib.hid hm
    have Hlen := Lib.hid hlen
    have Hr := Lib.hid hr
    have Hnd := Lib.hid hnd
    clear henv hbst hw hn hm hr hnd hlen
    go_enter Try.func57, Try.ntmps57
    go_wp2_with fail
    with_reducible refine (sizeS_any (xss := []) (by omega)).mono ?_
    rintro e w1 ⟨rfl, rfl⟩
    go_wp2
    clear c0
    go_loopw [8] (fun i wr => ∃ k : Nat, k ≤ n ∧ i = .int .i64 k ∧ BstI OB BB xss wr (visitK xss n f o bst k) ∧ Within BB (BB + 1) W wr) (fun i _ => n - (intOf i).toNat)
    case atStart => exact ⟨0, Nat.zero_le _, rfl, by rw [visitK_zero]; exact Hbst.out, Within.refl _ _ _⟩
    case round =>
      obtain ⟨k, hk, rfl, hbst, hwi⟩ := hrel
      have henv := Henv.out.within hA hJ hV hBB hwi
      have hw := Hw.out.within hwi (by omega)
      have hVr := henv.vbox.lt
      by_cases hkn : k < n
      · have hks := visitK_succ xss n f o bst k
        have hcon := containsI_c (k : Int) hw.rds
        have Hks := Lib.hid hks
        have Hbst1 := Lib.hid hbst
        have Hwi := Lib.hid hwi
        have Henv1 := Lib.hid henv
        have Hw1 := Lib.hid hw
        clear hks hbst hwi henv hw
        cases hhas : hasI o (k : Int) with
        | true =>
          rw [hhas] at hcon
          have h8 := Hks.out
          rw [if_pos (by rw [← hasI_contains]; exact hhas)] at h8
          have Hcon := Lib.hid hcon
          have H8 := Lib.hid h8
          clear hhas hcon h8
          go_wp2_with fail
          with_reducible refine Hcon.out.mono ?_
          rintro e w2 ⟨rfl, rfl⟩
          go_wp2
          go_roundw
          case rel => exact ⟨k + 1, by omega, by go_num, by rw [H8.out]; exact Hbst1.out, Hwi.out⟩
          case measure => simp [intOf]; omega
        | false =>
          rw [hhas] at hcon
          have h8 := Hks.out
          have hmem : ¬ (k : Int) ∈ o := by rw [hasI_contains] at hhas; simpa using hhas
          rw [if_neg (by rw [← hasI_contains, hhas]; decide)] at h8
          have Hcon := Lib.hid hcon
          have H8 := Lib.hid h8
          have Hmem := Lib.hid hmem
          have hrk : ∀ x ∈ o ++ [(k : Int)], 0 ≤ x ∧ x < (n : Int) := fun x hx => by
            rcases List.mem_append.1 hx with hx | hx
            · exact Hr.out x hx
            · rw [List.mem_singleton.1 hx]; omega
          have hnk : (o ++ [(k : Int)]).Nodup := by rw [List.nodup_append]; exact ⟨Hnd.out, by simp, fun a ha c hc e => hmem (by rw [List.mem_singleton] at hc; rw [← hc, ← e]; exact ha)⟩
          have hlk : (o ++ [(k : Int)]).length + f = n := by rw [List.length_append]; have := Hlen.out; simp; omega
          have Hrk := Lib.hid hrk
          have Hnk := Lib.hid hnk
          have Hlk := Lib.hid hlk
          have Hqp : eI.ok (k : Int) := by show -9223372036854775808 ≤ (k : Int) ∧ (k : Int) ≤ 9223372036854775807; omega
          have Hln := Lib.hid Hm.out.symm
          clear hhas hcon h8 hmem hrk hnk hlk
          go_wp2_with fail
          with_reducible refine Hcon.out.mono ?_
          rintro e w2 ⟨rfl, rfl⟩
          go_wp2
          have v0 := Henv1.out.vbox.cell 0 _ rfl
          clear hm4 hrows hVl hBB
          as_aux_lemma =>
            go_region_law (first
              | (refine step_appS (E := eI) rfl _ _ 29 (by rfl) Try.underlying29 hi hz0 hz1 hz2 rfl (by decide) (by rfl) (by rfl) (by first | exact hu4 | exact hu4.alloc _) (by first | exact rds_one' (E := eI) (x := (k : Int)) (by simp) Hqp rfl | exact hE) (by rw [Hln.out]; unfold maxLen; simp; omega) (by rw [Hln.out]; simp; omega) (by first | exact hbs | exact Nat.le_trans hbs (by simp)) ?_; intro v5 w5 hown5 hg5; have hg5' : Grew w3 w5 u3 v5 := (by first | exact hg5 | exact hg5.alloc); have g3 : Below wr.heap.size wr w5 := hg5'.below g1 g1.size (fun q hq => g2 q hq); have hVw5 : VB < w5.heap.size := (by have := g3.size; omega); have v5c := (g3.cell (p := ⟨VB, 0, none⟩) (show VB < wr.heap.size by omega)).trans v0)
              | (go_simp; go_at_call 59; refine (copyInts_c (by first | exact Hw1.out.drew.rds | exact (Hw1.out.alloc _).drew.rds) (by rw [Hln.out]; omega)).mono ?_; rintro e w3 ⟨u3, rfl, hu3, hb3⟩; have g1 : Below wr.heap.size wr w3 := (by first | exact ((Below.refl wr.heap.size wr).drew1).trans hb3 | exact (((Below.refl wr.heap.size wr).alloc (Nat.le_refl _) _).drew1).trans (hb3.mono (by simp))); have g2 : ∀ q, u3.ownBlock = some q → wr.heap.size ≤ q := (fun q hq => Nat.le_trans (by simp) (hu3.lt q hq).1); have hu4 := hu3.mono (base' := VB + 1) (Nat.le_trans (show VB + 1 ≤ wr.heap.size by omega) (by simp)); have hVw3 : VB < w3.heap.size := (by have := g1.size; omega); have v3c := (g1.cell (p := ⟨VB, 0, none⟩) (show VB < wr.heap.size by omega)).trans v0; have hbs : VB + 1 ≤ w3.heap.size := (by omega); (try have hE := rds_after hb3 Hqp))
              | (go_simp; go_at_call 57; with_reducible refine (ih _ _ _ _ (Henv1.out.on (by omega) g3) (Hbst1.out.on g3) hown5 Hlk.out Hrk.out Hnk.out).mono ?_; rintro e w6 ⟨rfl, hbst6, hwi6⟩))
            all_goals
              have HB6 := Lib.hid hbst6
              have HW6 := Lib.hid (Hwi.out.trans ((within_of_below g3).trans hwi6))
              clear hbst6 hwi6 g3 hown5 hg5 hg5' g1 g2 hu3 hu4 hb3
              go_wp2
              go_roundw
              case rel => exact ⟨k + 1, by omega, by go_num, by rw [H8.out]; exact HB6.out, HW6.out⟩
              case measure => simp [intOf]; omega
      · obtain rfl : k = n := by omega
        have c0 := henv.jbox.cell 0 _ rfl
        obtain ⟨fv, hbb, hf, hfn, hin⟩ := hbst
        have c3 := hbb.cell 0 _ rfl
        have t1 : ((m : Int) == (k : Int)) = false := by simp; omega
        have HS : Hid (BstI OB BB xss wr (visitK xss k f o bst k)) := Lib.hid ⟨fv, hbb, hf, hfn, hin⟩
        have HWi := Lib.hid hwi
        clear henv hw hbb hf hfn hin hwi
        go_wp2
        have t2 : (m == k) = false := by simp; omega
        have t3 : ¬ m = k := by omega
        have t4 : decide (m = k) = false := decide_eq_false t3
        go_quiet (fail)
        have hbq : Below wr.heap.size wr (wr.drewN nq) := (Below.refl _ _).drewNy nq
        have HS2 := Lib.hid (HS.out.on hbq)
        have HW2 := Lib.hid (HWi.out.trans (within_of_below hbq))
        clear c0 c3 hbq HS HWi
        go_wp2
        go_end0
        refine ⟨rfl, ?_, HW2.out⟩
        rw [visitB_succ]
        exact HS2.out
end Go.Proofs.Ytpnmcgjfemaleaa
