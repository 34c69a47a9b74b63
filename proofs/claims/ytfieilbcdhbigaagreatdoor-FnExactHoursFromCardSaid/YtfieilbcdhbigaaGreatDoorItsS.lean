/- The items of cards of hours, with their codes: the reference's, each by its contract. No condition. -/
import Derived.Test.YtfieilbcdhbigaaGreatDoorLayS
import Derived.Test.YtfieilbcdhbigaaGreatDoorCardS
import Derived.Test.YtfieilbcdhbigaaGreatDoorHrsP
namespace Go.Proofs.YtfieilbcdhbigaaGreatDoor
open Go.ChangeShapes Go.WideShapes Go.ChangeAt Go.RowKit Go.Sort
set_option linter.unusedVariables false
set_option maxRecDepth 100000
def lyC (w : Int) (xs : List ItemT) (d : List (List Int)) : Int := if layB w xs = true ∧ deckB d = true then (if d.length = 0 ∨ ((d.headD []).length : Int) = w then 0 else 2) else 1
def dkC (w : Int) (xs : List ItemT) (d : List (List Int)) (nm : ByteArray) : Int := if lyC w xs d = 0 then (if idxI xs nm < 0 then 3 else 0) else lyC w xs d
def dkV (w : Int) (xs : List ItemT) (d : List (List Int)) (nm : ByteArray) : Int := if dkC w xs d nm = 0 then idxI xs nm else 0
theorem dk_bad {w : Int} {xs : List ItemT} {d : List (List Int)} {nm : ByteArray} {c : Int} (h : lyC w xs d = c) (hc : c ≠ 0) : dkC w xs d nm = c ∧ dkV w xs d nm = 0 := by
  have e : dkC w xs d nm = c := by unfold dkC; rw [h, if_neg hc]
  exact ⟨e, by unfold dkV; rw [e, if_neg hc]⟩
theorem dk_none {w : Int} {xs : List ItemT} {d : List (List Int)} {nm : ByteArray} (h : lyC w xs d = 0) (hi : idxI xs nm < 0) : dkC w xs d nm = 3 ∧ dkV w xs d nm = 0 := by
  have e : dkC w xs d nm = 3 := by unfold dkC; rw [if_pos h, if_pos hi]
  exact ⟨e, by unfold dkV; rw [e]; rfl⟩
theorem dk_some {w : Int} {xs : List ItemT} {d : List (List Int)} {nm : ByteArray} (h : lyC w xs d = 0) (hi : ¬ idxI xs nm < 0) : dkC w xs d nm = 0 ∧ dkV w xs d nm = idxI xs nm := by
  have e : dkC w xs d nm = 0 := by unfold dkC; rw [if_pos h, if_neg hi]
  exact ⟨e, by unfold dkV; rw [if_pos e]⟩
set_option maxHeartbeats 1000000 in
theorem l04Deck_c {xs : List ItemT} {v u : Value} {w : World} {A B C : Nat} {d : List (List Int)} (wd : Int) (nm : ByteArray) (hP : Box w B [.int .i64 wd, v]) (ha : RdItemS A w v xs) (hd : RdInt64SS C w u d) :
    Calls Tryz.prog 63 #[.pointer (some ⟨B, 0, none⟩), u, .string nm] w fun e w' => e = .returned (.tuple #[.int .i64 (dkV wd xs d nm), .int .i64 (dkC wd xs d nm)]) ∧ Below w.heap.size w w' := by
  have hle := hd.le
  obtain ⟨ao, cap, rfl⟩ := ha.shape
  have hd0 := hd
  obtain ⟨dao, dcap, rfl, ho⟩ := hd.open
  obtain ⟨n, hn⟩ : ∃ n, n = d.length := ⟨_, rfl⟩
  rw [← hn] at ho hle hd0 ⊢
  have Ha := Lib.hid ha
  have HP := Lib.hid hP
  have Hn := Lib.hid hn
  have Ho := Lib.hid ho
  have Hd := Lib.hid hd0
  clear hn ho ha hP hd hd0
  go_enter Tryz.func63, Tryz.ntmps63
  go_wp2_with fail
  with_reducible refine (l04Ok_c wd HP.out Ha.out).mono ?_
  cases hl : layB wd xs with
  | false =>
    have E := Lib.hid (dk_bad (nm := nm) (show lyC wd xs d = 1 from if_neg (fun h => by have h1 := h.1; rw [hl] at h1; cases h1)) (by decide))
    clear hl
    rintro e w1 ⟨rfl, hb⟩
    go_wp2
    go_ret2
    rw [E.out.1, E.out.2]
    exact ⟨rfl, hb⟩
  | true =>
    have Hl := Lib.hid hl
    clear hl
    rintro e w1 ⟨rfl, hb⟩
    have HP1 := Lib.hid (HP.out.on hb)
    have Ha1 := Lib.hid (Rds.onn Ha.out hb)
    have Hd1 := Lib.hid (Hd.out.onn hb)
    have Hb1 := Lib.hid hb
    clear hb
    go_wp2_with fail
    with_reducible refine (l02Deck_c Hd1.out).mono ?_
    cases hk : deckB d with
    | false =>
      have E := Lib.hid (dk_bad (nm := nm) (show lyC wd xs d = 1 from if_neg (fun h => by have h1 := h.2; rw [hk] at h1; cases h1)) (by decide))
      clear hk
      rintro e w2 ⟨rfl, m, rfl⟩
      go_wp2
      go_ret2
      rw [E.out.1, E.out.2]
      exact ⟨rfl, Hb1.out.drewNy _⟩
    | true =>
      have Hk := Lib.hid hk
      clear hk
      rintro e w2 ⟨rfl, m, rfl⟩
      have HP2 := Lib.hid (HP1.out.drewN m)
      have Ha2 := Lib.hid (Ha1.out.drewN m)
      have Hb2 := Lib.hid (Hb1.out.drewNy m)
      obtain ⟨W, hW⟩ : ∃ W, W = w1.drewN m := ⟨_, rfl⟩
      rw [← hW] at HP2 Ha2 Hb2 ⊢
      clear hW
      by_cases h0 : n = 0
      · have EL := Lib.hid (show lyC wd xs d = 0 from by unfold lyC; rw [if_pos ⟨Hl.out, Hk.out⟩, if_pos (.inl (by have := Hn.out; omega))])
        subst h0
        go_upto_region 3 with fail
        refine wp_region_quiet_below (by kernel_rfl) (by kernel_rfl) ?_
        repeat ((with_reducible refine wpQuiet_step (fun K hK => ?_)); go_simp; first | ((with_reducible refine hK _ ?_); clear hK K) | (apply Exists.intro; refine ⟨fun _ => ?_, hK _ ?_⟩; ((fail)); clear hK K))
        refine wpQuiet_nil ?_
        intro _ hw'
        obtain ⟨⟨dq, osq⟩, hw''⟩ := hw'
        subst hw''
        have hbq := below_regrown W dq osq
        generalize grow (redrawn W dq) osq = wq at hbq ⊢
        have HP3 := Lib.hid (HP2.out.on hbq)
        have Ha3 := Lib.hid (Rds.onn Ha2.out hbq)
        have Hq := Lib.hid (Hb2.out.trans (hbq.mono Hb2.out.size))
        clear hbq
        go_wp2_with fail
        with_reducible refine (l04Find_c wd nm HP3.out Ha3.out).mono ?_
        by_cases hi : idxI xs nm < 0
        · have E := Lib.hid (dk_none EL.out hi)
          rintro e w' ⟨rfl, rfl⟩
          go_wp2
          go_ret2
          rw [E.out.1, E.out.2]
          exact ⟨rfl, Hq.out⟩
        · have E := Lib.hid (dk_some EL.out hi)
          rintro e w' ⟨rfl, rfl⟩
          go_wp2
          go_ret2
          rw [E.out.1, E.out.2]
          exact ⟨rfl, Hq.out⟩
      · obtain ⟨b, off, rfl, hlt, hc⟩ := Ho.out (by have := Hn.out; omega)
        obtain ⟨x, ro, rc, hx, hcell, hrd⟩ := hc 0 (by have := Hn.out; omega)
        have hxl := hrd.le
        have hh := head_of hx
        have f0 := cell_regrown ((Hb2.out.cell (p := ⟨b, off + 0, none⟩) hlt.2).trans hcell)
        have f1 := cell_regrown (HP2.out.cell 0 _ rfl)
        have hn0 : 0 < n := by omega
        have hn1 : (0 : Int) < (n : Int) := by omega
        rw [Nat.add_zero] at f0
        clear hc hcell hrd
        by_cases hw : (x.length : Int) = wd
        · have EL := Lib.hid (show lyC wd xs d = 0 from by unfold lyC; rw [if_pos ⟨Hl.out, Hk.out⟩, if_pos (.inr (by rw [hh]; exact hw))])
          have q1 : ((x.length : Int) != wd) = false := by simpa using hw
          clear hw hh hx
          generalize x.length = m at f0 q1 hxl
          go_upto_region 3 with fail
          refine wp_region_quiet_below (by kernel_rfl) (by kernel_rfl) ?_
          repeat ((with_reducible refine wpQuiet_step (fun K hK => ?_)); go_simp; first | ((with_reducible refine hK _ ?_); clear hK K) | (apply Exists.intro; refine ⟨fun _ => ?_, hK _ ?_⟩; ((fail)); clear hK K))
          refine wpQuiet_nil ?_
          intro _ hw'
          obtain ⟨⟨dq, osq⟩, hw''⟩ := hw'
          subst hw''
          have hbq := below_regrown W dq osq
          generalize grow (redrawn W dq) osq = wq at hbq ⊢
          have HP3 := Lib.hid (HP2.out.on hbq)
          have Ha3 := Lib.hid (Rds.onn Ha2.out hbq)
          have Hq := Lib.hid (Hb2.out.trans (hbq.mono Hb2.out.size))
          clear hbq f0 f1 q1
          go_wp2_with fail
          with_reducible refine (l04Find_c wd nm HP3.out Ha3.out).mono ?_
          by_cases hi : idxI xs nm < 0
          · have E := Lib.hid (dk_none EL.out hi)
            rintro e w' ⟨rfl, rfl⟩
            go_wp2
            go_ret2
            rw [E.out.1, E.out.2]
            exact ⟨rfl, Hq.out⟩
          · have E := Lib.hid (dk_some EL.out hi)
            rintro e w' ⟨rfl, rfl⟩
            go_wp2
            go_ret2
            rw [E.out.1, E.out.2]
            exact ⟨rfl, Hq.out⟩
        · have E := Lib.hid (dk_bad (nm := nm) (show lyC wd xs d = 2 from by unfold lyC; rw [if_pos ⟨Hl.out, Hk.out⟩, if_neg (fun h => h.elim (fun e => h0 (by have := Hn.out; omega)) (fun e => hw (by rw [hh] at e; exact e)))]) (by decide))
          have q1 : ((x.length : Int) != wd) = true := by simpa using hw
          clear hw hh hx
          generalize x.length = m at f0 q1 hxl
          go_upto_region 3 with fail
          refine wp_region_quiet_below (by kernel_rfl) (by kernel_rfl) ?_
          repeat ((with_reducible refine wpQuiet_step (fun K hK => ?_)); go_simp; first | ((with_reducible refine hK _ ?_); clear hK K) | (apply Exists.intro; refine ⟨fun _ => ?_, hK _ ?_⟩; ((fail)); clear hK K))
          refine wpQuiet_nil ?_
          intro _ hw'
          obtain ⟨⟨dq, osq⟩, hw''⟩ := hw'
          subst hw''
          have hbq := below_regrown W dq osq
          generalize grow (redrawn W dq) osq = wq at hbq ⊢
          have Hq := Lib.hid (Hb2.out.trans (hbq.mono Hb2.out.size))
          clear hbq f0 f1 q1
          go_wp2
          go_ret2
          rw [E.out.1, E.out.2]
          exact ⟨rfl, Hq.out⟩
def itV (w : Int) (xs : List ItemT) (d : List (List Int)) (nm : ByteArray) : Int := if payC true w xs d = 0 then idxI xs nm else 0
theorem it_ly {w : Int} {xs : List ItemT} {d : List (List Int)} : (lyC w xs d = 0 → payC true w xs d = if ¬ idxI xs whoT < 0 ∧ ¬ idxI xs hrsT < 0 then (if (itAt xs whoT).kd = 1 ∧ (itAt xs hrsT).kd = 2 then 0 else 6) else 3) ∧ (lyC w xs d ≠ 0 → payC true w xs d = lyC w xs d) := by
  unfold lyC payC
  by_cases h1 : layB w xs = true ∧ deckB d = true
  · have g : layB w xs = true ∧ true = true ∧ deckB d = true := ⟨h1.1, rfl, h1.2⟩
    by_cases h3 : d.length = 0 ∨ ((d.headD []).length : Int) = w
    · refine ⟨fun _ => ?_, fun h => absurd ?_ h⟩
      · rw [if_pos g, if_pos h3]
      · rw [if_pos h1, if_pos h3]
    · refine ⟨fun h => ?_, fun _ => ?_⟩
      · rw [if_pos h1, if_neg h3] at h; cases h
      · rw [if_pos h1, if_pos g, if_neg h3, if_neg h3]
  · have g : ¬ (layB w xs = true ∧ true = true ∧ deckB d = true) := fun h => h1 ⟨h.1, h.2.2⟩
    refine ⟨fun h => ?_, fun _ => ?_⟩
    · rw [if_neg h1] at h; cases h
    · rw [if_neg h1, if_neg g]
theorem it_bad {w : Int} {xs : List ItemT} {d : List (List Int)} {c : Int} (h : payC true w xs d = c) (hc : c ≠ 0) : ∀ nm, itV w xs d nm = 0 := fun nm => by unfold itV; rw [h, if_neg hc]
set_option maxHeartbeats 1000000 in
theorem l23Items_c {xs : List ItemT} {v u : Value} {w : World} {A B C : Nat} {d : List (List Int)} (wd : Int) (hP : Box w B [.int .i64 wd, v]) (ha : RdItemS A w v xs) (hd : RdInt64SS C w u d) :
    Calls Tryz.prog 32 #[.pointer (some ⟨B, 0, none⟩), u] w fun e w' => e = .returned (.tuple #[.int .i64 (itV wd xs d whoT), .int .i64 (itV wd xs d hrsT), .int .i64 (payC true wd xs d)]) ∧ Below w.heap.size w w' := by
  have hle := ha.le
  have Ha := Lib.hid ha
  obtain ⟨ao, cap, rfl, ho⟩ := eItem_open ha
  obtain ⟨dao, dcap, rfl⟩ := hd.shape
  obtain ⟨n, hn⟩ : ∃ n, n = xs.length := ⟨_, rfl⟩
  rw [← hn] at hP ho hle Ha
  have HP := Lib.hid hP
  have Hn := Lib.hid hn
  have Ho := Lib.hid ho
  have Hd := Lib.hid hd
  clear hn ho ha hP hd
  go_enter Tryz.func32, Tryz.ntmps32
  go_wp2_with fail
  with_reducible refine (l04Deck_c wd whoT HP.out Ha.out Hd.out).mono ?_
  by_cases hl : lyC wd xs d = 0
  · by_cases hi : idxI xs whoT < 0
    · have E := dk_none hl hi
      have E3 : Hid (payC true wd xs d = 3) := Lib.hid (by rw [it_ly.1 hl, if_neg (fun h => h.1 hi)])
      have E4 := Lib.hid (it_bad E3.out (by decide))
      rw [E.1, E.2]
      clear E hl hi
      rintro e w1 ⟨rfl, hb⟩
      go_wp2
      refine bodyPost_ret (v := .tuple #[.int .i64 0, .int .i64 0, .int .i64 3]) (by simp [results, Tryz.results32, go_sem]) rfl ⟨?_, hb⟩
      rw [E4.out, E4.out, E3.out]
    · have E := dk_some hl hi
      obtain ⟨k1, a, hk1, hka⟩ := idx_at hi
      have hia := itAt_of hk1 hka
      rw [E.1, E.2, hk1]
      have Hly := Lib.hid hl
      have Hi1 := Lib.hid hi
      have Hk1 := Lib.hid hk1
      have Hia := Lib.hid hia
      have Hka := Lib.hid hka
      clear E hl hi hk1 hia hka
      rintro e w1 ⟨rfl, hb⟩
      have HP1 := Lib.hid (HP.out.on hb)
      have Ha1 := Lib.hid (Rds.onn Ha.out hb)
      have Hb1 := Lib.hid hb
      clear hb
      go_wp2_with fail
      with_reducible refine (l04Find_c wd hrsT HP1.out Ha1.out).mono ?_
      by_cases hi2 : idxI xs hrsT < 0
      · have E3 : Hid (payC true wd xs d = 3) := Lib.hid (by rw [it_ly.1 Hly.out, if_neg (fun h => h.2 hi2)])
        have E4 := Lib.hid (it_bad E3.out (by decide))
        rintro e w' ⟨rfl, rfl⟩
        go_wp2
        refine bodyPost_ret (v := .tuple #[.int .i64 0, .int .i64 0, .int .i64 3]) (by simp [results, Tryz.results32, go_sem]) rfl ⟨?_, Hb1.out⟩
        rw [E4.out, E4.out, E3.out]
      · obtain ⟨k2, c, hk2, hkc⟩ := idx_at hi2
        have hic := itAt_of hk2 hkc
        rw [hk2]
        rintro e w' ⟨rfl, rfl⟩
        obtain ⟨b, off, rfl, hlt, hc⟩ := Ho.out (by have := at_lt hkc; have := Hn.out; omega)
        obtain ⟨a', ha', ⟨_, c1, _, _⟩, ba⟩ := hc k1 (by have := at_lt Hka.out; have := Hn.out; omega)
        obtain rfl : a' = a := by have h := Hka.out; rw [h] at ha'; exact (Option.some.inj ha').symm
        obtain ⟨c', hc', ⟨_, d1, _, _⟩, bc⟩ := hc k2 (by have := at_lt hkc; have := Hn.out; omega)
        obtain rfl : c' = c := by rw [hkc] at hc'; exact (Option.some.inj hc').symm
        have hl1 : k1 < n := by have := at_lt Hka.out; have := Hn.out; omega
        have hl2 : k2 < n := by have := at_lt hkc; have := Hn.out; omega
        have e1 := (Hb1.out.cell (p := ⟨b, off + k1 * 4 + 1, none⟩) hlt.2).trans c1
        have g1 := (Hb1.out.cell (p := ⟨b, off + k2 * 4 + 1, none⟩) hlt.2).trans d1
        have p1 := HP1.out.cell 1 _ rfl
        have hle1 : k1 < 9223372036854775807 := by omega
        have hle2 : k2 < 9223372036854775807 := by omega
        have Hi2 := Lib.hid hi2
        have Hk2 := Lib.hid hk2
        have Hic := Lib.hid hic
        clear hi2 hk2 hkc hic hc ha' c1 ba hc' d1 bc
        by_cases p2 : a'.kd = 1
        · by_cases p3 : c'.kd = 2
          · have E3 : Hid (payC true wd xs d = 0) := Lib.hid (by rw [it_ly.1 Hly.out, if_pos ⟨by have := Hi1.out; omega, by have := Hi2.out; omega⟩, if_pos ⟨by rw [Hia.out]; exact p2, by rw [Hic.out]; exact p3⟩])
            have E4 : Hid (itV wd xs d whoT = k1 ∧ itV wd xs d hrsT = k2) := Lib.hid ⟨by unfold itV; rw [if_pos E3.out]; exact Hk1.out, by unfold itV; rw [if_pos E3.out]; exact Hk2.out⟩
            have q1 : (a'.kd != 1) = false := by simpa using p2
            have q2 : (c'.kd != 2) = false := by simpa using p3
            go_wp2
            refine bodyPost_ret (v := .tuple #[.int .i64 (k1 : Int), .int .i64 (k2 : Int), .int .i64 0]) (by simp [results, Tryz.results32, go_sem]) rfl ⟨?_, Hb1.out⟩
            rw [E4.out.1, E4.out.2, E3.out]
          · have E3 : Hid (payC true wd xs d = 6) := Lib.hid (by rw [it_ly.1 Hly.out, if_pos ⟨by have := Hi1.out; omega, by have := Hi2.out; omega⟩, if_neg (fun h => p3 (by have := h.2; rw [Hic.out] at this; exact this))])
            have E4 := Lib.hid (it_bad E3.out (by decide))
            have q1 : (a'.kd != 1) = false := by simpa using p2
            have q2 : (c'.kd != 2) = true := by simpa using p3
            go_wp2
            refine bodyPost_ret (v := .tuple #[.int .i64 0, .int .i64 0, .int .i64 6]) (by simp [results, Tryz.results32, go_sem]) rfl ⟨?_, Hb1.out⟩
            rw [E4.out, E4.out, E3.out]
        · have E3 : Hid (payC true wd xs d = 6) := Lib.hid (by rw [it_ly.1 Hly.out, if_pos ⟨by have := Hi1.out; omega, by have := Hi2.out; omega⟩, if_neg (fun h => p2 (by have := h.1; rw [Hia.out] at this; exact this))])
          have E4 := Lib.hid (it_bad E3.out (by decide))
          have q1 : (a'.kd != 1) = true := by simpa using p2
          go_wp2
          refine bodyPost_ret (v := .tuple #[.int .i64 0, .int .i64 0, .int .i64 6]) (by simp [results, Tryz.results32, go_sem]) rfl ⟨?_, Hb1.out⟩
          rw [E4.out, E4.out, E3.out]
  · obtain ⟨c, hc⟩ : ∃ c, lyC wd xs d = c := ⟨_, rfl⟩
    have hc0 : c ≠ 0 := by rw [← hc]; exact hl
    have E := dk_bad (nm := whoT) hc hc0
    have E3 : Hid (payC true wd xs d = c) := Lib.hid (by rw [it_ly.2 hl, hc])
    have E4 := Lib.hid (it_bad E3.out hc0)
    have q1 : (c != 0) = true := by simpa using hc0
    rw [E.1, E.2]
    clear E hl hc hc0
    rintro e w1 ⟨rfl, hb⟩
    go_wp2
    refine bodyPost_ret (v := .tuple #[.int .i64 0, .int .i64 0, .int .i64 c]) (by simp [results, Tryz.results32, go_sem]) rfl ⟨?_, hb⟩
    rw [E4.out, E4.out, E3.out]
end Go.Proofs.YtfieilbcdhbigaaGreatDoor
