/- Johnson's order: the program's. No condition. -/
import Derived.Test.YtpnmcgjfemaleaaJohP
namespace Go.Proofs.Ytpnmcgjfemaleaa
open Go.ChangeShapes Go.WideShapes Go.ChangeAt Go.RowKit
set_option linter.unusedVariables false
set_option maxRecDepth 100000
theorem selI_in {p : Int → Bool} {n : Nat} {x : Int} (h : x ∈ selI p n) : 0 ≤ x ∧ x < n := by
  rw [selI_filter] at h
  exact rangeI_mem.1 (List.mem_filter.1 h).1
theorem Box.kept {w w' : World} {b : Nat} {cs : List Value} {row : Option Nat} (h : Box w b cs) (hg : w.grownBy w' row) (hne : row ≠ some b) : Box w' b cs := by
  have hb := hg.block b h.lt (fun e => hne e.symm)
  exact ⟨Nat.lt_of_lt_of_le h.lt hg.size, fun j v hj => (World.cell?_of_block (w := w) (a := ⟨b, j, none⟩) hb).trans (h.cell j v hj), fun j => (World.frozen?_of_block (w := w) (a := ⟨b, j, none⟩) hb).trans (h.free j)⟩
set_option maxHeartbeats 1000000 in
theorem JohnsonOrder_c {xss : List (List Int)} {v : Value} {w : World} {A : Nat} (ha : RdInt64SS A w v xss) :
    Calls Try.prog 28 #[v] w fun e w' => ∃ u0, e = .returned (.tuple #[u0, .int .i64 (JC xss)]) ∧ OwnInt64S w.heap.size w' u0 (JR xss) ∧ Below w.heap.size w w' := by
  have ha1 := ha.tight
  have hxle := ha.le
  obtain ⟨ao, cap, rfl, hao⟩ := ha1.open
  obtain ⟨n, hn⟩ : ∃ n, n = xss.length := ⟨_, rfl⟩
  rw [← hn] at ha1 hao hxle ⊢
  obtain ⟨W0, hW0⟩ : ∃ W0, W0 = w.alloc (.cells #[.slice ao n cap] 22) := ⟨_, rfl⟩
  have hb0 : Below w.heap.size w W0 := by rw [hW0]; exact (Below.refl _ _).alloc (Nat.le_refl _) _
  have hB0 : Box W0 w.heap.size [.slice ao n cap] := by rw [hW0]; exact Box.new w [.slice ao n cap] _
  have ha0 := ha1.below hb0 (Nat.le_refl _)
  have HW0 := Lib.hid hW0
  have Ha := Lib.hid ha1
  have Ha0 := Lib.hid ha0
  have Hb0 := Lib.hid hb0
  have HB0 := Lib.hid hB0
  have Hn := Lib.hid hn
  cases hv : validJ xss with
  | false =>
    have e1 : JC xss = 1 := by unfold JC; rw [hv]; rfl
    rw [JR_no (by rw [e1]; decide), e1]
    have Hv := Lib.hid hv
    clear hv e1 ha ha1 hao hW0 hb0 hB0 ha0 hn
    go_enter Try.func28, Try.ntmps28
    go_wp2_with fail
    rw [← HW0.out]
    with_reducible refine (ValidJobs_c Ha0.out).mono ?_
    rw [Hv.out]
    rintro e w' ⟨rfl, rfl⟩
    go_wp2
    go_ret2
    exact ⟨_, rfl, Own.nil _ _ _ _, Hb0.out⟩
  | true =>
    obtain ⟨hn8, hm4, hrows⟩ := validJ_parts hv
    rw [← hn] at hn8
    obtain ⟨b, off, rfl, hlt, hc⟩ := hao (by omega)
    obtain ⟨x0, ro0, rc0, hx0, hcell0, _⟩ := hc 0 (by omega)
    obtain ⟨m, hm⟩ : ∃ m, m = colsJ xss := ⟨_, rfl⟩
    have hx0m : x0.length = m := by rw [hm, colsJ_of hx0]
    have hcell0' : w.cell? ⟨b, off, none⟩ = some (.slice ro0 m rc0) := by rw [← hx0m]; simpa using hcell0
    have d0 := (hb0.cell (p := ⟨b, off, none⟩) hlt.1).trans hcell0'
    have c0 := hB0.cell 0 _ rfl
    have Hv := Lib.hid hv
    by_cases hm2 : m = 2
    · have e1 : JC xss = 0 := by unfold JC; rw [hv, if_pos rfl, ← hm, if_pos hm2]
      subst hm2
      have hr2 : ∀ r ∈ xss, r.length = 2 ∧ ∀ x ∈ r, 0 ≤ x ∧ x ≤ 1000 := fun r hr => ⟨by rw [(hrows r hr).1, ← hm], (hrows r hr).2⟩
      have E1 := Lib.hid e1
      rw [e1]
      have hclo1 : ∀ (i : Nat) (W : World), i < n → Below W0.heap.size W0 W → Calls Try.prog 64 #[.int .i64 (i : Int), .pointer (some ⟨w.heap.size, 0, none⟩)] W fun e w' => e = .returned (.bool (joh1 xss i)) ∧ Below W.heap.size W w' := fun i W hi hbW =>
        cloJ1 ((hB0.on hbW).cell 0 _ rfl) (ha1.below (hb0.trans (hbW.mono hb0.size)) (Nat.le_refl _)) hr2 hi
      have hcols1 := cols_J1 (w := W0) (n := n) (p := joh1 xss) (c := w.heap.size) (by omega) hclo1
      have Hcols1 := Lib.hid hcols1
      have Hr2 := Lib.hid hr2
      clear hv e1 ha ha1 hao hW0 ha0 hrows hc hx0 hcell0 hx0m hcell0' hclo1 hcols1 hm hr2 hn hb0 hB0
      go_enter Try.func28, Try.ntmps28
      go_wp2_with fail
      rw [← HW0.out]
      with_reducible refine (ValidJobs_c Ha0.out).mono ?_
      rw [Hv.out]
      rintro e w' ⟨rfl, rfl⟩
      go_wp2_with fail
      with_reducible refine (sizeS_any (xss := []) (by omega)).mono ?_
      rintro e w' ⟨rfl, rfl⟩
      go_wp2_with fail
      with_reducible refine Hcols1.out.mono ?_
      rintro e w1 ⟨u1, rfl, hu1, hbd1⟩
      have hb1 := Hb0.out.trans (hbd1.mono Hb0.out.size)
      have hB1 := HB0.out.on hbd1
      have c1 := hB1.cell 0 _ rfl
      have hclo2 : ∀ (i : Nat) (W : World), i < n → Below w1.heap.size w1 W → Calls Try.prog 65 #[.int .i64 (i : Int), .pointer (some ⟨w.heap.size, 0, none⟩)] W fun e w' => e = .returned (.bool (!joh1 xss i)) ∧ Below W.heap.size W w' := fun i W hi hbW =>
        cloJ2 ((hB1.on hbW).cell 0 _ rfl) (Ha.out.below (hb1.trans (hbW.mono hb1.size)) (Nat.le_refl _)) Hr2.out hi
      have hcols2 := cols_J2 (w := w1) (n := n) (p := fun i => !joh1 xss i) (c := w.heap.size) (by omega) hclo2
      have Hcols2 := Lib.hid hcols2
      have Hu1 := Lib.hid hu1
      have Hb1 := Lib.hid hb1
      have HB1 := Lib.hid hB1
      have hs01 := hbd1.size
      have hs0 := Hb0.out.size
      clear hclo2 hcols2 hu1 hbd1 hb1 hB1 d0 c0
      go_wp2_with fail
      with_reducible refine (sizeS_any (xss := []) (by omega)).mono ?_
      rintro e w' ⟨rfl, rfl⟩
      go_wp2_with fail
      with_reducible refine Hcols2.out.mono ?_
      rintro e w2 ⟨u2, rfl, hu2, hbd2⟩
      have hs12 := hbd2.size
      have hb2 := Hb1.out.trans (hbd2.mono Hb1.out.size)
      have hB2 := HB1.out.on hbd2
      have hu1' := Hu1.out.below hbd2 (Nat.le_refl _)
      have hcmp1 : CmpI 67 #[.pointer (some ⟨w.heap.size, 0, none⟩)] (fun x y => cmpZ (jobF xss x 0) (jobF xss y 0)) (n - 1 + 1) u1.ownBlock w2 := by
        intro W hg i j hi hj
        have hbW := hb2.grown hg hb2.size (fun k hk => Nat.le_trans hs0 (hu1'.lt k hk).1)
        exact cmpJ3 ((hB2.kept hg (fun hh => by have h5 : W0.heap.size ≤ w.heap.size := (hu1'.lt _ hh).1; have h6 := HB0.out.lt; omega)).cell 0 _ rfl) (Ha.out.below hbW (Nat.le_refl _)) Hr2.out (by omega) (by omega)
      have hst1 := stable_c (enters_of Try.func67 (by kernel_rfl) rfl) hu1' (Nat.le_trans (selI_len _ _) hn8.2) (L := n - 1) (fun x hx => by have := selI_in hx; omega) hcmp1
      have Hst1 := Lib.hid hst1
      have Hu2 := Lib.hid hu2
      have Hu1' := Lib.hid hu1'
      have Hb2 := Lib.hid hb2
      have HB2 := Lib.hid hB2
      clear hcmp1 hst1 hu2 hbd2 hb2 hB2 hu1' c1
      go_wp2_with fail
      with_reducible refine Hst1.out.mono ?_
      rintro e w3 ⟨rfl, r1, hins1, hv1, hg1⟩
      have hb3 := Hb2.out.grown hg1 Hb2.out.size (fun k hk => Nat.le_trans hs0 (Hu1'.out.lt k hk).1)
      have hB3 := HB2.out.kept hg1 (fun hh => by have h5 : W0.heap.size ≤ w.heap.size := (Hu1'.out.lt _ hh).1; have h6 := HB0.out.lt; omega)
      have hne : u2.ownBlock = none ∨ u2.ownBlock ≠ u1.ownBlock := by
        cases ho : u2.ownBlock with
        | none => exact .inl rfl
        | some k => exact .inr (fun hh => by have h5 := (Hu2.out.lt k ho).1; have h6 := (Hu1.out.lt k hh.symm).2; omega)
      have hne' : u1.ownBlock = none ∨ u1.ownBlock ≠ u2.ownBlock := by
        rcases hne with h5 | h5
        · cases ho : u1.ownBlock with
          | none => exact .inl rfl
          | some k => exact .inr (fun hh => by rw [h5] at hh; cases hh)
        · exact .inr (fun hh => h5 hh.symm)
      have hu2' := Hu2.out.kept hg1 hne
      have hs3 := hg1.size
      have hcmp2 : CmpI 69 #[.pointer (some ⟨w.heap.size, 0, none⟩)] (fun x y => cmpZ (jobF xss y 1) (jobF xss x 1)) (n - 1 + 1) u2.ownBlock w3 := by
        intro W hg i j hi hj
        have hbW := hb3.grown hg hb3.size (fun k hk => by have := (hu2'.lt k hk).1; omega)
        exact cmpJ4 ((hB3.kept hg (fun hh => by have h5 : w1.heap.size ≤ w.heap.size := (hu2'.lt _ hh).1; have h6 := HB0.out.lt; omega)).cell 0 _ rfl) (Ha.out.below hbW (Nat.le_refl _)) Hr2.out (by omega) (by omega)
      have hst2 := stable_c (enters_of Try.func69 (by kernel_rfl) rfl) hu2' (Nat.le_trans (selI_len _ _) hn8.2) (L := n - 1) (fun x hx => by have := selI_in hx; omega) hcmp2
      have Hst2 := Lib.hid hst2
      have Hv1 := Lib.hid hv1
      have Hu2' := Lib.hid hu2'
      have Hb3 := Lib.hid hb3
      have Hins1 := Lib.hid hins1
      have Hne' := Lib.hid hne'
      clear hcmp2 hst2 hu2' hb3 hB3 hv1 hg1 hne hne' hins1
      go_wp2_with fail
      with_reducible refine Hst2.out.mono ?_
      rintro e w4 ⟨rfl, r2, hins2, hv2, hg2⟩
      have hv1' := Hv1.out.kept hg2 Hne'.out
      have hb4 := Hb3.out.grown hg2 Hb3.out.size (fun k hk => by have := (Hu2'.out.lt k hk).1; omega)
      have hj := joh_parts (by rw [← Hn.out]; exact Hins1.out) (by rw [← Hn.out]; exact hins2)
      have hJR := JR_eq E1.out hj
      have hl1 : r1.length ≤ n := by
        have := Hins1.out.perm.length_eq
        rw [List.append_nil] at this
        have := selI_len (joh1 xss) n
        omega
      have hl2 : r2.length ≤ n := by
        have := hins2.perm.length_eq
        rw [List.append_nil] at this
        have := selI_len (fun i => !joh1 xss i) n
        omega
      have hs4 := hg2.size
      obtain ⟨i0, hi, hz0, hz1, hz2⟩ := info_parts Try.infoInt64
      have Hv1' := Lib.hid hv1'
      have Hv2r := Lib.hid hv2.rds
      have Hb4 := Lib.hid hb4
      have HJR := Lib.hid hJR
      clear hins2 hv2 hg2 hv1' hb4 hj hJR
      go_wp2_with (first | (at_builtin; refine wpList_appS (E := eI) rfl _ _ 29 rfl Try.underlying29 hi hz0 hz1 hz2 rfl (by decide) rfl rfl Hv1'.out Hv2r.out ?b1 ?b2 ?b3 ?_))
      case b1 => unfold maxLen; omega
      case b2 => omega
      case b3 => omega
      intro v' w5 hR hg5
      have hb5 := hg5.below Hb4.out Hb4.out.size (fun k hk => Nat.le_trans hs0 (Hv1'.out.lt k hk).1)
      have hR2 := hR.mono hs0
      rw [HJR.out] at hR2
      have HR2 := Lib.hid hR2
      have Hb5 := Lib.hid hb5
      clear hR hg5 hR2 hb5
      go_wp2
      go_ret2
      exact ⟨_, rfl, HR2.out, Hb5.out⟩
    · have e1 : JC xss = 6 := by unfold JC; rw [hv, if_pos rfl, ← hm, if_neg hm2]
      rw [JR_no (by rw [e1]; decide), e1]
      have hf : ((m : Int) != 2) = true := by simp; omega
      clear hv e1 ha ha1 hao hW0 ha0 hrows hc hx0 hcell0 hx0m hcell0' hm hn hb0 hB0 hm2
      go_enter Try.func28, Try.ntmps28
      go_wp2_with fail
      rw [← HW0.out]
      with_reducible refine (ValidJobs_c Ha0.out).mono ?_
      rw [Hv.out]
      rintro e w' ⟨rfl, rfl⟩
      go_wp2
      go_ret2
      exact ⟨_, rfl, Own.nil _ _ _ _, Hb0.out⟩
end Go.Proofs.Ytpnmcgjfemaleaa
