/- Comparisons of numbers, and the closures that sort jobs. No condition. -/
import Derived.Test.YtpnmcgjfemaleaaEnd4
namespace Go.Proofs.Ytpnmcgjfemaleaa
open Go.ChangeShapes Go.WideShapes Go.ChangeAt Go.RowKit
set_option linter.unusedVariables false
set_option maxRecDepth 100000
def cmpZ (a b : Int) : Int := if a < b then -1 else if b < a then 1 else 0
theorem isNaN_c (x : Int) (w : World) : Calls Try.prog 91 #[.int .i64 x] w fun e w' => e = .returned (.bool false) ∧ w = w' := by
  have h : (x != x) = false := by simp
  go_enter Try.func91, Try.ntmps91
  go_wp2
  go_ret
  exact ⟨rfl, rfl⟩
theorem compare_c (x y : Int) (w : World) : Calls Try.prog 68 #[.int .i64 x, .int .i64 y] w fun e w' => e = .returned (.int .i64 (cmpZ x y)) ∧ w = w' := by
  unfold cmpZ
  by_cases h : x < y
  · rw [if_pos h]
    go_enter Try.func68, Try.ntmps68
    go_wp2_with fail
    with_reducible refine (isNaN_c x _).mono ?_
    rintro e w' ⟨rfl, rfl⟩
    go_wp2_with fail
    with_reducible refine (isNaN_c y _).mono ?_
    rintro e w' ⟨rfl, rfl⟩
    go_wp2
    go_ret
    exact ⟨rfl, rfl⟩
  · rw [if_neg h]
    by_cases h2 : y < x
    · rw [if_pos h2]
      go_enter Try.func68, Try.ntmps68
      go_wp2_with fail
      with_reducible refine (isNaN_c x _).mono ?_
      rintro e w' ⟨rfl, rfl⟩
      go_wp2_with fail
      with_reducible refine (isNaN_c y _).mono ?_
      rintro e w' ⟨rfl, rfl⟩
      go_wp2
      go_ret
      exact ⟨rfl, rfl⟩
    · rw [if_neg h2]
      go_enter Try.func68, Try.ntmps68
      go_wp2_with fail
      with_reducible refine (isNaN_c x _).mono ?_
      rintro e w' ⟨rfl, rfl⟩
      go_wp2_with fail
      with_reducible refine (isNaN_c y _).mono ?_
      rintro e w' ⟨rfl, rfl⟩
      go_wp2
      go_ret
      exact ⟨rfl, rfl⟩
/-- the cell of a job's time on a machine -/
theorem jobAt {xss : List (List Int)} {A n m b off cap i k : Nat} {W : World} (ha : RdInt64SS A W (.slice (some ⟨b, off, none⟩) n cap) xss)
    (hrows : ∀ r ∈ xss, r.length = m ∧ ∀ x ∈ r, 0 ≤ x ∧ x ≤ 1000) (hi : i < n) (hk : k < m) :
    ∃ (b2 off2 rc : Nat) (y : Int), W.cell? ⟨b, off + i, none⟩ = some (.slice (some ⟨b2, off2, none⟩) m rc) ∧ W.cell? ⟨b2, off2 + k, none⟩ = some (.int .i64 y) ∧ jobF xss (i : Int) k = y ∧ 0 ≤ y ∧ y ≤ 1000 := by
  obtain ⟨ao', cap', hs, ho⟩ := ha.open
  injection hs with h1 h2 h3
  obtain ⟨b', off', hbo, _, hc⟩ := ho (by omega)
  rw [← h1] at hbo
  cases hbo
  obtain ⟨x, ao, rc, hx, hcell, hrd⟩ := hc i (by omega)
  have hxr := hrows x (List.mem_of_getElem? hx)
  have hxm : x.length = m := hxr.1
  obtain ⟨ao'', rc', hsh, hin⟩ := RdI.open hrd
  injection hsh with hs1 hs2 hs3
  subst hs1; subst hs3
  obtain ⟨b2, off2, rfl, hlt2, hc2⟩ := hin (by omega)
  obtain ⟨y, hy, hcy, _⟩ := hc2 k (by omega)
  rw [hxm] at hcell
  exact ⟨b2, off2, _, y, hcell, hcy, by unfold jobF; rw [rowI_jobI xss hx, atI_of hy], hxr.2 y (List.mem_of_getElem? hy)⟩
theorem cmpJ3 {xss : List (List Int)} {A n b off cap B i j : Nat} {W : World} (hB : W.cell? ⟨B, 0, none⟩ = some (.slice (some ⟨b, off, none⟩) n cap)) (ha : RdInt64SS A W (.slice (some ⟨b, off, none⟩) n cap) xss)
    (hrows : ∀ r ∈ xss, r.length = 2 ∧ ∀ x ∈ r, 0 ≤ x ∧ x ≤ 1000) (hi : i < n) (hj : j < n) :
    Calls Try.prog 67 #[.int .i64 (i : Int), .int .i64 (j : Int), .pointer (some ⟨B, 0, none⟩)] W fun e w' => e = .returned (.int .i64 (cmpZ (jobF xss i 0) (jobF xss j 0))) ∧ ∃ q, w' = W.drewN q := by
  obtain ⟨b1, o1, r1, y1, c1, d1, e1, _⟩ := jobAt ha hrows hi (show 0 < 2 by omega)
  obtain ⟨b2, o2, r2, y2, c2, d2, e2, _⟩ := jobAt ha hrows hj (show 0 < 2 by omega)
  rw [e1, e2]
  try simp only [Nat.add_zero] at d1 d2
  clear ha hrows e1 e2
  go_enter Try.func67, Try.ntmps67
  go_wp2
  go_quiet ((go_at_call 68; first | exact quiet_at0 (compare_c _ _ _) | exact quiet_at (compare_c _ _ _)))
  go_wp2
  go_ret
  exact ⟨rfl, _, rfl⟩
theorem cmpJ4 {xss : List (List Int)} {A n b off cap B i j : Nat} {W : World} (hB : W.cell? ⟨B, 0, none⟩ = some (.slice (some ⟨b, off, none⟩) n cap)) (ha : RdInt64SS A W (.slice (some ⟨b, off, none⟩) n cap) xss)
    (hrows : ∀ r ∈ xss, r.length = 2 ∧ ∀ x ∈ r, 0 ≤ x ∧ x ≤ 1000) (hi : i < n) (hj : j < n) :
    Calls Try.prog 69 #[.int .i64 (i : Int), .int .i64 (j : Int), .pointer (some ⟨B, 0, none⟩)] W fun e w' => e = .returned (.int .i64 (cmpZ (jobF xss j 1) (jobF xss i 1))) ∧ ∃ q, w' = W.drewN q := by
  obtain ⟨b1, o1, r1, y1, c1, d1, e1, _⟩ := jobAt ha hrows hi (show 1 < 2 by omega)
  obtain ⟨b2, o2, r2, y2, c2, d2, e2, _⟩ := jobAt ha hrows hj (show 1 < 2 by omega)
  rw [e1, e2]
  try simp only [Nat.add_zero] at d1 d2
  clear ha hrows e1 e2
  go_enter Try.func69, Try.ntmps69
  go_wp2
  go_quiet ((go_at_call 68; first | exact quiet_at0 (compare_c _ _ _) | exact quiet_at (compare_c _ _ _)))
  go_wp2
  go_ret
  exact ⟨rfl, _, rfl⟩
theorem cloJ1 {xss : List (List Int)} {A n b off cap B i : Nat} {W : World} (hB : W.cell? ⟨B, 0, none⟩ = some (.slice (some ⟨b, off, none⟩) n cap)) (ha : RdInt64SS A W (.slice (some ⟨b, off, none⟩) n cap) xss)
    (hrows : ∀ r ∈ xss, r.length = 2 ∧ ∀ x ∈ r, 0 ≤ x ∧ x ≤ 1000) (hi : i < n) :
    Calls Try.prog 64 #[.int .i64 (i : Int), .pointer (some ⟨B, 0, none⟩)] W fun e w' => e = .returned (.bool (decide (jobF xss i 0 < jobF xss i 1))) ∧ Below W.heap.size W w' := by
  obtain ⟨b1, o1, r1, y1, c1, d1, e1, _⟩ := jobAt ha hrows hi (show 0 < 2 by omega)
  obtain ⟨b2, o2, r2, y2, c2, d2, e2, _⟩ := jobAt ha hrows hi (show 1 < 2 by omega)
  rw [c1] at c2
  cases c2
  rw [e1, e2]
  simp only [Nat.add_zero] at d1
  clear ha hrows e1 e2
  go_enter Try.func64, Try.ntmps64
  go_wp2
  go_quiet (fail)
  go_wp2
  go_ret
  exact ⟨ret_bool (by first | rfl | (by_cases h : y1 < y2 <;> simp [h] <;> omega)), (Below.refl _ _).drewNy _⟩
theorem cloJ2 {xss : List (List Int)} {A n b off cap B i : Nat} {W : World} (hB : W.cell? ⟨B, 0, none⟩ = some (.slice (some ⟨b, off, none⟩) n cap)) (ha : RdInt64SS A W (.slice (some ⟨b, off, none⟩) n cap) xss)
    (hrows : ∀ r ∈ xss, r.length = 2 ∧ ∀ x ∈ r, 0 ≤ x ∧ x ≤ 1000) (hi : i < n) :
    Calls Try.prog 65 #[.int .i64 (i : Int), .pointer (some ⟨B, 0, none⟩)] W fun e w' => e = .returned (.bool (!decide (jobF xss i 0 < jobF xss i 1))) ∧ Below W.heap.size W w' := by
  obtain ⟨b1, o1, r1, y1, c1, d1, e1, _⟩ := jobAt ha hrows hi (show 0 < 2 by omega)
  obtain ⟨b2, o2, r2, y2, c2, d2, e2, _⟩ := jobAt ha hrows hi (show 1 < 2 by omega)
  rw [c1] at c2
  cases c2
  rw [e1, e2]
  simp only [Nat.add_zero] at d1
  clear ha hrows e1 e2
  go_enter Try.func65, Try.ntmps65
  go_wp2
  go_quiet (fail)
  go_wp2
  go_ret
  exact ⟨ret_bool (by first | rfl | (by_cases h : y1 < y2 <;> simp [h] <;> omega)), (Below.refl _ _).drewNy _⟩
theorem cols_J1 {w : World} {n : Nat} {p : Int → Bool} {c : Nat} (hn : n ≤ 1000)
    (hclo : ∀ (i : Nat) (W : World), i < n → Below w.heap.size w W → Calls Try.prog 64 #[.int .i64 (i : Int), .pointer (some ⟨c, 0, none⟩)] W fun e w' => e = .returned (.bool (p i)) ∧ Below W.heap.size W w') :
    Calls Try.prog 63 #[.int .i64 (n : Int), .func (.func 64) #[] #[.pointer (some ⟨c, 0, none⟩)]] w fun e w' => ∃ u, e = .returned u ∧ Own eI 2 w.heap.size w' u (selI p n) ∧ Below w.heap.size w w' := by
  obtain ⟨i0, hi, hz0, hz1, hz2⟩ := info_parts Try.infoInt64
  have Hclo := Lib.hid hclo
  have ho0 : Own eI 2 w.heap.size (w.alloc (.cells #[] 2)) (.slice (some ⟨w.heap.size, 0, none⟩) 0 0) (selI p 0) :=
    Own.lit (E := eI) (xs := []) (cs := #[]) (Nat.le_refl _) rfl rfl (by decide) (fun x hx => by cases hx)
  have hb0 : Below w.heap.size w (w.alloc (.cells #[] 2)) := (Below.refl _ _).alloc (Nat.le_refl _) _
  clear hclo
  go_enter Try.func63, Try.ntmps63
  go_wp2
  go_loopw [5, 9] (fun v i wr => ∃ k : Nat, k ≤ n ∧ i = .int .i64 k ∧ Own eI 2 w.heap.size wr v (selI p k) ∧ Below w.heap.size w wr) (fun _ i _ => n - (intOf i).toNat)
  case atStart => exact ⟨0, Nat.zero_le _, rfl, ho0, hb0⟩
  case round =>
    obtain ⟨k, hk, rfl, hown, hb⟩ := hrel
    clear ho0 hb0
    by_cases hkn : k < n
    · have hc := Hclo.out k _ hkn hb
      have Hc := Lib.hid hc
      have hsl := selI_len p k
      have hss := selI_succ p k
      have Hss := Lib.hid hss
      have Hb := Lib.hid hb
      have Hown := Lib.hid hown
      clear hc hss hb hown
      go_wp2_with fail
      with_reducible refine Hc.out.mono ?_
      cases hp : p (k : Int) with
      | true =>
        have Hp := Lib.hid hp
        clear hp
        rintro e w1 ⟨rfl, hb1⟩
        have hb2 := Hb.out.trans (hb1.mono Hb.out.size)
        have hown1 := Hown.out.below hb1 (Nat.le_refl _)
        have Hqp : eI.ok (k : Int) := by show -9223372036854775808 ≤ (k : Int) ∧ (k : Int) ≤ 9223372036854775807; omega
        have hsz := hb2.size
        clear hb1 Hb Hown
        go_wp2_with (first | (at_builtin; refine wpList_appS (E := eI) rfl _ _ 29 rfl Try.underlying29 hi hz0 hz1 hz2 rfl (by decide) rfl rfl (hown1.alloc _) (rds_one (E := eI) (x := (k : Int)) Hqp rfl) ?b1 ?b2 ?b3 ?_))
        case b1 => unfold maxLen; simp; omega
        case b2 => simp; omega
        case b3 => simp; omega
        intro v' w3 hown3 hg3
        have hb3 : Below w.heap.size w w3 := hg3.alloc.below hb2 hb2.size (fun j hj => (hown1.lt j hj).1)
        clear hg3 hb2 hown1 Hqp
        go_wp2
        go_roundw
        case rel => exact ⟨k + 1, by omega, by go_num, by rw [Hss.out, Hp.out]; exact hown3, hb3⟩
        case measure => simp [intOf]; omega
      | false =>
        have Hp := Lib.hid hp
        clear hp
        rintro e w1 ⟨rfl, hb1⟩
        have hb2 := Hb.out.trans (hb1.mono Hb.out.size)
        have hown1 := Hown.out.below hb1 (Nat.le_refl _)
        clear hb1 Hb Hown
        go_wp2
        go_roundw
        case rel => exact ⟨k + 1, by omega, by go_num, by rw [Hss.out, Hp.out]; simpa using hown1, hb2⟩
        case measure => simp [intOf]; omega
    · obtain rfl : k = n := by omega
      go_wp2
      go_ret
      exact ⟨_, rfl, hown, hb⟩

theorem cols_J2 {w : World} {n : Nat} {p : Int → Bool} {c : Nat} (hn : n ≤ 1000)
    (hclo : ∀ (i : Nat) (W : World), i < n → Below w.heap.size w W → Calls Try.prog 65 #[.int .i64 (i : Int), .pointer (some ⟨c, 0, none⟩)] W fun e w' => e = .returned (.bool (p i)) ∧ Below W.heap.size W w') :
    Calls Try.prog 63 #[.int .i64 (n : Int), .func (.func 65) #[] #[.pointer (some ⟨c, 0, none⟩)]] w fun e w' => ∃ u, e = .returned u ∧ Own eI 2 w.heap.size w' u (selI p n) ∧ Below w.heap.size w w' := by
  obtain ⟨i0, hi, hz0, hz1, hz2⟩ := info_parts Try.infoInt64
  have Hclo := Lib.hid hclo
  have ho0 : Own eI 2 w.heap.size (w.alloc (.cells #[] 2)) (.slice (some ⟨w.heap.size, 0, none⟩) 0 0) (selI p 0) :=
    Own.lit (E := eI) (xs := []) (cs := #[]) (Nat.le_refl _) rfl rfl (by decide) (fun x hx => by cases hx)
  have hb0 : Below w.heap.size w (w.alloc (.cells #[] 2)) := (Below.refl _ _).alloc (Nat.le_refl _) _
  clear hclo
  go_enter Try.func63, Try.ntmps63
  go_wp2
  go_loopw [5, 9] (fun v i wr => ∃ k : Nat, k ≤ n ∧ i = .int .i64 k ∧ Own eI 2 w.heap.size wr v (selI p k) ∧ Below w.heap.size w wr) (fun _ i _ => n - (intOf i).toNat)
  case atStart => exact ⟨0, Nat.zero_le _, rfl, ho0, hb0⟩
  case round =>
    obtain ⟨k, hk, rfl, hown, hb⟩ := hrel
    clear ho0 hb0
    by_cases hkn : k < n
    · have hc := Hclo.out k _ hkn hb
      have Hc := Lib.hid hc
      have hsl := selI_len p k
      have hss := selI_succ p k
      have Hss := Lib.hid hss
      have Hb := Lib.hid hb
      have Hown := Lib.hid hown
      clear hc hss hb hown
      go_wp2_with fail
      with_reducible refine Hc.out.mono ?_
      cases hp : p (k : Int) with
      | true =>
        have Hp := Lib.hid hp
        clear hp
        rintro e w1 ⟨rfl, hb1⟩
        have hb2 := Hb.out.trans (hb1.mono Hb.out.size)
        have hown1 := Hown.out.below hb1 (Nat.le_refl _)
        have Hqp : eI.ok (k : Int) := by show -9223372036854775808 ≤ (k : Int) ∧ (k : Int) ≤ 9223372036854775807; omega
        have hsz := hb2.size
        clear hb1 Hb Hown
        go_wp2_with (first | (at_builtin; refine wpList_appS (E := eI) rfl _ _ 29 rfl Try.underlying29 hi hz0 hz1 hz2 rfl (by decide) rfl rfl (hown1.alloc _) (rds_one (E := eI) (x := (k : Int)) Hqp rfl) ?b1 ?b2 ?b3 ?_))
        case b1 => unfold maxLen; simp; omega
        case b2 => simp; omega
        case b3 => simp; omega
        intro v' w3 hown3 hg3
        have hb3 : Below w.heap.size w w3 := hg3.alloc.below hb2 hb2.size (fun j hj => (hown1.lt j hj).1)
        clear hg3 hb2 hown1 Hqp
        go_wp2
        go_roundw
        case rel => exact ⟨k + 1, by omega, by go_num, by rw [Hss.out, Hp.out]; exact hown3, hb3⟩
        case measure => simp [intOf]; omega
      | false =>
        have Hp := Lib.hid hp
        clear hp
        rintro e w1 ⟨rfl, hb1⟩
        have hb2 := Hb.out.trans (hb1.mono Hb.out.size)
        have hown1 := Hown.out.below hb1 (Nat.le_refl _)
        clear hb1 Hb Hown
        go_wp2
        go_roundw
        case rel => exact ⟨k + 1, by omega, by go_num, by rw [Hss.out, Hp.out]; simpa using hown1, hb2⟩
        case measure => simp [intOf]; omega
    · obtain rfl : k = n := by omega
      go_wp2
      go_ret
      exact ⟨_, rfl, hown, hb⟩

end Go.Proofs.Ytpnmcgjfemaleaa
