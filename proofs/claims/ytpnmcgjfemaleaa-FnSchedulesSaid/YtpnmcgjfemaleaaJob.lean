/- Valid jobs: the program's and the reference's. No condition. -/
import Derived.Test.YtpnmcgjfemaleaaMat
import Derived.Test.YtpnmcgjfemaleaaSmall
namespace Go.Proofs.Ytpnmcgjfemaleaa
open Go.ChangeShapes Go.WideShapes Go.ChangeAt Go.RowKit
set_option linter.unusedVariables false
set_option maxRecDepth 100000
def badMin (x : Int) : Bool := !decide (0 ≤ x ∧ x ≤ 1000)
def colsJ : List (List Int) → Nat
  | [] => 0
  | x :: _ => x.length
def okRow (m : Nat) (r : List Int) : Bool := decide (r.length = m) && !(r.any badMin)
def validJ (xss : List (List Int)) : Bool := (decide (1 ≤ xss.length ∧ xss.length ≤ 8) && decide (1 ≤ colsJ xss ∧ colsJ xss ≤ 4)) && xss.all (okRow (colsJ xss))
theorem colsJ_of {xss : List (List Int)} {x : List Int} (h : xss[0]? = some x) : colsJ xss = x.length := by
  cases xss with
  | nil => simp at h
  | cons y ys => simp at h; subst h; rfl
theorem validJ_parts {xss : List (List Int)} (h : validJ xss = true) : (1 ≤ xss.length ∧ xss.length ≤ 8) ∧ (1 ≤ colsJ xss ∧ colsJ xss ≤ 4) ∧ ∀ r ∈ xss, r.length = colsJ xss ∧ ∀ x ∈ r, 0 ≤ x ∧ x ≤ 1000 := by
  unfold validJ at h
  simp only [Bool.and_eq_true, decide_eq_true_eq, List.all_eq_true] at h
  refine ⟨h.1.1, h.1.2, fun r hr => ?_⟩
  have h2 := h.2 r hr
  unfold okRow at h2
  simp only [Bool.and_eq_true, decide_eq_true_eq, Bool.not_eq_true', List.any_eq_false] at h2
  refine ⟨h2.1, fun x hx => ?_⟩
  have := h2.2 x hx
  unfold badMin at this
  simp at this
  omega
theorem clo_badMin (x : Int) (w : World) (_h : -9223372036854775808 ≤ x ∧ x ≤ 9223372036854775807) : Calls Try.prog 50 #[.int .i64 x] w fun e w' => e = .returned (.bool (badMin x)) ∧ w = w' := by
  go_enter Try.func50, Try.ntmps50
  go_wp2_with fail
  refine (inside_any _ _ _ _).mono ?_
  rintro e w' ⟨rfl, rfl⟩
  go_wp2
  go_ret
  exact ⟨ret_bool (by unfold badMin; simp), rfl⟩
theorem indexFunc_badMin {xs : List Int} {v : Value} {w : World} {A : Nat} (ha : RdI A w v xs) :
    Calls Try.prog 86 #[v, .func (.func 50) #[] #[]] w fun e w' => (∃ r : Int, e = .returned (.int .i64 r) ∧ -1 ≤ r ∧ (0 ≤ r ↔ xs.any badMin = true)) ∧ w = w' := by
  have hle := ha.le
  obtain ⟨ao, cap, rfl, ho⟩ := ha.open
  obtain ⟨l, hl⟩ : ∃ l, l = xs.length := ⟨_, rfl⟩
  rw [← hl]
  have Hl := Lib.hid hl
  have Ho := Lib.hid ho
  have hl' : l ≤ 9223372036854775807 := by omega
  clear ho hl hle ha
  go_enter Try.func86, Try.ntmps86
  go_wp2
  go_loop [8] (fun i => ∃ k : Nat, k ≤ l ∧ i = .int .i64 k ∧ Hid ((xs.take k).any badMin = false)) (fun i => l - (intOf i).toNat)
  case atStart => exact ⟨0, Nat.zero_le _, rfl, rfl⟩
  case round =>
    obtain ⟨k, hk, rfl, hp⟩ := hrel
    by_cases hkn : k < l
    · obtain ⟨b, off, rfl, hlt, hc⟩ := Ho.out (by have := Hl.out; omega)
      obtain ⟨x, hx, hcx, bx⟩ := hc k (by have := Hl.out; omega)
      have Hx := Lib.hid hx
      have Hb := Lib.hid bx
      clear hx hc bx
      cases hq : badMin x with
      | true =>
        have Hq := Lib.hid hq
        clear hq
        go_wp2_with (go_at_call 50; refine (clo_badMin x _ Hb.out).mono ?_; rw [Hq.out]; rintro e w' ⟨rfl, rfl⟩)
        go_ret
        refine ⟨⟨_, rfl, by omega, ?_⟩, rfl⟩
        have : xs.any badMin = true := List.any_eq_true.2 ⟨x, List.mem_of_getElem? Hx.out, Hq.out⟩
        simp [this]
      | false =>
        have Hq := Lib.hid hq
        clear hq
        go_wp2_with (go_at_call 50; refine (clo_badMin x _ Hb.out).mono ?_; rw [Hq.out]; rintro e w' ⟨rfl, rfl⟩)
        go_round
        case rel => exact ⟨k + 1, by omega, by go_num, by show _ = false; rw [take_snoc Hx.out, List.any_append, hp.out]; simp [Hq.out]⟩
        case measure => simp [intOf]; omega
    · go_wp2
      go_ret
      refine ⟨⟨_, rfl, by omega, ?_⟩, rfl⟩
      have hq := hp.out
      rw [List.take_of_length_le (by have := Hl.out; omega)] at hq
      exact any_end hq
theorem any_badMin {xs : List Int} {v : Value} {w : World} {A : Nat} (ha : RdI A w v xs) :
    Calls Try.prog 49 #[v, .func (.func 50) #[] #[]] w fun e w' => e = .returned (.bool (xs.any badMin)) ∧ w = w' := by
  have Ha := Lib.hid ha
  obtain ⟨ao, cap, rfl⟩ := ha.shape
  clear ha
  go_enter Try.func49, Try.ntmps49
  go_wp2_with fail
  refine (indexFunc_badMin Ha.out).mono ?_
  rintro e w' ⟨⟨r, rfl, hr, hi⟩, rfl⟩
  have Hi := Lib.hid hi
  clear hi
  go_wp2
  go_ret
  refine ⟨ret_bool ?_, rfl⟩
  rw [Bool.eq_iff_iff, decide_eq_true_iff]
  exact Hi.out
theorem sizeS_any {xss : List (List Int)} {ao : Option Addr} {n cap : Nat} {w : World} (hn : n ≤ 9223372036854775807) :
    Calls Try.prog 47 #[.slice ao n cap] w fun e w' => e = .returned (.int .i64 n) ∧ w = w' := by
  go_enter Try.func47, Try.ntmps47
  go_wp2
  go_ret
  exact ⟨rfl, rfl⟩
theorem ValidJobs_c {xss : List (List Int)} {v : Value} {w : World} {A : Nat} (ha : RdInt64SS A w v xss) :
    Calls Try.prog 17 #[v] w fun e w' => e = .returned (.bool (validJ xss)) ∧ w = w' := by
  have hle := ha.le
  obtain ⟨ao, cap, rfl, ho⟩ := ha.open
  obtain ⟨n, hn⟩ : ∃ n, n = xss.length := ⟨_, rfl⟩
  rw [← hn]
  have Hn := Lib.hid hn
  have Ho := Lib.hid ho
  have hle' : n ≤ 9223372036854775807 := by omega
  have hv := validJ.eq_1 xss
  rw [← hn] at hv
  clear ho hn hle ha
  by_cases h1 : 1 ≤ n ∧ n ≤ 8
  · obtain ⟨b, off, rfl, hlt, hc⟩ := Ho.out (by have := Hn.out; omega)
    obtain ⟨x0, ro0, rc0, hx0, hcell0, hrd0⟩ := hc 0 (by have := Hn.out; omega)
    have hcols := colsJ_of hx0
    rw [hcols] at hv
    have hcell0' : w.cell? ⟨b, off, none⟩ = some (.slice ro0 x0.length rc0) := by simpa using hcell0
    have hl0 := hrd0.le
    have Hc := Lib.hid hc
    have Hrd0 := Lib.hid hrd0
    clear hc hcell0 hx0 hcols hrd0
    rw [decide_eq_true h1, Bool.true_and] at hv
    by_cases h2 : 1 ≤ x0.length ∧ x0.length ≤ 4
    · rw [decide_eq_true h2, Bool.true_and] at hv
      have Hv := Lib.hid hv
      clear hv
      go_enter Try.func17, Try.ntmps17
      go_wp2_with fail
      with_reducible refine (sizeS_any (xss := xss) hle').mono ?_
      rintro e w' ⟨rfl, rfl⟩
      go_wp2_with fail
      with_reducible refine (inside_yes _ _ _ _ (by omega) (by omega)).mono ?_
      rintro e w' ⟨rfl, rfl⟩
      go_wp2_with fail
      with_reducible refine (size_any Hrd0.out).mono ?_
      rintro e w' ⟨rfl, rfl⟩
      go_wp2_with fail
      with_reducible refine (inside_yes _ _ _ _ (by omega) (by omega)).mono ?_
      rintro e w' ⟨rfl, rfl⟩
      go_wp2
      go_loop [19] (fun i => ∃ k : Nat, k ≤ n ∧ i = .int .i64 k ∧ Hid ((xss.take k).all (okRow x0.length) = true)) (fun i => n - (intOf i).toNat)
      case atStart => exact ⟨0, Nat.zero_le _, rfl, rfl⟩
      case round =>
        obtain ⟨k, hk, rfl, hp⟩ := hrel
        by_cases hkn : k < n
        · obtain ⟨x, ro, rc, hx, hcell, hrd⟩ := Hc.out k (by have := Hn.out; omega)
          have Hx := Lib.hid hx
          have Hrd := Lib.hid hrd
          clear hx hrd
          have hno : okRow x0.length x = false → validJ xss = false := by
            intro h
            rw [Hv.out, List.all_eq_false]
            exact ⟨x, List.mem_of_getElem? Hx.out, by rw [h]; decide⟩
          have Hno := Lib.hid hno
          clear hno
          by_cases h3 : x.length = x0.length
          · rw [h3] at hcell
            have Hrd2 : Hid (RdI A w (.slice ro x0.length rc) x) := Lib.hid (h3 ▸ Hrd.out)
            clear Hrd
            cases h4 : x.any badMin with
            | true =>
              have h5 : validJ xss = false := Hno.out (by unfold okRow; rw [h4]; simp)
              have H5 := Lib.hid h5
              have H4 := Lib.hid h4
              clear h4 h5
              go_wp2_with fail
              with_reducible refine (any_badMin Hrd2.out).mono ?_
              rw [H4.out]
              rintro e w' ⟨rfl, rfl⟩
              go_wp2
              go_ret
              exact ⟨ret_bool H5.out.symm, rfl⟩
            | false =>
              have H4 := Lib.hid h4
              clear h4
              go_wp2_with fail
              with_reducible refine (any_badMin Hrd2.out).mono ?_
              rw [H4.out]
              rintro e w' ⟨rfl, rfl⟩
              go_wp2
              go_round
              case rel => exact ⟨k + 1, by omega, by go_num, by show _ = true; rw [take_snoc Hx.out, List.all_append, hp.out]; simp [okRow, H4.out, h3]⟩
              case measure => simp [intOf]; omega
          · have h3' : ¬ (x.length : Int) = x0.length := by omega
            have h5 : validJ xss = false := Hno.out (by unfold okRow; rw [decide_eq_false h3]; rfl)
            have H5 := Lib.hid h5
            clear h5
            go_wp2
            go_ret
            exact ⟨ret_bool H5.out.symm, rfl⟩
        · go_wp2
          go_ret
          refine ⟨ret_bool ?_, rfl⟩
          rw [Hv.out]
          have := hp.out
          rw [List.take_of_length_le (by have := Hn.out; omega)] at this
          exact this.symm
    · rw [decide_eq_false h2, Bool.false_and] at hv
      rw [hv]
      have hno : (x0.length : Int) < 1 ∨ 4 < (x0.length : Int) := by omega
      have Hno := Lib.hid hno
      clear hv h2 hno
      go_enter Try.func17, Try.ntmps17
      go_wp2_with fail
      with_reducible refine (sizeS_any (xss := xss) hle').mono ?_
      rintro e w' ⟨rfl, rfl⟩
      go_wp2_with fail
      with_reducible refine (inside_yes _ _ _ _ (by omega) (by omega)).mono ?_
      rintro e w' ⟨rfl, rfl⟩
      go_wp2_with fail
      with_reducible refine (size_any Hrd0.out).mono ?_
      rintro e w' ⟨rfl, rfl⟩
      go_wp2_with fail
      with_reducible refine (inside_no _ _ _ _ Hno.out).mono ?_
      rintro e w' ⟨rfl, rfl⟩
      go_wp2
      go_ret
      exact ⟨rfl, rfl⟩
  · rw [decide_eq_false h1, Bool.false_and, Bool.false_and] at hv
    rw [hv]
    have hno : (n : Int) < 1 ∨ 8 < (n : Int) := by omega
    have Hno := Lib.hid hno
    clear hv h1 hno
    go_enter Try.func17, Try.ntmps17
    go_wp2_with fail
    with_reducible refine (sizeS_any (xss := xss) hle').mono ?_
    rintro e w' ⟨rfl, rfl⟩
    go_wp2_with fail
    with_reducible refine (inside_no _ _ _ _ Hno.out).mono ?_
    rintro e w' ⟨rfl, rfl⟩
    go_wp2
    go_ret
    exact ⟨rfl, rfl⟩
/-- the reference's test of a row -/
def goodR (m : Nat) (r : List Int) : Bool := (decide (r.length = m) && decide (1 ≤ r.length ∧ r.length ≤ 4)) && !(r.any badMin)
theorem validJ_spec (xss : List (List Int)) : validJ xss = (xss.all (goodR (colsJ xss)) && decide (1 ≤ xss.length ∧ xss.length ≤ 8)) := by
  unfold validJ
  cases xss with
  | nil => rfl
  | cons x ys =>
    rw [Bool.eq_iff_iff]
    simp only [Bool.and_eq_true, decide_eq_true_eq, List.all_eq_true, okRow, goodR]
    constructor
    · rintro ⟨⟨h1, h2⟩, h3⟩
      exact ⟨fun r hr => ⟨⟨(h3 r hr).1, by rw [(h3 r hr).1]; exact h2⟩, (h3 r hr).2⟩, h1⟩
    · rintro ⟨h1, h2⟩
      refine ⟨⟨h2, ?_⟩, fun r hr => ⟨(h1 r hr).1.1, (h1 r hr).2⟩⟩
      exact (h1 x (List.mem_cons_self ..)).1.2
theorem l21Ok_c {xss : List (List Int)} {v : Value} {w : World} {A : Nat} (ha : RdInt64SS A w v xss) :
    Calls Try.prog 45 #[v] w fun e w' => e = .returned (.bool (validJ xss)) ∧ ∃ q, w' = w.drewN q := by
  have hle := ha.le
  obtain ⟨ao, cap, rfl, ho⟩ := ha.open
  obtain ⟨n, hn⟩ : ∃ n, n = xss.length := ⟨_, rfl⟩
  rw [← hn]
  have Hn := Lib.hid hn
  have Ho := Lib.hid ho
  have hle' : n ≤ 9223372036854775807 := by omega
  have hv := validJ_spec xss
  rw [← hn] at hv
  have Hv := Lib.hid hv
  clear ho hn hle ha hv
  go_enter Try.func45, Try.ntmps45
  go_wp2
  go_loopw [3] (fun i wr => ∃ k : Nat, k ≤ n ∧ i = .int .i64 k ∧ Hid ((xss.take k).all (goodR (colsJ xss)) = true) ∧ ∃ m, wr = w.drewN m) (fun i _ => n - (intOf i).toNat)
  case atStart => exact ⟨0, Nat.zero_le _, rfl, rfl, 0, rfl⟩
  case round =>
    obtain ⟨k, hk, rfl, hp, m, rfl⟩ := hrel
    by_cases hkn : k < n
    · obtain ⟨b, off, rfl, hlt, hc⟩ := Ho.out (by have := Hn.out; omega)
      obtain ⟨x0, ro0, rc0, hx0, hcell0, hrd0⟩ := hc 0 (by have := Hn.out; omega)
      have hcols := colsJ_of hx0
      obtain ⟨x, ro, rc, hx, hcell, hrd⟩ := hc k (by have := Hn.out; omega)
      have hcell0' : w.cell? ⟨b, off, none⟩ = some (.slice ro0 x0.length rc0) := by simpa using hcell0
      have Hx := Lib.hid hx
      have Hcols := Lib.hid hcols
      have hno : goodR x0.length x = false → validJ xss = false := by
        intro h
        rw [Hv.out, Hcols.out, List.all_eq_false.2 ⟨x, List.mem_of_getElem? Hx.out, by rw [h]; decide⟩]; rfl
      have Hno := Lib.hid hno
      have hlx := hrd.le
      obtain ⟨ro', rc', hsh, hin⟩ := hrd.open
      injection hsh with hs1 hs2 hs3
      subst hs1; subst hs3
      have Hin := Lib.hid hin
      clear hx hno hc hcell0 hx0 hcols hrd0 hrd hin hs2
      by_cases h3 : x.length = x0.length
      · rw [h3] at hcell
        by_cases h4 : 1 ≤ x.length ∧ x.length ≤ 4
        · go_wp2
          go_quiet ((go_at_call 75; exact quiet_at (l00In_yes _ _ _ _ (by omega) (by omega))))
          go_wp2
          go_loopw [4] (fun i wr => ∃ j : Nat, j ≤ x0.length ∧ i = .int .i64 j ∧ Hid ((x.take j).any badMin = false) ∧ ∃ m, wr = w.drewN m) (fun i _ => x0.length - (intOf i).toNat)
          case atStart => exact ⟨0, Nat.zero_le _, rfl, rfl, _, by first | rfl | rw [World.drewN_drewN]⟩
          case round =>
            obtain ⟨j, hj, rfl, hq, m2, rfl⟩ := hrel
            by_cases hjn : j < x0.length
            · obtain ⟨b2, off2, rfl, hlt2, hc2⟩ := Hin.out (by omega)
              obtain ⟨y, hy, hcy, by2⟩ := hc2 j (by omega)
              have Hy := Lib.hid hy
              clear hy hc2
              by_cases h5 : 0 ≤ y ∧ y ≤ 1000
              · go_wp2_with fail
                with_reducible refine (l00In_yes _ _ _ _ (by omega) (by omega)).mono ?_
                rintro e w' ⟨rfl, rfl⟩
                go_wp2
                go_roundw
                case rel => exact ⟨j + 1, by omega, by go_num, by show _ = false; rw [take_snoc Hy.out, List.any_append, hq.out]; simp [badMin]; omega, _, rfl⟩
                case measure => simp [intOf]; omega
              · go_wp2_with fail
                with_reducible refine (l00In_no _ _ _ _ (by omega)).mono ?_
                rintro e w' ⟨rfl, rfl⟩
                go_wp2
                go_ret
                refine ⟨ret_bool ?_, _, rfl⟩
                rw [Hno.out]
                have : x.any badMin = true := List.any_eq_true.2 ⟨y, List.mem_of_getElem? Hy.out, by unfold badMin; rw [decide_eq_false h5]; rfl⟩
                unfold goodR; rw [this]; simp
            · go_wp2
              go_roundw
              case rel =>
                refine ⟨k + 1, by omega, by go_num, ?_, _, rfl⟩
                show _ = true
                have hq' := hq.out
                rw [List.take_of_length_le (by omega)] at hq'
                rw [take_snoc Hx.out, List.all_append, hp.out, Hcols.out]
                simp [goodR, hq', h3]
                omega
              case measure => simp [intOf]; omega
        · have h5 : validJ xss = false := Hno.out (by unfold goodR; rw [decide_eq_false h4]; simp)
          have H5 := Lib.hid h5
          have hno : (x0.length : Int) < 1 ∨ 4 < (x0.length : Int) := by omega
          clear h5 h4
          go_wp2
          go_quiet ((go_at_call 75; exact quiet_at (l00In_no _ _ _ _ hno)))
          go_wp2
          go_ret
          exact ⟨ret_bool H5.out.symm, _, by first | rfl | rw [World.drewN_drewN]⟩
      · have h3' : ¬ (x.length : Int) = x0.length := by omega
        have h5 : validJ xss = false := Hno.out (by unfold goodR; rw [decide_eq_false h3]; rfl)
        have H5 := Lib.hid h5
        have hf : ((x.length : Int) != (x0.length : Int)) = true := by simp; omega
        clear h5
        go_wp2
        go_quiet (fail)
        go_wp2
        go_ret
        exact ⟨ret_bool H5.out.symm, _, by first | rfl | rw [World.drewN_drewN]⟩
    · go_wp2_with fail
      with_reducible refine (l00In_any _ _ _ _).mono ?_
      rintro e w' ⟨rfl, rfl⟩
      go_wp2
      go_ret
      refine ⟨ret_bool ?_, _, rfl⟩
      rw [Hv.out]
      have := hp.out
      rw [List.take_of_length_le (by have := Hn.out; omega)] at this
      rw [this, Bool.true_and]
      rw [Bool.eq_iff_iff]
      simp only [Bool.and_eq_true, decide_eq_true_eq]
      omega
theorem sValidJobs_c {xss : List (List Int)} {v : Value} {w : World} {A : Nat} (ha : RdInt64SS A w v xss) :
    Calls Try.prog 15 #[v] w fun e w' => e = .returned (.bool (validJ xss)) ∧ ∃ q, w' = w.drewN q := by
  have Ha := Lib.hid ha
  obtain ⟨ao, cap, rfl⟩ := ha.shape
  clear ha
  go_enter Try.func15, Try.ntmps15
  go_wp2_with fail
  with_reducible refine (l21Ok_c Ha.out).mono ?_
  rintro e w' ⟨rfl, q, rfl⟩
  go_wp2
  go_ret
  exact ⟨rfl, _, rfl⟩
end Go.Proofs.Ytpnmcgjfemaleaa
