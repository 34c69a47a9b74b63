/- Tables: the program's test and the reference's. No condition. -/
import Derived.Test.YtljjilgpmckccaaMatO
import Derived.Test.YtljjilgpmckccaaRestW
namespace Go.Proofs.Ytljjilgpmckccaa
open Go.ChangeShapes Go.WideShapes Go.ChangeAt Go.RowKit
set_option linter.unusedVariables false
set_option maxRecDepth 100000
def badCt (x : Int) : Bool := !decide (0 ≤ x ∧ x ≤ 1000000)
def colsJ : List (List Int) → Nat
  | [] => 0
  | x :: _ => x.length
def okList (r : List Int) : Bool := decide (r.length ≤ 40) && !(r.any badCt)
def okTab (m : Nat) (r : List Int) : Bool := okList r && decide (r.length = m)
def tabB (xss : List (List Int)) : Bool := xss.all (okTab (colsJ xss)) && decide (xss.length ≤ 40)
theorem colsJ_of {xss : List (List Int)} {x : List Int} (h : xss[0]? = some x) : colsJ xss = x.length := by
  cases xss with
  | nil => simp at h
  | cons y ys => simp at h; subst h; rfl
theorem tabB_parts {xss : List (List Int)} (h : tabB xss = true) : xss.length ≤ 40 ∧ ∀ r ∈ xss, r.length = colsJ xss ∧ r.length ≤ 40 ∧ ∀ x ∈ r, 0 ≤ x ∧ x ≤ 1000000 := by
  unfold tabB at h
  simp only [Bool.and_eq_true, decide_eq_true_eq, List.all_eq_true] at h
  refine ⟨h.2, fun r hr => ?_⟩
  have h2 := h.1 r hr
  unfold okTab okList at h2
  simp only [Bool.and_eq_true, decide_eq_true_eq, Bool.not_eq_true', List.any_eq_false] at h2
  refine ⟨h2.2, h2.1.1, fun x hx => ?_⟩
  have := h2.1.2 x hx
  unfold badCt at this
  simp at this
  omega
theorem clo_badCt (x : Int) (w : World) (_h : -9223372036854775808 ≤ x ∧ x ≤ 9223372036854775807) : Calls Try.prog 103 #[.int .i64 x] w fun e w' => e = .returned (.bool (badCt x)) ∧ w = w' := by
  go_enter Try.func103, Try.ntmps103
  go_wp2_with fail
  refine (inside_any _ _ _ _).mono ?_
  rintro e w' ⟨rfl, rfl⟩
  go_wp2
  go_ret
  exact ⟨ret_bool (by unfold badCt; simp), rfl⟩
theorem indexFunc_badCt {xs : List Int} {v : Value} {w : World} {A : Nat} (ha : RdI A w v xs) :
    Calls Try.prog 105 #[v, .func (.func 103) #[] #[]] w fun e w' => (∃ r : Int, e = .returned (.int .i64 r) ∧ -1 ≤ r ∧ (0 ≤ r ↔ xs.any badCt = true)) ∧ w = w' := by
  have hle := ha.le
  obtain ⟨ao, cap, rfl, ho⟩ := ha.open
  obtain ⟨l, hl⟩ : ∃ l, l = xs.length := ⟨_, rfl⟩
  rw [← hl]
  have Hl := Lib.hid hl
  have Ho := Lib.hid ho
  have hl' : l ≤ 9223372036854775807 := by omega
  clear ho hl hle ha
  go_enter Try.func105, Try.ntmps105
  go_wp2
  go_loop [8] (fun i => ∃ k : Nat, k ≤ l ∧ i = .int .i64 k ∧ Hid ((xs.take k).any badCt = false)) (fun i => l - (intOf i).toNat)
  case atStart => exact ⟨0, Nat.zero_le _, rfl, rfl⟩
  case round =>
    obtain ⟨k, hk, rfl, hp⟩ := hrel
    by_cases hkn : k < l
    · obtain ⟨b, off, rfl, hlt, hc⟩ := Ho.out (by have := Hl.out; omega)
      obtain ⟨x, hx, hcx, bx⟩ := hc k (by have := Hl.out; omega)
      have Hx := Lib.hid hx
      have Hb := Lib.hid bx
      clear hx hc bx
      cases hq : badCt x with
      | true =>
        have Hq := Lib.hid hq
        clear hq
        go_wp2_with (go_at_call 103; refine (clo_badCt x _ Hb.out).mono ?_; rw [Hq.out]; rintro e w' ⟨rfl, rfl⟩)
        go_ret
        refine ⟨⟨_, rfl, by omega, ?_⟩, rfl⟩
        have : xs.any badCt = true := List.any_eq_true.2 ⟨x, List.mem_of_getElem? Hx.out, Hq.out⟩
        simp [this]
      | false =>
        have Hq := Lib.hid hq
        clear hq
        go_wp2_with (go_at_call 103; refine (clo_badCt x _ Hb.out).mono ?_; rw [Hq.out]; rintro e w' ⟨rfl, rfl⟩)
        go_round
        case rel => exact ⟨k + 1, by omega, by go_num, by show _ = false; rw [take_snoc Hx.out, List.any_append, hp.out]; simp [Hq.out]⟩
        case measure => simp [intOf]; omega
    · go_wp2
      go_ret
      refine ⟨⟨_, rfl, by omega, ?_⟩, rfl⟩
      have hq := hp.out
      rw [List.take_of_length_le (by have := Hl.out; omega)] at hq
      exact any_end hq
theorem any_badCt {xs : List Int} {v : Value} {w : World} {A : Nat} (ha : RdI A w v xs) :
    Calls Try.prog 101 #[v, .func (.func 103) #[] #[]] w fun e w' => e = .returned (.bool (xs.any badCt)) ∧ w = w' := by
  have Ha := Lib.hid ha
  obtain ⟨ao, cap, rfl⟩ := ha.shape
  clear ha
  go_enter Try.func101, Try.ntmps101
  go_wp2_with fail
  refine (indexFunc_badCt Ha.out).mono ?_
  rintro e w' ⟨⟨r, rfl, hr, hi⟩, rfl⟩
  have Hi := Lib.hid hi
  clear hi
  go_wp2
  go_ret
  refine ⟨ret_bool ?_, rfl⟩
  rw [Bool.eq_iff_iff, decide_eq_true_iff]
  exact Hi.out
theorem areCounts_c {xs : List Int} {v : Value} {w : World} {A : Nat} (ha : RdI A w v xs) :
    Calls Try.prog 95 #[v] w fun e w' => e = .returned (.bool (okList xs)) ∧ w = w' := by
  have hle := ha.le
  have Ha := Lib.hid ha
  obtain ⟨ao, cap, rfl⟩ := ha.shape
  clear ha
  have hv := okList.eq_1 xs
  obtain ⟨n, hn⟩ : ∃ n, n = xs.length := ⟨_, rfl⟩
  rw [← hn] at hv Ha hle ⊢
  clear hn
  by_cases h : n ≤ 40
  · rw [decide_eq_true h, Bool.true_and] at hv
    have Hv := Lib.hid hv
    clear hv
    go_enter Try.func95, Try.ntmps95
    go_wp2_with fail
    with_reducible refine (any_badCt Ha.out).mono ?_
    rintro e w' ⟨rfl, rfl⟩
    go_wp2
    go_ret
    exact ⟨ret_bool Hv.out.symm, rfl⟩
  · rw [decide_eq_false h, Bool.false_and] at hv
    have Hv := Lib.hid hv
    clear hv
    go_enter Try.func95, Try.ntmps95
    go_wp2
    go_ret
    exact ⟨ret_bool Hv.out.symm, rfl⟩
theorem isTable_c {xss : List (List Int)} {v : Value} {w : World} {A : Nat} (ha : RdInt64SS A w v xss) :
    Calls Try.prog 76 #[v] w fun e w' => e = .returned (.bool (tabB xss)) ∧ w = w' := by
  have hle := ha.le
  obtain ⟨ao, cap, rfl, ho⟩ := ha.open
  obtain ⟨n, hn⟩ : ∃ n, n = xss.length := ⟨_, rfl⟩
  rw [← hn]
  have Hn := Lib.hid hn
  have Ho := Lib.hid ho
  have hle' : n ≤ 9223372036854775807 := by omega
  have hv := tabB.eq_1 xss
  rw [← hn] at hv
  have Hv := Lib.hid hv
  clear ho hn hle ha hv
  go_enter Try.func76, Try.ntmps76
  go_wp2
  go_loop [7] (fun i => ∃ k : Nat, k ≤ n ∧ i = .int .i64 k ∧ Hid ((xss.take k).all (okTab (colsJ xss)) = true)) (fun i => n - (intOf i).toNat)
  case atStart => exact ⟨0, Nat.zero_le _, rfl, rfl⟩
  case round =>
    obtain ⟨k, hk, rfl, hp⟩ := hrel
    by_cases hkn : k < n
    · obtain ⟨b, off, rfl, hlt, hc⟩ := Ho.out (by have := Hn.out; omega)
      obtain ⟨x0, ro0, rc0, hx0, hcell0, hrd0⟩ := hc 0 (by have := Hn.out; omega)
      have hcols := colsJ_of hx0
      have hcell0' : w.cell? ⟨b, off, none⟩ = some (.slice ro0 x0.length rc0) := by simpa using hcell0
      obtain ⟨x, ro, rc, hx, hcell, hrd⟩ := hc k (by have := Hn.out; omega)
      have Hx := Lib.hid hx
      have Hrd := Lib.hid hrd
      have Hcols := Lib.hid hcols
      have hno : okTab x0.length x = false → tabB xss = false := by
        intro h
        rw [Hv.out, Hcols.out, List.all_eq_false.2 ⟨x, List.mem_of_getElem? Hx.out, by rw [h]; decide⟩]; rfl
      have Hno := Lib.hid hno
      clear hx hno hc hcell0 hx0 hcols hrd0 hrd
      cases h4 : okList x with
      | false =>
        have H4 := Lib.hid h4
        clear h4
        go_wp2_with fail
        with_reducible refine (areCounts_c Hrd.out).mono ?_
        rw [H4.out]
        rintro e w' ⟨rfl, rfl⟩
        go_wp2
        go_ret
        exact ⟨ret_bool (Hno.out (by unfold okTab; rw [H4.out]; rfl)).symm, rfl⟩
      | true =>
        have H4 := Lib.hid h4
        clear h4
        by_cases h3 : x.length = x0.length
        · rw [h3] at hcell
          have Hrd2 : Hid (RdI A w (.slice ro x0.length rc) x) := Lib.hid (h3 ▸ Hrd.out)
          clear Hrd
          go_wp2_with fail
          with_reducible refine (areCounts_c Hrd2.out).mono ?_
          rw [H4.out]
          rintro e w' ⟨rfl, rfl⟩
          go_wp2
          go_round
          case rel => exact ⟨k + 1, by omega, by go_num, by show _ = true; rw [take_snoc Hx.out, List.all_append, hp.out, Hcols.out]; simp [okTab, H4.out, h3]⟩
          case measure => simp [intOf]; omega
        · have hf : ((x.length : Int) != (x0.length : Int)) = true := by simp; omega
          go_wp2_with fail
          with_reducible refine (areCounts_c Hrd.out).mono ?_
          rw [H4.out]
          rintro e w' ⟨rfl, rfl⟩
          go_wp2
          go_ret
          exact ⟨ret_bool (Hno.out (by unfold okTab; rw [decide_eq_false h3, Bool.and_false])).symm, rfl⟩
    · go_wp2
      go_ret
      refine ⟨ret_bool ?_, rfl⟩
      have := hp.out
      rw [List.take_of_length_le (by have := Hn.out; omega)] at this
      rw [Hv.out, this, Bool.true_and, Bool.eq_iff_iff]
      simp only [decide_eq_true_eq]
      omega
theorem l24Table_c {xss : List (List Int)} {v : Value} {w : World} {A : Nat} (ha : RdInt64SS A w v xss) :
    Calls Try.prog 75 #[v] w fun e w' => e = .returned (.bool (tabB xss)) ∧ ∃ q, w' = w.drewN q := by
  have hle := ha.le
  obtain ⟨ao, cap, rfl, ho⟩ := ha.open
  obtain ⟨n, hn⟩ : ∃ n, n = xss.length := ⟨_, rfl⟩
  rw [← hn]
  have Hn := Lib.hid hn
  have Ho := Lib.hid ho
  have hle' : n ≤ 9223372036854775807 := by omega
  have hv := tabB.eq_1 xss
  rw [← hn] at hv
  have Hv := Lib.hid hv
  clear ho hn hle ha hv
  go_enter Try.func75, Try.ntmps75
  go_wp2
  go_loopw [3] (fun i wr => ∃ k : Nat, k ≤ n ∧ i = .int .i64 k ∧ Hid ((xss.take k).all (okTab (colsJ xss)) = true) ∧ ∃ m, wr = w.drewN m) (fun i _ => n - (intOf i).toNat)
  case atStart => exact ⟨0, Nat.zero_le _, rfl, rfl, 0, rfl⟩
  case round =>
    obtain ⟨k, hk, rfl, hp, m, rfl⟩ := hrel
    by_cases hkn : k < n
    · obtain ⟨b, off, rfl, hlt, hc⟩ := Ho.out (by have := Hn.out; omega)
      obtain ⟨x0, ro0, rc0, hx0, hcell0, hrd0⟩ := hc 0 (by have := Hn.out; omega)
      have hcols := colsJ_of hx0
      obtain ⟨x, ro, rc, hx, hcell, hrd⟩ := hc k (by have := Hn.out; omega)
      have hcell0' : w.cell? ⟨b, off, none⟩ = some (.slice ro0 x0.length rc0) := by simpa using hcell0
      have Hx := Lib.hid hx
      have Hcols := Lib.hid hcols
      have hno : okTab x0.length x = false → tabB xss = false := by
        intro h
        rw [Hv.out, Hcols.out, List.all_eq_false.2 ⟨x, List.mem_of_getElem? Hx.out, by rw [h]; decide⟩]; rfl
      have Hno := Lib.hid hno
      have hlx := hrd.le
      obtain ⟨ro', rc', hsh, hin⟩ := hrd.open
      injection hsh with hs1 hs2 hs3
      subst hs1; subst hs3
      have Hin := Lib.hid hin
      clear hx hno hc hcell0 hx0 hcols hrd0 hrd hin hs2
      by_cases h3 : x.length = x0.length
      · rw [h3] at hcell
        by_cases h4 : x.length ≤ 40
        · have h4' : ¬ (40 : Int) < x0.length := by omega
          go_wp2
          go_quiet (fail)
          go_wp2
          go_loopw [4] (fun i wr => ∃ j : Nat, j ≤ x0.length ∧ i = .int .i64 j ∧ Hid ((x.take j).any badCt = false) ∧ ∃ m, wr = w.drewN m) (fun i _ => x0.length - (intOf i).toNat)
          case atStart => exact ⟨0, Nat.zero_le _, rfl, rfl, _, by first | rfl | rw [World.drewN_drewN]⟩
          case round =>
            obtain ⟨j, hj, rfl, hq, m2, rfl⟩ := hrel
            by_cases hjn : j < x0.length
            · obtain ⟨b2, off2, rfl, hlt2, hc2⟩ := Hin.out (by omega)
              obtain ⟨y, hy, hcy, by2⟩ := hc2 j (by omega)
              have Hy := Lib.hid hy
              clear hy hc2
              by_cases h5 : 0 ≤ y ∧ y ≤ 1000000
              · go_wp2_with fail
                with_reducible refine (l00In_yes _ _ _ _ (by omega) (by omega)).mono ?_
                rintro e w' ⟨rfl, rfl⟩
                go_wp2
                go_roundw
                case rel => exact ⟨j + 1, by omega, by go_num, by show _ = false; rw [take_snoc Hy.out, List.any_append, hq.out]; simp [badCt]; omega, _, rfl⟩
                case measure => simp [intOf]; omega
              · go_wp2_with fail
                with_reducible refine (l00In_no _ _ _ _ (by omega)).mono ?_
                rintro e w' ⟨rfl, rfl⟩
                go_wp2
                go_ret
                refine ⟨ret_bool ?_, _, rfl⟩
                rw [Hno.out]
                have : x.any badCt = true := List.any_eq_true.2 ⟨y, List.mem_of_getElem? Hy.out, by unfold badCt; rw [decide_eq_false h5]; rfl⟩
                unfold okTab okList; rw [this]; simp
            · go_wp2
              go_roundw
              case rel =>
                refine ⟨k + 1, by omega, by go_num, ?_, _, rfl⟩
                show _ = true
                have hq' := hq.out
                rw [List.take_of_length_le (by omega)] at hq'
                rw [take_snoc Hx.out, List.all_append, hp.out, Hcols.out]
                simp [okTab, okList, hq', h3]
                omega
              case measure => simp [intOf]; omega
        · have h4' : (40 : Int) < x0.length := by omega
          have h5 : tabB xss = false := Hno.out (by unfold okTab okList; rw [decide_eq_false h4]; simp)
          have H5 := Lib.hid h5
          clear h5 h4
          go_wp2
          go_quiet (fail)
          go_wp2
          go_ret
          exact ⟨ret_bool H5.out.symm, _, by first | rfl | rw [World.drewN_drewN]⟩
      · have hf : ((x.length : Int) != (x0.length : Int)) = true := by simp; omega
        have h5 : tabB xss = false := Hno.out (by unfold okTab; rw [decide_eq_false h3, Bool.and_false])
        have H5 := Lib.hid h5
        clear h5
        go_wp2
        go_quiet (fail)
        go_wp2
        go_ret
        exact ⟨ret_bool H5.out.symm, _, by first | rfl | rw [World.drewN_drewN]⟩
    · go_wp2
      go_ret
      refine ⟨ret_bool ?_, _, rfl⟩
      have := hp.out
      rw [List.take_of_length_le (by have := Hn.out; omega)] at this
      rw [Hv.out, this, Bool.true_and, Bool.eq_iff_iff]
      simp only [decide_eq_true_eq]
      omega
end Go.Proofs.Ytljjilgpmckccaa
