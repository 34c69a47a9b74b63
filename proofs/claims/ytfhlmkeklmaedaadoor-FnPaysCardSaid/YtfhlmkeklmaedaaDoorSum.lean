/- SumOfPays: the program's and the reference's, each by its contract. No condition. -/
import Derived.Test.YtfhlmkeklmaedaaDoorStrP
import Derived.Test.YtfhlmkeklmaedaaDoorSmall
namespace Go.Proofs.YtfhlmkeklmaedaaDoor
open Go.ChangeShapes Go.WideShapes Go.ChangeAt Go.RowKit
set_option linter.unusedVariables false
set_option maxRecDepth 100000
def inM (n hi : Int) : Bool := decide (0 ≤ n ∧ n ≤ hi)
def plainB (p : PayT) : Bool := inM p.hours 100000000 && (inM p.gross 100000000 && (inM p.tax p.gross && p.net == p.gross - p.tax))
theorem plainB_parts {p : PayT} (h : plainB p = true) : (0 ≤ p.hours ∧ p.hours ≤ 100000000) ∧ (0 ≤ p.gross ∧ p.gross ≤ 100000000) ∧ (0 ≤ p.tax ∧ p.tax ≤ p.gross) ∧ p.net = p.gross - p.tax := by
  unfold plainB inM at h
  simpa only [Bool.and_eq_true, decide_eq_true_eq, beq_iff_eq] using h
def addP (a b : PayT) : PayT := ⟨a.hours + b.hours, a.gross + b.gross, a.tax + b.tax, a.net + b.net⟩
def sumP (xs : List PayT) : PayT := xs.foldl addP zPay
theorem sumP_snoc (xs : List PayT) (x : PayT) : sumP (xs ++ [x]) = addP (sumP xs) x := by simp [sumP]
def smallP (k : Nat) (p : PayT) : Prop := (0 ≤ p.hours ∧ p.hours ≤ 100000000 * (k : Int)) ∧ (0 ≤ p.gross ∧ p.gross ≤ 100000000 * (k : Int)) ∧ (0 ≤ p.tax ∧ p.tax ≤ 100000000 * (k : Int)) ∧ (0 ≤ p.net ∧ p.net ≤ 100000000 * (k : Int))
theorem sumP_small {xs : List PayT} (h : ∀ x ∈ xs, plainB x = true) : ∀ k, k ≤ xs.length → smallP k (sumP (xs.take k)) := by
  intro k
  induction k with
  | zero => intro _; simp [smallP, sumP, zPay]
  | succ k ih =>
    intro hk
    have h1 := ih (by omega)
    have hx : xs[k]? = some xs[k] := by simp
    have hp := plainB_parts (h xs[k] (List.getElem_mem _))
    rw [take_snoc hx, sumP_snoc]
    unfold smallP addP at *
    simp only
    omega
/-- the four tests, one after the other -/
theorem isPlainPay_c (p : PayT) (w : World) : Calls Tryd.prog 30 #[vPay p] w fun e w' => e = .returned (.bool (plainB p)) ∧ Below w.heap.size w w' := by
  have hb : Below w.heap.size w (w.alloc (.cells #[.int .i64 p.hours, .int .i64 p.gross, .int .i64 p.tax, .int .i64 p.net] 31)) := (Below.refl _ _).alloc (Nat.le_refl _) _
  unfold plainB inM
  by_cases h1 : 0 ≤ p.hours ∧ p.hours ≤ 100000000
  · rw [decide_eq_true h1]
    have H1 := Lib.hid h1
    clear h1
    by_cases h2 : 0 ≤ p.gross ∧ p.gross ≤ 100000000
    · rw [decide_eq_true h2]
      have H2 := Lib.hid h2
      by_cases h3 : 0 ≤ p.tax ∧ p.tax ≤ p.gross
      · rw [decide_eq_true h3]
        have H3 := Lib.hid h3
        obtain ⟨h31, h32⟩ := h3
        obtain ⟨h21, h22⟩ := h2
        go_enter Tryd.func30, Tryd.ntmps30
        go_wp2_with fail
        with_reducible refine (inside_any p.hours 0 100000000 _).mono ?_
        rw [decide_eq_true H1.out]
        rintro e w' ⟨rfl, rfl⟩
        go_wp2_with fail
        with_reducible refine (inside_any p.gross 0 100000000 _).mono ?_
        rw [decide_eq_true H2.out]
        rintro e w' ⟨rfl, rfl⟩
        go_wp2_with fail
        with_reducible refine (inside_any p.tax 0 p.gross _).mono ?_
        rw [decide_eq_true H3.out]
        rintro e w' ⟨rfl, rfl⟩
        go_wp2
        go_ret
        exact ⟨ret_bool (by simp), hb⟩
      · rw [decide_eq_false h3]
        have H3 := Lib.hid h3
        clear h3 h2
        go_enter Tryd.func30, Tryd.ntmps30
        go_wp2_with fail
        with_reducible refine (inside_any p.hours 0 100000000 _).mono ?_
        rw [decide_eq_true H1.out]
        rintro e w' ⟨rfl, rfl⟩
        go_wp2_with fail
        with_reducible refine (inside_any p.gross 0 100000000 _).mono ?_
        rw [decide_eq_true H2.out]
        rintro e w' ⟨rfl, rfl⟩
        go_wp2_with fail
        with_reducible refine (inside_any p.tax 0 p.gross _).mono ?_
        rw [decide_eq_false H3.out]
        rintro e w' ⟨rfl, rfl⟩
        go_wp2
        go_ret
        exact ⟨rfl, hb⟩
    · rw [decide_eq_false h2]
      have H2 := Lib.hid h2
      clear h2
      go_enter Tryd.func30, Tryd.ntmps30
      go_wp2_with fail
      with_reducible refine (inside_any p.hours 0 100000000 _).mono ?_
      rw [decide_eq_true H1.out]
      rintro e w' ⟨rfl, rfl⟩
      go_wp2_with fail
      with_reducible refine (inside_any p.gross 0 100000000 _).mono ?_
      rw [decide_eq_false H2.out]
      rintro e w' ⟨rfl, rfl⟩
      go_wp2
      go_ret
      exact ⟨rfl, hb⟩
  · rw [decide_eq_false h1]
    have H1 := Lib.hid h1
    clear h1
    go_enter Tryd.func30, Tryd.ntmps30
    go_wp2_with fail
    with_reducible refine (inside_any p.hours 0 100000000 _).mono ?_
    rw [decide_eq_false H1.out]
    rintro e w' ⟨rfl, rfl⟩
    go_wp2
    go_ret
    exact ⟨rfl, hb⟩
set_option maxHeartbeats 1000000 in
theorem l23Plain_c (p : PayT) (w : World) {b off : Nat} (c0 : w.cell? ⟨b, off, none⟩ = some (.int .i64 p.hours)) (c1 : w.cell? ⟨b, off + 1, none⟩ = some (.int .i64 p.gross)) (c2 : w.cell? ⟨b, off + 2, none⟩ = some (.int .i64 p.tax)) (c3 : w.cell? ⟨b, off + 3, none⟩ = some (.int .i64 p.net)) :
    Calls Tryd.prog 26 #[.pointer (some ⟨b, off, none⟩)] w fun e w' => e = .returned (.bool (plainB p)) ∧ ∃ m, w' = w.drewN m := by
  unfold plainB inM
  by_cases h1 : 0 ≤ p.hours ∧ p.hours ≤ 100000000
  · rw [decide_eq_true h1]
    obtain ⟨h11, h12⟩ := h1
    by_cases h2 : 0 ≤ p.gross ∧ p.gross ≤ 100000000
    · rw [decide_eq_true h2]
      obtain ⟨h21, h22⟩ := h2
      by_cases h3 : 0 ≤ p.tax ∧ p.tax ≤ p.gross
      · rw [decide_eq_true h3]
        obtain ⟨h31, h32⟩ := h3
        have h5 : IntKind.i64.wrap (p.gross - p.tax) = p.gross - p.tax := by rw [IntWalk.i64_in _ (by omega)]
        go_enter Tryd.func26, Tryd.ntmps26
        go_wp2
        go_quiet ((go_at_call 46; exact quiet_at0 (l00In_yes _ _ _ _ (by omega) (by omega))))
        go_wp2
        go_ret
        exact ⟨ret_bool (by simp), _, rfl⟩
      · rw [decide_eq_false h3]
        have H3 : p.tax < 0 ∨ p.gross < p.tax := by omega
        clear h3
        go_enter Tryd.func26, Tryd.ntmps26
        go_wp2
        go_quiet ((go_at_call 46; first | exact quiet_at0 (l00In_yes _ _ _ _ (by omega) (by omega)) | exact quiet_at0 (l00In_no _ _ _ _ (by omega))))
        go_wp2
        go_ret
        exact ⟨rfl, _, rfl⟩
    · rw [decide_eq_false h2]
      have H2 : p.gross < 0 ∨ 100000000 < p.gross := by omega
      clear h2
      go_enter Tryd.func26, Tryd.ntmps26
      go_wp2
      go_quiet ((go_at_call 46; first | exact quiet_at0 (l00In_yes _ _ _ _ (by omega) (by omega)) | exact quiet_at0 (l00In_no _ _ _ _ (by omega))))
      go_wp2
      go_ret
      exact ⟨rfl, _, rfl⟩
  · rw [decide_eq_false h1]
    have H1 := Lib.hid (show p.hours < 0 ∨ 100000000 < p.hours by omega)
    clear h1
    go_enter Tryd.func26, Tryd.ntmps26
    go_wp2
    go_quiet ((go_at_call 46; exact quiet_at0 (l00In_no p.hours _ _ _ H1.out)))
    go_wp2
    go_ret
    exact ⟨rfl, _, rfl⟩
def notPlain (y : PayT) : Bool := !plainB y
theorem clo_Pay (y : PayT) (w : World) (a : okPay y) : Calls Tryd.prog 50 #[vPay y] w fun e w' => e = .returned (.bool (notPlain y)) ∧ Below w.heap.size w w' := by
  clear a
  unfold notPlain
  go_enter Tryd.func50, Tryd.ntmps50
  go_wp2_with fail
  with_reducible refine (isPlainPay_c y _).mono ?_
  rintro e w1 ⟨rfl, hb⟩
  have hb2 := ((Below.refl w.heap.size w).alloc (Nat.le_refl _) _).trans (hb.mono (by simp))
  clear hb
  go_wp2
  go_ret
  exact ⟨ret_bool (by simp), hb2⟩
theorem indexPay_c {xs : List PayT} {v : Value} {w : World} {A : Nat} (ha : RdPayS A w v xs) :
    Calls Tryd.prog 62 #[v, .func (.func 50) #[] #[]] w fun e w' => (∃ r : Int, e = .returned (.int .i64 r) ∧ -1 ≤ r ∧ (0 ≤ r ↔ xs.any (notPlain) = true)) ∧ Below w.heap.size w w' := by
  have hle := ha.le
  obtain ⟨ao, cap, rfl, ho⟩ := ePay_open ha
  obtain ⟨n, hn⟩ : ∃ n, n = xs.length := ⟨_, rfl⟩
  rw [← hn]
  have Hn := Lib.hid hn
  have Ho := Lib.hid ho
  have hle' : n ≤ 9223372036854775807 := by omega
  clear ho hn hle ha
  go_enter Tryd.func62, Tryd.ntmps62
  go_wp2
  go_loopw [8] (fun i wr => ∃ k : Nat, k ≤ n ∧ i = .int .i64 k ∧ Hid ((xs.take k).any (notPlain) = false) ∧ Below w.heap.size w wr) (fun i _ => n - (intOf i).toNat)
  case atStart => exact ⟨0, Nat.zero_le _, rfl, rfl, Below.refl _ _⟩
  case round =>
    obtain ⟨k, hk, rfl, hp, hbb⟩ := hrel
    by_cases hkn : k < n
    · obtain ⟨b, off, rfl, hlt, hc⟩ := Ho.out (by have := Hn.out; omega)
      obtain ⟨y, hy, ⟨c0, c1, c2, c3⟩, bx⟩ := hc k (by have := Hn.out; omega)
      have Hy := Lib.hid hy
      have Hbx := Lib.hid bx
      have d0 := (hbb.cell (p := ⟨b, off + k * 4, none⟩) hlt.2).trans c0
      have d1 := (hbb.cell (p := ⟨b, off + k * 4 + 1, none⟩) hlt.2).trans c1
      have d2 := (hbb.cell (p := ⟨b, off + k * 4 + 2, none⟩) hlt.2).trans c2
      have d3 := (hbb.cell (p := ⟨b, off + k * 4 + 3, none⟩) hlt.2).trans c3
      clear hy hc bx c0 c1 c2 c3
      go_wp2_with fail
      with_reducible refine (clo_Pay y wr Hbx.out).mono ?_
      cases hq : (notPlain) y with
      | true =>
        have Hq := Lib.hid hq
        clear hq
        rintro e w1 ⟨rfl, hb1⟩
        have hb2 := hbb.trans (hb1.mono hbb.size)
        go_wp2
        go_ret
        refine ⟨⟨_, rfl, by omega, ?_⟩, hb2⟩
        have : xs.any (notPlain) = true := List.any_eq_true.2 ⟨y, List.mem_of_getElem? Hy.out, Hq.out⟩
        simp [this]
      | false =>
        have Hq := Lib.hid hq
        clear hq
        rintro e w1 ⟨rfl, hb1⟩
        have hb2 := hbb.trans (hb1.mono hbb.size)
        clear d0 d1 d2 d3 hb1 hbb
        go_wp2
        go_roundw
        case rel => exact ⟨k + 1, by omega, by go_num, by show _ = false; rw [take_snoc Hy.out, List.any_append, hp.out]; simp [Hq.out], hb2⟩
        case measure => simp [intOf]; omega
    · go_wp2
      go_ret
      refine ⟨⟨_, rfl, by omega, ?_⟩, hbb⟩
      have hq := hp.out
      rw [List.take_of_length_le (by have := Hn.out; omega)] at hq
      exact any_endT hq
theorem containsPay_c {xs : List PayT} {v : Value} {w : World} {A : Nat} (ha : RdPayS A w v xs) :
    Calls Tryd.prog 49 #[v, .func (.func 50) #[] #[]] w fun e w' => e = .returned (.bool (xs.any (notPlain))) ∧ Below w.heap.size w w' := by
  have Ha := Lib.hid ha
  obtain ⟨ao, cap, rfl⟩ := ha.shape
  clear ha
  go_enter Tryd.func49, Tryd.ntmps49
  go_wp2_with fail
  with_reducible refine (indexPay_c Ha.out).mono ?_
  rintro e w' ⟨⟨r, rfl, hr, hi⟩, hb⟩
  have Hi := Lib.hid hi
  clear hi
  go_wp2
  go_ret
  refine ⟨ret_bool ?_, hb⟩
  rw [Bool.eq_iff_iff, decide_eq_true_iff]
  exact Hi.out

end Go.Proofs.YtfhlmkeklmaedaaDoor
