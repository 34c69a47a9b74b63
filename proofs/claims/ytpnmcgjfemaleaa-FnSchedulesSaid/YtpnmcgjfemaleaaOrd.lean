/- The code of jobs and an order: both sides. No condition. -/
import Derived.Test.YtpnmcgjfemaleaaSchP
import Derived.Test.YtpnmcgjfemaleaaSortI
import Derived.Test.YtpnmcgjfemaleaaQB
namespace Go.Proofs.Ytpnmcgjfemaleaa
open Go.ChangeShapes Go.WideShapes Go.ChangeAt Go.RowKit
set_option linter.unusedVariables false
set_option maxRecDepth 100000
theorem selI_all (n : Nat) : selI (fun _ => true) n = rangeI n := by
  induction n with
  | zero => rfl
  | succ n ih =>
    rw [selI_succ, ih]
    unfold rangeI
    rw [List.range_succ, List.map_append]
    rfl
theorem cols_AJ {w : World} {n : Nat} {p : Int → Bool} (hn : n ≤ 1000)
    (hclo : ∀ (i : Nat) (W : World), i < n → Below w.heap.size w W → Calls Try.prog 92 #[.int .i64 (i : Int)] W fun e w' => e = .returned (.bool (p i)) ∧ Below W.heap.size W w') :
    Calls Try.prog 63 #[.int .i64 (n : Int), .func (.func 92) #[] #[]] w fun e w' => ∃ u, e = .returned u ∧ Own eI 2 w.heap.size w' u (selI p n) ∧ Below w.heap.size w w' := by
  obtain ⟨i0, hi, hz0, hz1, hz2⟩ := info_parts Try.infoInt64
  have Hclo := Lib.hid hclo
  have ho0 : Own eI 2 w.heap.size (w.alloc (.cells #[] 2)) (.slice (some ⟨w.heap.size, 0, none⟩) 0 0) (selI p 0) :=
    Own.lit (E := eI) (xs := []) (cs := #[]) (Nat.le_refl _) rfl rfl (by decide) (fun x hx => by cases hx)
  have hb0 : Below w.heap.size w (w.alloc (.cells #[] 2)) := (Below.refl _ _).alloc (Nat.le_refl _) _
  clear hclo
  go_enter Try.func63, Try.ntmps63
  go_wp2
  go_loopw [5, 9] (fun v i wr => ∃ k : Nat, k ≤ n ∧ i = .int .i64 k ∧ Own eI 2 w.heap.size wr v (selI p k) ∧ Below w.heap.size w wr) (fun _ i _ => n - (intOf i).toNat)
  case atStart => exact ⟨0, Nat.zero_le _, rfl, ho0, hb0⟩
  case round =>
    obtain ⟨k, hk, rfl, hown, hb⟩ := hrel
    clear ho0 hb0
    by_cases hkn : k < n
    · have hc := Hclo.out k _ hkn hb
      have Hc := Lib.hid hc
      have hsl := selI_len p k
      have hss := selI_succ p k
      have Hss := Lib.hid hss
      have Hb := Lib.hid hb
      have Hown := Lib.hid hown
      clear hc hss hb hown
      go_wp2_with fail
      with_reducible refine Hc.out.mono ?_
      cases hp : p (k : Int) with
      | true =>
        have Hp := Lib.hid hp
        clear hp
        rintro e w1 ⟨rfl, hb1⟩
        have hb2 := Hb.out.trans (hb1.mono Hb.out.size)
        have hown1 := Hown.out.below hb1 (Nat.le_refl _)
        have Hqp : eI.ok (k : Int) := by show -9223372036854775808 ≤ (k : Int) ∧ (k : Int) ≤ 9223372036854775807; omega
        have hsz := hb2.size
        clear hb1 Hb Hown
        go_wp2_with (first | (at_builtin; refine wpList_appS (E := eI) rfl _ _ 29 rfl Try.underlying29 hi hz0 hz1 hz2 rfl (by decide) rfl rfl (hown1.alloc _) (rds_one (E := eI) (x := (k : Int)) Hqp rfl) ?b1 ?b2 ?b3 ?_))
        case b1 => unfold maxLen; simp; omega
        case b2 => simp; omega
        case b3 => simp; omega
        intro v' w3 hown3 hg3
        have hb3 : Below w.heap.size w w3 := hg3.alloc.below hb2 hb2.size (fun j hj => (hown1.lt j hj).1)
        clear hg3 hb2 hown1 Hqp
        go_wp2
        go_roundw
        case rel => exact ⟨k + 1, by omega, by go_num, by rw [Hss.out, Hp.out]; exact hown3, hb3⟩
        case measure => simp [intOf]; omega
      | false =>
        have Hp := Lib.hid hp
        clear hp
        rintro e w1 ⟨rfl, hb1⟩
        have hb2 := Hb.out.trans (hb1.mono Hb.out.size)
        have hown1 := Hown.out.below hb1 (Nat.le_refl _)
        clear hb1 Hb Hown
        go_wp2
        go_roundw
        case rel => exact ⟨k + 1, by omega, by go_num, by rw [Hss.out, Hp.out]; simpa using hown1, hb2⟩
        case measure => simp [intOf]; omega
    · obtain rfl : k = n := by omega
      go_wp2
      go_ret
      exact ⟨_, rfl, hown, hb⟩

theorem allJobs_c {xss : List (List Int)} {v : Value} {w : World} {A : Nat} (ha : RdInt64SS A w v xss) (hn : xss.length ≤ 8) :
    Calls Try.prog 71 #[v] w fun e w' => ∃ u, e = .returned u ∧ OwnInt64S w.heap.size w' u (rangeI xss.length) ∧ Below w.heap.size w w' := by
  obtain ⟨ao, cap, rfl⟩ := ha.shape
  obtain ⟨n, hn2⟩ : ∃ n, n = xss.length := ⟨_, rfl⟩
  rw [← hn2] at hn ⊢
  clear hn2 ha
  have hclo : ∀ (i : Nat) (W : World), i < n → Below w.heap.size w W → Calls Try.prog 92 #[.int .i64 (i : Int)] W fun e w' => e = .returned (.bool true) ∧ Below W.heap.size W w' := by
    intro i W _ _
    go_enter Try.func92, Try.ntmps92
    go_wp2
    go_ret
    exact ⟨rfl, Below.refl _ _⟩
  have hcols := cols_AJ (w := w) (n := n) (p := fun _ => true) (by omega) hclo
  rw [selI_all] at hcols
  have Hcols := Lib.hid hcols
  clear hclo hcols
  go_enter Try.func71, Try.ntmps71
  go_wp2_with fail
  with_reducible refine (sizeS_any (xss := []) (by omega)).mono ?_
  rintro e w' ⟨rfl, rfl⟩
  go_wp2_with fail
  with_reducible refine Hcols.out.mono ?_
  rintro e w' ⟨u, rfl, h1, h2⟩
  have H1 := Lib.hid h1
  clear h1
  go_wp2
  go_ret
  exact ⟨_, rfl, H1.out, h2⟩
/-- the code of jobs and an order -/
def OCode (xss : List (List Int)) (o : List Int) : Int := if validJ xss = true then (if orderP xss.length o then 0 else 2) else 1
theorem OCode_ok {xss : List (List Int)} {o : List Int} (h : OCode xss o = 0) : validJ xss = true ∧ orderP xss.length o := by
  unfold OCode at h
  split at h
  · rename_i h1
    split at h
    · rename_i h2; exact ⟨h1, h2⟩
    · cases h
  · cases h
theorem OCode_cases (xss : List (List Int)) (o : List Int) : OCode xss o = 0 ∨ OCode xss o = 1 ∨ OCode xss o = 2 := by
  unfold OCode
  by_cases h1 : validJ xss = true <;> by_cases h2 : orderP xss.length o <;> simp [h1, h2]
/-- .. and whether others are in their ranges -/
def OCodeIn (xss : List (List Int)) (o : List Int) (b : Bool) : Int := if validJ xss = true then (if orderP xss.length o ∧ b = true then 0 else 2) else 1
theorem OCodeIn_true (xss : List (List Int)) (o : List Int) : OCodeIn xss o true = OCode xss o := by unfold OCodeIn OCode; simp
set_option maxHeartbeats 400000 in
theorem orderCode_c {xss : List (List Int)} {o : List Int} {v u : Value} {w : World} {A B : Nat} (b : Bool) (hA : A ≤ w.heap.size) (ha : RdInt64SS A w v xss) (ho : RdI B w u o) (hl : o.length ≤ 2097152) :
    Calls Try.prog 77 #[v, u, .bool b] w fun e w' => e = .returned (.int .i64 (OCodeIn xss o b)) ∧ Below w.heap.size w w' := by
  have Ha := Lib.hid ha
  have Ho := Lib.hid ho
  cases hv : validJ xss with
  | false =>
    have e1 : OCodeIn xss o b = 1 := by unfold OCodeIn; rw [hv]; rfl
    rw [e1]
    have Hv := Lib.hid hv
    clear hv e1 ha ho
    go_enter Try.func77, Try.ntmps77
    go_wp2_with fail
    with_reducible refine (ValidJobs_c Ha.out).mono ?_
    rw [Hv.out]
    rintro e w' ⟨rfl, rfl⟩
    go_wp2
    go_ret
    exact ⟨rfl, Below.refl _ _⟩
  | true =>
    have hn8 := (validJ_parts hv).1.2
    have e1 : OCodeIn xss o b = if orderP xss.length o ∧ b = true then 0 else 2 := by unfold OCodeIn; rw [hv]; rfl
    rw [e1]
    have Hv := Lib.hid hv
    clear hv e1 ha ho
    have hdec : decide (sortL o = rangeI xss.length) = decide (orderP xss.length o) := decide_eq_decide.2 (by unfold sortL; exact sort_range)
    by_cases hp : orderP xss.length o
    · rw [decide_eq_true hp] at hdec
      have Hdec := Lib.hid hdec
      have hif : (if orderP xss.length o ∧ b = true then (0 : Int) else 2) = if b = true then 0 else 2 := by simp [hp]
      rw [hif]
      clear hdec hif hp
      cases b with
      | true =>
        go_enter Try.func77, Try.ntmps77
        go_wp2_with fail
        with_reducible refine (ValidJobs_c Ha.out).mono ?_
        rw [Hv.out]
        rintro e w' ⟨rfl, rfl⟩
        go_wp2_with fail
        with_reducible refine (copyInts_c Ho.out hl).mono ?_
        rintro e w1 ⟨s, rfl, hs, hb1⟩
        have Hs := Lib.hid hs
        have Hb1 := Lib.hid hb1
        clear hs hb1
        go_wp2_with fail
        with_reducible refine (sortI_c Hs.out (by omega)).mono ?_
        rintro e w2 ⟨rfl, hs2, hg2⟩
        have hb2 := Hb1.out.grown hg2 Hb1.out.size (fun k hk => (Hs.out.lt k hk).1)
        have ha2 := Ha.out.below hb2 hA
        have Hs2 := Lib.hid hs2
        have Hb2 := Lib.hid hb2
        have Ha2 := Lib.hid ha2
        clear hs2 hg2 hb2 ha2
        go_wp2_with fail
        with_reducible refine (allJobs_c Ha2.out hn8).mono ?_
        rintro e w3 ⟨r, rfl, hr, hb3⟩
        have hs3 := Rds.onn Hs2.out.rds hb3
        have hb4 := Hb2.out.trans (hb3.mono Hb2.out.size)
        have hr2 := hr.rds
        have Hs3 := Lib.hid hs3
        have Hr2 := Lib.hid hr2
        have Hb4 := Lib.hid hb4
        clear hr hb3 hs3 hr2 hb4
        go_wp2_with fail
        with_reducible refine (equalI_c Hs3.out Hr2.out).mono ?_
        rw [Hdec.out]
        rintro e w4 ⟨rfl, q, rfl⟩
        go_wp2
        go_ret
        exact ⟨rfl, Hb4.out.drewNy _⟩
      | false =>
        go_enter Try.func77, Try.ntmps77
        go_wp2_with fail
        with_reducible refine (ValidJobs_c Ha.out).mono ?_
        rw [Hv.out]
        rintro e w' ⟨rfl, rfl⟩
        go_wp2_with fail
        with_reducible refine (copyInts_c Ho.out hl).mono ?_
        rintro e w1 ⟨s, rfl, hs, hb1⟩
        have Hs := Lib.hid hs
        have Hb1 := Lib.hid hb1
        clear hs hb1
        go_wp2_with fail
        with_reducible refine (sortI_c Hs.out (by omega)).mono ?_
        rintro e w2 ⟨rfl, hs2, hg2⟩
        have hb2 := Hb1.out.grown hg2 Hb1.out.size (fun k hk => (Hs.out.lt k hk).1)
        have ha2 := Ha.out.below hb2 hA
        have Hs2 := Lib.hid hs2
        have Hb2 := Lib.hid hb2
        have Ha2 := Lib.hid ha2
        clear hs2 hg2 hb2 ha2
        go_wp2_with fail
        with_reducible refine (allJobs_c Ha2.out hn8).mono ?_
        rintro e w3 ⟨r, rfl, hr, hb3⟩
        have hs3 := Rds.onn Hs2.out.rds hb3
        have hb4 := Hb2.out.trans (hb3.mono Hb2.out.size)
        have hr2 := hr.rds
        have Hs3 := Lib.hid hs3
        have Hr2 := Lib.hid hr2
        have Hb4 := Lib.hid hb4
        clear hr hb3 hs3 hr2 hb4
        go_wp2_with fail
        with_reducible refine (equalI_c Hs3.out Hr2.out).mono ?_
        rw [Hdec.out]
        rintro e w4 ⟨rfl, q, rfl⟩
        go_wp2
        go_ret
        exact ⟨rfl, Hb4.out.drewNy _⟩
    · rw [decide_eq_false hp] at hdec
      have Hdec := Lib.hid hdec
      have hif : (if orderP xss.length o ∧ b = true then (0 : Int) else 2) = 2 := by simp [hp]
      rw [hif]
      clear hdec hif hp
      go_enter Try.func77, Try.ntmps77
      go_wp2_with fail
      with_reducible refine (ValidJobs_c Ha.out).mono ?_
      rw [Hv.out]
      rintro e w' ⟨rfl, rfl⟩
      go_wp2_with fail
      with_reducible refine (copyInts_c Ho.out hl).mono ?_
      rintro e w1 ⟨s, rfl, hs, hb1⟩
      have Hs := Lib.hid hs
      have Hb1 := Lib.hid hb1
      clear hs hb1
      go_wp2_with fail
      with_reducible refine (sortI_c Hs.out (by omega)).mono ?_
      rintro e w2 ⟨rfl, hs2, hg2⟩
      have hb2 := Hb1.out.grown hg2 Hb1.out.size (fun k hk => (Hs.out.lt k hk).1)
      have ha2 := Ha.out.below hb2 hA
      have Hs2 := Lib.hid hs2
      have Hb2 := Lib.hid hb2
      have Ha2 := Lib.hid ha2
      clear hs2 hg2 hb2 ha2
      go_wp2_with fail
      with_reducible refine (allJobs_c Ha2.out hn8).mono ?_
      rintro e w3 ⟨r, rfl, hr, hb3⟩
      have hs3 := Rds.onn Hs2.out.rds hb3
      have hb4 := Hb2.out.trans (hb3.mono Hb2.out.size)
      have hr2 := hr.rds
      have Hs3 := Lib.hid hs3
      have Hr2 := Lib.hid hr2
      have Hb4 := Lib.hid hb4
      clear hr hb3 hs3 hr2 hb4
      go_wp2_with fail
      with_reducible refine (equalI_c Hs3.out Hr2.out).mono ?_
      rw [Hdec.out]
      rintro e w4 ⟨rfl, q, rfl⟩
      go_wp2
      go_ret
      exact ⟨rfl, Hb4.out.drewNy _⟩
/-- how far an order is one -/
def ordK (n : Nat) (o : List Int) (k : Nat) : Prop := (∀ x ∈ o.take k, 0 ≤ x ∧ x ≤ (n : Int) - 1) ∧ (o.take k).Nodup
theorem ordK_zero (n : Nat) (o : List Int) : ordK n o 0 := ⟨(fun x hx => by cases hx), List.nodup_nil⟩
theorem ordK_succ {n : Nat} {o : List Int} {k : Nat} {x : Int} (h : ordK n o k) (hx : o[k]? = some x) (h1 : 0 ≤ x ∧ x ≤ (n : Int) - 1) (h2 : hasI (o.take k) x = false) : ordK n o (k + 1) := by
  unfold ordK
  rw [take_snoc hx]
  refine ⟨fun y hy => ?_, ?_⟩
  · rcases List.mem_append.1 hy with hy | hy
    · exact h.1 y hy
    · rw [List.mem_singleton.1 hy]; exact h1
  · rw [List.nodup_append]
    refine ⟨h.2, by simp, fun a ha c hc e => ?_⟩
    rw [List.mem_singleton] at hc
    subst hc; subst e
    unfold hasI at h2
    simp at h2
    exact h2 ha
theorem ordK_end {n : Nat} {o : List Int} (h : ordK n o o.length) : orderP n o ↔ o.length = n := by
  unfold ordK at h
  rw [List.take_of_length_le (Nat.le_refl _)] at h
  exact ⟨fun h2 => h2.1, fun h2 => ⟨h2, fun x hx => by have := h.1 x hx; omega, h.2⟩⟩
theorem ord_no {n : Nat} {o : List Int} {k : Nat} {x : Int} (hx : o[k]? = some x) (h : ¬ (0 ≤ x ∧ x ≤ (n : Int) - 1) ∨ hasI (o.take k) x = true) : ¬ orderP n o := by
  rintro ⟨_, h2, h3⟩
  rcases h with h | h
  · have := h2 x (List.mem_of_getElem? hx)
    omega
  · have hl := at_lt hx
    have e : o = o.take k ++ x :: o.drop (k + 1) := by
      have h5 : o[k] = x := by rw [List.getElem?_eq_getElem hl] at hx; exact Option.some.inj hx
      rw [← h5, List.getElem_cons_drop, List.take_append_drop]
    rw [e] at h3
    have h6 : x ∈ o.take k := by unfold hasI at h; simpa using h
    exact (List.nodup_append.1 h3).2.2 x h6 x (List.mem_cons_self ..) rfl
theorem l21Order_c {o : List Int} {v : Value} {w : World} {A : Nat} (n : Nat) (hn : n ≤ 9223372036854775807) (ha : RdI A w v o) :
    Calls Try.prog 95 #[v, .int .i64 (n : Int)] w fun e w' => e = .returned (.bool (decide (orderP n o))) ∧ ∃ q, w' = w.drewN q := by
  have Ha := Lib.hid ha
  have hle := ha.le
  obtain ⟨ao, cap, rfl, ho⟩ := RdI.open ha
  obtain ⟨L, hL⟩ : ∃ L, L = o.length := ⟨_, rfl⟩
  have hcap := ha.cap
  rw [← hL] at ho hle hcap Ha ⊢
  have HL := Lib.hid hL
  have Ho := Lib.hid ho
  have hcp : L ≤ cap := hcap.1
  have Hcap := Lib.hid hcap
  clear ho hL ha hcap
  go_enter Try.func95, Try.ntmps95
  go_wp2
  go_loopw [5] (fun i wr => ∃ k : Nat, k ≤ L ∧ i = .int .i64 k ∧ Hid (ordK n o k) ∧ ∃ q, wr = w.drewN q) (fun i _ => L - (intOf i).toNat)
  case atStart => exact ⟨0, Nat.zero_le _, rfl, ordK_zero n o, 0, rfl⟩
  case round =>
    obtain ⟨k, hk, rfl, hp, q, rfl⟩ := hrel
    by_cases hkL : k < L
    · obtain ⟨b, off, rfl, hlt, hc⟩ := Ho.out (by omega)
      obtain ⟨y, hy, hcy, by2⟩ := hc k hkL
      have hr := Ha.out.takeN (k := k) (by omega)
      have Hr := Lib.hid hr
      have Hy := Lib.hid hy
      have hk1 : (k : Int) ≤ cap := by omega
      have z0 : IntKind.i64.wrap ((n : Int) - 1) = (n : Int) - 1 := IntWalk.i64_in _ (by omega)
      clear hy hc hr
      by_cases hin : 0 ≤ y ∧ y ≤ (n : Int) - 1
      · cases hq : hasI (o.take k) y with
        | true =>
          have hno := ord_no (n := n) Hy.out (.inr hq)
          have hcon := fun q => l00Has_c y (Rds.drewN Hr.out q)
          rw [hq] at hcon
          have Hcon := Lib.hid hcon
          have Hno := Lib.hid hno
          have Hin := Lib.hid hin
          clear hq hcon hno hin
          go_wp2
          go_quiet ((first | (go_at_call 75; exact quiet_at (l00In_yes _ _ _ _ Hin.out.1 Hin.out.2)) | (go_at_call 87; exact quiet_at (Hcon.out _))))
          go_wp2
          go_ret
          exact ⟨ret_bool (decide_eq_false Hno.out).symm, _, by first | rfl | exact World.drewN_drewN _ _ _⟩
        | false =>
          have hcon := fun q => l00Has_c y (Rds.drewN Hr.out q)
          rw [hq] at hcon
          have Hcon := Lib.hid hcon
          have Hin := Lib.hid hin
          have hsu := ordK_succ hp.out Hy.out hin hq
          have Hsu := Lib.hid hsu
          clear hq hcon hin hsu
          go_wp2
          go_quiet ((first | (go_at_call 75; exact quiet_at (l00In_yes _ _ _ _ Hin.out.1 Hin.out.2)) | (go_at_call 87; exact quiet_at (Hcon.out _))))
          go_wp2
          go_roundw
          case rel => exact ⟨k + 1, by omega, by go_num, Hsu.out, _, by first | rfl | exact World.drewN_drewN _ _ _⟩
          case measure => simp [intOf]; omega
      · have hno := ord_no (n := n) Hy.out (.inl hin)
        have Hno := Lib.hid hno
        have Hin := Lib.hid (show y < 0 ∨ (n : Int) - 1 < y by omega)
        clear hno hin
        go_wp2
        go_quiet ((go_at_call 75; exact quiet_at (l00In_no _ _ _ _ Hin.out)))
        go_wp2
        go_ret
        exact ⟨ret_bool (decide_eq_false Hno.out).symm, _, by first | rfl | exact World.drewN_drewN _ _ _⟩
    · go_wp2
      go_ret
      refine ⟨ret_bool ?_, _, rfl⟩
      obtain rfl : k = L := by omega
      have h1 := hp.out
      rw [HL.out] at h1
      rw [Bool.eq_iff_iff, decide_eq_true_iff, ordK_end h1]
      simp
      have := HL.out
      omega
theorem l21Code_c {xss : List (List Int)} {o : List Int} {v u : Value} {w : World} {A B : Nat} (ha : RdInt64SS A w v xss) (ho : RdI B w u o) :
    Calls Try.prog 74 #[v, u] w fun e w' => e = .returned (.int .i64 (OCode xss o)) ∧ ∃ q, w' = w.drewN q := by
  have Ha := Lib.hid ha
  have Ho := Lib.hid ho
  obtain ⟨ao, cap, rfl⟩ := ha.shape
  obtain ⟨n, hn⟩ : ∃ n, n = xss.length := ⟨_, rfl⟩
  have hle := ha.le
  rw [← hn] at Ha hle ⊢
  cases hv : validJ xss with
  | false =>
    have e1 : OCode xss o = 1 := by unfold OCode; rw [hv]; rfl
    rw [e1]
    have Hv := Lib.hid hv
    clear hv e1 ha ho hn
    go_enter Try.func74, Try.ntmps74
    go_wp2_with fail
    with_reducible refine (l21Ok_c Ha.out).mono ?_
    rw [Hv.out]
    rintro e w' ⟨rfl, q, rfl⟩
    go_wp2
    go_ret
    exact ⟨rfl, _, rfl⟩
  | true =>
    have e1 : OCode xss o = if orderP n o then 0 else 2 := by unfold OCode; rw [hv, ← hn]; rfl
    rw [e1]
    have Hv := Lib.hid hv
    clear hv e1 ha ho hn
    by_cases hp : orderP n o
    · rw [if_pos hp]
      have Hp := Lib.hid hp
      clear hp
      go_enter Try.func74, Try.ntmps74
      go_wp2_with fail
      with_reducible refine (l21Ok_c Ha.out).mono ?_
      rw [Hv.out]
      rintro e w' ⟨rfl, q, rfl⟩
      go_wp2_with fail
      with_reducible refine (l21Order_c n hle (Rds.drewN Ho.out q)).mono ?_
      rw [decide_eq_true Hp.out]
      rintro e w' ⟨rfl, q2, rfl⟩
      go_wp2
      go_ret
      exact ⟨rfl, _, by first | rfl | exact World.drewN_drewN _ _ _⟩
    · rw [if_neg hp]
      have Hp := Lib.hid hp
      clear hp
      go_enter Try.func74, Try.ntmps74
      go_wp2_with fail
      with_reducible refine (l21Ok_c Ha.out).mono ?_
      rw [Hv.out]
      rintro e w' ⟨rfl, q, rfl⟩
      go_wp2_with fail
      with_reducible refine (l21Order_c n hle (Rds.drewN Ho.out q)).mono ?_
      rw [decide_eq_false Hp.out]
      rintro e w' ⟨rfl, q2, rfl⟩
      go_wp2
      go_ret
      exact ⟨rfl, _, by first | rfl | exact World.drewN_drewN _ _ _⟩
end Go.Proofs.Ytpnmcgjfemaleaa
