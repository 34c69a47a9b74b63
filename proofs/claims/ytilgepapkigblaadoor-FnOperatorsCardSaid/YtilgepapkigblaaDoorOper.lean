/- Valid operators: the program's and the reference's, each by its contract. No condition. -/
import Derived.Test.YtilgepapkigblaaDoorStrO
import Derived.Test.YtilgepapkigblaaDoorName
namespace Go.Proofs.YtilgepapkigblaaDoor
open Go.ChangeShapes Go.WideShapes Go.ChangeAt Go.RowKit
set_option linter.unusedVariables false
set_option maxRecDepth 100000
def validO (x : OperatorT) : Bool := nameB x.nm && decide (0 ≤ x.skills ∧ x.skills ≤ 63)
def eqNm (x : OperatorT) (y : OperatorT) : Bool := y.nm.toList == x.nm.toList
def goodAt (xs : List OperatorT) (j : Nat) : Bool := match xs[j]? with
  | some x => validO x && !((xs.take j).any (eqNm x))
  | none => true
def validOs (xs : List OperatorT) : Bool := (List.range xs.length).all (goodAt xs) && decide (xs.length ≤ 8)
theorem goodAt_of {xs : List OperatorT} {j : Nat} {x : OperatorT} (h : xs[j]? = some x) : goodAt xs j = (validO x && !((xs.take j).any (eqNm x))) := by unfold goodAt; rw [h]
theorem validOs_no {xs : List OperatorT} {j : Nat} (hj : j < xs.length) (h : goodAt xs j = false) : validOs xs = false := by
  unfold validOs
  have : (List.range xs.length).all (goodAt xs) = false := by
    rw [List.all_eq_false]; exact ⟨j, List.mem_range.2 hj, by rw [h]; decide⟩
  rw [this]; rfl
theorem validOs_end {xs : List OperatorT} (h : ∀ j, j < xs.length → goodAt xs j = true) : validOs xs = decide (xs.length ≤ 8) := by
  unfold validOs
  have : (List.range xs.length).all (goodAt xs) = true := by
    rw [List.all_eq_true]; exact fun j hj => h j (List.mem_range.1 hj)
  rw [this]; rfl
theorem validOs_parts {xs : List OperatorT} (h : validOs xs = true) : xs.length ≤ 8 ∧ ∀ x ∈ xs, nameB x.nm = true ∧ 0 ≤ x.skills ∧ x.skills ≤ 63 := by
  unfold validOs at h
  rw [Bool.and_eq_true, decide_eq_true_eq, List.all_eq_true] at h
  refine ⟨h.2, fun x hx => ?_⟩
  obtain ⟨j, hj, rfl⟩ := List.mem_iff_getElem.1 hx
  have h1 := h.1 j (List.mem_range.2 hj)
  rw [goodAt_of (x := xs[j]) (by simp [hj]), Bool.and_eq_true] at h1
  have h2 := h1.1
  unfold validO at h2
  simpa only [Bool.and_eq_true, decide_eq_true_eq] using h2
theorem clo_Operator (x y : OperatorT) (w : World) {c : Nat} (hc : w.cell? ⟨c, 0, none⟩ = some (.string x.nm)) (hlt : c < w.heap.size) :
    Calls Tryd.prog 60 #[vOperator y, .pointer (some ⟨c, 0, none⟩)] w fun e w' => e = .returned (.bool (eqNm x y)) ∧ Below w.heap.size w w' := by
  have hne : c ≠ w.heap.size := by omega
  unfold eqNm
  go_enter Tryd.func60, Tryd.ntmps60
  go_wp2
  go_ret
  exact ⟨ret_bool (by simp), (Below.refl _ _).alloc (Nat.le_refl _) _⟩
theorem indexOperator_c {xs : List OperatorT} {v : Value} {w : World} {A : Nat} (x : OperatorT) {c : Nat} (hcc : w.cell? ⟨c, 0, none⟩ = some (.string x.nm)) (hlc : c < w.heap.size) (ha : RdOperatorS A w v xs) :
    Calls Tryd.prog 69 #[v, .func (.func 60) #[] #[.pointer (some ⟨c, 0, none⟩)]] w fun e w' => (∃ r : Int, e = .returned (.int .i64 r) ∧ -1 ≤ r ∧ (0 ≤ r ↔ xs.any (eqNm x) = true)) ∧ Below w.heap.size w w' := by
  have hle := ha.le
  obtain ⟨ao, cap, rfl, ho⟩ := eOperator_open ha
  obtain ⟨n, hn⟩ : ∃ n, n = xs.length := ⟨_, rfl⟩
  rw [← hn]
  have Hn := Lib.hid hn
  have Ho := Lib.hid ho
  have Hcc := Lib.hid hcc
  clear hcc
  have hle' : n ≤ 9223372036854775807 := by omega
  clear ho hn hle ha
  go_enter Tryd.func69, Tryd.ntmps69
  go_wp2
  go_loopw [8] (fun i wr => ∃ k : Nat, k ≤ n ∧ i = .int .i64 k ∧ Hid ((xs.take k).any (eqNm x) = false) ∧ Below w.heap.size w wr) (fun i _ => n - (intOf i).toNat)
  case atStart => exact ⟨0, Nat.zero_le _, rfl, rfl, Below.refl _ _⟩
  case round =>
    obtain ⟨k, hk, rfl, hp, hbb⟩ := hrel
    by_cases hkn : k < n
    · obtain ⟨b, off, rfl, hlt, hc⟩ := Ho.out (by have := Hn.out; omega)
      obtain ⟨y, hy, ⟨c0, c1⟩, bx⟩ := hc k (by have := Hn.out; omega)
      have Hy := Lib.hid hy
      have Hbx := Lib.hid bx
      have d0 := (hbb.cell (p := ⟨b, off + k * 2, none⟩) hlt.2).trans c0
      have d1 := (hbb.cell (p := ⟨b, off + k * 2 + 1, none⟩) hlt.2).trans c1
      have hcw := (hbb.cell (p := ⟨c, 0, none⟩) hlc).trans Hcc.out
      have hlw : c < wr.heap.size := by have := hbb.size; omega
      have Hcw := Lib.hid hcw
      clear hcw
      clear hy hc bx c0 c1
      go_wp2_with fail
      with_reducible refine (clo_Operator x y wr Hcw.out hlw).mono ?_
      cases hq : (eqNm x) y with
      | true =>
        have Hq := Lib.hid hq
        clear hq
        rintro e w1 ⟨rfl, hb1⟩
        have hb2 := hbb.trans (hb1.mono hbb.size)
        go_wp2
        go_ret
        refine ⟨⟨_, rfl, by omega, ?_⟩, hb2⟩
        have : xs.any (eqNm x) = true := List.any_eq_true.2 ⟨y, List.mem_of_getElem? Hy.out, Hq.out⟩
        simp [this]
      | false =>
        have Hq := Lib.hid hq
        clear hq
        rintro e w1 ⟨rfl, hb1⟩
        have hb2 := hbb.trans (hb1.mono hbb.size)
        clear d0 d1 hb1 hbb
        go_wp2
        go_roundw
        case rel => exact ⟨k + 1, by omega, by go_num, by show _ = false; rw [take_snoc Hy.out, List.any_append, hp.out]; simp [Hq.out], hb2⟩
        case measure => simp [intOf]; omega
    · go_wp2
      go_ret
      refine ⟨⟨_, rfl, by omega, ?_⟩, hbb⟩
      have hq := hp.out
      rw [List.take_of_length_le (by have := Hn.out; omega)] at hq
      exact any_endT hq
theorem containsOperator_c {xs : List OperatorT} {v : Value} {w : World} {A : Nat} (x : OperatorT) {c : Nat} (hcc : w.cell? ⟨c, 0, none⟩ = some (.string x.nm)) (hlc : c < w.heap.size) (ha : RdOperatorS A w v xs) :
    Calls Tryd.prog 59 #[v, .func (.func 60) #[] #[.pointer (some ⟨c, 0, none⟩)]] w fun e w' => e = .returned (.bool (xs.any (eqNm x))) ∧ Below w.heap.size w w' := by
  have Ha := Lib.hid ha
  have Hcc := Lib.hid hcc
  clear hcc
  obtain ⟨ao, cap, rfl⟩ := ha.shape
  clear ha
  go_enter Tryd.func59, Tryd.ntmps59
  go_wp2_with fail
  with_reducible refine (indexOperator_c x Hcc.out hlc Ha.out).mono ?_
  rintro e w' ⟨⟨r, rfl, hr, hi⟩, hb⟩
  have Hi := Lib.hid hi
  clear hi
  go_wp2
  go_ret
  refine ⟨ret_bool ?_, hb⟩
  rw [Bool.eq_iff_iff, decide_eq_true_iff]
  exact Hi.out

theorem ValidOperators_c {xs : List OperatorT} {v : Value} {w : World} {A : Nat} (ha : RdOperatorS A w v xs) :
    Calls Tryd.prog 28 #[v] w fun e w' => e = .returned (.bool (validOs xs)) ∧ Below w.heap.size w w' := by
  have hle := ha.le
  have Ha := Lib.hid ha
  obtain ⟨ao, cap, rfl, ho⟩ := eOperator_open ha
  have hcap := ha.cap
  obtain ⟨n, hn⟩ : ∃ n, n = xs.length := ⟨_, rfl⟩
  rw [← hn] at Ha ⊢
  have Hn := Lib.hid hn
  have Ho := Lib.hid ho
  have hle' : n ≤ 9223372036854775807 := by omega
  have hcp : n ≤ cap ∧ (0 < n → cap ≤ 9223372036854775807) := ⟨by omega, fun h => hcap.2.2 (by omega)⟩
  obtain ⟨hcp1, hcp2⟩ := hcp
  have Hcp2 := Lib.hid hcp2
  clear ho hn hle ha hcap hcp2
  go_enter Tryd.func28, Tryd.ntmps28
  go_wp2
  go_loopw [7] (fun i wr => ∃ k : Nat, k ≤ n ∧ i = .int .i64 k ∧ Hid (∀ j, j < k → goodAt xs j = true) ∧ Below w.heap.size w wr) (fun i _ => n - (intOf i).toNat)
  case atStart => exact ⟨0, Nat.zero_le _, rfl, fun j h => by omega, Below.refl _ _⟩
  case round =>
    obtain ⟨k, hk, rfl, hp, hbb⟩ := hrel
    by_cases hkn : k < n
    · obtain ⟨b, off, rfl, hlt, hc⟩ := Ho.out (by have := Hn.out; omega)
      obtain ⟨x, hx, ⟨c0, c1⟩, bx⟩ := hc k (by have := Hn.out; omega)
      have Hx := Lib.hid hx
      have d0 := (hbb.cell (p := ⟨b, off + k * 2, none⟩) hlt.2).trans c0
      have d1 := (hbb.cell (p := ⟨b, off + k * 2 + 1, none⟩) hlt.2).trans c1
      have hcap := Hcp2.out (by omega)
      have hbx := bx.1
      clear hx hc bx c0 c1
      have hb2 : Below w.heap.size w (wr.alloc (.cells #[.string x.nm, .int .i64 x.skills] 50)) := hbb.alloc hbb.size _
      have ht := (Ha.out.tight.below hb2 (Nat.le_refl _)).takeN hk
      have Ht := Lib.hid ht
      have Hb2 := Lib.hid hb2
      have Hcl := Lib.hid (⟨by simp, by simp [World.cell?_alloc_new]⟩ : (wr.heap.size < (wr.alloc (.cells #[.string x.nm, .int .i64 x.skills] 50)).heap.size) ∧ (wr.alloc (.cells #[.string x.nm, .int .i64 x.skills] 50)).cell? ⟨wr.heap.size, 0, none⟩ = some (.string x.nm))
      clear ht hb2
      go_wp2_with fail
      with_reducible refine (IsName_c x.nm _ hbx).mono ?_
      cases hv : nameB x.nm with
      | false =>
        have Hv := Lib.hid hv
        clear hv
        rintro e w1 ⟨rfl, rfl⟩
        clear d0 d1 hbb
        go_wp2
        go_ret
        exact ⟨ret_bool (validOs_no (j := k) (by have := Hn.out; omega) (by rw [goodAt_of Hx.out]; unfold validO; rw [Hv.out]; rfl)).symm, Hb2.out⟩
      | true =>
        have Hv := Lib.hid hv
        clear hv
        rintro e w1 ⟨rfl, rfl⟩
        go_wp2_with fail
        with_reducible refine (inside_any x.skills 0 63 _).mono ?_
        by_cases h2 : 0 ≤ x.skills ∧ x.skills ≤ 63
        · rw [decide_eq_true h2]
          have hv2 : validO x = true := by unfold validO; rw [Hv.out, decide_eq_true h2]; rfl
          have Hv2 := Lib.hid hv2
          clear h2 hv2
          rintro e w1 ⟨rfl, rfl⟩
          clear d0 d1 hbb
          go_wp2_with fail
          with_reducible refine (containsOperator_c x Hcl.out.2 Hcl.out.1 Ht.out).mono ?_
          cases hq : (xs.take k).any (eqNm x) with
          | true =>
            have Hq := Lib.hid hq
            clear hq
            rintro e w2 ⟨rfl, hb3⟩
            have hb4 := Hb2.out.trans (hb3.mono Hb2.out.size)
            go_wp2
            go_ret
            exact ⟨ret_bool (validOs_no (j := k) (by have := Hn.out; omega) (by rw [goodAt_of Hx.out, Hv2.out, Hq.out]; rfl)).symm, hb4⟩
          | false =>
            have Hq := Lib.hid hq
            clear hq
            rintro e w2 ⟨rfl, hb3⟩
            have hb4 := Hb2.out.trans (hb3.mono Hb2.out.size)
            clear hb3
            go_wp2
            go_roundw
            case rel =>
              refine ⟨k + 1, by omega, by go_num, ?_, hb4⟩
              intro j hj
              by_cases e : j < k
              · exact hp.out j e
              · obtain rfl : j = k := by omega
                rw [goodAt_of Hx.out, Hv2.out, Hq.out]; rfl
            case measure => simp [intOf]; omega
        · rw [decide_eq_false h2]
          have hv2 : validO x = false := by unfold validO; rw [Hv.out, decide_eq_false h2]; rfl
          have Hv2 := Lib.hid hv2
          clear h2 hv2
          rintro e w1 ⟨rfl, rfl⟩
          clear d0 d1 hbb
          go_wp2
          go_ret
          exact ⟨ret_bool (validOs_no (j := k) (by have := Hn.out; omega) (by rw [goodAt_of Hx.out, Hv2.out]; rfl)).symm, Hb2.out⟩
    · go_wp2
      go_ret
      refine ⟨ret_bool ?_, hbb⟩
      rw [validOs_end (fun j hj => hp.out j (by have := Hn.out; omega)), ← Hn.out]
      exact decide_eq_decide.2 (by omega)
theorem l22Ok_c {xs : List OperatorT} {v : Value} {w : World} {A : Nat} (ha : RdOperatorS A w v xs) :
    Calls Tryd.prog 32 #[v] w fun e w' => e = .returned (.bool (validOs xs)) ∧ ∃ m, w' = w.drewN m := by
  have hle := ha.le
  obtain ⟨ao, cap, rfl, ho⟩ := eOperator_open ha
  obtain ⟨n, hn⟩ : ∃ n, n = xs.length := ⟨_, rfl⟩
  rw [← hn]
  have Hn := Lib.hid hn
  have Ho := Lib.hid ho
  have hle' : n ≤ 9223372036854775807 := by omega
  clear ho hn hle ha
  go_enter Tryd.func32, Tryd.ntmps32
  go_wp2
  go_loopw [3] (fun i wr => ∃ k : Nat, k ≤ n ∧ i = .int .i64 k ∧ Hid (∀ j, j < k → goodAt xs j = true) ∧ ∃ m, wr = w.drewN m) (fun i _ => n - (intOf i).toNat)
  case atStart => exact ⟨0, Nat.zero_le _, rfl, fun j h => by omega, 0, rfl⟩
  case round =>
    obtain ⟨k, hk, rfl, hp, m, rfl⟩ := hrel
    by_cases hkn : k < n
    · obtain ⟨b, off, rfl, hlt, hc⟩ := Ho.out (by have := Hn.out; omega)
      obtain ⟨x, hx, ⟨c0, c1⟩, bx⟩ := hc k (by have := Hn.out; omega)
      have Hc := Lib.hid hc
      have Hx := Lib.hid hx
      have hbx := bx.1
      clear hx hc bx
      have key : ∀ (b : Bool), validO x = b → True := fun _ _ => trivial
      clear key
      cases hv : nameB x.nm with
      | false =>
        have Hv := Lib.hid hv
        have hcon := fun w => sIsName_c x.nm w hbx
        rw [hv] at hcon
        have Hcon := Lib.hid hcon
        clear hv hcon
        go_wp2_with fail
        with_reducible refine (Hcon.out _).mono ?_
        rintro e w' ⟨rfl, rfl⟩
        go_wp2
        go_ret
        exact ⟨ret_bool (validOs_no (j := k) (by have := Hn.out; omega) (by rw [goodAt_of Hx.out]; unfold validO; rw [Hv.out]; rfl)).symm, _, rfl⟩
      | true =>
        have Hv := Lib.hid hv
        have hcon := fun w => sIsName_c x.nm w hbx
        rw [hv] at hcon
        have Hcon := Lib.hid hcon
        clear hv hcon
        by_cases h2 : 0 ≤ x.skills ∧ x.skills ≤ 63
        · have hv2 : validO x = true := by unfold validO; rw [Hv.out, decide_eq_true h2]; rfl
          have Hv2 := Lib.hid hv2
          have H2 := Lib.hid h2
          clear h2 hv2
          go_wp2_with fail
          with_reducible refine (Hcon.out _).mono ?_
          rintro e w' ⟨rfl, rfl⟩
          go_wp2_with fail
          with_reducible refine (l00In_yes _ _ _ _ H2.out.1 H2.out.2).mono ?_
          rintro e w' ⟨rfl, rfl⟩
          go_wp2_with fail
          go_loopw [4] (fun i wr => ∃ q : Nat, q ≤ k ∧ i = .int .i64 q ∧ Hid ((xs.take q).any (eqNm x) = false) ∧ ∃ m, wr = w.drewN m) (fun i _ => k - (intOf i).toNat)
          case atStart => exact ⟨0, Nat.zero_le _, rfl, rfl, _, rfl⟩
          case round =>
            obtain ⟨q, hq, rfl, hpq, m, rfl⟩ := hrel
            by_cases hqk : q < k
            · obtain ⟨y, hy, ⟨y0, _⟩, _⟩ := Hc.out q (by have := Hn.out; omega)
              have Hy := Lib.hid hy
              clear hy
              cases he : eqNm x y with
              | true =>
                have hs : (y.nm.toList == x.nm.toList) = true := he
                have hs2 : y.nm.toList = x.nm.toList := by simpa using hs
                have He := Lib.hid he
                clear he hs2
                go_wp2
                go_quiet (fail)
                go_wp2
                go_ret
                refine ⟨ret_bool (validOs_no (j := k) (by have := Hn.out; omega) ?_).symm, _, World.drewN_drewN _ _ _⟩
                rw [goodAt_of Hx.out, Hv2.out]
                have : (xs.take k).any (eqNm x) = true := List.any_eq_true.2 ⟨y, List.mem_of_getElem? (i := q) (by rw [List.getElem?_take, if_pos hqk]; exact Hy.out), He.out⟩
                rw [this]; rfl
              | false =>
                have hs : (y.nm.toList == x.nm.toList) = false := he
                have He := Lib.hid he
                clear he
                go_wp2
                go_quiet (fail)
                go_wp2
                go_roundw
                case rel => exact ⟨q + 1, by omega, by go_num, by show _ = false; rw [take_snoc Hy.out, List.any_append, hpq.out]; simp [He.out], _, rfl⟩
                case measure => simp [intOf]; omega
            · go_wp2
              go_roundw
              case rel =>
                refine ⟨k + 1, by omega, by go_num, ?_, _, rfl⟩
                intro j hj
                by_cases e : j < k
                · exact hp.out j e
                · obtain rfl : j = k := by omega
                  obtain rfl : q = j := by omega
                  rw [goodAt_of Hx.out, Hv2.out, hpq.out]; rfl
              case measure => simp [intOf]; omega
        · have hv2 : validO x = false := by unfold validO; rw [Hv.out, decide_eq_false h2]; rfl
          have Hv2 := Lib.hid hv2
          have H2 := Lib.hid (show x.skills < 0 ∨ 63 < x.skills by omega)
          clear h2 hv2
          go_wp2_with fail
          with_reducible refine (Hcon.out _).mono ?_
          rintro e w' ⟨rfl, rfl⟩
          go_wp2_with fail
          with_reducible refine (l00In_no _ _ _ _ H2.out).mono ?_
          rintro e w' ⟨rfl, rfl⟩
          go_wp2
          go_ret
          exact ⟨ret_bool (validOs_no (j := k) (by have := Hn.out; omega) (by rw [goodAt_of Hx.out, Hv2.out]; rfl)).symm, _, rfl⟩
    · go_wp2
      go_ret
      refine ⟨ret_bool ?_, m, rfl⟩
      rw [validOs_end (fun j hj => hp.out j (by have := Hn.out; omega)), ← Hn.out]
      exact decide_eq_decide.2 (by omega)
theorem sValidOperators_c {xs : List OperatorT} {v : Value} {w : World} {A : Nat} (ha : RdOperatorS A w v xs) :
    Calls Tryd.prog 29 #[v] w fun e w' => e = .returned (.bool (validOs xs)) ∧ Below w.heap.size w w' := by
  obtain ⟨ao, cap, rfl⟩ := ha.shape
  have Ha := Lib.hid ha
  clear ha
  go_enter Tryd.func29, Tryd.ntmps29
  go_wp2_with fail
  with_reducible refine (l22Ok_c Ha.out).mono ?_
  rintro e w1 ⟨rfl, m, rfl⟩
  go_wp2
  go_ret
  exact ⟨rfl, (Below.refl _ _).drewNy _⟩
end Go.Proofs.YtilgepapkigblaaDoor
