/- Valid layouts: the program's test by its contract. No condition. -/
import Derived.Test.YtfieilbcdhbigaaGreatDoorLayV
import Derived.Test.YtfieilbcdhbigaaGreatDoorQB
namespace Go.Proofs.YtfieilbcdhbigaaGreatDoor
open Go.ChangeShapes Go.WideShapes Go.ChangeAt Go.RowKit
set_option linter.unusedVariables false
set_option maxRecDepth 100000
theorem meet_c (x y : ItemT) (w : World) : Calls Tryz.prog 123 #[.agg #[.int .i64 x.ff, .int .i64 x.ft], .agg #[.int .i64 y.ff, .int .i64 y.ft]] w fun e w' => e = .returned (.bool (decide (meetP x y))) ∧ Below w.heap.size w w' := by
  obtain ⟨p, hp⟩ : ∃ p, p = decide (meetP x y) := ⟨_, rfl⟩
  rw [← hp]
  have Hp := Lib.hid hp
  clear hp
  have fin : ∀ (a b : Int), a = (if x.ff < y.ff then y.ff else x.ff) → b = (if x.ft < y.ft then x.ft else y.ft) → decide (a < b) = p := by
    intro a b h1 h2
    rw [Hp.out, h1, h2]; rfl
  have Fin := Lib.hid fin
  clear fin
  have hb2 : Below w.heap.size w ((w.alloc (.cells #[.int .i64 x.ff, .int .i64 x.ft] 70)).alloc (.cells #[.int .i64 y.ff, .int .i64 y.ft] 70)) := ((Below.refl _ _).alloc (Nat.le_refl _) _).alloc (by simp) _
  have Hb2 := Lib.hid hb2
  clear hb2
  by_cases h1 : x.ff < y.ff
  case pos =>
    by_cases h2 : y.ft < x.ft
    case pos =>
      have E := Lib.hid (Fin.out y.ff y.ft (by split <;> omega) (by split <;> omega))
      go_enter Tryz.func123, Tryz.ntmps123
      go_wp2
      go_ret
      exact ⟨ret_bool E.out, Hb2.out⟩
    case neg =>
      have E := Lib.hid (Fin.out y.ff x.ft (by split <;> omega) (by split <;> omega))
      go_enter Tryz.func123, Tryz.ntmps123
      go_wp2
      go_ret
      exact ⟨ret_bool E.out, Hb2.out⟩
  case neg =>
    by_cases h2 : y.ft < x.ft
    case pos =>
      have E := Lib.hid (Fin.out x.ff y.ft (by split <;> omega) (by split <;> omega))
      go_enter Tryz.func123, Tryz.ntmps123
      go_wp2
      go_ret
      exact ⟨ret_bool E.out, Hb2.out⟩
    case neg =>
      have E := Lib.hid (Fin.out x.ff x.ft (by split <;> omega) (by split <;> omega))
      go_enter Tryz.func123, Tryz.ntmps123
      go_wp2
      go_ret
      exact ⟨ret_bool E.out, Hb2.out⟩
theorem clo_Item (x y : ItemT) (w : World) {c : Nat} (hx : Box w c (eItem.cells x)) (hy : okItem y) :
    Calls Tryz.prog 122 #[vItem y, .pointer (some ⟨c, 0, none⟩)] w fun e w' => e = .returned (.bool (clI x y)) ∧ Below w.heap.size w w' := by
  have c0 := hx.cell 0 _ rfl
  have c2 := hx.cell 2 _ rfl
  have c3 := hx.cell 3 _ rfl
  have hlt := hx.lt
  have hne : c ≠ w.heap.size := by omega
  have hb0 : Below w.heap.size w (w.alloc (.cells #[.string y.nm, .int .i64 y.kd, .int .i64 y.ff, .int .i64 y.ft] 72)) := (Below.refl _ _).alloc (Nat.le_refl _) _
  have Hb0 := Lib.hid hb0
  clear hx hy hb0
  cases h1 : (x.nm.toList == y.nm.toList) with
  | true =>
    have e : clI x y = true := by unfold clI; rw [h1]; rfl
    rw [e]
    clear e
    go_enter Tryz.func122, Tryz.ntmps122
    go_wp2
    go_ret
    exact ⟨rfl, Hb0.out⟩
  | false =>
    have e : clI x y = decide (meetP x y) := by unfold clI; rw [h1]; rfl
    rw [e]
    clear e
    go_enter Tryz.func122, Tryz.ntmps122
    go_wp2_with fail
    with_reducible refine (meet_c x y _).mono ?_
    rintro e w1 ⟨rfl, hb⟩
    have hb1 := Hb0.out.trans (hb.mono Hb0.out.size)
    clear hb c0 c2 c3
    go_wp2
    go_ret
    exact ⟨rfl, hb1⟩
theorem indexItem_c {xs : List ItemT} {v : Value} {w : World} {A : Nat} (x : ItemT) {c : Nat} (hcc : Box w c (eItem.cells x)) (ha : RdItemS A w v xs) :
    Calls Tryz.prog 126 #[v, .func (.func 122) #[] #[.pointer (some ⟨c, 0, none⟩)]] w fun e w' => (∃ r : Int, e = .returned (.int .i64 r) ∧ -1 ≤ r ∧ (0 ≤ r ↔ xs.any (clI x) = true)) ∧ Below w.heap.size w w' := by
  have hle := ha.le
  obtain ⟨ao, cap, rfl, ho⟩ := eItem_open ha
  obtain ⟨n, hn⟩ : ∃ n, n = xs.length := ⟨_, rfl⟩
  rw [← hn]
  have Hn := Lib.hid hn
  have Ho := Lib.hid ho
  have Hcc := Lib.hid hcc
  clear hcc
  have hle' : n ≤ 9223372036854775807 := by omega
  clear ho hn hle ha
  go_enter Tryz.func126, Tryz.ntmps126
  go_wp2
  go_loopw [8] (fun i wr => ∃ k : Nat, k ≤ n ∧ i = .int .i64 k ∧ Hid ((xs.take k).any (clI x) = false) ∧ Below w.heap.size w wr) (fun i _ => n - (intOf i).toNat)
  case atStart => exact ⟨0, Nat.zero_le _, rfl, rfl, Below.refl _ _⟩
  case round =>
    obtain ⟨k, hk, rfl, hp, hbb⟩ := hrel
    by_cases hkn : k < n
    · obtain ⟨b, off, rfl, hlt, hc⟩ := Ho.out (by have := Hn.out; omega)
      obtain ⟨y, hy, ⟨c0, c1, c2, c3⟩, bx⟩ := hc k (by have := Hn.out; omega)
      have Hy := Lib.hid hy
      have Hbx := Lib.hid bx
      have d0 := (hbb.cell (p := ⟨b, off + k * 4, none⟩) hlt.2).trans c0
      have d1 := (hbb.cell (p := ⟨b, off + k * 4 + 1, none⟩) hlt.2).trans c1
      have d2 := (hbb.cell (p := ⟨b, off + k * 4 + 2, none⟩) hlt.2).trans c2
      have d3 := (hbb.cell (p := ⟨b, off + k * 4 + 3, none⟩) hlt.2).trans c3
      have Hcw := Lib.hid (Hcc.out.on hbb)
      clear hy hc bx c0 c1 c2 c3
      go_wp2_with fail
      with_reducible refine (clo_Item x y wr Hcw.out Hbx.out).mono ?_
      cases hq : (clI x) y with
      | true =>
        have Hq := Lib.hid hq
        clear hq
        rintro e w1 ⟨rfl, hb1⟩
        have hb2 := hbb.trans (hb1.mono hbb.size)
        go_wp2
        go_ret
        refine ⟨⟨_, rfl, by omega, ?_⟩, hb2⟩
        have : xs.any (clI x) = true := List.any_eq_true.2 ⟨y, List.mem_of_getElem? Hy.out, Hq.out⟩
        simp [this]
      | false =>
        have Hq := Lib.hid hq
        clear hq
        rintro e w1 ⟨rfl, hb1⟩
        have hb2 := hbb.trans (hb1.mono hbb.size)
        clear d0 d1 d2 d3 hb1 hbb
        go_wp2
        go_roundw
        case rel => exact ⟨k + 1, by omega, by go_num, by show _ = false; rw [take_snoc Hy.out, List.any_append, hp.out]; simp [Hq.out], hb2⟩
        case measure => simp [intOf]; omega
    · go_wp2
      go_ret
      refine ⟨⟨_, rfl, by omega, ?_⟩, hbb⟩
      have hq := hp.out
      rw [List.take_of_length_le (by have := Hn.out; omega)] at hq
      exact any_endT hq
theorem containsItem_c {xs : List ItemT} {v : Value} {w : World} {A : Nat} (x : ItemT) {c : Nat} (hcc : Box w c (eItem.cells x)) (ha : RdItemS A w v xs) :
    Calls Tryz.prog 121 #[v, .func (.func 122) #[] #[.pointer (some ⟨c, 0, none⟩)]] w fun e w' => e = .returned (.bool (xs.any (clI x))) ∧ Below w.heap.size w w' := by
  have Ha := Lib.hid ha
  have Hcc := Lib.hid hcc
  clear hcc
  obtain ⟨ao, cap, rfl⟩ := ha.shape
  clear ha
  go_enter Tryz.func121, Tryz.ntmps121
  go_wp2_with fail
  with_reducible refine (indexItem_c x Hcc.out Ha.out).mono ?_
  rintro e w' ⟨⟨r, rfl, hr, hi⟩, hb⟩
  have Hi := Lib.hid hi
  clear hi
  go_wp2
  go_ret
  refine ⟨ret_bool ?_, hb⟩
  rw [Bool.eq_iff_iff, decide_eq_true_iff]
  exact Hi.out

theorem isItem_c (x : ItemT) (c9 : Int) (w : World) (a : okItem x) (hc : 0 ≤ c9 ∧ c9 ≤ 1000) :
    Calls Tryz.prog 120 #[vItem x, .int .i64 c9] w fun e w' => e = .returned (.bool (itB x c9)) ∧ Below w.heap.size w w' := by
  have hs : x.nm.size ≤ 9223372036854775807 := a.1
  have Hc := Lib.hid hc
  have hb0 : Below w.heap.size w (w.alloc (.cells #[.string x.nm, .int .i64 x.kd, .int .i64 x.ff, .int .i64 x.ft] 72)) := (Below.refl _ _).alloc (Nat.le_refl _) _
  have Hb0 := Lib.hid hb0
  have HX := Lib.hid (Box.new w [.string x.nm, .int .i64 x.kd, .int .i64 x.ff, .int .i64 x.ft] 72)
  clear a hc hb0
  go_enter Tryz.func120, Tryz.ntmps120
  go_wp2_with fail
  with_reducible refine (IsName_c x.nm _ hs).mono ?_
  cases h1 : nameB x.nm with
  | false =>
    have H1 := Lib.hid h1
    clear h1
    rintro e w' ⟨rfl, rfl⟩
    go_wp2
    go_ret
    exact ⟨ret_bool (itB_no fun h => by have h9 := h.nm; rw [H1.out] at h9; cases h9).symm, Hb0.out⟩
  | true =>
    have H1 := Lib.hid h1
    clear h1
    rintro e w' ⟨rfl, rfl⟩
    go_wp2_with fail
    with_reducible refine (isField_c x.ff x.ft c9 _ Hc.out).mono ?_
    by_cases h2 : fieldP x.ff x.ft c9
    · have H2 := Lib.hid h2
      have h3 : 0 ≤ x.ff ∧ x.ff < x.ft ∧ x.ft ≤ 1000 := by have := Hc.out; unfold fieldP at h2; omega
      obtain ⟨h4, h5, h6⟩ := h3
      rw [decide_eq_true h2]
      clear h2
      rintro e w1 ⟨rfl, hb⟩
      have HY := Lib.hid (HX.out.on hb)
      have HbY := Lib.hid (Hb0.out.trans (hb.mono Hb0.out.size))
      clear hb HX Hb0
      have c1 := HY.out.cell 1 _ rfl
      have c2 := HY.out.cell 2 _ rfl
      have c3 := HY.out.cell 3 _ rfl
      by_cases k1 : x.kd = 1
      · have q1 : (x.kd == 1) = true := by simpa using k1
        have K1 := Lib.hid k1
        clear k1
        go_wp2
        go_ret
        exact ⟨ret_bool (itB_yes ⟨H1.out, H2.out, .inl K1.out⟩).symm, HbY.out⟩
      · have q1 : (x.kd == 1) = false := by simpa using k1
        have K1 := Lib.hid k1
        clear k1
        by_cases k2 : x.kd = 2
        · have q2 : (x.kd == 2) = true := by simpa using k2
          have K2 := Lib.hid k2
          clear k2
          go_wp2
          go_ret
          refine ⟨ret_bool ?_, HbY.out⟩
          unfold itB
          exact decide_eq_decide.2 ⟨fun q => ⟨H1.out, H2.out, .inr ⟨K2.out, q⟩⟩, fun h => h.kd.elim (fun e => absurd e K1.out) (fun e => e.2)⟩
        · have q2 : (x.kd == 2) = false := by simpa using k2
          have K2 := Lib.hid k2
          clear k2
          go_wp2
          go_ret
          exact ⟨ret_bool (itB_no fun h => h.kd.elim K1.out (fun e => K2.out e.1)).symm, HbY.out⟩
    · have H2 := Lib.hid h2
      rw [decide_eq_false h2]
      clear h2
      rintro e w1 ⟨rfl, hb⟩
      have HbY := Lib.hid (Hb0.out.trans (hb.mono Hb0.out.size))
      clear hb HX Hb0
      go_wp2
      go_ret
      exact ⟨ret_bool (itB_no fun h => H2.out h.ff).symm, HbY.out⟩
set_option maxHeartbeats 1000000 in
theorem ValidLayout_c {xs : List ItemT} {v : Value} {w : World} {A : Nat} (wd : Int) (ha : RdItemS A w v xs) :
    Calls Tryz.prog 94 #[.agg #[.int .i64 wd, v]] w fun e w' => e = .returned (.bool (layB wd xs)) ∧ Below w.heap.size w w' := by
  have hle := ha.le
  have hb0 : Below w.heap.size w (w.alloc (.cells #[.int .i64 wd, v] 32)) := (Below.refl _ _).alloc (Nat.le_refl _) _
  have Hb0 := Lib.hid hb0
  have hL := Box.new w [.int .i64 wd, v] 32
  have ha0 := Rds.onn ha hb0
  obtain ⟨ao, cap, rfl⟩ := ha.shape
  have hcap := ha0.cap
  obtain ⟨ao2, cap2, he2, ho⟩ := eItem_open ha0
  injection he2 with he3 _ he4
  subst he3; subst he4
  obtain ⟨n, hn⟩ : ∃ n, n = xs.length := ⟨_, rfl⟩
  have hcp : n ≤ cap := by omega
  rw [← hn] at hle ho ha0 hL hb0 Hb0 ⊢
  have Ha := Lib.hid ha0
  have HL := Lib.hid hL
  have Hn := Lib.hid hn
  have Ho := Lib.hid ho
  have hcp2 : 0 < n → cap ≤ 9223372036854775807 := fun h => hcap.2.2 (by omega)
  have Hcp2 := Lib.hid hcp2
  clear hn ho ha ha0 hL hb0 hcap hcp2
  by_cases hw : 1 ≤ wd ∧ wd ≤ 20
  case neg =>
    have hw2 : wd < 1 ∨ 20 < wd := by omega
    have Hw := Lib.hid hw2
    have E := Lib.hid (layB_width (xs := xs) hw)
    clear hw hw2
    go_enter Tryz.func94, Tryz.ntmps94
    go_wp2_with fail
    with_reducible refine (inside_no _ _ _ _ Hw.out).mono ?_
    rintro e w' ⟨rfl, rfl⟩
    go_wp2
    go_ret
    exact ⟨ret_bool E.out.symm, Hb0.out⟩
  case pos =>
    have Hw := Lib.hid hw
    clear hw
    by_cases h12 : n ≤ 12
    case neg =>
      have E := Lib.hid (layB_long (w := wd) (xs := xs) (by have := Hn.out; omega))
      go_enter Tryz.func94, Tryz.ntmps94
      go_wp2_with fail
      with_reducible refine (inside_yes _ _ _ _ Hw.out.1 Hw.out.2).mono ?_
      rintro e w' ⟨rfl, rfl⟩
      go_wp2
      go_ret
      exact ⟨ret_bool E.out.symm, Hb0.out⟩
    case pos =>
      go_enter Tryz.func94, Tryz.ntmps94
      go_wp2_with fail
      with_reducible refine (inside_yes _ _ _ _ Hw.out.1 Hw.out.2).mono ?_
      rintro e w' ⟨rfl, rfl⟩
      have Hb00 : Hid (Below (w.alloc (.cells #[.int .i64 wd, .slice ao n cap] 32)).heap.size (w.alloc (.cells #[.int .i64 wd, .slice ao n cap] 32)) (w.alloc (.cells #[.int .i64 wd, .slice ao n cap] 32))) := Lib.hid (Below.refl _ _)
      generalize w.alloc (.cells #[.int .i64 wd, .slice ao n cap] 32) = W at Ha HL Hb0 Ho Hb00 ⊢
      have l0 := HL.out.cell 0 _ rfl
      have l1 := HL.out.cell 1 _ rfl
      go_wp2_with fail
      clear l0 l1
      go_loopw [18] (fun i wr => ∃ k : Nat, k ≤ n ∧ i = .int .i64 k ∧ Hid (∀ j, j < k → layG xs wd j = true) ∧ Below W.heap.size W wr) (fun i _ => n - (intOf i).toNat)
      case atStart => exact ⟨0, Nat.zero_le _, rfl, fun j h => absurd h (Nat.not_lt_zero _), Hb00.out⟩
      case round =>
        obtain ⟨k, hk, rfl, hp, hbb⟩ := hrel
        by_cases hkn : k < n
        · obtain ⟨b, off, rfl, hlt, hc⟩ := Ho.out (by have := Hn.out; omega)
          obtain ⟨x, hx, ⟨c0, c1, c2, c3⟩, bx⟩ := hc k (by have := Hn.out; omega)
          have d0 := (hbb.cell (p := ⟨b, off + k * 4, none⟩) hlt.2).trans c0
          have d1 := (hbb.cell (p := ⟨b, off + k * 4 + 1, none⟩) hlt.2).trans c1
          have d2 := (hbb.cell (p := ⟨b, off + k * 4 + 2, none⟩) hlt.2).trans c2
          have d3 := (hbb.cell (p := ⟨b, off + k * 4 + 3, none⟩) hlt.2).trans c3
          have hLr := HL.out.on hbb
          have hcap := Hcp2.out (by omega)
          have hb2 : Below W.heap.size W (wr.alloc (.cells #[.string x.nm, .int .i64 x.kd, .int .i64 x.ff, .int .i64 x.ft] 72)) := hbb.alloc hbb.size _
          have hXb := Box.new wr [.string x.nm, .int .i64 x.kd, .int .i64 x.ff, .int .i64 x.ft] 72
          have hLx := hLr.alloc (.cells #[.string x.nm, .int .i64 x.kd, .int .i64 x.ff, .int .i64 x.ft] 72)
          have l1 := hLr.cell 1 _ rfl
          have hgx := layG_of (w := wd) hx
          have Hgx := Lib.hid hgx
          have Hx := Lib.hid hx
          have Hbx := Lib.hid bx
          have HXb := Lib.hid hXb
          have HLx := Lib.hid hLx
          have Hb2 := Lib.hid hb2
          have Hlw : w.heap.size < wr.heap.size := hLr.lt
          clear hx hc bx c0 c1 c2 c3 hXb hLx hb2 hLr hgx
          go_upto_region 6 with fail
          clear d0 d1 d2 d3 l1
          generalize wr.alloc (.cells #[.string x.nm, .int .i64 x.kd, .int .i64 x.ff, .int .i64 x.ft] 72) = T at HXb HLx Hb2 ⊢
          have x0 := HXb.out.cell 0 _ rfl
          have x1 := HXb.out.cell 1 _ rfl
          have x2 := HXb.out.cell 2 _ rfl
          have x3 := HXb.out.cell 3 _ rfl
          have l0 := HLx.out.cell 0 _ rfl
          go_wp2_with fail
          with_reducible refine (isItem_c x wd _ Hbx.out (by have := Hw.out; omega)).mono ?_
          cases hv : itB x wd with
          | false =>
            have Hv := Lib.hid hv
            clear hv
            rintro e w2 ⟨rfl, hb⟩
            have hb3 := Hb2.out.trans (hb.mono Hb2.out.size)
            clear hb x0 x1 x2 x3 l0
            go_wp2
            go_ret
            exact ⟨ret_bool (layB_no (j := k) (by have := Hn.out; omega) (by rw [Hgx.out, Hv.out]; rfl)).symm, Hb0.out.trans (hb3.mono Hb0.out.size)⟩
          | true =>
            have Hv := Lib.hid hv
            clear hv
            rintro e w2 ⟨rfl, hb⟩
            have hb3 := Hb2.out.trans (hb.mono Hb2.out.size)
            have HX3 := Lib.hid (HXb.out.on hb)
            have HL3 := Lib.hid (HLx.out.on hb)
            have Hb3 := Lib.hid hb3
            have Ht := Lib.hid (((Ha.out.below hb3 (Nat.le_refl _)).mono hb3.size).takeN hk)
            clear hb hb3 x0 x1 x2 x3 l0 HXb HLx
            have l1 := HL3.out.cell 1 _ rfl
            go_wp2_with fail
            with_reducible refine (containsItem_c x HX3.out Ht.out).mono ?_
            cases hq : (xs.take k).any (clI x) with
            | true =>
              have Hq := Lib.hid hq
              clear hq
              rintro e w3 ⟨rfl, hb4⟩
              have hb5 := Hb3.out.trans (hb4.mono Hb3.out.size)
              clear l1 hb4
              go_wp2
              go_ret
              exact ⟨ret_bool (layB_no (j := k) (by have := Hn.out; omega) (by rw [Hgx.out, Hv.out, Hq.out]; rfl)).symm, Hb0.out.trans (hb5.mono Hb0.out.size)⟩
            | false =>
              have Hq := Lib.hid hq
              clear hq
              rintro e w3 ⟨rfl, hb4⟩
              have hb5 := Hb3.out.trans (hb4.mono Hb3.out.size)
              clear l1 hb4
              go_wp2
              go_roundw
              case rel => exact ⟨k + 1, by omega, by go_num, fun j hj => by rcases Nat.lt_succ_iff_lt_or_eq.1 hj with hj | rfl; exact hp.out j hj; rw [Hgx.out, Hv.out, Hq.out]; rfl, hb5⟩
              case measure => simp [intOf]; omega
        · have E : layB wd xs = decide (xs.length ≤ 12) := layB_end Hw.out (fun j hj => hp.out j (by have := Hn.out; omega))
          rw [decide_eq_true (show xs.length ≤ 12 by have := Hn.out; omega)] at E
          have E1 := Lib.hid E
          clear E
          go_wp2
          go_ret
          exact ⟨ret_bool E1.out.symm, Hb0.out.trans (hbb.mono Hb0.out.size)⟩
end Go.Proofs.YtfieilbcdhbigaaGreatDoor
