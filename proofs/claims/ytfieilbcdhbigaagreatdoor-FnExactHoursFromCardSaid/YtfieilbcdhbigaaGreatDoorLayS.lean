/- Valid layouts and the places of items: the reference's, each by its contract. No condition. -/
import Derived.Test.YtfieilbcdhbigaaGreatDoorLayV
import Derived.Test.YtfieilbcdhbigaaGreatDoorQB
namespace Go.Proofs.YtfieilbcdhbigaaGreatDoor
open Go.ChangeShapes Go.WideShapes Go.ChangeAt Go.RowKit Go.Sort
set_option linter.unusedVariables false
set_option maxRecDepth 100000
theorem l04Item_c (x : ItemT) (c9 : Int) (w : World) (a : okItem x) (hc : 0 ≤ c9 ∧ c9 ≤ 1000) {b off : Nat} (c0 : w.cell? ⟨b, off, none⟩ = some (.string x.nm)) (c1 : w.cell? ⟨b, off + 1, none⟩ = some (.int .i64 x.kd))
    (c2 : w.cell? ⟨b, off + 2, none⟩ = some (.int .i64 x.ff)) (c3 : w.cell? ⟨b, off + 3, none⟩ = some (.int .i64 x.ft)) (hbl : b < w.heap.size) :
    Calls Tryz.prog 116 #[.pointer (some ⟨b, off, none⟩), .int .i64 c9] w fun e w' => e = .returned (.bool (itB x c9)) ∧ Below w.heap.size w w' := by
  have hs : x.nm.size ≤ 9223372036854775807 := a.1
  have Hc := Lib.hid hc
  clear a hc
  go_enter Tryz.func116, Tryz.ntmps116
  go_wp2_with fail
  with_reducible refine (sIsName_c x.nm _ hs).mono ?_
  cases h1 : nameB x.nm with
  | false =>
    have H1 := Lib.hid h1
    clear h1
    rintro e w' ⟨rfl, rfl⟩
    go_wp2
    go_ret
    exact ⟨ret_bool (itB_no fun h => by have h9 := h.nm; rw [H1.out] at h9; cases h9).symm, Below.refl _ _⟩
  | true =>
    have H1 := Lib.hid h1
    clear h1
    rintro e w' ⟨rfl, rfl⟩
    by_cases hk : 1 ≤ x.kd ∧ x.kd ≤ 2
    · have Hk := Lib.hid hk
      clear hk
      go_wp2_with fail
      with_reducible refine (l00In_yes _ _ _ _ Hk.out.1 Hk.out.2).mono ?_
      rintro e w' ⟨rfl, rfl⟩
      go_wp2_with fail
      with_reducible refine (l02Field_c x.ff x.ft c9 _ Hc.out).mono ?_
      by_cases h2 : fieldP x.ff x.ft c9
      · have H2 := Lib.hid h2
        have h3 : 0 ≤ x.ff ∧ x.ff < x.ft ∧ x.ft ≤ 1000 := by have := Hc.out; unfold fieldP at h2; omega
        obtain ⟨h4, h5, h6⟩ := h3
        rw [decide_eq_true h2]
        clear h2
        rintro e w1 ⟨rfl, hb⟩
        have d1 := (hb.cell (p := ⟨b, off + 1, none⟩) hbl).trans c1
        have d2 := (hb.cell (p := ⟨b, off + 2, none⟩) hbl).trans c2
        have d3 := (hb.cell (p := ⟨b, off + 3, none⟩) hbl).trans c3
        clear c0 c1 c2 c3
        have Hb := Lib.hid hb
        clear hb
        by_cases hk1 : x.kd = 1
        · have e : itB x c9 = true := itB_yes ⟨H1.out, H2.out, .inl hk1⟩
          have E := Lib.hid e
          have q1 : (x.kd == 1) = true := by simpa using hk1
          clear e
          go_wp2
          go_quiet (fail)
          go_wp2
          go_ret
          rw [E.out]
          exact ⟨rfl, Hb.out.drewNy _⟩
        · have hk2 : x.kd = 2 := by have := Hk.out; omega
          have e : itB x c9 = decide (x.ft - x.ff ≤ 12) := by
            by_cases hl : x.ft - x.ff ≤ 12
            · rw [decide_eq_true hl]; exact itB_yes ⟨H1.out, H2.out, .inr ⟨hk2, hl⟩⟩
            · rw [decide_eq_false hl]; exact itB_no fun h => h.kd.elim hk1 (fun h => hl h.2)
          have E := Lib.hid e
          have q1 : (x.kd == 1) = false := by simpa using hk1
          clear e hk2
          go_wp2
          go_quiet (fail)
          go_wp2
          go_ret
          rw [E.out]
          exact ⟨rfl, Hb.out.drewNy _⟩
      · have H2 := Lib.hid h2
        rw [decide_eq_false h2]
        clear h2
        rintro e w1 ⟨rfl, hb⟩
        go_wp2
        go_ret
        exact ⟨ret_bool (itB_no fun h => H2.out h.ff).symm, hb⟩
    · have Hk := Lib.hid hk
      have hk9 : x.kd < 1 ∨ 2 < x.kd := by omega
      have Hk9 := Lib.hid hk9
      clear hk hk9
      go_wp2_with fail
      with_reducible refine (l00In_no _ _ _ _ Hk9.out).mono ?_
      rintro e w' ⟨rfl, rfl⟩
      go_wp2
      go_ret
      exact ⟨ret_bool (itB_no fun h => Hk.out (by have := h.kd; omega)).symm, Below.refl _ _⟩
theorem l04Meet_c (f1 t1 f2 t2 : Int) (w : World) : Calls Tryz.prog 117 #[.agg #[.int .i64 f1, .int .i64 t1], .agg #[.int .i64 f2, .int .i64 t2]] w fun e w' => e = .returned (.bool (decide (f1 < t2 ∧ f2 < t1))) ∧ Below w.heap.size w w' := by
  have hb2 : Below w.heap.size w ((w.alloc (.cells #[.int .i64 f1, .int .i64 t1] 70)).alloc (.cells #[.int .i64 f2, .int .i64 t2] 70)) := ((Below.refl _ _).alloc (Nat.le_refl _) _).alloc (by simp) _
  have Hb2 := Lib.hid hb2
  clear hb2
  obtain ⟨t, ht⟩ : ∃ t, t = decide (f1 < t2 ∧ f2 < t1) := ⟨_, rfl⟩
  rw [← ht]
  by_cases h1 : f1 < t2
  · have E : Hid (t = decide (f2 < t1)) := Lib.hid (by rw [ht]; simp [h1])
    clear ht
    go_enter Tryz.func117, Tryz.ntmps117
    go_wp2
    go_ret
    rw [E.out]
    exact ⟨rfl, Hb2.out⟩
  · have E : Hid (t = false) := Lib.hid (by rw [ht]; simp [h1])
    clear ht
    go_enter Tryz.func117, Tryz.ntmps117
    go_wp2
    go_ret
    rw [E.out]
    exact ⟨rfl, Hb2.out⟩
set_option maxHeartbeats 2000000 in
theorem l04Ok_c {xs : List ItemT} {v : Value} {w : World} {A B : Nat} (wd : Int) (hP : Box w B [.int .i64 wd, v]) (ha : RdItemS A w v xs) :
    Calls Tryz.prog 90 #[.pointer (some ⟨B, 0, none⟩)] w fun e w' => e = .returned (.bool (layB wd xs)) ∧ Below w.heap.size w w' := by
  have hle := ha.le
  obtain ⟨ao, cap, rfl, ho⟩ := eItem_open ha
  obtain ⟨n, hn⟩ : ∃ n, n = xs.length := ⟨_, rfl⟩
  rw [← hn] at hP ho hle
  have Hn := Lib.hid hn
  have Ho := Lib.hid ho
  have HP := Lib.hid hP
  have hle' : n ≤ 9223372036854775807 := by omega
  have p0 := HP.out.cell 0 _ rfl
  clear ho hn hle ha hP
  by_cases hw : 1 ≤ wd ∧ wd ≤ 20
  · have Hw := Lib.hid hw
    have hw0 : 0 ≤ wd ∧ wd ≤ 1000 := by omega
    have Hw0 := Lib.hid hw0
    clear hw hw0
    go_enter Tryz.func90, Tryz.ntmps90
    go_wp2_with fail
    with_reducible refine (l00In_yes _ _ _ _ Hw.out.1 Hw.out.2).mono ?_
    rintro e w' ⟨rfl, rfl⟩
    clear p0
    go_wp2
    go_loopw [3] (fun i wr => ∃ k : Nat, k ≤ n ∧ i = .int .i64 k ∧ Hid (∀ j, j < k → layG xs wd j = true) ∧ Below w.heap.size w wr) (fun i _ => n - (intOf i).toNat)
    case atStart => exact ⟨0, Nat.zero_le _, rfl, fun j h => absurd h (Nat.not_lt_zero _), Below.refl _ _⟩
    case round =>
      obtain ⟨k, hk, rfl, hp, hbb⟩ := hrel
      have HPr := Lib.hid (HP.out.on hbb)
      have p0 := HPr.out.cell 0 _ rfl
      have p1 := HPr.out.cell 1 _ rfl
      by_cases hkn : k < n
      · obtain ⟨b, off, rfl, hlt, hc⟩ := Ho.out (by have := Hn.out; omega)
        obtain ⟨x, hx, ⟨c0, c1, c2, c3⟩, bx⟩ := hc k (by have := Hn.out; omega)
        have Hc := Lib.hid hc
        have Hx := Lib.hid hx
        have Hbx := Lib.hid bx
        have hbl : b < wr.heap.size := by have := hbb.size; omega
        have c0 := (hbb.cell (p := ⟨b, off + k * 4, none⟩) hlt.2).trans c0
        have c1 := (hbb.cell (p := ⟨b, off + k * 4 + 1, none⟩) hlt.2).trans c1
        have c2 := (hbb.cell (p := ⟨b, off + k * 4 + 2, none⟩) hlt.2).trans c2
        have c3 := (hbb.cell (p := ⟨b, off + k * 4 + 3, none⟩) hlt.2).trans c3
        have C0 := Lib.hid c0
        have C1 := Lib.hid c1
        have C2 := Lib.hid c2
        have C3 := Lib.hid c3
        have hit := fun q os => l04Item_c x wd (grow (redrawn wr q) os) Hbx.out Hw0.out (cell_regrown C0.out q os) (cell_regrown C1.out q os) (cell_regrown C2.out q os) (cell_regrown C3.out q os) (Nat.lt_of_lt_of_le hbl (below_regrown wr q os).size)
        have Hit := Lib.hid hit
        have Hbb := Lib.hid hbb
        have hlb : b < w.heap.size := hlt.2
        clear hx hc bx c0 c1 c2 c3 hit hbb hlt
        cases hv : itB x wd with
        | false =>
          rw [hv] at Hit
          have Hv := Lib.hid hv
          clear hv
          have f0 := cell_regrown p0
          have f1 := cell_regrown p1
          go_upto_region 6 with fail
          refine wp_region_quiet_below (by kernel_rfl) (by kernel_rfl) ?_
          repeat ((with_reducible refine wpQuiet_step (fun K hK => ?_)); go_simp; first | ((with_reducible refine hK _ ?_); clear hK K) | (apply Exists.intro; refine ⟨fun _ => ?_, hK _ ?_⟩; ((first | (go_at_call 116; with_reducible exact qb_below (Hit.out _ _)))); clear hK K))
          refine wpQuiet_nil ?_
          intro _ hw'
          obtain ⟨⟨dq, osq⟩, hw''⟩ := hw'
          subst hw''
          have hbq := below_regrown wr dq osq
          generalize grow (redrawn wr dq) osq = wq at hbq ⊢
          have hb := Hbb.out.trans (hbq.mono Hbb.out.size)
          clear hbq f0 f1 p0 p1
          go_wp2
          go_ret
          exact ⟨ret_bool (layB_no (j := k) (by have := Hn.out; omega) (by rw [layG_of Hx.out, Hv.out]; rfl)).symm, hb⟩
        | true =>
          rw [hv] at Hit
          have Hv := Lib.hid hv
          clear hv
          have f0 := cell_regrown p0
          have f1 := cell_regrown p1
          go_upto_region 6 with fail
          refine wp_region_quiet_below (by kernel_rfl) (by kernel_rfl) ?_
          repeat ((with_reducible refine wpQuiet_step (fun K hK => ?_)); go_simp; first | ((with_reducible refine hK _ ?_); clear hK K) | (apply Exists.intro; refine ⟨fun _ => ?_, hK _ ?_⟩; ((first | (go_at_call 116; with_reducible exact qb_below (Hit.out _ _)))); clear hK K))
          refine wpQuiet_nil ?_
          intro _ hw'
          obtain ⟨⟨dq, osq⟩, hw''⟩ := hw'
          subst hw''
          have hbq := below_regrown wr dq osq
          generalize grow (redrawn wr dq) osq = wq at hbq ⊢
          have hb := Hbb.out.trans (hbq.mono Hbb.out.size)
          have Hbq := Lib.hid hb
          clear hb hbq f0 f1 p0 p1 Hit
          go_wp2
          go_loopw [4] (fun i wr => ∃ q : Nat, q ≤ k ∧ i = .int .i64 q ∧ Hid ((xs.take q).any (clI x) = false) ∧ Below w.heap.size w wr) (fun i _ => k - (intOf i).toNat)
          case atStart => exact ⟨0, Nat.zero_le _, rfl, rfl, Hbq.out⟩
          case round =>
            obtain ⟨q, hq, rfl, hpq, hbb⟩ := hrel
            by_cases hqk : q < k
            · obtain ⟨y, hy, ⟨e0, e1, e2, e3⟩, _⟩ := Hc.out q (by have := Hn.out; omega)
              obtain ⟨x', hx', ⟨c0, c1, c2, c3⟩, _⟩ := Hc.out k (by have := Hn.out; omega)
              obtain rfl : x' = x := by have := Hx.out; rw [hx'] at this; exact Option.some.inj this
              have g0 := (hbb.cell (p := ⟨b, off + q * 4, none⟩) hlb).trans e0
              have g2 := (hbb.cell (p := ⟨b, off + q * 4 + 2, none⟩) hlb).trans e2
              have g3 := (hbb.cell (p := ⟨b, off + q * 4 + 3, none⟩) hlb).trans e3
              have d0 := (hbb.cell (p := ⟨b, off + k * 4, none⟩) hlb).trans c0
              have d2 := (hbb.cell (p := ⟨b, off + k * 4 + 2, none⟩) hlb).trans c2
              have d3 := (hbb.cell (p := ⟨b, off + k * 4 + 3, none⟩) hlb).trans c3
              have p1 := (HP.out.on hbb).cell 1 _ rfl
              have Hy := Lib.hid hy
              have hgy := hp.out q hqk
              rw [layG_of hy, Bool.and_eq_true] at hgy
              have oy : ItOk y wd := of_decide_eq_true hgy.1
              have ox : ItOk x' wd := of_decide_eq_true Hv.out
              have hm := meet_iff ox.ff oy.ff
              have hqn : q < n := by omega
              have Hbb := Lib.hid hbb
              have Hm := Lib.hid hm
              clear hy hx' e0 e1 e2 e3 c0 c1 c2 c3 hgy oy ox hm hbb
              have f0 := cell_regrown g0
              have f2 := cell_regrown g2
              have f3 := cell_regrown g3
              have h0 := cell_regrown d0
              have h2 := cell_regrown d2
              have h3 := cell_regrown d3
              have r1 := cell_regrown p1
              have hmt := Lib.hid (fun q os => l04Meet_c y.ff y.ft x'.ff x'.ft (grow (redrawn wr q) os))
              cases he : (y.nm.toList == x'.nm.toList) with
              | true =>
                have hcl : clI x' y = true := by unfold clI; rw [show (x'.nm.toList == y.nm.toList) = true by rw [beq_iff_eq] at he ⊢; exact he.symm]; rfl
                have Hcl := Lib.hid hcl
                have he2 : y.nm.toList = x'.nm.toList := by simpa using he
                have He2 := Lib.hid he2
                clear hcl he2
                go_upto_region 11 with fail
                refine wp_region_quiet_below (by kernel_rfl) (by kernel_rfl) ?_
                repeat ((with_reducible refine wpQuiet_step (fun K hK => ?_)); go_simp; first | ((with_reducible refine hK _ ?_); clear hK K) | (apply Exists.intro; refine ⟨fun _ => ?_, hK _ ?_⟩; ((first | (go_at_call 117; with_reducible exact qb_below (hmt.out _ _)))); clear hK K))
                refine wpQuiet_nil ?_
                intro _ hw'
                obtain ⟨⟨dq, osq⟩, hw''⟩ := hw'
                subst hw''
                have hbq := below_regrown wr dq osq
                generalize grow (redrawn wr dq) osq = wq at hbq ⊢
                have hb := Hbb.out.trans (hbq.mono Hbb.out.size)
                clear hbq f0 f2 f3 h0 h2 h3 r1
                go_wp2
                go_ret
                refine ⟨ret_bool (layB_no (j := k) (by have := Hn.out; omega) ?_).symm, hb⟩
                rw [layG_of Hx.out, Hv.out]
                have : (xs.take k).any (clI x') = true := List.any_eq_true.2 ⟨y, List.mem_of_getElem? (i := q) (by rw [List.getElem?_take, if_pos hqk]; exact Hy.out), Hcl.out⟩
                rw [this]; rfl
              | false =>
                have hcl : clI x' y = decide (y.ff < x'.ft ∧ x'.ff < y.ft) := by
                  unfold clI
                  rw [show (x'.nm.toList == y.nm.toList) = false by rw [beq_eq_false_iff_ne] at he ⊢; exact fun h => he h.symm]
                  rw [Bool.false_or]
                  exact decide_eq_decide.2 Hm.out
                have Hcl := Lib.hid hcl
                clear hcl
                obtain ⟨t, ht⟩ : ∃ t, t = decide (y.ff < x'.ft ∧ x'.ff < y.ft) := ⟨_, rfl⟩
                rw [← ht] at Hcl hmt
                clear ht
                go_upto_region 11 with fail
                refine wp_region_quiet_below (by kernel_rfl) (by kernel_rfl) ?_
                repeat ((with_reducible refine wpQuiet_step (fun K hK => ?_)); go_simp; first | ((with_reducible refine hK _ ?_); clear hK K) | (apply Exists.intro; refine ⟨fun _ => ?_, hK _ ?_⟩; ((first | (go_at_call 117; with_reducible exact qb_below (hmt.out _ _)))); clear hK K))
                refine wpQuiet_nil ?_
                intro _ hw'
                obtain ⟨⟨dq, osq⟩, hw''⟩ := hw'
                subst hw''
                have hbq := below_regrown wr dq osq
                generalize grow (redrawn wr dq) osq = wq at hbq ⊢
                have hb := Hbb.out.trans (hbq.mono Hbb.out.size)
                have Hb := Lib.hid hb
                clear hb hbq f0 f2 f3 h0 h2 h3 r1 g0 g2 g3 d0 d2 d3 p1
                cases t with
                | true =>
                  go_wp2
                  go_ret
                  refine ⟨ret_bool (layB_no (j := k) (by have := Hn.out; omega) ?_).symm, Hb.out⟩
                  rw [layG_of Hx.out, Hv.out]
                  have : (xs.take k).any (clI x') = true := List.any_eq_true.2 ⟨y, List.mem_of_getElem? (i := q) (by rw [List.getElem?_take, if_pos hqk]; exact Hy.out), Hcl.out⟩
                  rw [this]; rfl
                | false =>
                  go_wp2
                  go_roundw
                  case rel => exact ⟨q + 1, by omega, by go_num, by show _ = false; rw [take_snoc Hy.out, List.any_append, hpq.out]; simp [Hcl.out], Hb.out⟩
                  case measure => simp [intOf]; omega
            · go_wp2
              go_roundw
              case rel =>
                refine ⟨k + 1, by omega, by go_num, ?_, hbb⟩
                intro j hj
                by_cases e : j < k
                · exact hp.out j e
                · obtain rfl : j = k := by omega
                  obtain rfl : q = j := by omega
                  rw [layG_of Hx.out, Hv.out, hpq.out]; rfl
              case measure => simp [intOf]; omega
      · go_wp2
        go_ret
        refine ⟨ret_bool ?_, hbb⟩
        rw [layB_end Hw.out (fun j hj => hp.out j (by have := Hn.out; omega)), ← Hn.out]
        exact decide_eq_decide.2 (by omega)
  · have Hw := Lib.hid hw
    have Hw9 := Lib.hid (show wd < 1 ∨ 20 < wd by omega)
    clear hw
    go_enter Tryz.func90, Tryz.ntmps90
    go_wp2_with fail
    with_reducible refine (l00In_no _ _ _ _ Hw9.out).mono ?_
    rintro e w' ⟨rfl, rfl⟩
    go_wp2
    go_ret
    exact ⟨ret_bool (layB_width Hw.out).symm, Below.refl _ _⟩
theorem l04Find_c {xs : List ItemT} {v : Value} {w : World} {A B : Nat} (wd : Int) (nm : ByteArray) (hP : Box w B [.int .i64 wd, v]) (ha : RdItemS A w v xs) :
    Calls Tryz.prog 64 #[.pointer (some ⟨B, 0, none⟩), .string nm] w fun e w' => e = .returned (.int .i64 (idxI xs nm)) ∧ w = w' := by
  have hle := ha.le
  obtain ⟨ao, cap, rfl, ho⟩ := eItem_open ha
  obtain ⟨n, hn⟩ : ∃ n, n = xs.length := ⟨_, rfl⟩
  rw [← hn] at hP ho hle
  have Hn := Lib.hid hn
  have Ho := Lib.hid ho
  have hle' : n ≤ 9223372036854775807 := by omega
  have p1 := hP.cell 1 _ rfl
  clear ho hn hle ha hP
  go_enter Tryz.func64, Tryz.ntmps64
  go_wp2
  go_loop [5] (fun i => ∃ k : Nat, k ≤ n ∧ i = .int .i64 k ∧ Hid ((xs.take k).any (fun x => x.nm.toList == nm.toList) = false)) (fun i => n - (intOf i).toNat)
  case atStart => exact ⟨0, Nat.zero_le _, rfl, rfl⟩
  case round =>
    obtain ⟨k, hk, rfl, hp⟩ := hrel
    by_cases hkn : k < n
    · obtain ⟨b, off, rfl, hlt, hc⟩ := Ho.out (by have := Hn.out; omega)
      obtain ⟨y, hy, ⟨c0, c1, c2, c3⟩, bx⟩ := hc k (by have := Hn.out; omega)
      have Hy := Lib.hid hy
      clear hy hc bx c1 c2 c3
      cases hq : (y.nm.toList == nm.toList) with
      | true =>
        have Hq := Lib.hid hq
        have hq2 : y.nm.toList = nm.toList := by simpa using hq
        go_wp2
        go_ret
        exact ⟨ret_int (idx_found Hy.out Hq.out hp.out).symm, rfl⟩
      | false =>
        have Hq := Lib.hid hq
        go_wp2
        go_round
        case rel => exact ⟨k + 1, by omega, by go_num, by show _ = false; rw [take_snoc Hy.out, List.any_append, hp.out]; simpa using Hq.out⟩
        case measure => simp [intOf]; omega
    · go_wp2
      go_ret
      have hq := hp.out
      rw [List.take_of_length_le (by have := Hn.out; omega)] at hq
      exact ⟨ret_int (idx_none hq).symm, rfl⟩
end Go.Proofs.YtfieilbcdhbigaaGreatDoor
