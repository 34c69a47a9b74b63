/- Who learns a machine: the program's and the reference's, each by its contract. No condition. -/
import Derived.Test.YtilgepapkigblaaDoorCan
namespace Go.Proofs.YtilgepapkigblaaDoor
open Go.ChangeShapes Go.WideShapes Go.ChangeAt Go.RowKit
set_option linter.unusedVariables false
set_option maxRecDepth 100000
theorem Tryd.infoOperator : (Tryd.prog.info? 50).map (fun i => (i.zero, i.size, i.bytes)) = some (some (vOperator zOperator), 2, 24) := by kernel_rfl
/-- one skill more -/
def orB (s m : Int) : Int := bits BinOp.or IntKind.i64 s (2 ^ m.toNat)
theorem skill_all : ∀ s : Fin 64, ∀ m : Fin 6, 0 ≤ orB (s.val : Int) (m.val : Int) ∧ orB (s.val : Int) (m.val : Int) ≤ 63 ∧ ∀ q : Fin 6, canB (orB (s.val : Int) (m.val : Int)) (q.val : Int) = (canB (s.val : Int) (q.val : Int) || q == m) := by decide +kernel
theorem skill_any {s m : Int} (hs : 0 ≤ s ∧ s ≤ 63) (hm : 0 ≤ m ∧ m ≤ 5) : (0 ≤ orB s m ∧ orB s m ≤ 63) ∧ ∀ q, 0 ≤ q → q ≤ 5 → canB (orB s m) q = (canB s q || q == m) := by
  obtain ⟨a, rfl⟩ := Int.eq_ofNat_of_zero_le hs.1
  obtain ⟨b, rfl⟩ := Int.eq_ofNat_of_zero_le hm.1
  obtain ⟨h1, h2, h3⟩ := skill_all ⟨a, by omega⟩ ⟨b, by omega⟩
  refine ⟨⟨h1, h2⟩, fun q h4 h5 => ?_⟩
  obtain ⟨c, rfl⟩ := Int.eq_ofNat_of_zero_le h4
  have h6 := h3 ⟨c, by omega⟩
  refine h6.trans ?_
  congr 1
  rw [Bool.eq_iff_iff, beq_iff_eq, beq_iff_eq, Fin.mk.injEq]
  omega
theorem pow_m {m : Int} (hm : 0 ≤ m ∧ m ≤ 5) : IntKind.i64.wrap (2 ^ m.toNat) = 2 ^ m.toNat ∧ (0 : Int) ≤ 2 ^ m.toNat ∧ (2 : Int) ^ m.toNat ≤ 32 := by
  have h : m.toNat ≤ 5 := by omega
  have h1 : 2 ^ m.toNat ≤ 2 ^ 5 := Nat.pow_le_pow_right (by decide) h
  have h2 : ((2 ^ m.toNat : Nat) : Int) = 2 ^ m.toNat := by simp
  have h3 : (0 : Int) ≤ 2 ^ m.toNat ∧ (2 : Int) ^ m.toNat ≤ 32 := by
    rw [← h2]
    exact ⟨Int.natCast_nonneg _, Int.ofNat_le.2 h1⟩
  refine ⟨?_, h3⟩
  generalize (2 : Int) ^ m.toNat = p at h3
  exact IntWalk.i64_in _ (by omega)
def learn (x : OperatorT) (m : Int) : OperatorT := ⟨x.nm, orB x.skills m⟩
def taughtF (xs : List OperatorT) (k m : Int) : List OperatorT := match xs[k.toNat]? with
  | some x => xs.set k.toNat (learn x m)
  | none => xs
theorem taughtF_of {xs : List OperatorT} {k : Nat} {m : Int} {x : OperatorT} (h : xs[k]? = some x) : taughtF xs (k : Int) m = xs.set k (learn x m) := by
  unfold taughtF
  rw [Int.toNat_natCast, h]
theorem learn_ok {x : OperatorT} {m : Int} (hx : okOperator x) (hs : 0 ≤ x.skills ∧ x.skills ≤ 63) (hm : 0 ≤ m ∧ m ≤ 5) : okOperator (learn x m) := by
  have h := (skill_any hs hm).1
  unfold learn okOperator
  exact ⟨hx.1, by dsimp only; omega, by dsimp only; omega⟩
theorem taught_c {xs : List OperatorT} {v : Value} {w : World} {A : Nat} {k : Nat} (m : Int) {x : OperatorT} (ha : RdOperatorS A w v xs) (hx : xs[k]? = some x) (hs : 0 ≤ x.skills ∧ x.skills ≤ 63) (hm : 0 ≤ m ∧ m ≤ 5) (hl : xs.length ≤ 8) :
    Calls Tryd.prog 46 #[v, .int .i64 (k : Int), .int .i64 m] w fun e w' => ∃ u, e = .returned u ∧ OwnOperatorS w.heap.size w' u (taughtF xs k m) ∧ Below w.heap.size w w' := by
  obtain ⟨i0, hi, hz0, hz1, hz2⟩ := info_parts Tryd.infoOperator
  have hb0 : Below w.heap.size w (w.alloc (.cells #[] 50)) := (Below.refl _ _).alloc (Nat.le_refl _) _
  have ha0 : Rds eOperator (w.alloc (.cells #[] 50)).heap.size (w.alloc (.cells #[] 50)) v xs := ha.onn hb0
  have ho0 : Own eOperator 50 w.heap.size (w.alloc (.cells #[] 50)) (.slice (some ⟨w.heap.size, 0, none⟩) 0 0) [] :=
    Own.lit (E := eOperator) (xs := []) (cs := #[]) (Nat.le_refl _) rfl rfl (by decide) (fun x hx => by cases hx)
  have hk := at_lt hx
  have hok : okOperator (learn x m) := learn_ok (ha.2 x (List.mem_of_getElem? hx)) hs hm
  have hlen : xs.length ≤ 9223372036854775807 := by omega
  have hpw := (pow_m hm).1
  rw [taughtF_of hx]
  have Hx := Lib.hid hx
  have Hok := Lib.hid hok
  have Hpw := Lib.hid hpw
  obtain ⟨hs1, hs2⟩ := hs
  obtain ⟨hm1, hm2⟩ := hm
  clear ha hx hok hpw
  go_enter Tryd.func46, Tryd.ntmps46
  go_wp2_with (first | (at_builtin; refine wpList_appS (E := eOperator) rfl _ _ 22 rfl Tryd.underlying22 hi hz0 hz1 hz2 rfl (by decide) rfl rfl ho0 ha0 ?b1 ?b2 ?b3 ?_))
  case b1 => unfold maxLen; simp; omega
  case b2 => simp; omega
  case b3 => simp
  intro v' w1 hown hg
  have hb1 : Below w.heap.size w w1 := hg.below hb0 (by simp) (fun j hj => (ho0.lt j hj).1)
  replace hown : Own eOperator 50 w.heap.size w1 v' xs := hown
  obtain ⟨g, cap, rfl, hbg, hgl⟩ := hown.addr (by omega)
  obtain ⟨⟨y1, hy1⟩, hf1⟩ := Own.cellE (E := eOperator) hown rfl (k := k) (j := 1) hk (by decide)
  obtain ⟨ao, cp, hsl, ho⟩ := eOperator_open hown.rds
  injection hsl with q1 q2 q3
  subst q1; subst q3
  obtain ⟨b', off', hq, hlt, hc⟩ := ho (by omega)
  injection hq with hq
  injection hq with q4 q5
  subst q4; subst q5
  obtain ⟨x2, hx2, ⟨c0, c1⟩, bx⟩ := hc k hk
  obtain rfl : x = x2 := Option.some.inj (Hx.out.symm.trans hx2)
  have hst := Own.store1 (E := eOperator) (by decide) hown rfl Hx.out (j := 1) (y := learn x m) (v := .int .i64 (orB x.skills m)) (by decide) rfl Hok.out
  have Hst := Lib.hid hst
  have Hb1 := Lib.hid hb1
  simp only [show eOperator.sz = 2 from rfl, Nat.zero_add] at hy1 hf1 c0 c1
  clear hx2 hc ho bx hown hb1 q2 hg ho0 ha0 hb0 hz0 hz1 hz2 hi hy1 hst
  go_wp2_with fail
  go_still_tail 10, (by kernel_rfl)
  change wpList _ _ _ _ _ w1.drew
  have hpw := Hpw.out
  go_wp2
  go_ret
  refine ⟨_, rfl, ?_, (Hb1.out.setCell (p := ⟨g, k * 2 + 1, none⟩) hbg _).drew1⟩
  exact Hst.out.1
/-- the reference's: the same list -/
theorem l22Taught_c {xs : List OperatorT} {v : Value} {w : World} {A : Nat} {k : Nat} (m : Int) {x : OperatorT} (ha : RdOperatorS A w v xs) (hx : xs[k]? = some x) (hs : 0 ≤ x.skills ∧ x.skills ≤ 63) (hm : 0 ≤ m ∧ m ≤ 5) (hl : xs.length ≤ 8) :
    Calls Tryd.prog 49 #[v, .int .i64 (k : Int), .int .i64 m] w fun e w' => ∃ u, e = .returned u ∧ OwnOperatorS w.heap.size w' u (taughtF xs k m) ∧ Below w.heap.size w w' := by
  obtain ⟨i0, hi, hz0, hz1, hz2⟩ := info_parts Tryd.infoOperator
  have hb0 : Below w.heap.size w (w.alloc (.cells #[] 50)) := (Below.refl _ _).alloc (Nat.le_refl _) _
  have ha0 : Rds eOperator (w.alloc (.cells #[] 50)).heap.size (w.alloc (.cells #[] 50)) v xs := ha.onn hb0
  have ho0 : Own eOperator 50 w.heap.size (w.alloc (.cells #[] 50)) (.slice (some ⟨w.heap.size, 0, none⟩) 0 0) [] :=
    Own.lit (E := eOperator) (xs := []) (cs := #[]) (Nat.le_refl _) rfl rfl (by decide) (fun x hx => by cases hx)
  have hk := at_lt hx
  have hok : okOperator (learn x m) := learn_ok (ha.2 x (List.mem_of_getElem? hx)) hs hm
  have hlen : xs.length ≤ 9223372036854775807 := by omega
  have hpw := (pow_m hm).1
  rw [taughtF_of hx]
  have Hx := Lib.hid hx
  have Hok := Lib.hid hok
  have Hpw := Lib.hid hpw
  obtain ⟨hs1, hs2⟩ := hs
  obtain ⟨hm1, hm2⟩ := hm
  clear ha hx hok hpw
  go_enter Tryd.func49, Tryd.ntmps49
  go_wp2_with (first | (at_builtin; refine wpList_appS (E := eOperator) rfl _ _ 22 rfl Tryd.underlying22 hi hz0 hz1 hz2 rfl (by decide) rfl rfl ho0 ha0 ?b1 ?b2 ?b3 ?_))
  case b1 => unfold maxLen; simp; omega
  case b2 => simp; omega
  case b3 => simp
  intro v' w1 hown hg
  have hb1 : Below w.heap.size w w1 := hg.below hb0 (by simp) (fun j hj => (ho0.lt j hj).1)
  replace hown : Own eOperator 50 w.heap.size w1 v' xs := hown
  obtain ⟨g, cap, rfl, hbg, hgl⟩ := hown.addr (by omega)
  have hown2 := hown.alloc (.cells #[.string x.nm, .int .i64 (orB x.skills m)] 50)
  obtain ⟨⟨y0, hy0⟩, hf0⟩ := Own.cellE (E := eOperator) hown rfl (k := k) (j := 0) hk (by decide)
  obtain ⟨⟨y1, hy1⟩, hf1⟩ := Own.cellE (E := eOperator) hown rfl (k := k) (j := 1) hk (by decide)
  obtain ⟨ao, cp, hsl, ho⟩ := eOperator_open hown.rds
  injection hsl with q1 q2 q3
  subst q1; subst q3
  obtain ⟨b', off', hq, hlt, hc⟩ := ho (by omega)
  injection hq with hq
  injection hq with q4 q5
  subst q4; subst q5
  obtain ⟨x2, hx2, ⟨c0, c1⟩, bx⟩ := hc k hk
  obtain rfl : x = x2 := Option.some.inj (Hx.out.symm.trans hx2)
  have hst := Own.storeE (E := eOperator) (by decide) hown rfl hk (x := learn x m) Hok.out
  have Hst := Lib.hid hst
  have Hb1 := Lib.hid hb1
  simp only [show eOperator.sz = 2 from rfl, Nat.zero_add, Nat.add_zero] at hy0 hf0 hy1 hf1 c0 c1
  clear hx2 hc ho bx hown hown2 hb1 q2 hg ho0 ha0 hb0 hz0 hz1 hz2 hi hy1 hy0 hst
  have hpw := Hpw.out
  go_wp2
  go_ret
  exact ⟨_, rfl, Own.alloc Hst.out.1 _, ((Hb1.out.setCell (p := ⟨g, k * 2, none⟩) hbg _).setCell (p := ⟨g, k * 2 + 1, none⟩) hbg _).alloc (by simpa using Hb1.out.size) _⟩
def TOC (xs : List OperatorT) (k m : Int) : Int := if validOs xs = true then (if (0 ≤ m ∧ m ≤ 5) ∧ 0 ≤ k ∧ k ≤ (xs.length : Int) - 1 then (if canAt xs m k = true then 4 else 0) else 2) else 1
def TOR (xs : List OperatorT) (k m : Int) : List OperatorT := if TOC xs k m = 0 then taughtF xs k m else []
theorem TeachOperator_c {xs : List OperatorT} {v : Value} {w : World} {A : Nat} (k m : Int) (ha : RdOperatorS A w v xs) :
    Calls Tryd.prog 12 #[v, .int .i64 k, .int .i64 m] w fun e w' => ∃ u, e = .returned (.tuple #[u, .int .i64 (TOC xs k m)]) ∧ OwnOperatorS w.heap.size w' u (TOR xs k m) ∧ Below w.heap.size w w' := by
  have hle := ha.le
  obtain ⟨ao, cap, rfl⟩ := ha.shape
  obtain ⟨n, hn⟩ : ∃ n, n = xs.length := ⟨_, rfl⟩
  rw [← hn] at ha ⊢
  have Hn := Lib.hid hn
  have Ha := Lib.hid ha
  have hle' : n ≤ 9223372036854775807 := by omega
  clear hn ha hle
  cases hv : validOs xs with
  | false =>
    have e1 : TOC xs k m = 1 := by unfold TOC; rw [hv]; rfl
    have e2 : TOR xs k m = [] := if_neg (by rw [e1]; decide)
    rw [e1, e2]
    have Hv := Lib.hid hv
    clear hv e1 e2
    go_enter Tryd.func12, Tryd.ntmps12
    go_wp2_with fail
    with_reducible refine (ValidOperators_c Ha.out).mono ?_
    rw [Hv.out]
    rintro e w1 ⟨rfl, hb1⟩
    have ha1 := Ha.out.onn hb1
    clear ha1
    go_wp2
    go_ret2
    exact ⟨_, rfl, Own.nil _ _ _ _, hb1⟩
  | true =>
    have h8 := (validOs_parts hv).1
    have h8n : n ≤ 8 := by have := Hn.out; omega
    by_cases hr : (0 ≤ m ∧ m ≤ 5) ∧ 0 ≤ k ∧ k ≤ (xs.length : Int) - 1
    · obtain ⟨hm, hk⟩ := hr
      obtain ⟨j, rfl⟩ := Int.eq_ofNat_of_zero_le hk.1
      have hj : j < xs.length := by omega
      have hx : xs[j]? = some xs[j] := by simp [hj]
      generalize xs[j] = x at hx
      have hxs := ((validOs_parts hv).2 x (List.mem_of_getElem? hx)).2
      have hcat := canAt_of (m := m) hx
      have hkn : (0 : Int) ≤ j ∧ (j : Int) ≤ (n : Int) - 1 := by have := Hn.out; omega
      have hjn : j < n := by have := Hn.out; omega
      have Hv := Lib.hid hv
      have Hm := Lib.hid hm
      have Hk := Lib.hid hkn
      have Hx := Lib.hid hx
      have Hxs := Lib.hid hxs
      cases hc : canB x.skills m with
      | true =>
        have e1 : TOC xs j m = 4 := by unfold TOC; rw [if_pos hv, if_pos ⟨hm, hk⟩, hcat, if_pos hc]
        have e2 : TOR xs j m = [] := if_neg (by rw [e1]; decide)
        rw [e1, e2]
        have Hcan := Lib.hid hc
        clear hv hm hk hkn hx hxs hcat hc e1 e2 h8
        go_enter Tryd.func12, Tryd.ntmps12
        go_wp2_with fail
        with_reducible refine (ValidOperators_c Ha.out).mono ?_
        rw [Hv.out]
        rintro e w1 ⟨rfl, hb1⟩
        have ha1 := Ha.out.onn hb1
        obtain ⟨ao', cap', hs, ho⟩ := eOperator_open ha1
        injection hs with q1 q2 q3
        subst q1; subst q3
        obtain ⟨b, off, rfl, hlt, hcc⟩ := ho (by omega)
        obtain ⟨x2, hx2, ⟨c0, c1⟩, bx⟩ := hcc j (by omega)
        obtain rfl : x = x2 := Option.some.inj (Hx.out.symm.trans hx2)
        have D1 := Lib.hid c1
        have HA1 := Lib.hid ha1
        have Hb1 := Lib.hid hb1
        clear hcc ho hx2 bx q2 ha1 hb1
        go_wp2_with fail
        with_reducible refine (isMachine_any m _).mono ?_
        rw [decide_eq_true Hm.out]
        rintro e w' ⟨rfl, rfl⟩
        go_wp2_with fail
        with_reducible refine (sizeO_any HA1.out).mono ?_
        rintro e w' ⟨rfl, rfl⟩
        go_wp2_with fail
        with_reducible refine (inside_any (j : Int) 0 ((n : Int) - 1) _).mono ?_
        rw [decide_eq_true Hk.out]
        rintro e w' ⟨rfl, rfl⟩
        go_wp2_with fail
        with_reducible refine (canRun_c x m _ Hxs.out Hm.out).mono ?_
        rw [Hcan.out]
        rintro e w2 ⟨rfl, hb2⟩
        have hb3 := Hb1.out.trans (hb2.mono Hb1.out.size)
        have ha2 := HA1.out.onn hb2
        clear hb2
        clear ha2 c0 c1
        go_wp2
        go_ret2
        exact ⟨_, rfl, Own.nil _ _ _ _, hb3⟩
      | false =>
        have e1 : TOC xs j m = 0 := by unfold TOC; rw [if_pos hv, if_pos ⟨hm, hk⟩, hcat, hc]; rfl
        have e2 : TOR xs j m = taughtF xs j m := if_pos e1
        rw [e1, e2]
        have Hcan := Lib.hid hc
        have H8 := Lib.hid h8
        clear hv hm hk hkn hx hxs hcat hc e1 e2 h8
        go_enter Tryd.func12, Tryd.ntmps12
        go_wp2_with fail
        with_reducible refine (ValidOperators_c Ha.out).mono ?_
        rw [Hv.out]
        rintro e w1 ⟨rfl, hb1⟩
        have ha1 := Ha.out.onn hb1
        obtain ⟨ao', cap', hs, ho⟩ := eOperator_open ha1
        injection hs with q1 q2 q3
        subst q1; subst q3
        obtain ⟨b, off, rfl, hlt, hcc⟩ := ho (by omega)
        obtain ⟨x2, hx2, ⟨c0, c1⟩, bx⟩ := hcc j (by omega)
        obtain rfl : x = x2 := Option.some.inj (Hx.out.symm.trans hx2)
        have D1 := Lib.hid c1
        have HA1 := Lib.hid ha1
        have Hb1 := Lib.hid hb1
        clear hcc ho hx2 bx q2 ha1 hb1
        go_wp2_with fail
        with_reducible refine (isMachine_any m _).mono ?_
        rw [decide_eq_true Hm.out]
        rintro e w' ⟨rfl, rfl⟩
        go_wp2_with fail
        with_reducible refine (sizeO_any HA1.out).mono ?_
        rintro e w' ⟨rfl, rfl⟩
        go_wp2_with fail
        with_reducible refine (inside_any (j : Int) 0 ((n : Int) - 1) _).mono ?_
        rw [decide_eq_true Hk.out]
        rintro e w' ⟨rfl, rfl⟩
        go_wp2_with fail
        with_reducible refine (canRun_c x m _ Hxs.out Hm.out).mono ?_
        rw [Hcan.out]
        rintro e w2 ⟨rfl, hb2⟩
        have hb3 := Hb1.out.trans (hb2.mono Hb1.out.size)
        have ha2 := HA1.out.onn hb2
        clear hb2
        have HA2 := Lib.hid ha2
        have Hb3 := Lib.hid hb3
        clear ha2 hb3 c0 c1
        go_wp2_with fail
        with_reducible refine (taught_c m HA2.out Hx.out Hxs.out Hm.out H8.out).mono ?_
        rintro e w3 ⟨u, rfl, hown, hb4⟩
        have hb5 := Hb3.out.trans (hb4.mono Hb3.out.size)
        have hown2 := hown.mono Hb3.out.size
        clear hb4 hown
        go_wp2
        go_ret2
        exact ⟨_, rfl, hown2, hb5⟩
    · have e1 : TOC xs k m = 2 := by unfold TOC; rw [if_pos hv, if_neg hr]
      have e2 : TOR xs k m = [] := if_neg (by rw [e1]; decide)
      rw [e1, e2]
      have Hv := Lib.hid hv
      by_cases h1 : 0 ≤ m ∧ m ≤ 5
      · have h2 : ¬ (0 ≤ k ∧ k ≤ (n : Int) - 1) := fun h => hr ⟨h1, by have := Hn.out; omega⟩
        have Hm := Lib.hid h1
        have Hk := Lib.hid h2
        clear hv e1 e2 h8 h1 h2 hr
        go_enter Tryd.func12, Tryd.ntmps12
        go_wp2_with fail
        with_reducible refine (ValidOperators_c Ha.out).mono ?_
        rw [Hv.out]
        rintro e w1 ⟨rfl, hb1⟩
        have ha1 := Ha.out.onn hb1
        have HA1 := Lib.hid ha1
        clear ha1
        go_wp2_with fail
        with_reducible refine (isMachine_any m _).mono ?_
        rw [decide_eq_true Hm.out]
        rintro e w' ⟨rfl, rfl⟩
        go_wp2_with fail
        with_reducible refine (sizeO_any HA1.out).mono ?_
        rintro e w' ⟨rfl, rfl⟩
        go_wp2_with fail
        with_reducible refine (inside_any k 0 ((n : Int) - 1) _).mono ?_
        rw [decide_eq_false Hk.out]
        rintro e w' ⟨rfl, rfl⟩
        go_wp2
        go_ret2
        exact ⟨_, rfl, Own.nil _ _ _ _, hb1⟩
      · have Hm := Lib.hid h1
        clear hv e1 e2 h8 h1 hr
        go_enter Tryd.func12, Tryd.ntmps12
        go_wp2_with fail
        with_reducible refine (ValidOperators_c Ha.out).mono ?_
        rw [Hv.out]
        rintro e w1 ⟨rfl, hb1⟩
        have ha1 := Ha.out.onn hb1
        have HA1 := Lib.hid ha1
        clear ha1
        go_wp2_with fail
        with_reducible refine (isMachine_any m _).mono ?_
        rw [decide_eq_false Hm.out]
        rintro e w' ⟨rfl, rfl⟩
        go_wp2
        go_ret2
        exact ⟨_, rfl, Own.nil _ _ _ _, hb1⟩
theorem sTeachOperator_c {xs : List OperatorT} {v : Value} {w : World} {A : Nat} (k m : Int) (ha : RdOperatorS A w v xs) :
    Calls Tryd.prog 13 #[v, .int .i64 k, .int .i64 m] w fun e w' => ∃ u, e = .returned (.tuple #[u, .int .i64 (TOC xs k m)]) ∧ OwnOperatorS w.heap.size w' u (TOR xs k m) ∧ Below w.heap.size w w' := by
  have hle := ha.le
  obtain ⟨ao, cap, rfl⟩ := ha.shape
  obtain ⟨n, hn⟩ : ∃ n, n = xs.length := ⟨_, rfl⟩
  rw [← hn] at ha ⊢
  have Hn := Lib.hid hn
  have Ha := Lib.hid ha
  have hle' : n ≤ 9223372036854775807 := by omega
  clear hn ha hle
  cases hv : validOs xs with
  | false =>
    have e1 : TOC xs k m = 1 := by unfold TOC; rw [hv]; rfl
    have e2 : TOR xs k m = [] := if_neg (by rw [e1]; decide)
    rw [e1, e2]
    have Hv := Lib.hid hv
    clear hv e1 e2
    go_enter Tryd.func13, Tryd.ntmps13
    go_wp2_with fail
    with_reducible refine (l22Ok_c Ha.out).mono ?_
    rw [Hv.out]
    rintro e w1 ⟨rfl, q, rfl⟩
    have hb1 : Below w.heap.size w (w.drewN q) := (Below.refl _ _).drewNy _
    have ha1 := Ha.out.onn hb1
    generalize w.drewN q = w1 at hb1 ha1 ⊢
    clear ha1
    go_wp2
    go_ret2
    exact ⟨_, rfl, Own.nil _ _ _ _, hb1⟩
  | true =>
    have h8 := (validOs_parts hv).1
    have h8n : n ≤ 8 := by have := Hn.out; omega
    by_cases hr : (0 ≤ m ∧ m ≤ 5) ∧ 0 ≤ k ∧ k ≤ (xs.length : Int) - 1
    · obtain ⟨hm, hk⟩ := hr
      obtain ⟨j, rfl⟩ := Int.eq_ofNat_of_zero_le hk.1
      have hj : j < xs.length := by omega
      have hx : xs[j]? = some xs[j] := by simp [hj]
      generalize xs[j] = x at hx
      have hxs := ((validOs_parts hv).2 x (List.mem_of_getElem? hx)).2
      have hcat := canAt_of (m := m) hx
      have hkn : (0 : Int) ≤ j ∧ (j : Int) ≤ (n : Int) - 1 := by have := Hn.out; omega
      have hjn : j < n := by have := Hn.out; omega
      have Hv := Lib.hid hv
      have Hm := Lib.hid hm
      have Hk := Lib.hid hkn
      have Hx := Lib.hid hx
      have Hxs := Lib.hid hxs
      cases hc : canB x.skills m with
      | true =>
        have e1 : TOC xs j m = 4 := by unfold TOC; rw [if_pos hv, if_pos ⟨hm, hk⟩, hcat, if_pos hc]
        have e2 : TOR xs j m = [] := if_neg (by rw [e1]; decide)
        rw [e1, e2]
        have Hcan := Lib.hid hc
        clear hv hm hk hkn hx hxs hcat hc e1 e2 h8
        go_enter Tryd.func13, Tryd.ntmps13
        go_wp2_with fail
        with_reducible refine (l22Ok_c Ha.out).mono ?_
        rw [Hv.out]
        rintro e w1 ⟨rfl, q, rfl⟩
        have hb1 : Below w.heap.size w (w.drewN q) := (Below.refl _ _).drewNy _
        have ha1 := Ha.out.onn hb1
        generalize w.drewN q = w1 at hb1 ha1 ⊢
        obtain ⟨ao', cap', hs, ho⟩ := eOperator_open ha1
        injection hs with q1 q2 q3
        subst q1; subst q3
        obtain ⟨b, off, rfl, hlt, hcc⟩ := ho (by omega)
        obtain ⟨x2, hx2, ⟨c0, c1⟩, bx⟩ := hcc j (by omega)
        obtain rfl : x = x2 := Option.some.inj (Hx.out.symm.trans hx2)
        have D1 := Lib.hid c1
        have HA1 := Lib.hid ha1
        have Hb1 := Lib.hid hb1
        clear hcc ho hx2 bx q2 ha1 hb1
        go_wp2_with fail
        with_reducible refine (l00In_any (j : Int) 0 ((n : Int) - 1) _).mono ?_
        rw [decide_eq_true Hk.out]
        rintro e w' ⟨rfl, rfl⟩
        go_wp2_with fail
        with_reducible refine (l00In_any m 0 5 _).mono ?_
        rw [decide_eq_true Hm.out]
        rintro e w' ⟨rfl, rfl⟩
        have hcan := l22Can_c x m w1 Hxs.out Hm.out (b := b) (off := off + j * 2) D1.out
        have Hcc := Lib.hid hcan
        clear hcan
        go_wp2_with fail
        with_reducible refine Hcc.out.mono ?_
        rw [Hcan.out]
        rintro e w2 ⟨rfl, rfl⟩
        have hb3 := Hb1.out
        have ha2 := HA1.out
        clear ha2 c0 c1
        go_wp2
        go_ret2
        exact ⟨_, rfl, Own.nil _ _ _ _, hb3⟩
      | false =>
        have e1 : TOC xs j m = 0 := by unfold TOC; rw [if_pos hv, if_pos ⟨hm, hk⟩, hcat, hc]; rfl
        have e2 : TOR xs j m = taughtF xs j m := if_pos e1
        rw [e1, e2]
        have Hcan := Lib.hid hc
        have H8 := Lib.hid h8
        clear hv hm hk hkn hx hxs hcat hc e1 e2 h8
        go_enter Tryd.func13, Tryd.ntmps13
        go_wp2_with fail
        with_reducible refine (l22Ok_c Ha.out).mono ?_
        rw [Hv.out]
        rintro e w1 ⟨rfl, q, rfl⟩
        have hb1 : Below w.heap.size w (w.drewN q) := (Below.refl _ _).drewNy _
        have ha1 := Ha.out.onn hb1
        generalize w.drewN q = w1 at hb1 ha1 ⊢
        obtain ⟨ao', cap', hs, ho⟩ := eOperator_open ha1
        injection hs with q1 q2 q3
        subst q1; subst q3
        obtain ⟨b, off, rfl, hlt, hcc⟩ := ho (by omega)
        obtain ⟨x2, hx2, ⟨c0, c1⟩, bx⟩ := hcc j (by omega)
        obtain rfl : x = x2 := Option.some.inj (Hx.out.symm.trans hx2)
        have D1 := Lib.hid c1
        have HA1 := Lib.hid ha1
        have Hb1 := Lib.hid hb1
        clear hcc ho hx2 bx q2 ha1 hb1
        go_wp2_with fail
        with_reducible refine (l00In_any (j : Int) 0 ((n : Int) - 1) _).mono ?_
        rw [decide_eq_true Hk.out]
        rintro e w' ⟨rfl, rfl⟩
        go_wp2_with fail
        with_reducible refine (l00In_any m 0 5 _).mono ?_
        rw [decide_eq_true Hm.out]
        rintro e w' ⟨rfl, rfl⟩
        have hcan := l22Can_c x m w1 Hxs.out Hm.out (b := b) (off := off + j * 2) D1.out
        have Hcc := Lib.hid hcan
        clear hcan
        go_wp2_with fail
        with_reducible refine Hcc.out.mono ?_
        rw [Hcan.out]
        rintro e w2 ⟨rfl, rfl⟩
        have hb3 := Hb1.out
        have ha2 := HA1.out
        have HA2 := Lib.hid ha2
        have Hb3 := Lib.hid hb3
        clear ha2 hb3 c0 c1
        go_wp2_with fail
        with_reducible refine (l22Taught_c m HA2.out Hx.out Hxs.out Hm.out H8.out).mono ?_
        rintro e w3 ⟨u, rfl, hown, hb4⟩
        have hb5 := Hb3.out.trans (hb4.mono Hb3.out.size)
        have hown2 := hown.mono Hb3.out.size
        clear hb4 hown
        go_wp2
        go_ret2
        exact ⟨_, rfl, hown2, hb5⟩
    · have e1 : TOC xs k m = 2 := by unfold TOC; rw [if_pos hv, if_neg hr]
      have e2 : TOR xs k m = [] := if_neg (by rw [e1]; decide)
      rw [e1, e2]
      have Hv := Lib.hid hv
      by_cases h1 : 0 ≤ k ∧ k ≤ (n : Int) - 1
      · have h2 : ¬ (0 ≤ m ∧ m ≤ 5) := fun h => hr ⟨h, by have := Hn.out; omega⟩
        have Hk := Lib.hid h1
        have Hm := Lib.hid h2
        clear hv e1 e2 h8 h1 h2 hr
        go_enter Tryd.func13, Tryd.ntmps13
        go_wp2_with fail
        with_reducible refine (l22Ok_c Ha.out).mono ?_
        rw [Hv.out]
        rintro e w1 ⟨rfl, q, rfl⟩
        have hb1 : Below w.heap.size w (w.drewN q) := (Below.refl _ _).drewNy _
        have ha1 := Ha.out.onn hb1
        generalize w.drewN q = w1 at hb1 ha1 ⊢
        have HA1 := Lib.hid ha1
        clear ha1
        go_wp2_with fail
        with_reducible refine (l00In_any k 0 ((n : Int) - 1) _).mono ?_
        rw [decide_eq_true Hk.out]
        rintro e w' ⟨rfl, rfl⟩
        go_wp2_with fail
        with_reducible refine (l00In_any m 0 5 _).mono ?_
        rw [decide_eq_false Hm.out]
        rintro e w' ⟨rfl, rfl⟩
        go_wp2
        go_ret2
        exact ⟨_, rfl, Own.nil _ _ _ _, hb1⟩
      · have Hk := Lib.hid h1
        clear hv e1 e2 h8 h1 hr
        go_enter Tryd.func13, Tryd.ntmps13
        go_wp2_with fail
        with_reducible refine (l22Ok_c Ha.out).mono ?_
        rw [Hv.out]
        rintro e w1 ⟨rfl, q, rfl⟩
        have hb1 : Below w.heap.size w (w.drewN q) := (Below.refl _ _).drewNy _
        have ha1 := Ha.out.onn hb1
        generalize w.drewN q = w1 at hb1 ha1 ⊢
        have HA1 := Lib.hid ha1
        clear ha1
        go_wp2_with fail
        with_reducible refine (l00In_any k 0 ((n : Int) - 1) _).mono ?_
        rw [decide_eq_false Hk.out]
        rintro e w' ⟨rfl, rfl⟩
        go_wp2
        go_ret2
        exact ⟨_, rfl, Own.nil _ _ _ _, hb1⟩
end Go.Proofs.YtilgepapkigblaaDoor
