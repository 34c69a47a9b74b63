/- The number in columns: the program's, by its contract. No condition. -/
import Derived.Test.YtfieilbcdhbigaaGreatDoorTxt
import Derived.Test.YtfieilbcdhbigaaGreatDoorQB
namespace Go.Proofs.YtfieilbcdhbigaaGreatDoor
open Go.ChangeShapes Go.WideShapes Go.ChangeAt Go.RowKit Go.Sort
set_option linter.unusedVariables false
set_option maxRecDepth 100000
theorem Own.cellAtQ {e : TypeId} {base g n cap j : Nat} {w : World} {xs : List Int} {x : Int} (h : Own eI e base w (.slice (some ⟨g, 0, none⟩) n cap) xs) (hn : n = xs.length) (hx : xs[j]? = some x) : w.cell? ⟨g, j, none⟩ = some (.int .i64 x) := by
  subst hn
  have hj := at_lt hx
  have := h.ints.cellAt j (by omega)
  rw [this]
  simp [hx]
theorem numG_fail {h : List Int} {k : Nat} (hk : numG (h.take k) = none) : numG h = none := by
  have hd : h = h.take k ++ h.drop k := (List.take_append_drop k h).symm
  unfold numG at hk ⊢
  rw [hd, List.foldl_append, hk]
  generalize h.drop k = l
  induction l with
  | nil => rfl
  | cons a l ih => exact ih
theorem numR_zero {h : List Int} (hz : ∀ m ∈ h, m = 0) : numR h = (0, true) := by
  unfold numR
  cases hg : h.getLast? with
  | none => rfl
  | some l =>
    have hl : l = 0 := hz l (List.mem_of_getLast? hg)
    subst hl
    rw [numG_zero (fun m hm => hz m (List.dropLast_subset h hm))]
    have e : sgnB 0 = false := by decide +kernel
    simp [e]
theorem numR_of {a : List Int} {l : Int} (hl : 0 ≤ l ∧ l ≤ 4095) (hnz : ¬ ∀ m ∈ a ++ [l], m = 0) :
    numR (a ++ [l]) = match numG (a ++ [strip l]) with
      | none => (0, false)
      | some (n, b) => if b = false ∨ strip l = 0 ∨ (sgnB l = true ∧ n = 0) then (0, false) else ((if sgnB l = true then -n else n), true) := by
  have hs : numG (a ++ [strip l]) = numS (numG a) (strip l) := by unfold numG; rw [List.foldl_append]; rfl
  rw [hs]
  unfold numR
  rw [List.getLast?_append, List.getLast?_singleton]
  simp only [Option.some_or, List.dropLast_concat]
  cases hg : numG a with
  | none => rfl
  | some p =>
    obtain ⟨n, b⟩ := p
    simp only [numS]
    have hd0 := dig_zero
    cases hsg : sgnB l with
    | true =>
      have e : strip l = l - 2 := by unfold strip; rw [if_pos hsg]
      rw [e]
      simp only [if_true, true_and]
      by_cases z : l - 2 = 0 ∧ b = false
      · rw [if_pos z]
        rw [z.1, hd0]
        simp [z.2]
      · rw [if_neg z]
        by_cases hd : digI (l - 2) < 0
        · rw [if_pos hd, if_pos hd]
        · rw [if_neg hd, if_neg hd]
          have h0 : ¬ l - 2 = 0 := fun h => by rw [h, hd0] at hd; exact hd (by decide)
          simp only
          by_cases hq : 10 * n + digI (l - 2) = 0
          · rw [if_pos (.inr (.inr hq)), hq]; rfl
          · rw [if_neg (fun h => by rcases h with h | h | h; cases h; exact h0 h; exact hq h)]
            rw [decide_eq_true hq]
    | false =>
      have e : strip l = l := by unfold strip; rw [if_neg (by rw [hsg]; decide)]
      rw [e]
      by_cases z : l = 0 ∧ b = false
      · exfalso
        obtain ⟨z1, z2⟩ := z
        subst z2
        have hz := (numG_false hg).2
        refine hnz fun m hm => ?_
        rcases List.mem_append.1 hm with hm | hm
        · exact hz m hm
        · rw [List.mem_singleton.1 hm, z1]
      · rw [if_neg z, if_neg z]
        simp only [Bool.false_eq_true, if_false, false_and, or_false]
        by_cases hd : digI l < 0
        · rw [if_pos hd, if_pos hd]
        · rw [if_neg hd, if_neg hd]
          have h0 : ¬ l = 0 := fun h => by rw [h, hd0] at hd; exact hd (by decide)
          simp [h0]
theorem bitOf_d (k : Nat) (w : World) (h : k < 10) : Calls Tryz.prog 101 #[.int .i64 (k : Int)] w fun e w' => e = .returned (.int .i64 (4 * 2 ^ k)) ∧ w = w' := by
  have h1 := bitOf_c (k : Int) w (.inr (.inr ⟨by omega, by omega⟩))
  rw [if_neg (by omega), if_neg (by omega), Int.toNat_natCast] at h1
  exact h1
theorem digitOf_c (m : Int) (w : World) : Calls Tryz.prog 102 #[.int .i64 m] w fun e w' => e = .returned (.int .i64 (digI m)) ∧ w = w' := by
  go_enter Tryz.func102, Tryz.ntmps102
  go_wp2
  go_loop [4] (fun i => ∃ k : Nat, k ≤ 10 ∧ i = .int .i64 k ∧ Hid (∀ d, d < k → (4 * 2 ^ d : Int) ≠ m)) (fun i => 10 - (intOf i).toNat)
  case atStart => exact ⟨0, by decide, rfl, fun j hj => absurd hj (Nat.not_lt_zero _)⟩
  case round =>
    obtain ⟨k, hk, rfl, hp⟩ := hrel
    by_cases hkn : k < 10
    · have hki : (k : Int) < 10 := by omega
      have hcd := fun w => bitOf_d k w hkn
      obtain ⟨z, hz⟩ : ∃ z : Int, z = 4 * 2 ^ k := ⟨_, rfl⟩
      rw [← hz] at hcd
      have Hcd := Lib.hid hcd
      have Hz := Lib.hid hz
      clear hz hcd
      cases hq : (z == m) with
      | true =>
        have Hq := Lib.hid (beq_iff_eq.1 hq)
        go_wp2_with fail
        with_reducible refine (Hcd.out _).mono ?_
        rintro e w' ⟨rfl, rfl⟩
        go_wp2
        go_ret
        exact ⟨ret_int (dig_found hkn (by rw [← Hz.out]; exact Hq.out)).symm, rfl⟩
      | false =>
        have Hq : Hid (z ≠ m) := Lib.hid (by simpa using hq)
        go_wp2_with fail
        with_reducible refine (Hcd.out _).mono ?_
        rintro e w' ⟨rfl, rfl⟩
        go_wp2
        go_round
        case rel => exact ⟨k + 1, by omega, by go_num, fun j hj => by rcases Nat.lt_succ_iff_lt_or_eq.1 hj with hj | rfl; exact hp.out j hj; rw [← Hz.out]; exact Hq.out⟩
        case measure => simp [intOf]; omega
    · obtain rfl : k = 10 := by omega
      go_wp2
      go_ret
      exact ⟨ret_int (dig_none hp.out).symm, rfl⟩
def nz (x : Int) : Bool := x != 0
theorem clo_nz (x : Int) (w : World) (_h : okInt64 x) : Calls Tryz.prog 100 #[.int .i64 x] w fun e w' => e = .returned (.bool (nz x)) ∧ w = w' := by
  go_enter Tryz.func100, Tryz.ntmps100
  go_wp2
  go_ret
  exact ⟨rfl, rfl⟩
theorem indexFunc_nz {xs : List Int} {v : Value} {w : World} {A : Nat} (ha : RdI A w v xs) :
    Calls Tryz.prog 128 #[v, .func (.func 100) #[] #[]] w fun e w' => (∃ r : Int, e = .returned (.int .i64 r) ∧ -1 ≤ r ∧ (0 ≤ r ↔ xs.any nz = true)) ∧ w = w' := by
  have hle := ha.le
  obtain ⟨ao, cap, rfl, ho⟩ := ha.open
  obtain ⟨l, hl⟩ : ∃ l, l = xs.length := ⟨_, rfl⟩
  rw [← hl]
  have Hl := Lib.hid hl
  have Ho := Lib.hid ho
  have hl' : l ≤ 9223372036854775807 := by omega
  clear ho hl hle ha
  go_enter Tryz.func128, Tryz.ntmps128
  go_wp2
  go_loop [8] (fun i => ∃ k : Nat, k ≤ l ∧ i = .int .i64 k ∧ Hid ((xs.take k).any nz = false)) (fun i => l - (intOf i).toNat)
  case atStart => exact ⟨0, Nat.zero_le _, rfl, rfl⟩
  case round =>
    obtain ⟨k, hk, rfl, hp⟩ := hrel
    by_cases hkn : k < l
    · obtain ⟨b, off, rfl, hlt, hc⟩ := Ho.out (by have := Hl.out; omega)
      obtain ⟨x, hx, hcx, bx⟩ := hc k (by have := Hl.out; omega)
      have Hx := Lib.hid hx
      have Hb := Lib.hid bx
      clear hx hc bx
      cases hq : nz x with
      | true =>
        have Hq := Lib.hid hq
        clear hq
        go_wp2_with (go_at_call 100; refine (clo_nz x _ Hb.out).mono ?_; rw [Hq.out]; rintro e w' ⟨rfl, rfl⟩)
        go_ret
        refine ⟨⟨_, rfl, by omega, ?_⟩, rfl⟩
        have : xs.any nz = true := List.any_eq_true.2 ⟨x, List.mem_of_getElem? Hx.out, Hq.out⟩
        simp [this]
      | false =>
        have Hq := Lib.hid hq
        clear hq
        go_wp2_with (go_at_call 100; refine (clo_nz x _ Hb.out).mono ?_; rw [Hq.out]; rintro e w' ⟨rfl, rfl⟩)
        go_round
        case rel => exact ⟨k + 1, by omega, by go_num, by show _ = false; rw [take_snoc Hx.out, List.any_append, hp.out]; simp [Hq.out]⟩
        case measure => simp [intOf]; omega
    · go_wp2
      go_ret
      refine ⟨⟨_, rfl, by omega, ?_⟩, rfl⟩
      have hq := hp.out
      rw [List.take_of_length_le (by have := Hl.out; omega)] at hq
      exact any_end hq
theorem any_nz {xs : List Int} {v : Value} {w : World} {A : Nat} (ha : RdI A w v xs) :
    Calls Tryz.prog 99 #[v, .func (.func 100) #[] #[]] w fun e w' => e = .returned (.bool (xs.any nz)) ∧ w = w' := by
  have Ha := Lib.hid ha
  obtain ⟨ao, cap, rfl⟩ := ha.shape
  clear ha
  go_enter Tryz.func99, Tryz.ntmps99
  go_wp2_with fail
  refine (indexFunc_nz Ha.out).mono ?_
  rintro e w' ⟨⟨r, rfl, hr, hi⟩, rfl⟩
  have Hi := Lib.hid hi
  clear hi
  go_wp2
  go_ret
  refine ⟨ret_bool ?_, rfl⟩
  rw [Bool.eq_iff_iff, decide_eq_true_iff]
  exact Hi.out
theorem bitOf_11 (w : World) : Calls Tryz.prog 101 #[.int .i64 11] w fun e w' => e = .returned (.int .i64 2) ∧ w = w' := bitOf_c 11 w (.inr (.inl rfl))
set_option maxHeartbeats 2000000 in
theorem numberIn_c {c : List Int} {b off n cap : Nat} {w : World} {A : Nat} (x y : Int) (hx : 0 ≤ x) (hxy : x < y) (hy : y ≤ n) (h12 : y - x ≤ 12) (hm : ∀ m ∈ c, 0 ≤ m ∧ m ≤ 4095) (ha : RdI A w (.slice (some ⟨b, off, none⟩) n cap) c) :
    Calls Tryz.prog 72 #[.agg #[.slice (some ⟨b, off, none⟩) n cap], .agg #[.int .i64 x, .int .i64 y]] w fun e w' => e = .returned (.tuple #[.int .i64 (numR (partC c x y)).1, .bool (numR (partC c x y)).2]) ∧ Below w.heap.size w w' := by
  have hc := Rds.cap ha
  have hcap := hc.2.2 (by omega)
  have hb0 : Below w.heap.size w ((w.alloc (.cells #[.slice (some ⟨b, off, none⟩) n cap] 67)).alloc (.cells #[.int .i64 x, .int .i64 y] 70)) := ((Below.refl _ _).alloc (Nat.le_refl _) _).alloc (by simp) _
  have ha1 := Rds.part (Rds.onn ha hb0) hx hxy (by omega)
  have hmp : ∀ m ∈ partC c x y, 0 ≤ m ∧ m ≤ 4095 := fun m h => hm m (partC_mem h)
  have hlen : (partC c x y).length = y.toNat - x.toNat := by unfold partC; rw [List.length_drop, List.length_take]; omega
  obtain ⟨h, hh⟩ : ∃ h, h = partC c x y := ⟨_, rfl⟩
  rw [← hh] at ha1 hmp hlen ⊢
  obtain ⟨lo, rfl⟩ := Int.eq_ofNat_of_zero_le hx
  obtain ⟨hi, rfl⟩ := Int.eq_ofNat_of_zero_le (show 0 ≤ y by omega)
  simp only [Int.toNat_natCast] at ha1 hlen
  obtain ⟨p, hp⟩ : ∃ p, p = hi - lo := ⟨_, rfl⟩
  rw [← hp] at hlen ha1
  have Ha := Lib.hid ha1
  have Hb0 := Lib.hid hb0
  have Hmp := Lib.hid hmp
  have Hlen := Lib.hid hlen
  have Hp := Lib.hid hp
  have h1 : lo < hi := by omega
  have h2 : hi ≤ n := by omega
  have h3 : hi ≤ cap := by omega
  have h4 : ¬ cap = lo := by omega
  have h5 : lo ≤ hi := by omega
  have hp0 : 0 < p := by omega
  have hp12 : p ≤ 12 := by omega
  clear hc ha hb0 ha1 hmp hlen hp hm hh h12 hx hxy hy
  go_enter Tryz.func72, Tryz.ntmps72
  go_wp2_with fail
  rw [← Hp.out]
  with_reducible refine (copyInts_c Ha.out (by have := Hlen.out; omega)).mono ?_
  rintro e w1 ⟨u, rfl, hu, hb⟩
  have hb1 := Hb0.out.trans (hb.mono Hb0.out.size)
  have huw := hu.mono Hb0.out.size
  obtain ⟨g, uc, rfl, hug, huw1⟩ := huw.addr (by have := Hlen.out; omega)
  rw [Hlen.out] at huw ⊢
  have Hu := Lib.hid huw
  have Hb1 := Lib.hid hb1
  clear hb hu huw hb1 h1 h2 h3 h4 h5
  go_wp2_with fail
  with_reducible refine (any_nz Hu.out.rds).mono ?_
  cases hany : h.any nz with
  | false =>
    have E : Hid (numR h = (0, true)) := Lib.hid (numR_zero fun m hm => by have := List.any_eq_false.1 hany m hm; unfold nz at this; simpa using this)
    clear hany
    rintro e w2 ⟨rfl, rfl⟩
    go_wp2
    go_ret2
    rw [E.out]
    exact ⟨rfl, Hb1.out⟩
  | true =>
    obtain ⟨a, l, hal⟩ : ∃ a l, h = a ++ [l] := ⟨h.dropLast, h.getLast (fun e => by rw [e] at hany; cases hany), (List.dropLast_concat_getLast _).symm⟩
    have hlb := Hmp.out l (by rw [hal]; simp)
    have hap : a.length + 1 = p := by have := Hlen.out; rw [hal] at this; simpa using this
    have hnz : ¬ ∀ m ∈ a ++ [l], m = 0 := by
      intro hz
      obtain ⟨m, hm, hq⟩ := List.any_eq_true.1 hany
      rw [hal] at hm
      rw [hz m hm] at hq
      cases hq
    have hR := numR_of hlb hnz
    rw [← hal] at hR
    have hst := sgn_of hlb
    have hlat : h[p - 1]? = some l := by rw [hal, ← hap]; simp
    have hca := Own.cellAtQ Hu.out Hlen.out.symm hlat
    have hcf := (Own.cellE (E := eI) Hu.out Hlen.out.symm (k := p - 1) (j := 0) (by omega) (by decide)).2
    rw [show (p - 1) * eI.sz + 0 = p - 1 by show (p - 1) * 1 + 0 = p - 1; omega] at hcf
    have Hca := Lib.hid hca
    have Hlat := Lib.hid hlat
    have HR := Lib.hid hR
    have Hst := Lib.hid hst
    have Hal := Lib.hid hal
    have Hap := Lib.hid hap
    have hpi : (p : Int) - 1 = ((p - 1 : Nat) : Int) := by omega
    have Hpi := Lib.hid hpi
    have hx2 : ∃ q : Bool, sgnB l = q ∧ bits BinOp.and IntKind.i64 l 2 = (if q = true then 2 else 0) := by
      obtain ⟨m, rfl⟩ := Int.eq_ofNat_of_zero_le hlb.1
      have hf := sgn_fin ⟨m, by omega⟩
      cases hq : sgnB (m : Int) with
      | true => exact ⟨true, rfl, (hf.1 hq).1⟩
      | false => exact ⟨false, rfl, (hf.2 hq).1⟩
    obtain ⟨sg, hsg, hand⟩ := hx2
    have Hsg := Lib.hid hsg
    have hlst := hst.1
    clear hany hlb hnz hR hal hlat hca hap hst hsg hcf
    rintro e w2 ⟨rfl, rfl⟩
    go_upto_region 5 with fail
    have hpp : p - 1 < p := by omega
    have hca := cell_regrown Hca.out
    cases sg with
    | true =>
      simp only [if_true, if_false, Bool.false_eq_true] at hand
      refine wp_region_quiet_below (by kernel_rfl) (by kernel_rfl) ?_
      repeat ((with_reducible refine wpQuiet_step (fun K hK => ?_)); go_simp; first | ((with_reducible refine hK _ ?_); clear hK K) | (apply Exists.intro; refine ⟨fun _ => ?_, hK _ ?_⟩; ((first | (go_at_call 101; exact qb_same (bitOf_11 _)))); clear hK K))
      refine wpQuiet_nil ?_
      intro _ hw'
      obtain ⟨⟨dq, osq⟩, hw''⟩ := hw'
      subst hw''
      have hbq := below_regrown w1 dq osq
      generalize grow (redrawn w1 dq) osq = wq at hbq ⊢
      have Hu2 := Lib.hid (show Own eI 2 w.heap.size wq (.slice (some ⟨g, 0, none⟩) p uc) h from Hu.out.below hbq (Nat.le_refl _))
      have Hb2 := Lib.hid (Hb1.out.trans (hbq.mono Hb1.out.size))
      clear hbq hca Hu Hb1 Hca
      go_upto_region 6 with fail
      have hca := Own.cellAtQ Hu2.out Hlen.out.symm (Hlat.out)
      have hcf2 := (Own.cellE (E := eI) Hu2.out Hlen.out.symm (k := p - 1) (j := 0) (by omega) (by decide)).2
      rw [show (p - 1) * eI.sz + 0 = p - 1 by show (p - 1) * 1 + 0 = p - 1; omega] at hcf2
      go_cut [] (fun wx => Own eI 2 w.heap.size wx (.slice (some ⟨g, 0, none⟩) p uc) (a ++ [strip l]) ∧ Below w.heap.size w wx)
      case first =>
        have hsto := (Own.storeI Hu2.out Hlen.out.symm (k := p - 1) (by omega) (x := strip l) (by have := Hst.out; show -9223372036854775808 ≤ strip l ∧ strip l ≤ 9223372036854775807; omega)).2.2.1
        have hset : h.set (p - 1) (strip l) = a ++ [strip l] := by
          rw [Hal.out, List.set_append_right _ _ (by have := Hap.out; omega), show p - 1 - a.length = 0 by have := Hap.out; omega]
          rfl
        rw [hset] at hsto
        have Hsto := Lib.hid hsto
        clear hsto hset
        go_region_with (go_at_call 101; refine (bitOf_11 _).mono ?_; rintro e w' ⟨rfl, rfl⟩)
        all_goals
          go_wp2_with fail
          go_meet
          exact ⟨Hsto.out, (Hb2.out.setCell (p := ⟨g, p - 1, none⟩) (by show w.heap.size ≤ g; omega) _).drew1⟩
      case rest =>
      obtain ⟨hu3, hb3⟩ := hcut
      obtain ⟨L, hL⟩ : ∃ L, L = a ++ [strip l] := ⟨_, rfl⟩
      rw [← hL] at hu3
      have HR2 := HR.out
      rw [← hL] at HR2
      have HRL := Lib.hid HR2
      have hLl : p = L.length := by rw [hL]; have := Hap.out; simp; omega
      have hlL : L[p - 1]? = some (strip l) := by rw [hL, ← Hap.out]; simp
      have HLl := Lib.hid hLl
      have HlL := Lib.hid hlL
      have Hu3 := Lib.hid hu3
      have Hb3 := Lib.hid hb3
      clear hca hcf2 Hu2 Hb2 HR HR2 hL hLl hlL hu3 hb3 hand
      go_wp2
      go_loopw [9, 10, 44] (fun nv bv i wr => ∃ (k : Nat) (z : Int) (q : Bool), k ≤ p ∧ i = .int .i64 k ∧ nv = .int .i64 z ∧ bv = .bool q ∧ Hid (numG (L.take k) = some (z, q)) ∧ Below wc.heap.size wc wr) (fun _ _ i _ => p - (intOf i).toNat)
      case atStart => exact ⟨0, 0, false, Nat.zero_le _, rfl, rfl, rfl, rfl, Below.refl _ _⟩
      case round =>
        obtain ⟨k, z, q, hk, rfl, rfl, rfl, hst, hbb⟩ := hrel
        have hzb := numG_bd _ z q hst.out
        have hzl : (10 : Int) ^ (L.take k).length ≤ 10 ^ 12 := by
          have hp9 : (10 : Nat) ^ (L.take k).length ≤ 10 ^ 12 := Nat.pow_le_pow_right (by decide) (by rw [List.length_take]; omega)
          exact_mod_cast hp9
        have hz12 : z ≤ 1000000000000 := by
          have h3 : (10 : Int) ^ 12 = 1000000000000 := by decide
          omega
        have hz0 : 0 ≤ z := hzb.1
        clear hzb hzl
        have Hu4 := Lib.hid (show Own eI 2 w.heap.size wr (.slice (some ⟨g, 0, none⟩) p uc) L from Hu3.out.below hbb (Nat.le_refl _))
        by_cases hkp : k < p
        · obtain ⟨m, hm⟩ : ∃ m, L[k]? = some m := ⟨L[k]'(by have := HLl.out; omega), by simp⟩
          have d1 := Own.cellAtQ Hu4.out HLl.out hm
          have hsn := numG_snoc hm
          rw [hst.out] at hsn
          have Hsn := Lib.hid hsn
          have hdb := dig_bd m
          obtain ⟨hdb1, hdb2⟩ := hdb
          clear hm hsn
          by_cases hm0 : m = 0
          · have q1 : (m == 0) = true := by simpa using hm0
            have Hm0 := Lib.hid hm0
            cases q with
            | false =>
              have E := Lib.hid (show numG (L.take (k + 1)) = some (z, false) by rw [Hsn.out]; show (if m = 0 ∧ false = false then _ else _) = _; rw [if_pos ⟨hm0, rfl⟩])
              clear hm0
              go_wp2_with fail
              with_reducible refine (digitOf_c m _).mono ?_
              rintro e w' ⟨rfl, rfl⟩
              clear d1
              go_wp2
              go_roundw
              case rel => exact ⟨k + 1, z, false, by omega, by go_num, rfl, rfl, E.out, hbb⟩
              case measure => simp [intOf]; omega
            | true =>
              have E : Hid (numG L = none) := Lib.hid (numG_fail (k := k + 1) (by rw [Hsn.out]; show (if m = 0 ∧ true = false then _ else _) = _; rw [if_neg (fun h => by cases h.2), if_pos (by rw [hm0, dig_zero]; decide)]))
              have hd : digI m < 0 := by rw [hm0, dig_zero]; decide
              clear hm0
              go_wp2_with fail
              with_reducible refine (digitOf_c m _).mono ?_
              rintro e w' ⟨rfl, rfl⟩
              clear d1
              go_wp2
              go_ret2
              have hR9 := HRL.out
              rw [E.out] at hR9
              rw [hR9]
              exact ⟨rfl, Hb3.out.trans (hbb.mono Hb3.out.size)⟩
          · have q1 : (m == 0) = false := by simpa using hm0
            have Hm0 := Lib.hid hm0
            by_cases hd : digI m < 0
            · have E : Hid (numG L = none) := Lib.hid (numG_fail (k := k + 1) (by rw [Hsn.out]; show (if m = 0 ∧ q = false then _ else _) = _; rw [if_neg (fun h => hm0 h.1), if_pos hd]))
              clear hm0
              go_wp2_with fail
              with_reducible refine (digitOf_c m _).mono ?_
              rintro e w' ⟨rfl, rfl⟩
              clear d1
              go_wp2
              go_ret2
              have hR9 := HRL.out
              rw [E.out] at hR9
              rw [hR9]
              exact ⟨rfl, Hb3.out.trans (hbb.mono Hb3.out.size)⟩
            · have E := Lib.hid (show numG (L.take (k + 1)) = some (10 * z + digI m, true) by rw [Hsn.out]; show (if m = 0 ∧ q = false then _ else _) = _; rw [if_neg (fun h => hm0 h.1), if_neg hd])
              clear hm0
              go_wp2_with fail
              with_reducible refine (digitOf_c m _).mono ?_
              rintro e w' ⟨rfl, rfl⟩
              clear d1
              go_wp2
              go_roundw
              case rel => exact ⟨k + 1, 10 * z + digI m, true, by omega, by go_num, rfl, rfl, E.out, hbb⟩
              case measure => simp [intOf]; omega
        · obtain rfl : k = p := by omega
          have hg := hst.out
          rw [List.take_of_length_le (by have := HLl.out; omega)] at hg
          have hR9 := HRL.out
          rw [hg] at hR9
          simp only at hR9
          have HR9 := Lib.hid hR9
          have hca := Own.cellAtQ Hu4.out HLl.out HlL.out
          have Hbf := Lib.hid (Hb3.out.trans (hbb.mono Hb3.out.size))
          clear hg hR9 hst
          cases q with
          | false =>
            go_wp2
            go_ret2
            rw [HR9.out, if_pos (.inl (by trivial))]
            exact ⟨rfl, Hbf.out⟩
          | true =>
            by_cases s0 : strip l = 0
            · have q0 : (strip l == 0) = true := by simpa using s0
              have S0 := Lib.hid s0
              clear s0
              go_wp2
              go_ret2
              rw [HR9.out, if_pos (.inr (.inl S0.out))]
              exact ⟨rfl, Hbf.out⟩
            · have q0 : (strip l == 0) = false := by simpa using s0
              have S0 := Lib.hid s0
              clear s0
              by_cases z0 : z = 0
              · have q9 : (z == 0) = true := by simpa using z0
                have Z0 := Lib.hid z0
                clear z0
                go_wp2
                go_ret2
                rw [HR9.out, if_pos (.inr (.inr ⟨Hsg.out, Z0.out⟩))]
                exact ⟨rfl, Hbf.out⟩
              · have q9 : (z == 0) = false := by simpa using z0
                have Z0 := Lib.hid z0
                clear z0
                go_wp2
                go_ret2
                rw [HR9.out, if_neg (fun h => by rcases h with h | h | h; cases h; exact S0.out h; exact Z0.out h.2), if_pos Hsg.out]
                exact ⟨rfl, Hbf.out⟩
    | false =>
      simp only [if_true, if_false, Bool.false_eq_true] at hand
      refine wp_region_quiet_below (by kernel_rfl) (by kernel_rfl) ?_
      repeat ((with_reducible refine wpQuiet_step (fun K hK => ?_)); go_simp; first | ((with_reducible refine hK _ ?_); clear hK K) | (apply Exists.intro; refine ⟨fun _ => ?_, hK _ ?_⟩; ((first | (go_at_call 101; exact qb_same (bitOf_11 _)))); clear hK K))
      refine wpQuiet_nil ?_
      intro _ hw'
      obtain ⟨⟨dq, osq⟩, hw''⟩ := hw'
      subst hw''
      have hbq := below_regrown w1 dq osq
      generalize grow (redrawn w1 dq) osq = wq at hbq ⊢
      have Hu2 := Lib.hid (show Own eI 2 w.heap.size wq (.slice (some ⟨g, 0, none⟩) p uc) h from Hu.out.below hbq (Nat.le_refl _))
      have Hb2 := Lib.hid (Hb1.out.trans (hbq.mono Hb1.out.size))
      clear hbq hca Hu Hb1 Hca
      go_upto_region 6 with fail
      have hca := Own.cellAtQ Hu2.out Hlen.out.symm (Hlat.out)
      have hcf2 := (Own.cellE (E := eI) Hu2.out Hlen.out.symm (k := p - 1) (j := 0) (by omega) (by decide)).2
      rw [show (p - 1) * eI.sz + 0 = p - 1 by show (p - 1) * 1 + 0 = p - 1; omega] at hcf2
      go_cut [] (fun wx => Own eI 2 w.heap.size wx (.slice (some ⟨g, 0, none⟩) p uc) (a ++ [strip l]) ∧ Below w.heap.size w wx)
      case first =>
        have hsto := (Own.storeI Hu2.out Hlen.out.symm (k := p - 1) (by omega) (x := strip l) (by have := Hst.out; show -9223372036854775808 ≤ strip l ∧ strip l ≤ 9223372036854775807; omega)).2.2.1
        have hset : h.set (p - 1) (strip l) = a ++ [strip l] := by
          rw [Hal.out, List.set_append_right _ _ (by have := Hap.out; omega), show p - 1 - a.length = 0 by have := Hap.out; omega]
          rfl
        rw [hset] at hsto
        have Hsto := Lib.hid hsto
        clear hsto hset
        go_region_with (go_at_call 101; refine (bitOf_11 _).mono ?_; rintro e w' ⟨rfl, rfl⟩)
        all_goals
          go_wp2_with fail
          go_meet
          exact ⟨Hsto.out, (Hb2.out.setCell (p := ⟨g, p - 1, none⟩) (by show w.heap.size ≤ g; omega) _).drew1⟩
      case rest =>
      obtain ⟨hu3, hb3⟩ := hcut
      obtain ⟨L, hL⟩ : ∃ L, L = a ++ [strip l] := ⟨_, rfl⟩
      rw [← hL] at hu3
      have HR2 := HR.out
      rw [← hL] at HR2
      have HRL := Lib.hid HR2
      have hLl : p = L.length := by rw [hL]; have := Hap.out; simp; omega
      have hlL : L[p - 1]? = some (strip l) := by rw [hL, ← Hap.out]; simp
      have HLl := Lib.hid hLl
      have HlL := Lib.hid hlL
      have Hu3 := Lib.hid hu3
      have Hb3 := Lib.hid hb3
      clear hca hcf2 Hu2 Hb2 HR HR2 hL hLl hlL hu3 hb3 hand
      go_wp2
      go_loopw [9, 10, 44] (fun nv bv i wr => ∃ (k : Nat) (z : Int) (q : Bool), k ≤ p ∧ i = .int .i64 k ∧ nv = .int .i64 z ∧ bv = .bool q ∧ Hid (numG (L.take k) = some (z, q)) ∧ Below wc.heap.size wc wr) (fun _ _ i _ => p - (intOf i).toNat)
      case atStart => exact ⟨0, 0, false, Nat.zero_le _, rfl, rfl, rfl, rfl, Below.refl _ _⟩
      case round =>
        obtain ⟨k, z, q, hk, rfl, rfl, rfl, hst, hbb⟩ := hrel
        have hzb := numG_bd _ z q hst.out
        have hzl : (10 : Int) ^ (L.take k).length ≤ 10 ^ 12 := by
          have hp9 : (10 : Nat) ^ (L.take k).length ≤ 10 ^ 12 := Nat.pow_le_pow_right (by decide) (by rw [List.length_take]; omega)
          exact_mod_cast hp9
        have hz12 : z ≤ 1000000000000 := by
          have h3 : (10 : Int) ^ 12 = 1000000000000 := by decide
          omega
        have hz0 : 0 ≤ z := hzb.1
        clear hzb hzl
        have Hu4 := Lib.hid (show Own eI 2 w.heap.size wr (.slice (some ⟨g, 0, none⟩) p uc) L from Hu3.out.below hbb (Nat.le_refl _))
        by_cases hkp : k < p
        · obtain ⟨m, hm⟩ : ∃ m, L[k]? = some m := ⟨L[k]'(by have := HLl.out; omega), by simp⟩
          have d1 := Own.cellAtQ Hu4.out HLl.out hm
          have hsn := numG_snoc hm
          rw [hst.out] at hsn
          have Hsn := Lib.hid hsn
          have hdb := dig_bd m
          obtain ⟨hdb1, hdb2⟩ := hdb
          clear hm hsn
          by_cases hm0 : m = 0
          · have q1 : (m == 0) = true := by simpa using hm0
            have Hm0 := Lib.hid hm0
            cases q with
            | false =>
              have E := Lib.hid (show numG (L.take (k + 1)) = some (z, false) by rw [Hsn.out]; show (if m = 0 ∧ false = false then _ else _) = _; rw [if_pos ⟨hm0, rfl⟩])
              clear hm0
              go_wp2_with fail
              with_reducible refine (digitOf_c m _).mono ?_
              rintro e w' ⟨rfl, rfl⟩
              clear d1
              go_wp2
              go_roundw
              case rel => exact ⟨k + 1, z, false, by omega, by go_num, rfl, rfl, E.out, hbb⟩
              case measure => simp [intOf]; omega
            | true =>
              have E : Hid (numG L = none) := Lib.hid (numG_fail (k := k + 1) (by rw [Hsn.out]; show (if m = 0 ∧ true = false then _ else _) = _; rw [if_neg (fun h => by cases h.2), if_pos (by rw [hm0, dig_zero]; decide)]))
              have hd : digI m < 0 := by rw [hm0, dig_zero]; decide
              clear hm0
              go_wp2_with fail
              with_reducible refine (digitOf_c m _).mono ?_
              rintro e w' ⟨rfl, rfl⟩
              clear d1
              go_wp2
              go_ret2
              have hR9 := HRL.out
              rw [E.out] at hR9
              rw [hR9]
              exact ⟨rfl, Hb3.out.trans (hbb.mono Hb3.out.size)⟩
          · have q1 : (m == 0) = false := by simpa using hm0
            have Hm0 := Lib.hid hm0
            by_cases hd : digI m < 0
            · have E : Hid (numG L = none) := Lib.hid (numG_fail (k := k + 1) (by rw [Hsn.out]; show (if m = 0 ∧ q = false then _ else _) = _; rw [if_neg (fun h => hm0 h.1), if_pos hd]))
              clear hm0
              go_wp2_with fail
              with_reducible refine (digitOf_c m _).mono ?_
              rintro e w' ⟨rfl, rfl⟩
              clear d1
              go_wp2
              go_ret2
              have hR9 := HRL.out
              rw [E.out] at hR9
              rw [hR9]
              exact ⟨rfl, Hb3.out.trans (hbb.mono Hb3.out.size)⟩
            · have E := Lib.hid (show numG (L.take (k + 1)) = some (10 * z + digI m, true) by rw [Hsn.out]; show (if m = 0 ∧ q = false then _ else _) = _; rw [if_neg (fun h => hm0 h.1), if_neg hd])
              clear hm0
              go_wp2_with fail
              with_reducible refine (digitOf_c m _).mono ?_
              rintro e w' ⟨rfl, rfl⟩
              clear d1
              go_wp2
              go_roundw
              case rel => exact ⟨k + 1, 10 * z + digI m, true, by omega, by go_num, rfl, rfl, E.out, hbb⟩
              case measure => simp [intOf]; omega
        · obtain rfl : k = p := by omega
          have hg := hst.out
          rw [List.take_of_length_le (by have := HLl.out; omega)] at hg
          have hR9 := HRL.out
          rw [hg] at hR9
          simp only at hR9
          have HR9 := Lib.hid hR9
          have hca := Own.cellAtQ Hu4.out HLl.out HlL.out
          have Hbf := Lib.hid (Hb3.out.trans (hbb.mono Hb3.out.size))
          clear hg hR9 hst
          cases q with
          | false =>
            go_wp2
            go_ret2
            rw [HR9.out, if_pos (.inl (by trivial))]
            exact ⟨rfl, Hbf.out⟩
          | true =>
            by_cases s0 : strip l = 0
            · have q0 : (strip l == 0) = true := by simpa using s0
              have S0 := Lib.hid s0
              clear s0
              go_wp2
              go_ret2
              rw [HR9.out, if_pos (.inr (.inl S0.out))]
              exact ⟨rfl, Hbf.out⟩
            · have q0 : (strip l == 0) = false := by simpa using s0
              have S0 := Lib.hid s0
              clear s0
              go_wp2
              go_ret2
              rw [HR9.out, if_neg (fun h => by rcases h with h | h | h; cases h; exact S0.out h; have h7 := h.1; rw [Hsg.out] at h7; cases h7), if_neg (by rw [Hsg.out]; decide)]
              exact ⟨rfl, Hbf.out⟩
end Go.Proofs.YtfieilbcdhbigaaGreatDoor
