/- The number in columns: the reference's, by its contract. No condition. -/
import Derived.Test.YtfieilbcdhbigaaGreatDoorNum
namespace Go.Proofs.YtfieilbcdhbigaaGreatDoor
open Go.ChangeShapes Go.WideShapes Go.ChangeAt Go.RowKit Go.Sort
set_option linter.unusedVariables false
set_option maxRecDepth 100000
theorem l02Bit_d (k : Nat) (w : World) (h : k < 10) : Calls Tryz.prog 119 #[.int .i64 (k : Int)] w fun e w' => e = .returned (.int .i64 (4 * 2 ^ k)) ∧ w = w' := by
  have h1 := l02Bit_c (k : Int) w ⟨by omega, by omega⟩
  rw [Int.toNat_natCast] at h1
  exact h1
theorem l03Digit_c (m : Int) (w : World) : Calls Tryz.prog 92 #[.int .i64 m] w fun e w' => e = .returned (.int .i64 (digI m)) ∧ w = w' := by
  go_enter Tryz.func92, Tryz.ntmps92
  go_wp2
  go_loop [3] (fun i => ∃ k : Nat, k ≤ 10 ∧ i = .int .i64 k ∧ Hid (∀ d, d < k → (4 * 2 ^ d : Int) ≠ m)) (fun i => 10 - (intOf i).toNat)
  case atStart => exact ⟨0, by decide, rfl, fun j hj => absurd hj (Nat.not_lt_zero _)⟩
  case round =>
    obtain ⟨k, hk, rfl, hp⟩ := hrel
    by_cases hkn : k < 10
    · have hki : (k : Int) ≤ 9 := by omega
      have hcd := fun w => l02Bit_d k w hkn
      obtain ⟨z, hz⟩ : ∃ z : Int, z = 4 * 2 ^ k := ⟨_, rfl⟩
      rw [← hz] at hcd
      have Hcd := Lib.hid hcd
      have Hz := Lib.hid hz
      clear hz hcd
      cases hq : (m == z) with
      | true =>
        have Hq := Lib.hid (beq_iff_eq.1 hq)
        go_wp2_with fail
        with_reducible refine (Hcd.out _).mono ?_
        rintro e w' ⟨rfl, rfl⟩
        go_wp2
        go_ret
        exact ⟨ret_int (dig_found hkn (by rw [← Hz.out]; exact Hq.out.symm)).symm, rfl⟩
      | false =>
        have Hq : Hid (m ≠ z) := Lib.hid (by simpa using hq)
        go_wp2_with fail
        with_reducible refine (Hcd.out _).mono ?_
        rintro e w' ⟨rfl, rfl⟩
        go_wp2
        go_round
        case rel => exact ⟨k + 1, by omega, by go_num, fun j hj => by rcases Nat.lt_succ_iff_lt_or_eq.1 hj with hj | rfl; exact hp.out j hj; rw [← Hz.out]; exact fun h => Hq.out h.symm⟩
        case measure => simp [intOf]; omega
    · obtain rfl : k = 10 := by omega
      go_wp2
      go_ret
      exact ⟨ret_int (dig_none hp.out).symm, rfl⟩
theorem numR_snoc {a : List Int} {l : Int} : numR (a ++ [l]) = match numG a with
    | none => (0, false)
    | some (n, b) =>
      if sgnB l = true then (if digI (l - 2) < 0 then (0, false) else (-(10 * n + digI (l - 2)), decide (10 * n + digI (l - 2) ≠ 0)))
      else if l = 0 ∧ b = false then (n, true) else if digI l < 0 then (0, false) else (10 * n + digI l, true) := by
  unfold numR
  rw [List.getLast?_append, List.getLast?_singleton]
  simp only [Option.some_or, List.dropLast_concat]
  cases numG a <;> rfl
set_option maxHeartbeats 2000000 in
theorem l03Number_c {h : List Int} {v : Value} {w : World} {A : Nat} (h0 : 0 < h.length) (h12 : h.length ≤ 12) (hm : ∀ m ∈ h, 0 ≤ m ∧ m ≤ 4095) (ha : RdI A w v h) :
    Calls Tryz.prog 65 #[v] w fun e w' => e = .returned (.tuple #[.int .i64 (numR h).1, .bool (numR h).2]) ∧ w = w' := by
  obtain ⟨ao, cap, rfl, hop⟩ := RdI.open ha
  obtain ⟨p, hp⟩ : ∃ p, p = h.length := ⟨_, rfl⟩
  obtain ⟨a, l, hal⟩ : ∃ a l, h = a ++ [l] := ⟨h.dropLast, h.getLast (fun e => by rw [e] at h0; cases h0), (List.dropLast_concat_getLast _).symm⟩
  have hap : a.length + 1 = p := by rw [hp, hal]; simp
  have hR := numR_snoc (a := a) (l := l)
  rw [← hal] at hR
  have hat : ∀ k, k < p - 1 → h.take (k + 1) = a.take (k + 1) := by
    intro k hk
    rw [hal, List.take_append_of_le_length (by omega)]
  have hta : h.take (p - 1) = a := by rw [hal, List.take_append_of_le_length (by omega), List.take_of_length_le (by omega)]
  have hlat : h[p - 1]? = some l := by rw [hal, ← hap]; simp
  rw [← hp] at hop h0 h12 ⊢
  have Hp := Lib.hid hp
  have Ho := Lib.hid hop
  have Hm := Lib.hid hm
  have HR := Lib.hid hR
  have Hat := Lib.hid hat
  have Hta := Lib.hid hta
  have Hlat := Lib.hid hlat
  have Hap := Lib.hid hap
  clear hp hop hm hR hat hta hlat hap hal ha
  go_enter Tryz.func65, Tryz.ntmps65
  go_wp2
  go_loop [4, 5, 6, 7] (fun nv bv sv i => ∃ (k : Nat) (z : Int) (q s : Bool), k ≤ p ∧ i = .int .i64 k ∧ nv = .int .i64 z ∧ bv = .bool q ∧ sv = .bool s ∧ Hid (0 ≤ z ∧ z ≤ 1000000000000) ∧
    Hid ((k < p ∧ s = false ∧ numG (h.take k) = some (z, q)) ∨ (k = p ∧ numR h = (if s = true then (-z, decide (z ≠ 0)) else (z, true))))) (fun _ _ _ i => p - (intOf i).toNat)
  case atStart => exact ⟨0, 0, false, false, Nat.zero_le _, rfl, rfl, rfl, rfl, Lib.hid ⟨by decide, by decide⟩, Lib.hid (.inl ⟨h0, rfl, rfl⟩)⟩
  case round =>
    obtain ⟨k, z, q, s, hk, rfl, rfl, rfl, rfl, hz, hst⟩ := hrel
    by_cases hkp : k < p
    · obtain ⟨_, rfl, hg⟩ : k < p ∧ s = false ∧ numG (h.take k) = some (z, q) := hst.out.resolve_right (fun e => by omega)
      obtain ⟨b, off, rfl, hlt, hc⟩ := Ho.out (by omega)
      obtain ⟨m, hmk, hcm, bm⟩ := hc k hkp
      have hmb := Hm.out m (List.mem_of_getElem? hmk)
      have hzb := numG_bd _ z q hg
      have hlk : (h.take k).length = k := by rw [List.length_take]; have := Hp.out; omega
      have hzl : (10 : Int) ^ (h.take k).length ≤ 10 ^ 11 := by
        have hp9 : (10 : Nat) ^ (h.take k).length ≤ 10 ^ 11 := Nat.pow_le_pow_right (by decide) (by omega)
        exact_mod_cast hp9
      have hz11 : z < 100000000000 := by
        have h3 : (10 : Int) ^ 11 = 100000000000 := by decide
        omega
      have hz0 : 0 ≤ z := hzb.1
      have hsn := numG_snoc hmk
      rw [hg] at hsn
      have Hsn := Lib.hid hsn
      have Hg := Lib.hid hg
      have hm1 : 0 ≤ m := hmb.1
      have hm2 : m ≤ 4095 := hmb.2
      have hb1 := dig_bd m
      obtain ⟨hd1, hd2⟩ := hb1
      clear hst hc bm hzb hzl hsn hg hlk hz
      by_cases hlast : k = p - 1
      · have hml : m = l := by rw [hlast] at hmk; have := Hlat.out; rw [hmk] at this; exact Option.some.inj this
        have Hml := Lib.hid hml
        have hgt : numG a = some (z, q) := by rw [← Hta.out, ← hlast]; exact Hg.out
        have HR2 := HR.out
        rw [hgt] at HR2
        simp only at HR2
        rw [← hml] at HR2
        have HR3 := Lib.hid HR2
        have q0 : ((k : Int) == (p : Int) - 1) = true := by rw [beq_iff_eq]; omega
        have Hl := Lib.hid hlast
        clear hlast hml hgt HR2 hmk
        have hx2 : ∃ g : Bool, sgnB m = g ∧ bits BinOp.and IntKind.i64 m 2 = (if g = true then 2 else 0) ∧ (g = true → 2 ≤ m) := by
          obtain ⟨j, rfl⟩ := Int.eq_ofNat_of_zero_le hm1
          have hf := sgn_fin ⟨j, by omega⟩
          cases hg : sgnB (j : Int) with
          | true => exact ⟨true, rfl, (hf.1 hg).1, fun _ => by have := (hf.1 hg).2.2; simp only at this; omega⟩
          | false => exact ⟨false, rfl, (hf.2 hg).1, fun h => by cases h⟩
        obtain ⟨g, hsg, hand, hge⟩ := hx2
        have Hsg := Lib.hid hsg
        clear hsg
        cases g with
        | true =>
          simp only [if_true] at hand
          have hm3 : 2 ≤ m := hge rfl
          have hb2 := dig_bd (m - 2)
          obtain ⟨hd3, hd4⟩ := hb2
          clear hge
          rw [Hsg.out] at HR3
          by_cases e2 : m = 2
          · subst e2
            have E : Hid (numR h = (0, false)) := Lib.hid (by rw [HR3.out, if_pos rfl, if_pos (by decide +kernel)])
            clear hm1 hm2 hm3 hd1 hd2 hd3 hd4
            cases q
            all_goals
              go_wp2_with fail
              with_reducible refine (l03Digit_c 0 _).mono ?_
              rw [dig_zero]
              rintro e w' ⟨rfl, rfl⟩
              go_wp2
              go_ret2
              rw [E.out]
              exact ⟨rfl, rfl⟩
          have q2 : (m - 2 == 0) = false := by rw [beq_eq_false_iff_ne]; omega
          clear e2
          by_cases hd : digI (m - 2) < 0
          · have E : Hid (numR h = (0, false)) := Lib.hid (by rw [HR3.out, if_pos rfl, if_pos hd])
            go_wp2_with fail
            with_reducible refine (l03Digit_c (m - 2) _).mono ?_
            rintro e w' ⟨rfl, rfl⟩
            go_wp2
            go_ret2
            rw [E.out]
            exact ⟨rfl, rfl⟩
          · have E : Hid (numR h = (-(10 * z + digI (m - 2)), decide (10 * z + digI (m - 2) ≠ 0))) := Lib.hid (by rw [HR3.out, if_pos rfl, if_neg hd])
            go_wp2_with fail
            with_reducible refine (l03Digit_c (m - 2) _).mono ?_
            rintro e w' ⟨rfl, rfl⟩
            go_wp2
            go_round
            case rel => exact ⟨k + 1, 10 * z + digI (m - 2), true, true, by omega, by go_num, rfl, rfl, rfl, Lib.hid ⟨by omega, by omega⟩, Lib.hid (.inr ⟨by have := Hl.out; omega, by rw [E.out, if_pos rfl]⟩)⟩
            case measure => simp [intOf]; omega
        | false =>
          simp only [Bool.false_eq_true, if_false] at hand
          clear hge
          rw [Hsg.out] at HR3
          by_cases hz9 : m = 0 ∧ q = false
          · obtain ⟨h1, h2⟩ := hz9
            subst h2
            have E : Hid (numR h = (z, true)) := Lib.hid (by rw [HR3.out, if_neg (by decide), if_pos ⟨h1, rfl⟩])
            have q1 : (m == 0) = true := by simpa using h1
            clear h1
            go_wp2
            go_round
            case rel => exact ⟨k + 1, z, false, false, by omega, by go_num, rfl, rfl, rfl, Lib.hid ⟨by omega, by omega⟩, Lib.hid (.inr ⟨by have := Hl.out; omega, by rw [E.out, if_neg (by decide)]⟩)⟩
            case measure => simp [intOf]; omega
          · have qq : (q = true ∧ m = 0) ∨ (m == 0) = false := by
              by_cases h0 : m = 0
              · exact .inl ⟨by cases q with | true => rfl | false => exact absurd ⟨h0, rfl⟩ hz9, h0⟩
              · exact .inr (by simpa using h0)
            by_cases hd : digI m < 0
            · have E : Hid (numR h = (0, false)) := Lib.hid (by rw [HR3.out, if_neg (by decide), if_neg hz9, if_pos hd])
              clear hz9
              rcases qq with ⟨rfl, rfl⟩ | qq
              · go_wp2_with fail
                with_reducible refine (l03Digit_c 0 _).mono ?_
                rw [dig_zero]
                rintro e w' ⟨rfl, rfl⟩
                go_wp2
                go_ret2
                rw [E.out]
                exact ⟨rfl, rfl⟩
              · go_wp2_with fail
                with_reducible refine (l03Digit_c m _).mono ?_
                rintro e w' ⟨rfl, rfl⟩
                go_wp2
                go_ret2
                rw [E.out]
                exact ⟨rfl, rfl⟩
            · have E : Hid (numR h = (10 * z + digI m, true)) := Lib.hid (by rw [HR3.out, if_neg (by decide), if_neg hz9, if_neg hd])
              clear hz9
              rcases qq with ⟨rfl, rfl⟩ | qq
              · exact absurd (by rw [dig_zero]; decide) hd
              · go_wp2_with fail
                with_reducible refine (l03Digit_c m _).mono ?_
                rintro e w' ⟨rfl, rfl⟩
                go_wp2
                go_round
                case rel => exact ⟨k + 1, 10 * z + digI m, true, false, by omega, by go_num, rfl, rfl, rfl, Lib.hid ⟨by omega, by omega⟩, Lib.hid (.inr ⟨by have := Hl.out; omega, by rw [E.out, if_neg (by decide)]⟩)⟩
                case measure => simp [intOf]; omega
      · have q0 : ((k : Int) == (p : Int) - 1) = false := by rw [beq_eq_false_iff_ne]; omega
        have Hl := Lib.hid hlast
        have hkl : k < p - 1 := by omega
        have Hkl := Lib.hid hkl
        clear hlast hmk hkl
        by_cases hz9 : m = 0 ∧ q = false
        · obtain ⟨h1, h2⟩ := hz9
          subst h2
          have E : Hid (numG (h.take (k + 1)) = some (z, false)) := Lib.hid (by rw [Hsn.out]; show (if m = 0 ∧ false = false then some (z, false) else _) = _; rw [if_pos ⟨h1, rfl⟩])
          have q1 : (m == 0) = true := by simpa using h1
          clear h1
          go_wp2
          go_round
          case rel => exact ⟨k + 1, z, false, false, by omega, by go_num, rfl, rfl, rfl, Lib.hid ⟨by omega, by omega⟩, Lib.hid (.inl ⟨by have := Hkl.out; omega, rfl, E.out⟩)⟩
          case measure => simp [intOf]; omega
        · have qq : (q = true ∧ m = 0) ∨ (m == 0) = false := by
            by_cases h0 : m = 0
            · exact .inl ⟨by cases q with | true => rfl | false => exact absurd ⟨h0, rfl⟩ hz9, h0⟩
            · exact .inr (by simpa using h0)
          by_cases hd : digI m < 0
          · have E : Hid (numR h = (0, false)) := Lib.hid (by
              have h1 : numG (h.take (k + 1)) = none := by rw [Hsn.out]; show (if m = 0 ∧ q = false then _ else if digI m < 0 then none else _) = _; rw [if_neg hz9, if_pos hd]
              rw [Hat.out k Hkl.out] at h1
              rw [HR.out, numG_fail h1])
            clear hz9
            rcases qq with ⟨rfl, rfl⟩ | qq
            · go_wp2_with fail
              with_reducible refine (l03Digit_c 0 _).mono ?_
              rw [dig_zero]
              rintro e w' ⟨rfl, rfl⟩
              go_wp2
              go_ret2
              rw [E.out]
              exact ⟨rfl, rfl⟩
            · go_wp2_with fail
              with_reducible refine (l03Digit_c m _).mono ?_
              rintro e w' ⟨rfl, rfl⟩
              go_wp2
              go_ret2
              rw [E.out]
              exact ⟨rfl, rfl⟩
          · have E : Hid (numG (h.take (k + 1)) = some (10 * z + digI m, true)) := Lib.hid (by rw [Hsn.out]; show (if m = 0 ∧ q = false then _ else if digI m < 0 then none else _) = _; rw [if_neg hz9, if_neg hd])
            clear hz9
            rcases qq with ⟨rfl, rfl⟩ | qq
            · exact absurd (by rw [dig_zero]; decide) hd
            · go_wp2_with fail
              with_reducible refine (l03Digit_c m _).mono ?_
              rintro e w' ⟨rfl, rfl⟩
              go_wp2
              go_round
              case rel => exact ⟨k + 1, 10 * z + digI m, true, false, by omega, by go_num, rfl, rfl, rfl, Lib.hid ⟨by omega, by omega⟩, Lib.hid (.inl ⟨by have := Hkl.out; omega, rfl, E.out⟩)⟩
              case measure => simp [intOf]; omega
    · obtain ⟨rfl, hr⟩ : k = p ∧ numR h = (if s = true then (-z, decide (z ≠ 0)) else (z, true)) := hst.out.resolve_left (fun e => by omega)
      have hzz := hz.out
      obtain ⟨hz0, hz1⟩ := hzz
      have Hr := Lib.hid hr
      clear hst hr hz
      cases s with
      | true =>
        go_wp2
        go_ret2
        rw [Hr.out]
        exact ⟨by by_cases hz : z = 0 <;> simp [hz], rfl⟩
      | false =>
        go_wp2
        go_ret2
        rw [Hr.out]
        exact ⟨rfl, rfl⟩
end Go.Proofs.YtfieilbcdhbigaaGreatDoor
