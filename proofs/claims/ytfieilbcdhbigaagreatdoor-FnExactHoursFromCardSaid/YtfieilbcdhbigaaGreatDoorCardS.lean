/- Cards and decks: which are valid, which are the same; the reference's. No condition. -/
import Derived.Test.YtfieilbcdhbigaaGreatDoorCard
namespace Go.Proofs.YtfieilbcdhbigaaGreatDoor
open Go.ChangeShapes Go.WideShapes Go.ChangeAt Go.RowKit Go.Sort
set_option linter.unusedVariables false
set_option maxRecDepth 100000
theorem any_take_snoc {α : Type} {d : List α} {k : Nat} {x : α} (p : α → Bool) (h : d[k]? = some x) : (d.take (k + 1)).any p = ((d.take k).any p || p x) := by
  rw [take_snoc h, List.any_append]; simp
theorem l02Ok_c {xs : List Int} {w : World} {A b off : Nat} {ro : Option Addr} {rc : Nat} (hcell : w.cell? ⟨b, off, none⟩ = some (.slice ro xs.length rc)) (ha : RdI A w (.slice ro xs.length rc) xs) :
    Calls Tryz.prog 118 #[.pointer (some ⟨b, off, none⟩)] w fun e w' => e = .returned (.bool (cardB xs)) ∧ w = w' := by
  have hle := ha.le
  obtain ⟨ro', cap', hs, ho⟩ := ha.open
  injection hs with h1 h2 h3
  subst h1
  subst h3
  obtain ⟨n, hn⟩ : ∃ n, n = xs.length := ⟨_, rfl⟩
  have hcb : cardB xs = (decide (1 ≤ n ∧ n ≤ 20) && !xs.any badHole) := by unfold cardB; rw [hn]
  rw [hcb]
  rw [← hn] at hcell ho hle
  have Hn := Lib.hid hn
  have Ho := Lib.hid ho
  clear ha ho hn h2 hcb
  go_enter Tryz.func118, Tryz.ntmps118
  go_wp2
  go_loop [3] (fun i => ∃ k : Nat, k ≤ n ∧ i = .int .i64 k ∧ Hid ((xs.take k).any badHole = false)) (fun i => n - (intOf i).toNat)
  case atStart => exact ⟨0, Nat.zero_le _, rfl, rfl⟩
  case round =>
    obtain ⟨k, hk, rfl, hp⟩ := hrel
    by_cases hkn : k < n
    · obtain ⟨rb, roff, rfl, hlt, hcc⟩ := Ho.out (by omega)
      obtain ⟨x, hx, hcx, bx⟩ := hcc k (by omega)
      have Hx := Lib.hid hx
      have hkni : (k : Int) < (n : Int) := by omega
      have hst := any_take_snoc badHole hx
      rw [hp.out, Bool.false_or] at hst
      have Hst := Lib.hid hst
      clear hx hcc hst bx
      by_cases hq : 0 ≤ x ∧ x ≤ 4095
      · have hbh : badHole x = false := by unfold badHole; simp [hq]
        have Hbh := Lib.hid hbh
        have Hq := Lib.hid hq
        clear hbh hq
        go_wp2_with fail
        with_reducible refine (l00In_any _ _ _ _).mono ?_
        rw [decide_eq_true Hq.out]
        rintro e w' ⟨rfl, rfl⟩
        go_wp2
        go_round
        case rel => exact ⟨k + 1, by omega, by go_num, Lib.hid (by rw [Hst.out, Hbh.out])⟩
        case measure => simp [intOf]; omega
      · have hbh : badHole x = true := by unfold badHole; simp; omega
        have Hbh := Lib.hid hbh
        have Hq := Lib.hid hq
        have hany : xs.any badHole = true := List.any_eq_true.2 ⟨x, List.mem_of_getElem? Hx.out, hbh⟩
        have Hany := Lib.hid hany
        clear hbh hq hany
        go_wp2_with fail
        with_reducible refine (l00In_any _ _ _ _).mono ?_
        rw [decide_eq_false Hq.out]
        rintro e w' ⟨rfl, rfl⟩
        go_wp2
        go_ret
        exact ⟨ret_bool (by rw [Hany.out]; simp), rfl⟩
    · obtain rfl : k = n := by omega
      have hal := hp.out
      rw [List.take_of_length_le (by have := Hn.out; omega)] at hal
      have Hal := Lib.hid hal
      clear hal
      go_wp2_with fail
      with_reducible refine (l00In_any _ _ _ _).mono ?_
      rintro e w' ⟨rfl, rfl⟩
      go_wp2
      go_ret
      exact ⟨ret_bool (by rw [Hal.out, Bool.not_false, Bool.and_true, Bool.eq_iff_iff]; simp; omega), rfl⟩
set_option maxHeartbeats 1000000 in
theorem l02Deck_c {xss : List (List Int)} {v : Value} {w : World} {A : Nat} (ha : RdInt64SS A w v xss) :
    Calls Tryz.prog 91 #[v] w fun e w' => e = .returned (.bool (deckB xss)) ∧ ∃ m, w' = w.drewN m := by
  have hle := ha.le
  obtain ⟨ao, cap, rfl, ho⟩ := ha.open
  obtain ⟨n, hn⟩ : ∃ n, n = xss.length := ⟨_, rfl⟩
  have hdk : deckB xss = (xss.all (okAt xss) && decide (n ≤ 40)) := by unfold deckB; rw [hn]
  rw [hdk, ← hn]
  have Hn := Lib.hid hn
  have Ho := Lib.hid ho
  have hle' : n ≤ 9223372036854775807 := by omega
  clear ho hn hle ha hdk
  go_enter Tryz.func91, Tryz.ntmps91
  go_wp2
  go_loopw [3] (fun i wr => ∃ k : Nat, k ≤ n ∧ i = .int .i64 k ∧ Hid ((xss.take k).all (okAt xss) = true) ∧ ∃ m, wr = w.drewN m) (fun i _ => n - (intOf i).toNat)
  case atStart => exact ⟨0, Nat.zero_le _, rfl, Lib.hid (by simp), 0, rfl⟩
  case round =>
    obtain ⟨k, hk, rfl, hp, m, rfl⟩ := hrel
    by_cases hkn : k < n
    · obtain ⟨b, off, rfl, hlt, hc⟩ := Ho.out (by have := Hn.out; omega)
      obtain ⟨x, ro, rc, hx, hcell, hrd⟩ := hc k (by have := Hn.out; omega)
      obtain ⟨y, qo, qc, hy, hcell0, hrd0⟩ := hc 0 (by have := Hn.out; omega)
      have hh := head_of hy
      have hcell0' : w.cell? ⟨b, off, none⟩ = some (.slice qo y.length qc) := hcell0
      have hkni : (k : Int) < (n : Int) := by omega
      have hn0 : 0 < n := by omega
      have hyl := hrd0.le
      have hxl := hrd.le
      have hok : okAt xss x = (cardB x && decide (x.length = y.length)) := by unfold okAt; rw [hh]
      have hcon := fun q => l02Ok_c (w := w.drewN q) (b := b) (off := off + k) (xs := x) (ro := ro) (rc := rc) hcell (hrd.drewN q)
      have hst := all_take_snoc (okAt xss) hx
      have hno := fun h => all_not (p := okAt xss) hx h
      have Hcon := Lib.hid hcon
      have Hok := Lib.hid hok
      have Hst := Lib.hid hst
      have Hno := Lib.hid hno
      clear hc hx hy hrd hrd0 hcon hok hst hno hh hcell0
      cases hcb : cardB x with
      | false =>
        rw [hcb] at Hcon Hok
        rw [Bool.false_and] at Hok
        clear hcb
        go_wp2
        go_quiet ((go_at_call 118; first | with_reducible exact quiet_at (Hcon.out _) | with_reducible exact quiet_at0 (Hcon.out _)))
        go_wp2
        go_ret
        exact ⟨by rw [Hno.out Hok.out]; rfl, _, World.drewN_drewN _ _ _⟩
      | true =>
        rw [hcb] at Hcon Hok
        rw [Bool.true_and] at Hok
        clear hcb
        by_cases hl : x.length = y.length
        · rw [decide_eq_true hl] at Hok
          obtain ⟨p, hm⟩ : ∃ p, p = y.length := ⟨_, rfl⟩
          rw [← hm] at hl hcell0' hyl
          rw [hl] at hcell
          clear hl hm hxl
          go_wp2
          go_quiet ((go_at_call 118; first | with_reducible exact quiet_at (Hcon.out _) | with_reducible exact quiet_at0 (Hcon.out _)))
          go_wp2
          go_roundw
          case rel => exact ⟨k + 1, by omega, by go_num, Lib.hid (by rw [Hst.out, hp.out, Hok.out]; rfl), _, rfl⟩
          case measure => simp [intOf]; omega
        · rw [decide_eq_false hl] at Hok
          obtain ⟨p, hm⟩ : ∃ p, p = y.length := ⟨_, rfl⟩
          obtain ⟨q, hq⟩ : ∃ q, q = x.length := ⟨_, rfl⟩
          rw [← hm] at hl hcell0' hyl
          rw [← hq] at hl hcell hxl
          have hl2 : ((q : Int) != (p : Int)) = true := by simp; omega
          have hl3 : (q != p) = true := by simp; omega
          clear hm hq
          go_wp2
          go_quiet ((go_at_call 118; first | with_reducible exact quiet_at (Hcon.out _) | with_reducible exact quiet_at0 (Hcon.out _)))
          go_wp2
          go_ret
          exact ⟨by rw [Hno.out Hok.out]; rfl, _, World.drewN_drewN _ _ _⟩
    · obtain rfl : k = n := by omega
      have hal := hp.out
      rw [List.take_of_length_le (by have := Hn.out; omega)] at hal
      have Hal := Lib.hid hal
      clear hal
      go_wp2
      go_ret
      exact ⟨ret_bool (by rw [Hal.out]; simp; omega), m, rfl⟩
end Go.Proofs.YtfieilbcdhbigaaGreatDoor
