/- The first fault of posts: both sides. No condition. -/
import Derived.Test.YtfojfcmjoacbgaaPost
namespace Go.Proofs.Ytfojfcmjoacbgaa
open Go.ChangeShapes Go.WideShapes Go.ChangeAt Go.RowKit
set_option linter.unusedVariables false
set_option maxRecDepth 100000
/-- the first number below n that a test takes; -1 if there is none -/
def findF (p : Nat → Bool) (n : Nat) : Int := match (List.range n).find? p with
  | some i => i
  | none => -1
theorem findF_some {p : Nat → Bool} {n k : Nat} (hk : k < n) (h0 : ∀ j, j < k → p j = false) (h : p k = true) : findF p n = k := by
  unfold findF
  have : (List.range n).find? p = some k := by
    rw [List.find?_range_eq_some]
    exact ⟨h, List.mem_range.2 hk, fun j hj => by rw [h0 j hj]; rfl⟩
  rw [this]
theorem findF_none {p : Nat → Bool} {n : Nat} (h0 : ∀ j, j < n → p j = false) : findF p n = -1 := by
  unfold findF
  have : (List.range n).find? p = none := by
    rw [List.find?_range_eq_none]
    exact fun j hj => by rw [h0 j hj]; rfl
  rw [this]
def inB (n : Nat) (k : Int) : Bool := decide (0 ≤ k ∧ k ≤ (n : Int) - 1)
def faultAt (xs : List OperatorT) (ps who : List Int) (i : Nat) : Bool := !(inB xs.length (atI who i)) || (!(canAt xs (atI ps i) (atI who i)) || hasI (who.take i) (atI who i))
def PFC (xs : List OperatorT) (ps who : List Int) : Int := if PCode xs ps = 0 then (if who.length = ps.length then 0 else 2) else PCode xs ps
def PFV (xs : List OperatorT) (ps who : List Int) : Int := if PFC xs ps who = 0 then findF (faultAt xs ps who) who.length else 0
theorem PCode_01 (xs : List OperatorT) (ps : List Int) : PCode xs ps = 0 ∨ PCode xs ps = 1 ∨ PCode xs ps = 2 := by unfold PCode; by_cases h1 : validOs xs = true <;> by_cases h2 : postsB ps = true <;> simp [h1, h2]
theorem sPostFault_c {xs : List OperatorT} {ps who : List Int} {v u z : Value} {w : World} {A B C : Nat} (ha : RdOperatorS A w v xs) (hp : RdI B w u ps) (hw : RdI C w z who) :
    Calls Try.prog 29 #[v, u, z] w fun e w' => e = .returned (.tuple #[.int .i64 (PFV xs ps who), .int .i64 (PFC xs ps who)]) ∧ ∃ q, w' = w.drewN q := by
  have Ha := Lib.hid ha
  have Hp := Lib.hid hp
  have Hw := Lib.hid hw
  have hlep := hp.le
  have hlew := hw.le
  obtain ⟨ao, cap, rfl, ho⟩ := eOperator_open ha
  obtain ⟨pao, pcap, rfl, pho⟩ := RdI.open hp
  obtain ⟨wao, wcap, rfl, who_⟩ := RdI.open hw
  have hcapw := hw.cap
  have hlex := ha.le
  by_cases hc : PCode xs ps = 0
  · obtain ⟨hv, hps⟩ := PCode_ok hc
    obtain ⟨hn8, hxs⟩ := validOs_parts hv
    obtain ⟨hp8, hps2⟩ := postsB_parts hps
    by_cases hl : who.length = ps.length
    · have e1 : PFC xs ps who = 0 := by unfold PFC; rw [if_pos hc, if_pos hl]
      have e2 : PFV xs ps who = findF (faultAt xs ps who) who.length := by unfold PFV; rw [if_pos e1]
      rw [e1, e2]
      obtain ⟨n, hn⟩ : ∃ n, n = xs.length := ⟨_, rfl⟩
      obtain ⟨m, hm⟩ : ∃ m, m = who.length := ⟨_, rfl⟩
      have hlm : ps.length = m := by omega
      rw [← hn] at Ha ho hn8 hlex ⊢
      rw [hlm] at Hp pho ⊢
      rw [← hm] at Hw who_ hcapw ⊢
      have Hn := Lib.hid hn
      have Hm := Lib.hid hm
      have Hc := Lib.hid hc
      have Ho := Lib.hid ho
      have Pho := Lib.hid pho
      have Who := Lib.hid who_
      have Hxs := Lib.hid hxs
      have Hps2 := Lib.hid hps2
      have Hlm := Lib.hid hlm
      have hm8 : m ≤ 8 := by omega
      have hcw : m ≤ wcap := by omega
      clear ha hp hw ho pho who_ hxs hps hps2 hn hm hl hc hv e1 e2 hcapw hlep hlew hp8 hlm
      go_enter Try.func29, Try.ntmps29
      go_wp2_with fail
      with_reducible refine (l22Code_c Ha.out Hp.out).mono ?_
      rw [Hc.out]
      rintro e w1 ⟨rfl, q, rfl⟩
      go_wp2_with fail
      go_loopw [9] (fun i wr => ∃ k : Nat, k ≤ m ∧ i = .int .i64 k ∧ Hid (∀ j, j < k → faultAt xs ps who j = false) ∧ ∃ q, wr = w.drewN q) (fun i _ => m - (intOf i).toNat)
      case atStart => exact ⟨0, Nat.zero_le _, rfl, fun j h => by omega, _, rfl⟩
      case round =>
        obtain ⟨k, hk, rfl, hp, q2, rfl⟩ := hrel
        by_cases hkm : k < m
        · obtain ⟨wb, woff, rfl, wlt, wc⟩ := Who.out (by omega)
          obtain ⟨y, hy, wcy, yb⟩ := wc k hkm
          obtain ⟨pb, poff, rfl, plt, pc⟩ := Pho.out (by omega)
          obtain ⟨p, hp1, pcy, pb2⟩ := pc k hkm
          have hpr := Hps2.out p (List.mem_of_getElem? hp1)
          have hat : faultAt xs ps who k = (!(inB xs.length y) || (!(canAt xs p y) || hasI (who.take k) y)) := by unfold faultAt; rw [atI_of hy, atI_of hp1]
          have Hat := Lib.hid hat
          have hcap : (k : Int) ≤ wcap := by omega
          clear wc pc hy hp1 hat
          by_cases hin : 0 ≤ y ∧ y ≤ (n : Int) - 1
          · have e3 : inB xs.length y = true := by unfold inB; rw [← Hn.out]; exact decide_eq_true hin
            rw [e3] at Hat
            obtain ⟨yy, rfl⟩ : ∃ yy : Nat, y = yy := ⟨y.toNat, by omega⟩
            obtain ⟨b, off, rfl, lt, c⟩ := Ho.out (by omega)
            obtain ⟨x, hx, ⟨c0, c1⟩, xb⟩ := c yy (by have := Hn.out; omega)
            have hxr := (Hxs.out x (List.mem_of_getElem? hx)).2
            have ecan : canAt xs p (yy : Int) = canB x.skills p := canAt_of hx
            rw [ecan] at Hat
            have Hxr := Lib.hid hxr
            have Hpr := Lib.hid hpr
            have hr := Hw.out.takeN (k := k) (by omega)
            have Hr := Lib.hid hr
            have hyn : (yy : Int) < n := by omega
            clear hx c xb hxr hpr hr e3 ecan hin
            cases hcan : canB x.skills p with
            | false =>
              have Hcan := Lib.hid hcan
              have hcon := fun w' (c1 : w'.cell? ⟨b, off + yy * 2 + 1, none⟩ = some (.int .i64 x.skills)) => l22Can_c x p w' Hxr.out Hpr.out (b := b) (off := off + yy * 2) c1
              rw [Hcan.out] at hcon Hat
              have Hcon := Lib.hid hcon
              clear hcan hcon
              go_wp2
              go_quiet ((first | (go_at_call 53; exact quiet_at (l00In_yes _ _ _ _ (by omega) (by omega))) | (go_at_call 54; exact quiet_at (Hcon.out _ (by simpa using c1)))))
              go_wp2
              go_ret2
              exact ⟨by rw [findF_some (k := k) (by omega) hp.out (by rw [Hat.out]; rfl)]; rfl, _, by first | rfl | exact World.drewN_drewN _ _ _⟩
            | true =>
              have Hcan := Lib.hid hcan
              have hcon := fun w' (c1 : w'.cell? ⟨b, off + yy * 2 + 1, none⟩ = some (.int .i64 x.skills)) => l22Can_c x p w' Hxr.out Hpr.out (b := b) (off := off + yy * 2) c1
              rw [Hcan.out] at hcon Hat
              have Hcon := Lib.hid hcon
              clear hcan hcon
              cases hhas : hasI (who.take k) (yy : Int) with
              | true =>
                have hcon2 := fun q => l00Has_c (yy : Int) (Rds.drewN Hr.out q)
                rw [hhas] at hcon2 Hat
                have Hcon2 := Lib.hid hcon2
                clear hhas hcon2
                go_wp2
                go_quiet ((first | (go_at_call 53; exact quiet_at (l00In_yes _ _ _ _ (by omega) (by omega))) | (go_at_call 54; exact quiet_at (Hcon.out _ (by simpa using c1))) | (go_at_call 64; exact quiet_at (Hcon2.out _))))
                go_wp2
                go_ret2
                exact ⟨by rw [findF_some (k := k) (by omega) hp.out (by rw [Hat.out]; rfl)]; rfl, _, by first | rfl | exact World.drewN_drewN _ _ _⟩
              | false =>
                have hcon2 := fun q => l00Has_c (yy : Int) (Rds.drewN Hr.out q)
                rw [hhas] at hcon2 Hat
                have Hcon2 := Lib.hid hcon2
                clear hhas hcon2
                go_wp2
                go_quiet ((first | (go_at_call 53; exact quiet_at (l00In_yes _ _ _ _ (by omega) (by omega))) | (go_at_call 54; exact quiet_at (Hcon.out _ (by simpa using c1))) | (go_at_call 64; exact quiet_at (Hcon2.out _))))
                go_wp2
                go_roundw
                case rel =>
                  refine ⟨k + 1, by omega, by go_num, ?_, _, by first | rfl | exact World.drewN_drewN _ _ _⟩
                  intro j hj
                  by_cases e : j < k
                  · exact hp.out j e
                  · obtain rfl : j = k := by omega
                    rw [Hat.out]; rfl
                case measure => simp [intOf]; omega
          · have e3 : inB xs.length y = false := by unfold inB; rw [← Hn.out]; exact decide_eq_false hin
            rw [e3] at Hat
            have hno : y < 0 ∨ (n : Int) - 1 < y := by omega
            have Hno := Lib.hid hno
            clear hin hno e3 hpr
            go_wp2
            go_quiet ((go_at_call 53; exact quiet_at (l00In_no _ _ _ _ Hno.out)))
            go_wp2
            go_ret2
            exact ⟨by rw [findF_some (k := k) (by omega) hp.out (by rw [Hat.out]; rfl)]; rfl, _, by first | rfl | exact World.drewN_drewN _ _ _⟩
        · go_wp2
          go_ret2
          exact ⟨by rw [findF_none (fun j hj => hp.out j (by omega))]; rfl, _, rfl⟩
    · have e1 : PFC xs ps who = 2 := by unfold PFC; rw [if_pos hc, if_neg hl]
      have e2 : PFV xs ps who = 0 := by unfold PFV; rw [e1]; rfl
      rw [e1, e2]
      have hf : ((who.length : Int) != (ps.length : Int)) = true := by simp; omega
      obtain ⟨n, hn⟩ : ∃ n, n = ps.length := ⟨_, rfl⟩
      obtain ⟨m, hm⟩ : ∃ m, m = who.length := ⟨_, rfl⟩
      rw [← hn] at Hp hf hlep ⊢
      rw [← hm] at hf hlew ⊢
      have Hc := Lib.hid hc
      clear ha hp hw ho pho who_ hn hm hl hc e1 e2 hcapw
      go_enter Try.func29, Try.ntmps29
      go_wp2_with fail
      with_reducible refine (l22Code_c Ha.out Hp.out).mono ?_
      rw [Hc.out]
      rintro e w1 ⟨rfl, q, rfl⟩
      go_wp2
      go_ret2
      exact ⟨rfl, _, rfl⟩
  · have e1 : PFC xs ps who = PCode xs ps := by unfold PFC; rw [if_neg hc]
    have e2 : PFV xs ps who = 0 := by unfold PFV; rw [e1, if_neg hc]
    rw [e1, e2]
    obtain ⟨c, hcc⟩ : ∃ c, PCode xs ps = c := ⟨_, rfl⟩
    have hc12 : c = 1 ∨ c = 2 := by have := PCode_01 xs ps; omega
    have Hcc := Lib.hid hcc
    rw [hcc]
    clear ha hp hw ho pho who_ hc e1 e2 hcapw hcc
    rcases hc12 with rfl | rfl <;>
    · go_enter Try.func29, Try.ntmps29
      go_wp2_with fail
      with_reducible refine (l22Code_c Ha.out Hp.out).mono ?_
      rw [Hcc.out]
      rintro e w1 ⟨rfl, q, rfl⟩
      go_wp2
      go_ret2
      exact ⟨rfl, _, rfl⟩
end Go.Proofs.Ytfojfcmjoacbgaa
