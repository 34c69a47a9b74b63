/- How many posts can be filled: the program's, with the code. No condition. -/
import Derived.Test.YtfojfcmjoacbgaaMostI
namespace Go.Proofs.Ytfojfcmjoacbgaa
open Go.ChangeShapes Go.WideShapes Go.ChangeAt Go.RowKit Go.Sort
set_option linter.unusedVariables false
set_option maxRecDepth 100000
theorem pow_bd {n : Nat} (h : n ≤ 8) : IntKind.i64.wrap ((2 : Int) ^ n) = 2 ^ n ∧ 1 ≤ (2 : Int) ^ n ∧ (2 : Int) ^ n ≤ 256 := by
  have h1 : (2 : Nat) ^ n ≤ 2 ^ 8 := Nat.pow_le_pow_right (by decide) h
  have h2 : ((2 ^ n : Nat) : Int) = 2 ^ n := by simp
  have h3 : 1 ≤ (2 : Nat) ^ n := Nat.one_le_two_pow
  have h4 : 1 ≤ (2 : Int) ^ n ∧ (2 : Int) ^ n ≤ 256 := by rw [← h2]; omega
  exact ⟨IntWalk.i64_in _ (by omega), h4⟩
set_option maxHeartbeats 400000 in
theorem MostPosts_c {xs : List OperatorT} {ps : List Int} {v u : Value} {w : World} {A B : Nat} (hA : A ≤ w.heap.size) (hB : B ≤ w.heap.size) (ha : RdOperatorS A w v xs) (hp : RdI B w u ps) :
    Calls Try.prog 33 #[v, u] w fun e w' => e = .returned (.tuple #[.int .i64 (MPV xs ps), .int .i64 (PCode xs ps)]) ∧ Below w.heap.size w w' := by
  have Ha := Lib.hid (Rds.tight ha)
  have Hp := Lib.hid (Rds.tight hp)
  by_cases hc : PCode xs ps = 0
  · obtain ⟨hv, hps⟩ := PCode_ok hc
    have hn8 := (validOs_parts hv).1
    have e1 : MPV xs ps = (kuhnN (edgeO xs ps) xs.length ps.length : Nat) := by unfold MPV; rw [if_pos hc]
    obtain ⟨p1, p2, p3⟩ := pow_bd hn8
    have hk : kuhnN (edgeO xs ps) xs.length ps.length = mostF (edgeO xs ps) xs.length ps.length 0 (bitB ((2 : Int) ^ xs.length - 1)) := kuhn_eq _ _ _ fun k hk => full_fin ⟨xs.length, by omega⟩ ⟨k, by omega⟩ hk
    have hcon := fun (W : World) hW => mostPosts_c (OB := w.heap.size) hv hps (Nat.le_refl _) (Nat.le_refl _) ps.length 0 ((2 : Int) ^ xs.length - 1) W u (by omega) (Below.size hW) ((Rds.tight ha).below hW (Nat.le_refl _)) ((Rds.tight hp).below hW (Nat.le_refl _)) (by omega) (by omega)
    rw [← hk] at hcon
    rw [e1, hc]
    obtain ⟨cnt, hcnt⟩ : ∃ cnt : Int, ((kuhnN (edgeO xs ps) xs.length ps.length : Nat) : Int) = cnt := ⟨_, rfl⟩
    rw [hcnt] at hcon ⊢
    obtain ⟨ao, cap, rfl⟩ := ha.shape
    obtain ⟨n, hn⟩ : ∃ n, n = xs.length := ⟨_, rfl⟩
    obtain ⟨P, hP⟩ : ∃ P, (2 : Int) ^ n = P := ⟨_, rfl⟩
    rw [← hn] at Ha hcon p1 p2 p3 hn8 ⊢
    rw [hP] at hcon p2 p3
    have p1' : IntKind.i64.wrap ((2 : Int) ^ n) = P := by rw [p1, hP]
    have p4 : IntKind.i64.wrap (P - 1) = P - 1 := IntWalk.i64_in _ (by omega)
    have Hcon := Lib.hid hcon
    have Hc := Lib.hid hc
    clear hc e1 hcon ha hp hcnt hv hps hk hn p1 hP
    go_enter Try.func33, Try.ntmps33
    go_wp2_with fail
    with_reducible refine (postCode_c Ha.out Hp.out).mono ?_
    rw [Hc.out]
    rintro e w1 ⟨rfl, hb⟩
    have hcall := Hcon.out w1 hb
    have Hcall := Lib.hid hcall
    have Hb := Lib.hid hb
    clear hcall hb
    go_wp2_with fail
    with_reducible refine Hcall.out.mono ?_
    rintro e w2 ⟨rfl, hb2⟩
    have hb3 := Hb.out.trans (hb2.mono Hb.out.size)
    clear hb2
    go_wp2
    go_ret2
    exact ⟨rfl, hb3⟩
  · have e1 : MPV xs ps = 0 := by unfold MPV; rw [if_neg hc]
    obtain ⟨c, hcc⟩ : ∃ c, PCode xs ps = c := ⟨_, rfl⟩
    have hc12 : c = 1 ∨ c = 2 := by have := PCode_01 xs ps; omega
    have Hcc := Lib.hid hcc
    rw [e1, hcc]
    clear ha hp hc e1 hcc
    rcases hc12 with rfl | rfl <;>
    · go_enter Try.func33, Try.ntmps33
      go_wp2_with fail
      with_reducible refine (postCode_c Ha.out Hp.out).mono ?_
      rw [Hcc.out]
      rintro e w1 ⟨rfl, hb⟩
      go_wp2
      go_ret2
      exact ⟨rfl, hb⟩
end Go.Proofs.Ytfojfcmjoacbgaa
