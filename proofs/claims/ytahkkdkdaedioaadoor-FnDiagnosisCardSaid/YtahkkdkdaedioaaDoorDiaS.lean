/- Faults and reports: the reference's small functions. No condition. -/
import Derived.Test.YtahkkdkdaedioaaDoorAllF
namespace Go.Proofs.YtahkkdkdaedioaaDoor
open Go.ChangeShapes Go.WideShapes Go.ChangeAt Go.RowKit
set_option linter.unusedVariables false
set_option maxRecDepth 100000
theorem p10_nat {p : Nat} (hp : p < 4) : p10 (p : Int) = 10 ^ p := by
  have : p = 0 ∨ p = 1 ∨ p = 2 ∨ p = 3 := by omega
  rcases this with rfl | rfl | rfl | rfl <;> decide
theorem ten_pos (n : Nat) : (1 : Int) ≤ 10 ^ n := by
  induction n with
  | zero => decide
  | succ n ih => rw [Int.pow_succ]; omega
theorem l19Power_c {p : Nat} {w : World} (hp : p < 4) : Calls Tryd.prog 77 #[.int .i64 (p : Int)] w fun e w' => e = .returned (.int .i64 (p10 (p : Int))) ∧ w = w' := by
  obtain ⟨P, hP⟩ : ∃ P, P = p10 (p : Int) := ⟨_, rfl⟩
  rw [← hP]
  have HP := Lib.hid hP
  clear hP
  go_enter Tryd.func77, Tryd.ntmps77
  go_wp2
  go_loop [0, 3] (fun nv ov => ∃ (n : Nat) (o : Int), n ≤ p ∧ nv = .int .i64 (n : Int) ∧ ov = .int .i64 o ∧ (1 ≤ o ∧ o ≤ 1000) ∧ Hid (o * 10 ^ n = P)) (fun nv _ => (intOf nv).toNat)
  case atStart => exact ⟨p, 1, Nat.le_refl _, rfl, rfl, by omega, by show 1 * 10 ^ p = P; rw [HP.out, p10_nat hp]; omega⟩
  case round =>
    obtain ⟨n, o, hn, rfl, rfl, ⟨ho0, ho1⟩, Ho⟩ := hrel
    rcases n with _ | n
    · have e : o = P := by have := Ho.out; simpa using this
      subst e
      clear Ho
      go_wp2
      go_ret
      exact ⟨rfl, rfl⟩
    · have hb : o * 10 ≤ 1000 := by
        have h := Ho.out
        have hP : P ≤ 1000 := by rw [HP.out, p10_nat hp]; have : p = 0 ∨ p = 1 ∨ p = 2 ∨ p = 3 := by omega
                                 rcases this with rfl | rfl | rfl | rfl <;> decide
        have h1 : o * 10 ^ (n + 1) = o * 10 * 10 ^ n := by rw [Int.pow_succ, Int.mul_comm (10 ^ n) 10, Int.mul_assoc]
        have h2 : (1 : Int) ≤ 10 ^ n := ten_pos n
        have h3 : o * 10 * 1 ≤ o * 10 * 10 ^ n := Int.mul_le_mul_of_nonneg_left h2 (by omega)
        omega
      have hz : ((n + 1 : Nat) : Int) = (n : Int) + 1 := rfl
      have hpos : (0 : Int) < ((n + 1 : Nat) : Int) := by omega
      go_wp2
      go_round
      case rel => exact ⟨n, o * 10, by omega, by go_num, by go_num, by omega, by show o * 10 * 10 ^ n = P; rw [← Ho.out, Int.pow_succ, Int.mul_comm (10 ^ n) 10, Int.mul_assoc]⟩
      case measure => simp [intOf] <;> omega
theorem l19Form_three {f : FaultT} {w : World} (hk : f.kind = 3) (hc : 0 ≤ f.card ∧ f.card ≤ 11) (hp : 0 ≤ f.place ∧ f.place ≤ 3) (hd : 0 ≤ f.digit ∧ f.digit ≤ 9) :
    Calls Tryd.prog 76 #[vFault f] w fun e w' => e = .returned (.bool true) ∧ Below w.heap.size w w' := by
  obtain ⟨kd, cd, pl, dg⟩ := f
  simp only at hk hc hp hd
  subst hk
  have Hc := Lib.hid hc
  have Hp := Lib.hid hp
  have Hd := Lib.hid hd
  clear hc hp hd
  go_enter Tryd.func76, Tryd.ntmps76
  go_wp2_with fail
  with_reducible refine (l00In_any _ _ _ _).mono ?_
  rw [decide_eq_true (show (1 : Int) ≤ 3 ∧ (3 : Int) ≤ 3 by omega)]
  rintro e w' ⟨rfl, rfl⟩
  go_wp2_with fail
  with_reducible refine (l00In_any _ _ _ _).mono ?_
  rw [decide_eq_true Hc.out]
  rintro e w' ⟨rfl, rfl⟩
  go_wp2_with fail
  with_reducible refine (l00In_any _ _ _ _).mono ?_
  rw [decide_eq_true Hp.out]
  rintro e w' ⟨rfl, rfl⟩
  go_wp2_with fail
  with_reducible refine (l00In_any _ _ _ _).mono ?_
  rw [decide_eq_true Hd.out]
  rintro e w' ⟨rfl, rfl⟩
  go_wp2
  go_ret
  exact ⟨rfl, (Below.refl _ _).alloc (Nat.le_refl _) _⟩
theorem l19Fault_three {xs : List Int} {c p d : Nat} {v : Value} {w : World} {A : Nat} (ha : RdI A w v xs) (hl : xs.length ≤ 12) (hx : ∀ n ∈ xs, 0 ≤ n ∧ n ≤ 9999) (hc : c < xs.length) (hp : p < 4) (hd : d < 10) :
    Calls Tryd.prog 52 #[v, vFault ⟨3, (c : Int), (p : Int), (d : Int)⟩] w fun e w' => e = .returned (.bool (!(digA (xs.getD c 0) (p : Int) == (d : Int)))) ∧ Below w.heap.size w w' := by
  obtain ⟨ao, cap, rfl, ho⟩ := ha.open
  obtain ⟨n, hn⟩ : ∃ n, n = xs.length := ⟨_, rfl⟩
  rw [← hn] at ho hl hc ⊢
  obtain ⟨b, off, rfl, hlt, hcc⟩ := ho (by omega)
  obtain ⟨x, hxk, hcx, _⟩ := hcc c hc
  have hxb := hx x (List.mem_of_getElem? hxk)
  have hgd : xs.getD c 0 = x := by rw [List.getD_eq_getElem?_getD, hxk]; rfl
  rw [hgd]
  have hpw := fun W => l19Power_c (p := p) (w := W) hp
  have hfm := l19Form_three (f := ⟨3, (c : Int), (p : Int), (d : Int)⟩) (w := w.alloc (.cells #[.int .i64 3, .int .i64 (c : Int), .int .i64 (p : Int), .int .i64 (d : Int)] 40)) rfl ⟨by simp, by simp only; omega⟩ ⟨by simp, by simp only; omega⟩ ⟨by simp, by simp only; omega⟩
  have hP : p10 (p : Int) = 1 ∨ p10 (p : Int) = 10 ∨ p10 (p : Int) = 100 ∨ p10 (p : Int) = 1000 := by
    rcases p10_cases (p := (p : Int)) (by omega) with ⟨_, e⟩ | ⟨_, e⟩ | ⟨_, e⟩ | ⟨_, e⟩ <;> omega
  unfold digA
  have hB0 : Box (w.alloc (.cells #[.int .i64 3, .int .i64 (c : Int), .int .i64 (p : Int), .int .i64 (d : Int)] 40)) w.heap.size [.int .i64 3, .int .i64 (c : Int), .int .i64 (p : Int), .int .i64 (d : Int)] := Box.new w [.int .i64 3, .int .i64 (c : Int), .int .i64 (p : Int), .int .i64 (d : Int)] _
  have hb0 : Below w.heap.size w (w.alloc (.cells #[.int .i64 3, .int .i64 (c : Int), .int .i64 (p : Int), .int .i64 (d : Int)] 40)) := (Below.refl _ _).alloc (Nat.le_refl _) _
  have Hfm := Lib.hid hfm
  have Hpw := Lib.hid hpw
  have HB0 := Lib.hid hB0
  have Hb0 := Lib.hid hb0
  have hci : (c : Int) < (n : Int) := by omega
  have hcn : ¬ (n : Int) ≤ (c : Int) := by omega
  have hlt2 := hlt.2
  obtain ⟨x0, x1⟩ := hxb
  generalize p10 (p : Int) = P at Hpw hP ⊢
  clear ha ho hx hn hcc hxk hgd hpw hfm hB0 hb0
  go_enter Tryd.func52, Tryd.ntmps52
  go_wp2_with fail
  with_reducible refine Hfm.out.mono ?_
  rintro e w1 ⟨rfl, hb1⟩
  have hB1 := HB0.out.on hb1
  have hbx := Hb0.out.trans (hb1.mono Hb0.out.size)
  have c0 := (hbx.cell (p := ⟨b, off + c, none⟩) hlt2).trans hcx
  have k0 := hB1.cell 0 _ rfl
  have k1 := hB1.cell 1 _ rfl
  have k2 := hB1.cell 2 _ rfl
  have k3 := hB1.cell 3 _ rfl
  have Hbx := Lib.hid hbx
  clear hB1 hb1 hbx hcx HB0 Hb0 Hfm
  go_wp2
  rcases hP with rfl | rfl | rfl | rfl
  all_goals
    go_quiet (first | (go_at_call 77; first | exact quiet_at0 (Hpw.out _) | exact quiet_at (Hpw.out _)))
    go_wp2
    go_ret
    exact ⟨ret_bool (by simp [bne]), ⟨Hbx.out.os, Hbx.out.tape, Hbx.out.output, Hbx.out.size, Hbx.out.block⟩⟩
end Go.Proofs.YtahkkdkdaedioaaDoor
