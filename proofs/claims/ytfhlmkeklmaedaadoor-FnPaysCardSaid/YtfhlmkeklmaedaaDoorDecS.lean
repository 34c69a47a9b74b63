/- Decimal numerals and amounts of money: the reference's. No condition. -/
import Derived.Test.YtfhlmkeklmaedaaDoorByC
import Derived.Test.YtfhlmkeklmaedaaDoorDec
import Derived.Lib.ItoaNum
namespace Go.Proofs.YtfhlmkeklmaedaaDoor
open Go.ChangeShapes Go.WideShapes Go.ChangeAt Go.RowKit
set_option linter.unusedVariables false
set_option maxRecDepth 100000
/-- the digits of a number, none for 0 -/
def dz (k : Nat) : List Int := if k = 0 then [] else (Lib.decDigits k).map fun b : UInt8 => (b.toNat : Int)
theorem dz_zero : dz 0 = [] := rfl
theorem dz_pos {k : Nat} (h : k ≠ 0) : dz k = (Lib.decDigits k).map fun b : UInt8 => (b.toNat : Int) := if_neg h
theorem ofNat_small {j : Nat} (h : j < 256) : (UInt8.ofNat j).toNat = j := by simp; omega
theorem dz_step {k : Nat} (h : k ≠ 0) : dz k = dz (k / 10) ++ [((48 + k % 10 : Nat) : Int)] := by
  rw [dz_pos h]
  by_cases hk : k < 10
  · rw [Lib.decDigits, dif_pos hk, show k / 10 = 0 by omega, dz_zero]
    simp only [List.map_cons, List.map_nil, List.nil_append]
    rw [ofNat_small (by omega), show k % 10 = k by omega]
  · rw [Lib.decDigits, dif_neg hk, dz_pos (by omega), List.map_append]
    simp only [List.map_cons, List.map_nil]
    rw [ofNat_small (by omega)]
theorem itoa_nonneg {n : Nat} : Lib.itoa (n : Int) = Lib.decDigits n := by
  unfold Lib.itoa
  rw [if_neg (by omega)]
  rfl
theorem bytesI_itoa {n : Nat} : bytesI (itoaB (n : Int)) = (Lib.decDigits n).map fun b : UInt8 => (b.toNat : Int) := by
  unfold bytesI itoaB
  rw [itoa_nonneg]
theorem dz_len {n : Nat} (h : n ≤ 1000000000000000000) : (dz n).length ≤ 21 := by
  unfold dz
  split
  · simp
  · rw [List.length_map]
    have h2 := Lib.itoa_length_le (n : Int) (by omega) (by omega)
    rw [itoa_nonneg] at h2
    exact h2
set_option maxHeartbeats 1000000 in
theorem l01Dec_c {n : Nat} {w : World} (hn : n ≤ 1000000000000000000) :
    Calls Tryd.prog 27 #[.int .i64 (n : Int)] w fun e w' => e = .returned (.string (itoaB (n : Int))) ∧ Below w.heap.size w w' := by
  obtain ⟨i0, hi, hz0, hz1, hz2⟩ := info_parts Tryd.infoU8t
  have hdl := dz_len hn
  have HR0 : Hid (Own eB 5 w.heap.size (w.alloc (.cells #[] 5)) (.slice (some ⟨w.heap.size, 0, none⟩) 0 0) ([] : List Int)) := Lib.hid (Own.lit (E := eB) (xs := []) (cs := #[]) (Nat.le_refl _) rfl rfl (by decide) (fun x hx => by cases hx))
  have HB0 : Hid (Below w.heap.size w (w.alloc (.cells #[] 5))) := Lib.hid ((Below.refl _ _).alloc (Nat.le_refl _) _)
  have Hdl := Lib.hid hdl
  clear hdl
  go_enter Tryd.func27, Tryd.ntmps27
  go_wp2
  go_loopw [4, 3] (fun kv ov wr => ∃ (k : Nat) (L : List Int), k ≤ n ∧ kv = .int .i64 (k : Int) ∧ Own eB 5 w.heap.size wr ov L ∧ Hid (dz k ++ L = dz n) ∧ Below w.heap.size w wr) (fun kv _ _ => (intOf kv).toNat)
  case atStart => exact ⟨n, [], Nat.le_refl _, rfl, HR0.out, Lib.hid (by simp), HB0.out⟩
  case round =>
    obtain ⟨k, L, hk, rfl, hR, hL, hb⟩ := hrel
    clear HR0 HB0
    have hLl : L.length ≤ 21 := by
      have h := congrArg List.length hL.out
      rw [List.length_append] at h
      have := Hdl.out
      omega
    by_cases hk0 : k = 0
    · subst hk0
      have hLd : L = dz n := by have := hL.out; rw [dz_zero, List.nil_append] at this; exact this
      by_cases hn0 : n = 0
      · subst hn0
        have hL0 : L = [] := hLd
        subst hL0
        obtain ⟨ro, rc, hrv⟩ := hR.shape
        have HB := Lib.hid hb
        subst hrv
        clear hR hL hb hLd
        have e : itoaB ((0 : Nat) : Int) = ⟨#[48]⟩ := by decide +kernel
        go_wp2
        go_ret
        exact ⟨by rw [e]; rfl, HB.out⟩
      · have hLb : L = bytesI (itoaB (n : Int)) := by rw [bytesI_itoa, hLd, dz_pos hn0]
        have hpos : 0 < L.length := by rw [hLd, dz_step hn0]; simp
        subst hLb
        have hcv := conv_own hR
        obtain ⟨ro, rc, hrv⟩ := hR.shape
        obtain ⟨ln, hln⟩ : ∃ ln, ln = (bytesI (itoaB (n : Int))).length := ⟨_, rfl⟩
        rw [← hln] at hrv hpos
        have HB := Lib.hid hb
        subst hrv
        have hln0 : ((ln : Int) == 0) = false := by simp; omega
        have hln1 : ¬ ln = 0 := by omega
        have hnn : ¬ (n : Int) < 0 := by omega
        clear hR hL hb hLd hln
        go_wp2
        go_ret
        exact ⟨rfl, HB.out⟩
    · have hst := dz_step hk0
      have hL2 : dz (k / 10) ++ (((48 + k % 10 : Nat) : Int) :: L) = dz n := by rw [← hL.out, hst, List.append_assoc]; rfl
      have hkn : ((k : Int) != 0) = true := by simp; omega
      have hkn2 : ¬ (k : Int) = 0 := by omega
      obtain ⟨dg, hdg⟩ : ∃ dg : Int, dg = ((48 + k % 10 : Nat) : Int) := ⟨_, rfl⟩
      have hdg0 : 48 ≤ dg ∧ dg ≤ 57 := by omega
      have hdg1 : (48 : Int) + (k : Int) % 10 = dg := by omega
      rw [← hdg] at hL2
      have HR := Lib.hid hR
      have HB := Lib.hid hb
      have HL2 := Lib.hid hL2
      have Hdg : Hid (eB.ok dg) := Lib.hid (by show 0 ≤ dg ∧ dg ≤ 255; omega)
      have hm : ¬ (k : Int) % 10 < 0 := by omega
      have hz5 : (k : Int) / 10 = ((k / 10 : Nat) : Int) := by omega
      have Hz5 := Lib.hid hz5
      clear hR hL hb hst hL2 hdg hz5
      go_wp2_with (first | (at_builtin; refine wpList_appS (E := eB) rfl _ _ 34 rfl Tryd.underlying34 hi hz0 hz1 hz2 rfl (by decide) rfl rfl (Own.lit (E := eB) (xs := [dg]) (base := w.heap.size) HB.out.size rfl rfl (by decide) (fun x hx => by rw [List.mem_singleton] at hx; rw [hx]; exact Hdg.out)) (HR.out.alloc _).rds ?b1 ?b2 ?b3 ?_))
      case b1 => unfold maxLen; (try simp) <;> omega
      case b2 => (try simp) <;> omega
      case b3 => have := HB.out.size; (try simp) <;> omega
      intro s2 w2 hR2 hg
      have hsz := HB.out.size
      have hb2 := hg.below (HB.out.alloc hsz _) (by (try simp) <;> omega) (fun q hq => by cases hq; exact hsz)
      have HR2 := Lib.hid hR2
      have HB2 := Lib.hid hb2
      clear hR2 hg hb2 HR HB hdg1 hm
      go_wp2
      go_roundw
      case rel => exact ⟨k / 10, dg :: L, by omega, by first | rfl | go_num, HR2.out, Lib.hid HL2.out, HB2.out⟩
      case measure => simp [intOf]; omega
def twoD (n : Nat) : ByteArray := itoaB ((n / 100 : Nat) : Int) ++ ⟨#[46]⟩ ++ itoaB ((n / 10 % 10 : Nat) : Int) ++ itoaB ((n % 10 : Nat) : Int)
theorem itoaB_len {n : Nat} (h : n ≤ 1000000000000000000) : (itoaB (n : Int)).size ≤ 21 := itoaB_size (by omega) (by omega)
theorem twoD_size {n : Nat} (h : n ≤ 1000000000000000000) : (twoD n).size ≤ 64 := by
  unfold twoD
  rw [ByteArray.size_append, ByteArray.size_append, ByteArray.size_append]
  have h1 := itoaB_len (n := n / 100) (by omega)
  have h2 := itoaB_len (n := n / 10 % 10) (by omega)
  have h3 := itoaB_len (n := n % 10) (by omega)
  have h4 : (⟨#[46]⟩ : ByteArray).size = 1 := rfl
  omega
theorem l23Money_c {n : Nat} {w : World} (hn : n ≤ 1000000000000000000) :
    Calls Tryd.prog 28 #[.int .i64 (n : Int)] w fun e w' => e = .returned (.string (twoD n)) ∧ Below w.heap.size w w' := by
  have e1 : (n : Int) / 100 = ((n / 100 : Nat) : Int) := by omega
  have e2 : (n : Int) % 100 / 10 = ((n / 10 % 10 : Nat) : Int) := by omega
  have e3 : (n : Int) % 10 = ((n % 10 : Nat) : Int) := by omega
  have h1 := itoaB_len (n := n / 100) (by omega)
  have h2 := itoaB_len (n := n / 10 % 10) (by omega)
  have h3 := itoaB_len (n := n % 10) (by omega)
  have hc1 := fun W => l01Dec_c (n := n / 100) (w := W) (by omega)
  have hc2 := fun W => l01Dec_c (n := n / 10 % 10) (w := W) (by omega)
  have hc3 := fun W => l01Dec_c (n := n % 10) (w := W) (by omega)
  unfold twoD
  rw [← e1] at hc1 h1 ⊢
  rw [← e2] at hc2 h2 ⊢
  rw [← e3] at hc3 h3 ⊢
  generalize itoaB ((n : Int) / 100) = A at hc1 h1 ⊢
  generalize itoaB ((n : Int) % 100 / 10) = B at hc2 h2 ⊢
  generalize itoaB ((n : Int) % 10) = C at hc3 h3 ⊢
  have Hc1 := Lib.hid hc1
  have Hc2 := Lib.hid hc2
  have Hc3 := Lib.hid hc3
  have s1 : (A ++ ⟨#[46]⟩ : ByteArray).size ≤ 22 := by rw [ByteArray.size_append]; have h4 : (⟨#[46]⟩ : ByteArray).size = 1 := rfl; omega
  have s2 : (A ++ ⟨#[46]⟩ ++ B : ByteArray).size ≤ 43 := by rw [ByteArray.size_append]; omega
  have s3 : (A ++ ⟨#[46]⟩ ++ B ++ C : ByteArray).size ≤ 64 := by rw [ByteArray.size_append]; omega
  clear e1 e2 e3 hc1 hc2 hc3
  go_enter Tryd.func28, Tryd.ntmps28
  go_wp2_with fail
  with_reducible refine (Hc1.out _).mono ?_
  rintro e w1 ⟨rfl, hb1⟩
  go_wp2_with fail
  with_reducible refine (Hc2.out _).mono ?_
  rintro e w2 ⟨rfl, hb2⟩
  go_wp2_with fail
  with_reducible refine (Hc3.out _).mono ?_
  rintro e w3 ⟨rfl, hb3⟩
  have Hb := Lib.hid ((hb1.trans (hb2.mono hb1.size)).trans (hb3.mono (Nat.le_trans hb1.size hb2.size)))
  clear hb1 hb2 hb3
  go_wp2
  go_ret
  exact ⟨rfl, Hb.out⟩
end Go.Proofs.YtfhlmkeklmaedaaDoor
