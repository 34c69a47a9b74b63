/- Amounts of money: the program's. The condition: the library's table of powers of ten lies as its text lays it. -/
import Derived.Test.YtfhlmkeklmaedaaDoorDecS
import Derived.Test.YtfhlmkeklmaedaaDoorPow
namespace Go.Proofs.YtfhlmkeklmaedaaDoor
open Go.ChangeShapes Go.WideShapes Go.ChangeAt Go.RowKit
set_option linter.unusedVariables false
set_option maxRecDepth 100000
theorem money_c {n : Nat} {w : World} (hn : n ≤ 1000000000000000000) (ht : PowAt w) :
    Calls Tryd.prog 33 #[.int .i64 (n : Int)] w fun e w' => e = .returned (.string (twoD n)) ∧ Below w.heap.size w w' := by
  have e1 : (n : Int) / 100 = ((n / 100 : Nat) : Int) := by omega
  have e2 : (n : Int) / 10 % 10 = ((n / 10 % 10 : Nat) : Int) := by omega
  have e3 : (n : Int) % 10 = ((n % 10 : Nat) : Int) := by omega
  have h1 := itoaB_len (n := n / 100) (by omega)
  have h2 := itoaB_len (n := n / 10 % 10) (by omega)
  have h3 := itoaB_len (n := n % 10) (by omega)
  have hc1 := fun (W : World) (hW : PowAt W) => Decimal_c (n := ((n / 100 : Nat) : Int)) (w := W) (by omega) (by omega) hW
  have hc2 := fun (W : World) (hW : PowAt W) => Decimal_c (n := ((n / 10 % 10 : Nat) : Int)) (w := W) (by omega) (by omega) hW
  have hc3 := fun (W : World) (hW : PowAt W) => Decimal_c (n := ((n % 10 : Nat) : Int)) (w := W) (by omega) (by omega) hW
  unfold twoD
  rw [← e1] at hc1 h1 ⊢
  rw [← e2] at hc2 h2 ⊢
  rw [← e3] at hc3 h3 ⊢
  generalize itoaB ((n : Int) / 100) = A at hc1 h1 ⊢
  generalize itoaB ((n : Int) / 10 % 10) = B at hc2 h2 ⊢
  generalize itoaB ((n : Int) % 10) = C at hc3 h3 ⊢
  have Hc1 := Lib.hid hc1
  have Hc2 := Lib.hid hc2
  have Hc3 := Lib.hid hc3
  have Ht := Lib.hid ht
  have s1 : (A ++ ⟨#[46]⟩ : ByteArray).size ≤ 22 := by rw [ByteArray.size_append]; have h4 : (⟨#[46]⟩ : ByteArray).size = 1 := rfl; omega
  have s2 : (A ++ ⟨#[46]⟩ ++ B : ByteArray).size ≤ 43 := by rw [ByteArray.size_append]; omega
  have s3 : (A ++ ⟨#[46]⟩ ++ B ++ C : ByteArray).size ≤ 64 := by rw [ByteArray.size_append]; omega
  clear e1 e2 e3 hc1 hc2 hc3 ht
  go_enter Tryd.func33, Tryd.ntmps33
  go_wp2_with fail
  with_reducible refine (Hc1.out _ Ht.out).mono ?_
  rintro e w1 ⟨rfl, hb1⟩
  have Ht1 := Lib.hid (Ht.out.below hb1)
  go_wp2_with fail
  with_reducible refine (Hc2.out _ Ht1.out).mono ?_
  rintro e w2 ⟨rfl, hb2⟩
  have Ht2 := Lib.hid (Ht1.out.below hb2)
  go_wp2_with fail
  with_reducible refine (Hc3.out _ Ht2.out).mono ?_
  rintro e w3 ⟨rfl, hb3⟩
  have Hb := Lib.hid ((hb1.trans (hb2.mono hb1.size)).trans (hb3.mono (Nat.le_trans hb1.size hb2.size)))
  clear hb1 hb2 hb3
  go_wp2
  go_ret
  exact ⟨rfl, Hb.out⟩
end Go.Proofs.YtfhlmkeklmaedaaDoor
