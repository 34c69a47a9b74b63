/- The laws' marking texts. No condition. -/
import Derived.Test.YtjmiecjlpndfbaaStr
namespace Go.Proofs.Ytjmiecjlpndfbaa
open Go.ChangeShapes Go.WideShapes Go.ChangeAt Go.RowKit
set_option linter.unusedVariables false
set_option maxRecDepth 100000
/-- the digits of k ahead of out -/
def mdig : Nat → Int → ByteArray → ByteArray
  | 0, _, out => out
  | f + 1, k, out => if 0 < k then mdig f (k / 10) (strOfNums [48 + k % 10] ++ out) else out
def mtxt (k : Int) : ByteArray := if k ≤ 0 then "m0".toUTF8 else "m".toUTF8 ++ mdig 20 k ⟨#[]⟩
theorem mdig_size : ∀ (f : Nat) (k : Int) (out : ByteArray), (mdig f k out).size ≤ out.size + f := by
  intro f
  induction f with
  | zero => intro k out; exact Nat.le_refl _
  | succ f ih =>
    intro k out
    unfold mdig
    split
    · have := ih (k / 10) (strOfNums [48 + k % 10] ++ out)
      rw [ByteArray.size_append] at this
      have h1 : (strOfNums [48 + k % 10]).size = 1 := rfl
      omega
    · omega
theorem mtxt_size (k : Int) : (mtxt k).size ≤ 9223372036854775807 := by
  unfold mtxt
  split
  · decide
  · rw [ByteArray.size_append]
    have := mdig_size 20 k ⟨#[]⟩
    have h1 : (⟨#[]⟩ : ByteArray).size = 0 := rfl
    have h2 : "m".toUTF8.size = 1 := rfl
    omega
end Go.Proofs.Ytjmiecjlpndfbaa
