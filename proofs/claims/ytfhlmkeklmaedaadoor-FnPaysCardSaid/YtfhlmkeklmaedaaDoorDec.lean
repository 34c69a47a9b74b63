/- Decimal numerals: the program's, off the library's contract. The condition: the library's table of powers of ten lies as its text lays it. -/
import Derived.Test.YtfhlmkeklmaedaaDoorLawD
import Derived.Test.YtfhlmkeklmaedaaDoorShAll
import Derived.Test.YtfhlmkeklmaedaaDoorQB
import Derived.Test.YtfhlmkeklmaedaaDoorSmall
import Derived.Lib.ItoaLen
import Derived.Lib.LaidTab
namespace Go.Proofs.YtfhlmkeklmaedaaDoor
open Go.ChangeShapes Go.WideShapes Go.ChangeAt Go.RowKit Go.Sort
set_option linter.unusedVariables false
set_option maxRecDepth 100000
/-- the table of powers lies where the library's text laid it -/
def PowAt (W : World) : Prop := Lib.TabIs Tryd.prog W "internal/strconv.uint64pow10" .u64 Lib.pow10Tab
theorem g_pow : Tryd.prog.globalNamed "internal/strconv.uint64pow10" = some 1 := by kernel_rfl
theorem PowAt.below {W W' : World} (h : PowAt W) (hb : Below W.heap.size W W') : PowAt W' := by
  unfold PowAt Lib.TabIs World.var? at h ⊢
  rw [g_pow] at h ⊢
  simp only [Option.bind_some] at h ⊢
  have hlt : 1 < W.heap.size := by
    rcases Nat.lt_or_ge 1 W.heap.size with h' | h'
    · exact h'
    · rw [Array.getElem?_eq_none h'] at h; cases h
  rw [hb.block 1 hlt]
  exact h
def itoaB (n : Int) : ByteArray := ⟨(Lib.itoa n).toArray⟩
theorem itoaB_size {n : Int} (h0 : -9223372036854775808 ≤ n) (h1 : n ≤ 9223372036854775807) : (itoaB n).size ≤ 21 := by
  show (Lib.itoa n).toArray.size ≤ 21
  rw [List.size_toArray]
  exact Lib.itoa_length_le n h0 h1
theorem Decimal_c {n : Int} {w : World} (h0 : -9223372036854775808 ≤ n) (h1 : n ≤ 9223372036854775807) (ht : PowAt w) :
    Calls Tryd.prog 32 #[.int .i64 n] w fun e w' => e = .returned (.string (itoaB n)) ∧ Below w.heap.size w w' := by
  have hcon := Tryd.strconv_FormatInt_10 n h0 h1 w ht
  have Hcon := Lib.hid hcon
  clear hcon ht h0 h1
  go_enter Tryd.func32, Tryd.ntmps32
  go_wp2_with fail
  with_reducible refine Hcon.out.mono ?_
  rintro e w' ⟨rfl, k, os, rfl⟩
  have hb : Below w.heap.size w (grow (w.drewN k) os) := ⟨rfl, rfl, rfl, by simp [grow], fun z hz => by simp [grow, Array.getElem?_append, hz]⟩
  generalize grow (w.drewN k) os = w2 at hb ⊢
  go_wp2
  go_ret
  exact ⟨rfl, hb⟩
end Go.Proofs.YtfhlmkeklmaedaaDoor
