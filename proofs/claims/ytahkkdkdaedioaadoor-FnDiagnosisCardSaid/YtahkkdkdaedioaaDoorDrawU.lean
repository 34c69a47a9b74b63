/- The drawing of inputs: words for what is boxed and put. No condition. -/
import Derived.Test.YtahkkdkdaedioaaDoorDraw
import Derived.Test.YtahkkdkdaedioaaDoorRegL
import Derived.Test.YtahkkdkdaedioaaDoorStr
namespace Go.Proofs.YtahkkdkdaedioaaDoor
open Go.ChangeShapes Go.WideShapes Go.ChangeAt Go.RowKit
set_option linter.unusedVariables false
set_option maxRecDepth 100000
theorem Src.drew {w : World} {b N : Nat} (h : Src w b N) : Src w.drew b N := h.kept (grownBy_drew w none) (fun k hk => by cases hk)
theorem Box.keptB {w w' : World} {b : Nat} {cs : List Value} {row : Option Nat} (h : Box w b cs) (hg : w.grownBy w' row) (hne : row ≠ some b) : Box w' b cs := by
  have hb := hg.block b h.lt (fun e => hne e.symm)
  exact ⟨Nat.lt_of_lt_of_le h.lt hg.size, fun j v hj => (World.cell?_of_block (w := w) (a := ⟨b, j, none⟩) hb).trans (h.cell j v hj), fun j => (World.frozen?_of_block (w := w) (a := ⟨b, j, none⟩) hb).trans (h.free j)⟩
theorem grown_setP (w : World) (a : Addr) (u : Value) : w.grownBy (w.setCell a u) (some a.block) :=
  ⟨rfl, rfl, rfl, by simp [World.setCell], fun k hk hne => Below.heap_setCell _ _ _ _ (fun e => hne (by rw [e]))⟩
def I64 (n : Int) : Prop := -9223372036854775808 ≤ n ∧ n ≤ 9223372036854775807
theorem wrapI (n : Int) : I64 (IntKind.i64.wrap n) := by unfold I64; rw [IntKind.wrap_i64]; omega
theorem wrap64I (n : Int) : I64 (wrap64 n) := by unfold I64 wrap64; omega
theorem amongL (xs : List Int) {w : World} {b N n : Nat} {cs : Array Value} (hs : Src w b N) (hN : N ≤ 1000000000) (hcs : cs = (eI.all xs).toArray) (hn : n = xs.length) (h0 : 0 < xs.length ∧ xs.length ≤ 1000) (hx : ∀ x ∈ xs, -9223372036854775808 ≤ x ∧ x ≤ 9223372036854775807) :
    Calls Tryd.prog 75 #[.pointer (some ⟨b, 0, none⟩), .slice (some ⟨w.heap.size, 0, none⟩) n n] (w.alloc (.cells cs 2)) fun e w' => (∃ r : Int, e = .returned (.int .i64 r) ∧ r ∈ xs) ∧ Src w' b (N + 2) ∧ w.grownBy w' (some b) := by
  have hb := hs.lt
  refine (among_any (xs := xs) (hs.alloc _) hN (Own.lit (E := eI) (base := 0) (Nat.zero_le _) hcs hn (by have := h0.2; unfold maxLen; omega) hx).rds (Nat.le_refl _) h0 ?_).mono ?_
  · intro k hk
    simp [Value.ownBlock] at hk
    omega
  · rintro e w2 ⟨hr, h2, hg, _⟩
    exact ⟨hr, h2, grownBy_trans (World.grownBy_alloc _ _ (some b)) hg⟩
def FinP (w W : World) (b N : Nat) : Prop := Src W b N ∧ w.grownBy W (some b)
theorem FinP.set {w W : World} {b N R j : Nat} {v : Value} (h : FinP w W b N) (hb : b < w.heap.size) (hR : w.heap.size ≤ R) : FinP w (W.setCell ⟨R, j, none⟩ v) b N := by
  have hg := grown_setP W ⟨R, j, none⟩ v
  exact ⟨h.1.kept hg (fun k hk => by have := Option.some.inj hk; simp at this; omega), grown_own h.2 hg (fun k hk => by have := Option.some.inj hk; simp at this; omega)⟩
theorem FinP.more {w W : World} {b N M : Nat} (h : FinP w W b N) (hm : N ≤ M) : Src W b M ∧ w.grownBy W (some b) := ⟨h.1.mono hm, h.2⟩
end Go.Proofs.YtahkkdkdaedioaaDoor
