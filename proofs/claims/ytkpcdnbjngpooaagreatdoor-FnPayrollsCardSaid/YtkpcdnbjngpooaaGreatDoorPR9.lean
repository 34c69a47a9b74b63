/- Texts that are drawn. No condition. -/
import Derived.Test.YtkpcdnbjngpooaaGreatDoorPR4
import Derived.Test.YtkpcdnbjngpooaaGreatDoorPR6
import Derived.Laws.IdiomStrings
namespace Go.Proofs.YtkpcdnbjngpooaaGreatDoor
open Go.ChangeShapes Go.WideShapes Go.ChangeAt Go.RowKit
set_option linter.unusedVariables false
set_option maxRecDepth 100000
/-- strings in a block -/
def StrAt (W : World) (nb n : Nat) : Prop := nb < W.heap.size ∧ ∀ k, k < n → ∃ s : ByteArray, W.cell? ⟨nb, k, none⟩ = some (.string s) ∧ s.size ≤ 100
theorem StrAt.grown {W W' : World} {nb n : Nat} {row : Option Nat} (h : StrAt W nb n) (hg : W.grownBy W' row) (hne : some nb ≠ row) : StrAt W' nb n :=
  ⟨Nat.lt_of_lt_of_le h.1 hg.size, fun k hk => by
    obtain ⟨s, h1, h2⟩ := h.2 k hk
    exact ⟨s, (World.cell?_of_block (w := W) (a := ⟨nb, k, none⟩) (hg.block nb h.1 hne)).trans h1, h2⟩⟩
theorem StrAt.new {w : World} {cs : Array Value} {T : TypeId} {n : Nat} (h : ∀ k, k < n → ∃ s : ByteArray, cs[k]? = some (.string s) ∧ s.size ≤ 100) : StrAt (w.alloc (.cells cs T)) w.heap.size n :=
  ⟨by simp, fun k hk => by
    obtain ⟨s, h1, h2⟩ := h k hk
    exact ⟨s, by rw [cell_of_row _ w.heap.size k _ _ _ (heap_alloc_new w _)]; exact h1, h2⟩⟩
theorem kept_heap {w w' : World} {X : Nat} {o : Obj} {row : Option Nat} (h : w.heap[X]? = some o) (hg : w.grownBy w' row) (hne : some X ≠ row) : w'.heap[X]? = some o := by
  rw [hg.block X (Array.getElem?_eq_some_iff.1 h).1 hne]; exact h
theorem conv_byte2 {n m : Int} (hn : 0 ≤ n ∧ n ≤ 255) (hm : 0 ≤ m ∧ m ≤ 255) : ∃ s0 : ByteArray, s0.size = 2 ∧ ∀ (W : World) (k : Nat), W.cell? ⟨k, 0, none⟩ = some (.int .u8 n) → W.cell? ⟨k, 1, none⟩ = some (.int .u8 m) → (convert 22 9 (.slice (some ⟨k, 0, none⟩) 2 2)).run Tryz.prog W = .ok (.string s0) W := by
  refine ⟨⟨[UInt8.ofNat n.toNat, UInt8.ofNat m.toNat].toArray⟩, rfl, fun W k h h2 => ?_⟩
  refine run_convert_bytes_back W 22 9 5 ⟨k, 0, none⟩ 2 [UInt8.ofNat n.toNat, UInt8.ofNat m.toNat] Tryz.underlying22 Tryz.underlying5 Tryz.underlying9 (fun j hj => ?_)
  have hj0 : j = 0 ∨ j = 1 := by simp at hj; omega
  rcases hj0 with rfl | rfl
  · rw [Addr.add_lit, Nat.add_zero, h]
    congr 2
    show n = ((UInt8.ofNat n.toNat).toNat : Int)
    simp
    omega
  · rw [Addr.add_lit, h2]
    congr 2
    show m = ((UInt8.ofNat m.toNat).toNat : Int)
    simp
    omega
theorem Src.drew {w : World} {b N : Nat} (h : Src w b N) : Src w.drew b N := h.kept (grownBy_drew w none) (fun k hk => by cases hk)
theorem text_any {w : World} {b N nb n : Nat} (hs : Src w b N) (hN : N ≤ 1000000) (hst : StrAt w nb n) (hne : nb ≠ b) (hn : 1 ≤ n ∧ n ≤ 100) :
    Calls Tryz.prog 42 #[.pointer (some ⟨b, 0, none⟩), .slice (some ⟨nb, 0, none⟩) n n] w fun e w' => (∃ s : ByteArray, e = .returned (.string s) ∧ s.size ≤ 100) ∧ Src w' b (N + 2) ∧ w.grownBy w' (some b) := by
  go_enter Tryz.func42, Tryz.ntmps42
  go_wp2_with fail
  refine (pick_any (n : Int) hs (by omega) (by omega)).mono ?_
  rintro e w1 ⟨⟨r, rfl, hr0, hr1, _⟩, hs1, hg1, hz1⟩
  have hr2 := hr1 (by omega)
  obtain ⟨k, rfl⟩ := Int.eq_ofNat_of_zero_le hr0
  obtain ⟨s, hcs, hss⟩ := (hst.grown hg1 (fun h => hne (Option.some.inj h))).2 k (by omega)
  have Hs1 := Lib.hid hs1
  have Hg1 := Lib.hid hg1
  have Hss := Lib.hid hss
  clear hr1 hz1 hs1 hg1 hst hss
  go_wp2
  go_ret
  exact ⟨⟨_, rfl, Hss.out⟩, Hs1.out.mono (by omega), Hg1.out⟩
end Go.Proofs.YtkpcdnbjngpooaaGreatDoor
