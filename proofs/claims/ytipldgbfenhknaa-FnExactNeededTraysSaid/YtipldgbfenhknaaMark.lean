/- The laws' marking texts. No condition. -/
import Derived.Test.YtipldgbfenhknaaStr
namespace Go.Proofs.Ytipldgbfenhknaa
open Go.ChangeShapes Go.WideShapes Go.ChangeAt Go.RowKit
set_option linter.unusedVariables false
set_option maxRecDepth 100000
/-- the digits of k ahead of out -/
def mdig : Nat → Int → ByteArray → ByteArray
  | 0, _, out => out
  | f + 1, k, out => if 0 < k then mdig f (k / 10) (strOfNums [48 + k % 10] ++ out) else out
def mtxt (k : Int) : ByteArray := if k ≤ 0 then "m0".toUTF8 else "m".toUTF8 ++ mdig 20 k ⟨#[]⟩
theorem mdig_size : ∀ (f : Nat) (k : Int) (out : ByteArray), (mdig f k out).size ≤ out.size + f := by
  intro f
  induction f with
  | zero => intro k out; exact Nat.le_refl _
  | succ f ih =>
    intro k out
    unfold mdig
    split
    · have := ih (k / 10) (strOfNums [48 + k % 10] ++ out)
      rw [ByteArray.size_append] at this
      have h1 : (strOfNums [48 + k % 10]).size = 1 := rfl
      omega
    · omega
theorem mtxt_size (k : Int) : (mtxt k).size ≤ 9223372036854775807 := by
  unfold mtxt
  split
  · decide
  · rw [ByteArray.size_append]
    have := mdig_size 20 k ⟨#[]⟩
    have h1 : (⟨#[]⟩ : ByteArray).size = 0 := rfl
    have h2 : "m".toUTF8.size = 1 := rfl
    omega
theorem conv1 (x : Int) (w : World) : (convert 62 9 (.slice (some ⟨w.heap.size, 0, none⟩) 1 1)).run Try.prog (w.alloc (.cells #[.int .u8 x] 5)) = .ok (.string (strOfNums [x])) (w.alloc (.cells #[.int .u8 x] 5)) := by
  refine run_convert_bytes_arg _ 62 5 Try.underlying62 Try.underlying5 w.heap.size 0 1 1 [x] rfl (fun i hi => ?_) _ Try.underlying9
  have e : i = 0 := by omega
  subst e
  simp [World.cell?_alloc_new]
theorem markText_c (k : Int) (w : World) (hk : 0 ≤ k) (hl : k ≤ 9223372036854775807) :
    Calls Try.prog 23 #[.int .i64 k] w fun e w' => e = .returned (.string (mtxt k)) ∧ Below w.heap.size w w' := by
  by_cases h0 : k ≤ 0
  · have e : mtxt k = ⟨#[109, 48]⟩ := by unfold mtxt; rw [if_pos h0]; rfl
    rw [e]
    clear e
    go_enter Try.func23, Try.ntmps23
    go_wp2
    go_ret
    exact ⟨rfl, Below.refl _ _⟩
  · have e : mtxt k = ⟨#[109]⟩ ++ mdig 20 k ⟨#[]⟩ := by unfold mtxt; rw [if_neg h0]; rfl
    rw [e]
    clear e
    obtain ⟨fin, hfin⟩ : ∃ fin, mdig 20 k ⟨#[]⟩ = fin := ⟨_, rfl⟩
    rw [hfin]
    have Hfin := Lib.hid hfin
    clear hfin
    go_enter Try.func23, Try.ntmps23
    go_wp2
    go_loopw [0, 3] (fun a s wr => ∃ q : Int, 0 ≤ q ∧ q ≤ 9223372036854775807 ∧ a = .int .i64 q ∧ ∃ out : ByteArray, s = .string out ∧ out.size ≤ 20 ∧ (∃ f, Hid (q < 10 ^ f ∧ out.size + f ≤ 20 ∧ mdig f q out = fin)) ∧ Below w.heap.size w wr) (fun a _ _ => (intOf a).toNat)
    case atStart => exact ⟨k, hk, hl, rfl, ⟨#[]⟩, rfl, by decide, ⟨20, by omega, by decide, Hfin.out⟩, Below.refl _ _⟩
    case round =>
      obtain ⟨q, hq0, hq1, rfl, out, rfl, hsz, ⟨f, hf⟩, hb⟩ := hrel
      by_cases hq : 0 < q
      · have hm : 0 ≤ q % 10 ∧ q % 10 ≤ 9 := by omega
        obtain ⟨hm1, hm2⟩ := hm
        have hu : IntKind.u8.wrap (48 + q % 10) = 48 + q % 10 := by rw [IntKind.wrap_u8]; omega
        have hcv := conv1 (48 + q % 10) wr
        have hs1 : (strOfNums [48 + q % 10]).size = 1 := rfl
        obtain ⟨ch, hch⟩ : ∃ ch, strOfNums [48 + q % 10] = ch := ⟨_, rfl⟩
        rw [hch] at hcv hs1
        have Hch := Lib.hid hch
        have Hs1 := Lib.hid hs1
        have hs2 : ch.size ≤ 1 := by omega
        clear hch hs1
        go_wp2
        go_roundw
        case rel =>
          obtain ⟨h1, h2, h3⟩ := hf.out
          cases f with
          | zero => rw [Int.pow_zero] at h1; omega
          | succ f =>
            refine ⟨q / 10, by omega, by omega, rfl, ch ++ out, rfl, by rw [ByteArray.size_append]; omega, ⟨f, ?_, ?_, ?_⟩, hb.alloc hb.size _⟩
            · rw [Int.pow_succ] at h1; omega
            · rw [ByteArray.size_append]; omega
            · unfold mdig at h3
              rw [if_pos hq, Hch.out] at h3
              exact h3
        case measure => simp [intOf]; omega
      · go_wp2
        go_ret
        obtain ⟨h1, h2, h3⟩ := hf.out
        have e : mdig f q out = out := by
          cases f with
          | zero => rfl
          | succ f => unfold mdig; rw [if_neg (by omega)]
        rw [e] at h3
        subst h3
        exact ⟨rfl, hb⟩
end Go.Proofs.Ytipldgbfenhknaa
