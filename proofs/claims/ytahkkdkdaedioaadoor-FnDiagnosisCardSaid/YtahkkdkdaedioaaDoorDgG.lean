/- The text of a fault is not empty: the program's. The condition: the library's table of powers of ten lies as its text lays it. -/
import Derived.Test.YtahkkdkdaedioaaDoorDgE
import Derived.Test.YtahkkdkdaedioaaDoorDec
import Derived.Test.YtahkkdkdaedioaaDoorPow
namespace Go.Proofs.YtahkkdkdaedioaaDoor
open Go.ChangeShapes Go.WideShapes Go.ChangeAt Go.RowKit Go.Sort
set_option linter.unusedVariables false
set_option maxRecDepth 100000
def TxtP (e : Ending) : Prop := ∃ s : ByteArray, e = .returned (.string s) ∧ 1 ≤ s.size ∧ s.size ≤ 1000
theorem txt_app {X Y : ByteArray} (h : 5 ≤ X.size ∧ X.size ≤ 100) (hy : Y.size ≤ 100) : 1 ≤ (X ++ Y).size ∧ (X ++ Y).size ≤ 1000 := by rw [ByteArray.size_append]; omega
set_option maxHeartbeats 1000000 in
theorem FaultText_c {xs : List Int} (f : FaultT) (h : fOk xs f) (hl : xs.length ≤ 12) (w : World) (ht : PowAt w) : Calls Tryd.prog 16 #[vFault f] w fun e w' => TxtP e ∧ Below w.heap.size w w' := by
  have hisf := isFault_yes f h (w.alloc (.cells #[.int .i64 f.kind, .int .i64 f.card, .int .i64 f.place, .int .i64 f.digit] 40))
  have hcard : 0 ≤ f.card ∧ f.card ≤ 11 := by have := h.1; omega
  have hcases := h.2
  obtain ⟨k, c, p, d⟩ := f
  simp only at hisf hcard hcases
  have hc1 := fun (W : World) (hW : PowAt W) => Decimal_c (n := c) (w := W) (by omega) (by omega) hW
  have hCs := itoaB_size (n := c) (by omega) (by omega)
  generalize itoaB c = C at hc1 hCs
  have hB0 := Box.new w [.int .i64 k, .int .i64 c, .int .i64 p, .int .i64 d] 40
  have hb0 : Below w.heap.size w (w.alloc (.cells #[.int .i64 k, .int .i64 c, .int .i64 p, .int .i64 d] 40)) := (Below.refl _ _).alloc (Nat.le_refl _) _
  have Hisf := Lib.hid hisf
  have Hc1 := Lib.hid hc1
  have HB0 := Lib.hid hB0
  have Hb0 := Lib.hid hb0
  have Ht := Lib.hid ht
  have Hcases := Lib.hid hcases
  obtain ⟨hcd0, hcd1⟩ := hcard
  clear hisf hc1 hB0 hb0 ht hcases h
  go_enter Tryd.func16, Tryd.ntmps16
  go_wp2_with fail
  with_reducible refine Hisf.out.mono ?_
  rintro e w1 ⟨rfl, hb1⟩
  have hB1 := HB0.out.on hb1
  have k0 := hB1.cell 0 _ rfl
  have k1 := hB1.cell 1 _ rfl
  have k2 := hB1.cell 2 _ rfl
  have k3 := hB1.cell 3 _ rfl
  have Hb1 := Lib.hid (Hb0.out.trans (hb1.mono Hb0.out.size))
  have HB1 := Lib.hid hB1
  clear hB1 hb1 HB0
  go_wp2_with fail
  with_reducible refine (inside_yes _ _ _ _ hcd0 hcd1).mono ?_
  rintro e w' ⟨rfl, rfl⟩
  go_wp2_with fail
  with_reducible refine (Hc1.out _ (Ht.out.below Hb1.out)).mono ?_
  rintro e w2 ⟨rfl, hb2⟩
  have hB2 := HB1.out.on hb2
  have j0 := hB2.cell 0 _ rfl
  have j2 := hB2.cell 2 _ rfl
  have j3 := hB2.cell 3 _ rfl
  have Hb2 := Lib.hid (Hb1.out.trans (hb2.mono Hb1.out.size))
  have Ht2 := Lib.hid (Ht.out.below Hb2.out)
  have hXs : 5 ≤ (⟨#[99, 97, 114, 100, 32]⟩ ++ C : ByteArray).size ∧ (⟨#[99, 97, 114, 100, 32]⟩ ++ C : ByteArray).size ≤ 26 := by
    rw [ByteArray.size_append]
    have h4 : (⟨#[99, 97, 114, 100, 32]⟩ : ByteArray).size = 5 := rfl
    omega
  clear hB2 hb2 HB1 Hb1 k0 k1 k2 k3 Hisf Hc1
  go_upto_region 4 with fail
  generalize (⟨#[99, 97, 114, 100, 32]⟩ ++ C : ByteArray) = X at hXs ⊢
  obtain ⟨x5, x26⟩ := hXs
  clear hCs
  rcases Hcases.out with ⟨h1, _, _⟩ | ⟨h1, h2, h3, _⟩
  · rcases h1 with rfl | rfl
    · clear Hcases
      have s1 : (X ++ ⟨#[32, 108, 111, 115, 116]⟩ : ByteArray).size ≤ 31 := by rw [ByteArray.size_append]; have h4 : (⟨#[32, 108, 111, 115, 116]⟩ : ByteArray).size = 5 := rfl; omega
      go_wp2
      go_ret
      exact ⟨⟨_, rfl, txt_app ⟨x5, by omega⟩ (by decide)⟩, Hb2.out⟩
    · clear Hcases
      have s1 : (X ++ ⟨#[32, 100, 111, 117, 98, 108, 101, 100]⟩ : ByteArray).size ≤ 34 := by rw [ByteArray.size_append]; have h4 : (⟨#[32, 100, 111, 117, 98, 108, 101, 100]⟩ : ByteArray).size = 8 := rfl; omega
      go_wp2
      go_ret
      exact ⟨⟨_, rfl, txt_app ⟨x5, by omega⟩ (by decide)⟩, Hb2.out⟩
  · subst h1
    have hp1 := fun (d : Nat) (os : Array Obj) => Decimal_c (n := p) (w := grow (redrawn w2 d) os) (by omega) (by omega) (Ht2.out.below (below_regrown _ _ _))
    have hd1 := fun (dd : Nat) (os : Array Obj) => Decimal_c (n := d) (w := grow (redrawn w2 dd) os) (by omega) (by omega) (Ht2.out.below (below_regrown _ _ _))
    have hPs := itoaB_size (n := p) (by omega) (by omega)
    have hDs := itoaB_size (n := d) (by omega) (by omega)
    generalize itoaB p = P at hp1 hPs
    generalize itoaB d = D at hd1 hDs
    have Hp1 := Lib.hid hp1
    have Hd1 := Lib.hid hd1
    have e1 : ((3 : Int) == 1) = false := rfl
    have e2 : ((3 : Int) == 2) = false := rfl
    have g0 := cell_regrown j0
    have g2 := cell_regrown j2
    have g3 := cell_regrown j3
    clear hp1 hd1 h2 h3 Hcases
    go_upto_region 9 with fail
    have a1 : ¬ 9223372036854775807 < X.size + 7 := by omega
    have a2 : ¬ 9223372036854775807 < X.size + 7 + P.size := by omega
    have a3 : ¬ 9223372036854775807 < X.size + 7 + P.size + 6 := by omega
    have a4 : ¬ 9223372036854775807 < X.size + 7 + P.size + 6 + D.size := by omega
    have y1 : (X ++ ⟨#[32, 112, 108, 97, 99, 101, 32]⟩ : ByteArray).size = X.size + 7 := by rw [ByteArray.size_append]; rfl
    have y2 : (X ++ ⟨#[32, 112, 108, 97, 99, 101, 32]⟩ ++ P : ByteArray).size = X.size + 7 + P.size := by rw [ByteArray.size_append, y1]
    have y3 : (X ++ ⟨#[32, 112, 108, 97, 99, 101, 32]⟩ ++ P ++ ⟨#[32, 114, 101, 97, 100, 32]⟩ : ByteArray).size = X.size + 7 + P.size + 6 := by rw [ByteArray.size_append, y2]; rfl
    have y4 : (X ++ ⟨#[32, 112, 108, 97, 99, 101, 32]⟩ ++ P ++ ⟨#[32, 114, 101, 97, 100, 32]⟩ ++ D : ByteArray).size = X.size + 7 + P.size + 6 + D.size := by rw [ByteArray.size_append, y3]
    have Y4 := Lib.hid y4
    clear y1 y2 y3 y4 j0 j2 j3
    refine wp_region_quiet_below (by kernel_rfl) (by kernel_rfl) ?_
    repeat ((with_reducible refine wpQuiet_step (fun K hK => ?_)); go_simp; first | ((with_reducible refine hK _ ?_); clear hK K) | (apply Exists.intro; refine ⟨fun _ => ?_, hK _ ?_⟩; ((first | (go_at_call 45; first | with_reducible exact qb_below (Hp1.out _ _) | with_reducible exact qb_below (Hd1.out _ _)))); clear hK K))
    refine wpQuiet_nil ?_
    intro _ hw'
    obtain ⟨⟨dq, osq⟩, hw''⟩ := hw'
    subst hw''
    have hbq := below_regrown w2 dq osq
    generalize grow (redrawn w2 dq) osq = wq at hbq ⊢
    have Hb3 := Lib.hid (Hb2.out.trans (hbq.mono Hb2.out.size))
    clear hbq g0 g2 g3
    go_wp2
    go_ret
    exact ⟨⟨_, rfl, by have := Y4.out; omega⟩, Hb3.out⟩
end Go.Proofs.YtahkkdkdaedioaaDoor
