/- The law 'the program's FillPosts returns what the reference's returns'. No condition. -/
import Derived.Test.YtfojfcmjoacbgaaFillI2
import Derived.Test.YtfojfcmjoacbgaaLaw
import Derived.Test.YtfojfcmjoacbgaaMarkO
namespace Go.Proofs.Ytfojfcmjoacbgaa
open Go.ChangeShapes Go.WideShapes Go.ChangeAt Go.RowKit
set_option linter.unusedVariables false
set_option maxRecDepth 100000
theorem walk1_FnExactFillPosts (w : World) {x0 : List OperatorT} {x1 : List Int} {r0 : List Int} {r1 : Int} {v0 : Value} (a0 : RdOperatorS w.heap.size w v0 x0) {v1 : Value} (a1 : RdInt64S w.heap.size w v1 x1) (bg0 : cntInt64S r0 ≤ 1000000000)
    (hS : ∀ (w : World), ∀ (B0 : Nat) (v0 : Value), B0 ≤ w.heap.size → RdOperatorS B0 w v0 x0 → ∀ (B1 : Nat) (v1 : Value), B1 ≤ w.heap.size → RdInt64S B1 w v1 x1 → Calls Try.prog 38 #[v0, v1] w fun e w' => ∃ u0, e = .returned (.tuple #[u0, .int .i64 r1]) ∧ OwnInt64S w.heap.size w' u0 r0 ∧ Below w.heap.size w w')
    (hI : ∀ (w : World), ∀ (B0 : Nat) (v0 : Value), B0 ≤ w.heap.size → RdOperatorS B0 w v0 x0 → ∀ (B1 : Nat) (v1 : Value), B1 ≤ w.heap.size → RdInt64S B1 w v1 x1 → Calls Try.prog 39 #[v0, v1] w fun e w' => ∃ u0, e = .returned (.tuple #[u0, .int .i64 r1]) ∧ OwnInt64S w.heap.size w' u0 r0 ∧ Below w.heap.size w w') (c0 : x1.length ≤ 1048576) (c1 : szOperatorS x0 ≤ 1048576) :
    Calls Try.prog 11 #[v0, v1] w fun e w' => e = .returned (.bool true) ∧ Below w.heap.size w w' := by
  have hB0 : Below w.heap.size w w := Below.refl _ _
  obtain ⟨ao1, cap1, rfl⟩ := a1.shape
  have Bg0 := Lib.hid bg0
  clear bg0
  have C0 := Lib.hid c0
  have C1 := Lib.hid c1
  have N1 := Lib.hid (szOperatorS_nonneg x0)
  clear c1
  go_enter Try.func11, Try.ntmps11
  go_wp2_with fail
  refine (szOperatorS_c a0 (by omega) C1.out).mono ?_
  rintro e w1 ⟨rfl, hb1⟩
  have hs1 : w.heap.size ≤ w1.heap.size := hb1.size
  have hB1 : Below w.heap.size w w1 := hB0.trans (hb1.mono hB0.size)
  replace a0 := a0.below hb1 (by omega)
  replace a1 := a1.below hb1 (by omega)
  have L1 := C1.out
  go_wp2_with fail
  refine (toOperatorS_c a0 (by have := C1.out; have := N1.out; omega)).mono ?_
  rintro e w2 ⟨vt1_0, rfl, t1_0, hb2⟩
  have hs2 : w1.heap.size ≤ w2.heap.size := hb2.size
  have hB2 : Below w.heap.size w w2 := hB1.trans (hb2.mono hB1.size)
  replace a0 := a0.below hb2 (by omega)
  replace a1 := a1.below hb2 (by omega)
  have rt1_0 := t1_0.rds
  clear t1_0
  go_wp2_with fail
  refine (toInt64S_c a1 (by have := C0.out; show (x1.length : Int) ≤ 1048576; omega)).mono ?_
  rintro e w3 ⟨vt2_1, rfl, t2_1, hb3⟩
  have hs3 : w2.heap.size ≤ w3.heap.size := hb3.size
  have hB3 : Below w.heap.size w w3 := hB2.trans (hb3.mono hB2.size)
  replace a0 := a0.below hb3 (by omega)
  replace a1 := a1.below hb3 (by omega)
  replace rt1_0 := rt1_0.below hb3 (by omega)
  have rt2_1 := t2_1.rds
  clear t2_1
  go_wp2_with fail
  refine (hS w3 _ _ (by omega) rt1_0 _ _ (by omega) rt2_1).mono ?_
  rintro e w4 ⟨Vw0, rfl, ow0, hb4⟩
  have hs4 : w3.heap.size ≤ w4.heap.size := hb4.size
  have hB4 : Below w.heap.size w w4 := hB3.trans (hb4.mono hB3.size)
  replace a0 := a0.below hb4 (by omega)
  replace a1 := a1.below hb4 (by omega)
  replace rt1_0 := rt1_0.below hb4 (by omega)
  replace rt2_1 := rt2_1.below hb4 (by omega)
  replace ow0 := ow0.top
  have rw0 := ow0.rds
  clear ow0
  go_wp2_with fail
  refine (toOperatorS_c a0 (by have := C1.out; have := N1.out; omega)).mono ?_
  rintro e w5 ⟨Vx0, rfl, ox0, hb5⟩
  have hs5 : w4.heap.size ≤ w5.heap.size := hb5.size
  have hB5 : Below w.heap.size w w5 := hB4.trans (hb5.mono hB4.size)
  replace a0 := a0.below hb5 (by omega)
  replace a1 := a1.below hb5 (by omega)
  replace rt1_0 := rt1_0.below hb5 (by omega)
  replace rt2_1 := rt2_1.below hb5 (by omega)
  replace rw0 := rw0.below hb5 (by omega)
  replace ox0 := ox0.top
  have rx0 := ox0.rds
  go_wp2_with fail
  refine (toInt64S_c a1 (by have := C0.out; show (x1.length : Int) ≤ 1048576; omega)).mono ?_
  rintro e w6 ⟨Vx1, rfl, ox1, hb6⟩
  have hs6 : w5.heap.size ≤ w6.heap.size := hb6.size
  have hB6 : Below w.heap.size w w6 := hB5.trans (hb6.mono hB5.size)
  replace a0 := a0.below hb6 (by omega)
  replace a1 := a1.below hb6 (by omega)
  replace rt1_0 := rt1_0.below hb6 (by omega)
  replace rt2_1 := rt2_1.below hb6 (by omega)
  replace rw0 := rw0.below hb6 (by omega)
  replace rx0 := rx0.below hb6 (by omega)
  replace ox0 := ox0.below hb6 (by omega)
  replace ox1 := ox1.top
  have rx1 := ox1.rds
  go_wp2_with fail
  refine (hI w6 _ _ (by omega) rx0 _ _ (by omega) rx1).mono ?_
  rintro e w7 ⟨Vg0, rfl, og0, hb7⟩
  have hs7 : w6.heap.size ≤ w7.heap.size := hb7.size
  have hB7 : Below w.heap.size w w7 := hB6.trans (hb7.mono hB6.size)
  replace a0 := a0.below hb7 (by omega)
  replace a1 := a1.below hb7 (by omega)
  replace rt1_0 := rt1_0.below hb7 (by omega)
  replace rt2_1 := rt2_1.below hb7 (by omega)
  replace rw0 := rw0.below hb7 (by omega)
  replace rx0 := rx0.below hb7 (by omega)
  replace ox0 := ox0.below hb7 (by omega)
  replace rx1 := rx1.below hb7 (by omega)
  replace ox1 := ox1.below hb7 (by omega)
  replace og0 := og0.top
  have rg0 := og0.rds
  go_wp2_with fail
  refine (eqInt64S_c rg0 rw0).mono ?_
  rintro e w8 ⟨rfl, hb8⟩
  have hs8 : w7.heap.size ≤ w8.heap.size := hb8.size
  have hB8 : Below w.heap.size w w8 := hB7.trans (hb8.mono hB7.size)
  replace a0 := a0.below hb8 (by omega)
  replace a1 := a1.below hb8 (by omega)
  replace rt1_0 := rt1_0.below hb8 (by omega)
  replace rt2_1 := rt2_1.below hb8 (by omega)
  replace rw0 := rw0.below hb8 (by omega)
  replace rx0 := rx0.below hb8 (by omega)
  replace ox0 := ox0.below hb8 (by omega)
  replace rx1 := rx1.below hb8 (by omega)
  replace ox1 := ox1.below hb8 (by omega)
  replace rg0 := rg0.below hb8 (by omega)
  replace og0 := og0.below hb8 (by omega)
  go_wp2_with fail
  refine (toOperatorS_c a0 (by have := C1.out; have := N1.out; omega)).mono ?_
  rintro e w9 ⟨vt8_9, rfl, t8_9, hb9⟩
  have hs9 : w8.heap.size ≤ w9.heap.size := hb9.size
  have hB9 : Below w.heap.size w w9 := hB8.trans (hb9.mono hB8.size)
  replace a0 := a0.below hb9 (by omega)
  replace a1 := a1.below hb9 (by omega)
  replace rt1_0 := rt1_0.below hb9 (by omega)
  replace rt2_1 := rt2_1.below hb9 (by omega)
  replace rw0 := rw0.below hb9 (by omega)
  replace rx0 := rx0.below hb9 (by omega)
  replace ox0 := ox0.below hb9 (by omega)
  replace rx1 := rx1.below hb9 (by omega)
  replace ox1 := ox1.below hb9 (by omega)
  replace rg0 := rg0.below hb9 (by omega)
  replace og0 := og0.below hb9 (by omega)
  have rt8_9 := t8_9.rds
  clear t8_9
  go_wp2_with fail
  refine (eqOperatorS_c rx0 rt8_9).mono ?_
  rintro e w10 ⟨rfl, hb10⟩
  have hs10 : w9.heap.size ≤ w10.heap.size := hb10.size
  have hB10 : Below w.heap.size w w10 := hB9.trans (hb10.mono hB9.size)
  replace a0 := a0.below hb10 (by omega)
  replace a1 := a1.below hb10 (by omega)
  replace rt1_0 := rt1_0.below hb10 (by omega)
  replace rt2_1 := rt2_1.below hb10 (by omega)
  replace rw0 := rw0.below hb10 (by omega)
  replace rx0 := rx0.below hb10 (by omega)
  replace ox0 := ox0.below hb10 (by omega)
  replace rx1 := rx1.below hb10 (by omega)
  replace ox1 := ox1.below hb10 (by omega)
  replace rg0 := rg0.below hb10 (by omega)
  replace og0 := og0.below hb10 (by omega)
  replace rt8_9 := rt8_9.below hb10 (by omega)
  go_wp2_with fail
  refine (toInt64S_c a1 (by have := C0.out; show (x1.length : Int) ≤ 1048576; omega)).mono ?_
  rintro e w11 ⟨vt10_9, rfl, t10_9, hb11⟩
  have hs11 : w10.heap.size ≤ w11.heap.size := hb11.size
  have hB11 : Below w.heap.size w w11 := hB10.trans (hb11.mono hB10.size)
  replace a0 := a0.below hb11 (by omega)
  replace a1 := a1.below hb11 (by omega)
  replace rt1_0 := rt1_0.below hb11 (by omega)
  replace rt2_1 := rt2_1.below hb11 (by omega)
  replace rw0 := rw0.below hb11 (by omega)
  replace rx0 := rx0.below hb11 (by omega)
  replace ox0 := ox0.below hb11 (by omega)
  replace rx1 := rx1.below hb11 (by omega)
  replace ox1 := ox1.below hb11 (by omega)
  replace rg0 := rg0.below hb11 (by omega)
  replace og0 := og0.below hb11 (by omega)
  replace rt8_9 := rt8_9.below hb11 (by omega)
  have rt10_9 := t10_9.rds
  clear t10_9
  go_wp2_with fail
  refine (eqInt64S_c rx1 rt10_9).mono ?_
  rintro e w12 ⟨rfl, hb12⟩
  have hs12 : w11.heap.size ≤ w12.heap.size := hb12.size
  have hB12 : Below w.heap.size w w12 := hB11.trans (hb12.mono hB11.size)
  replace a0 := a0.below hb12 (by omega)
  replace a1 := a1.below hb12 (by omega)
  replace rt1_0 := rt1_0.below hb12 (by omega)
  replace rt2_1 := rt2_1.below hb12 (by omega)
  replace rw0 := rw0.below hb12 (by omega)
  replace rx0 := rx0.below hb12 (by omega)
  replace ox0 := ox0.below hb12 (by omega)
  replace rx1 := rx1.below hb12 (by omega)
  replace ox1 := ox1.below hb12 (by omega)
  replace rg0 := rg0.below hb12 (by omega)
  replace og0 := og0.below hb12 (by omega)
  replace rt8_9 := rt8_9.below hb12 (by omega)
  replace rt10_9 := rt10_9.below hb12 (by omega)
  go_wp2_with fail
  refine (markOperatorS_c _ ox0 (by omega) (by first | omega | (have := cntOperatorS_le x0; have := cntInt64S_le x1; have := C0.out; have : szInt64S x1 ≤ 1048576 := (by show (x1.length : Int) ≤ 1048576; omega); have := C1.out; have := N1.out;  omega))).mono ?_
  rintro e w13 ⟨rfl, ox0, hw13, hg13⟩
  have hb13 := hw13.below (by omega)
  have hs13 : w12.heap.size ≤ w13.heap.size := hb13.size
  have hB13 : Below w.heap.size w w13 := hB12.trans (hb13.mono (by have := hB4.size; omega))
  replace a0 := a0.below hb13 (by omega)
  replace a1 := a1.below hb13 (by omega)
  replace rt1_0 := rt1_0.below hb13 (by omega)
  replace rt2_1 := rt2_1.below hb13 (by omega)
  replace rw0 := rw0.below hb13 (by omega)
  clear rx0
  replace ox1 := ox1.within hw13 (by omega)
  replace rx1 := ox1.rds
  replace og0 := og0.within hw13 (by omega)
  replace rg0 := og0.rds
  clear rt8_9
  clear rt10_9
  have rx0 := ox0.rds
  go_wp2_with fail
  refine (markInt64S_c _ ox1 (by omega) (by first | omega | (have := cntOperatorS_le x0; have := cntInt64S_le x1; have := C0.out; have : szInt64S x1 ≤ 1048576 := (by show (x1.length : Int) ≤ 1048576; omega); have := C1.out; have := N1.out;  omega))).mono ?_
  rintro e w14 ⟨rfl, ox1, hw14, hg14⟩
  have hb14 := hw14.below (by omega)
  have hs14 : w13.heap.size ≤ w14.heap.size := hb14.size
  have hB14 : Below w.heap.size w w14 := hB13.trans (hb14.mono (by have := hB5.size; omega))
  replace a0 := a0.below hb14 (by omega)
  replace a1 := a1.below hb14 (by omega)
  replace rt1_0 := rt1_0.below hb14 (by omega)
  replace rt2_1 := rt2_1.below hb14 (by omega)
  replace rw0 := rw0.below hb14 (by omega)
  clear ox0
  clear rx1
  replace og0 := og0.within hw14 (by omega)
  replace rg0 := og0.rds
  clear rx0
  have rx1 := ox1.rds
  go_wp2_with fail
  refine (eqInt64S_c rg0 rw0).mono ?_
  rintro e w15 ⟨rfl, hb15⟩
  have hs15 : w14.heap.size ≤ w15.heap.size := hb15.size
  have hB15 : Below w.heap.size w w15 := hB14.trans (hb15.mono hB14.size)
  replace a0 := a0.below hb15 (by omega)
  replace a1 := a1.below hb15 (by omega)
  replace rt1_0 := rt1_0.below hb15 (by omega)
  replace rt2_1 := rt2_1.below hb15 (by omega)
  replace rw0 := rw0.below hb15 (by omega)
  replace ox1 := ox1.below hb15 (by omega)
  replace rg0 := rg0.below hb15 (by omega)
  replace og0 := og0.below hb15 (by omega)
  replace rx1 := rx1.below hb15 (by omega)
  go_wp2_with fail
  refine (markInt64S_c _ og0 (by omega) (by first | omega | (have := Bg0.out; omega))).mono ?_
  rintro e w16 ⟨rfl, og0, hw16, hg16⟩
  have hb16 := hw16.below (by omega)
  have hs16 : w15.heap.size ≤ w16.heap.size := hb16.size
  have hB16 : Below w.heap.size w w16 := hB15.trans (hb16.mono (by have := hB6.size; omega))
  replace a0 := a0.below hb16 (by omega)
  replace a1 := a1.below hb16 (by omega)
  replace rt1_0 := rt1_0.below hb16 (by omega)
  replace rt2_1 := rt2_1.below hb16 (by omega)
  replace rw0 := rw0.below hb16 (by omega)
  clear ox1
  clear rg0
  clear rx1
  have rg0 := og0.rds
  go_wp2_with fail
  refine (heldInt64S_c _ rg0 (by omega) (by first | omega | (have := Bg0.out; omega))).mono ?_
  rintro e w17 ⟨rfl, hb17⟩
  have hs17 : w16.heap.size ≤ w17.heap.size := hb17.size
  have hB17 : Below w.heap.size w w17 := hB16.trans (hb17.mono hB16.size)
  replace a0 := a0.below hb17 (by omega)
  replace a1 := a1.below hb17 (by omega)
  replace rt1_0 := rt1_0.below hb17 (by omega)
  replace rt2_1 := rt2_1.below hb17 (by omega)
  replace rw0 := rw0.below hb17 (by omega)
  replace og0 := og0.below hb17 (by omega)
  replace rg0 := rg0.below hb17 (by omega)
  go_wp2_with fail
  refine (toOperatorS_c a0 (by have := C1.out; have := N1.out; omega)).mono ?_
  rintro e w18 ⟨vt17_0, rfl, t17_0, hb18⟩
  have hs18 : w17.heap.size ≤ w18.heap.size := hb18.size
  have hB18 : Below w.heap.size w w18 := hB17.trans (hb18.mono hB17.size)
  replace a0 := a0.below hb18 (by omega)
  replace a1 := a1.below hb18 (by omega)
  replace rt1_0 := rt1_0.below hb18 (by omega)
  replace rt2_1 := rt2_1.below hb18 (by omega)
  replace rw0 := rw0.below hb18 (by omega)
  replace og0 := og0.below hb18 (by omega)
  replace rg0 := rg0.below hb18 (by omega)
  have rt17_0 := t17_0.rds
  clear t17_0
  go_wp2_with fail
  refine (toInt64S_c a1 (by have := C0.out; show (x1.length : Int) ≤ 1048576; omega)).mono ?_
  rintro e w19 ⟨vt18_1, rfl, t18_1, hb19⟩
  have hs19 : w18.heap.size ≤ w19.heap.size := hb19.size
  have hB19 : Below w.heap.size w w19 := hB18.trans (hb19.mono hB18.size)
  replace a0 := a0.below hb19 (by omega)
  replace a1 := a1.below hb19 (by omega)
  replace rt1_0 := rt1_0.below hb19 (by omega)
  replace rt2_1 := rt2_1.below hb19 (by omega)
  replace rw0 := rw0.below hb19 (by omega)
  replace og0 := og0.below hb19 (by omega)
  replace rg0 := rg0.below hb19 (by omega)
  replace rt17_0 := rt17_0.below hb19 (by omega)
  have rt18_1 := t18_1.rds
  clear t18_1
  go_wp2_with fail
  refine (hI w19 _ _ (by omega) rt17_0 _ _ (by omega) rt18_1).mono ?_
  rintro e w20 ⟨Vh0, rfl, oh0, hb20⟩
  have hs20 : w19.heap.size ≤ w20.heap.size := hb20.size
  have hB20 : Below w.heap.size w w20 := hB19.trans (hb20.mono hB19.size)
  replace a0 := a0.below hb20 (by omega)
  replace a1 := a1.below hb20 (by omega)
  replace rt1_0 := rt1_0.below hb20 (by omega)
  replace rt2_1 := rt2_1.below hb20 (by omega)
  replace rw0 := rw0.below hb20 (by omega)
  replace og0 := og0.below hb20 (by omega)
  replace rg0 := rg0.below hb20 (by omega)
  replace rt17_0 := rt17_0.below hb20 (by omega)
  replace rt18_1 := rt18_1.below hb20 (by omega)
  replace oh0 := oh0.top
  have rh0 := oh0.rds
  clear oh0
  go_wp2_with fail
  refine (eqInt64S_c rh0 rw0).mono ?_
  rintro e w21 ⟨rfl, hb21⟩
  have hs21 : w20.heap.size ≤ w21.heap.size := hb21.size
  have hB21 : Below w.heap.size w w21 := hB20.trans (hb21.mono hB20.size)
  replace a0 := a0.below hb21 (by omega)
  replace a1 := a1.below hb21 (by omega)
  replace rt1_0 := rt1_0.below hb21 (by omega)
  replace rt2_1 := rt2_1.below hb21 (by omega)
  replace rw0 := rw0.below hb21 (by omega)
  replace og0 := og0.below hb21 (by omega)
  replace rg0 := rg0.below hb21 (by omega)
  replace rt17_0 := rt17_0.below hb21 (by omega)
  replace rt18_1 := rt18_1.below hb21 (by omega)
  replace rh0 := rh0.below hb21 (by omega)
  go_wp2_with fail
  refine (heldInt64S_c _ rg0 (by omega) (by first | omega | (have := Bg0.out; omega))).mono ?_
  rintro e w22 ⟨rfl, hb22⟩
  have hs22 : w21.heap.size ≤ w22.heap.size := hb22.size
  have hB22 : Below w.heap.size w w22 := hB21.trans (hb22.mono hB21.size)
  replace a0 := a0.below hb22 (by omega)
  replace a1 := a1.below hb22 (by omega)
  replace rt1_0 := rt1_0.below hb22 (by omega)
  replace rt2_1 := rt2_1.below hb22 (by omega)
  replace rw0 := rw0.below hb22 (by omega)
  replace og0 := og0.below hb22 (by omega)
  replace rg0 := rg0.below hb22 (by omega)
  replace rt17_0 := rt17_0.below hb22 (by omega)
  replace rt18_1 := rt18_1.below hb22 (by omega)
  replace rh0 := rh0.below hb22 (by omega)
  go_wp2
  go_ret
  exact ⟨rfl, hB22⟩
theorem walk0_FnExactFillPosts (w : World) {x0 : List OperatorT} {x1 : List Int} {r0 : List Int} {r1 : Int} {v0 : Value} (a0 : RdOperatorS w.heap.size w v0 x0) {v1 : Value} (a1 : RdInt64S w.heap.size w v1 x1) (bg0 : cntInt64S r0 ≤ 1000000000)
    (hS : (x1.length ≤ 1048576) → (szOperatorS x0 ≤ 1048576) → ∀ (w : World), ∀ (B0 : Nat) (v0 : Value), B0 ≤ w.heap.size → RdOperatorS B0 w v0 x0 → ∀ (B1 : Nat) (v1 : Value), B1 ≤ w.heap.size → RdInt64S B1 w v1 x1 → Calls Try.prog 38 #[v0, v1] w fun e w' => ∃ u0, e = .returned (.tuple #[u0, .int .i64 r1]) ∧ OwnInt64S w.heap.size w' u0 r0 ∧ Below w.heap.size w w')
    (hI : (x1.length ≤ 1048576) → (szOperatorS x0 ≤ 1048576) → ∀ (w : World), ∀ (B0 : Nat) (v0 : Value), B0 ≤ w.heap.size → RdOperatorS B0 w v0 x0 → ∀ (B1 : Nat) (v1 : Value), B1 ≤ w.heap.size → RdInt64S B1 w v1 x1 → Calls Try.prog 39 #[v0, v1] w fun e w' => ∃ u0, e = .returned (.tuple #[u0, .int .i64 r1]) ∧ OwnInt64S w.heap.size w' u0 r0 ∧ Below w.heap.size w w') :
    Calls Try.prog 11 #[v0, v1] w fun e w' => e = .returned (.bool true) ∧ Below w.heap.size w w' := by
  by_cases c0 : x1.length ≤ 1048576
  · have _t := True.intro
    by_cases c1 : szOperatorS x0 ≤ 1048576
    · have _t := True.intro
      exact walk1_FnExactFillPosts w a0 a1 bg0 (hS c0 c1) (hI c0 c1) c0 c1
    · clear hS hI
      obtain ⟨ao1, cap1, rfl⟩ := a1.shape
      have C1 := Lib.hid c1
      clear c1
      go_enter Try.func11, Try.ntmps11
      go_wp2_with fail
      refine (szOperatorS_no a0 (by omega) (by have := C1.out; omega)).mono ?_
      rintro e w' ⟨rfl, hb1⟩
      go_wp2
      go_ret
      exact ⟨rfl, hb1⟩
  · clear hS hI
    obtain ⟨ao1, cap1, rfl⟩ := a1.shape
    go_enter Try.func11, Try.ntmps11
    go_wp2
    go_ret
    exact ⟨rfl, Below.refl _ _⟩
theorem FPR_len (xs : List OperatorT) (ps : List Int) : (FPR xs ps).length ≤ 8 := by
  unfold FPR
  split
  · rename_i h
    have hm8 := (postsB_parts (PCode_ok h).2).1
    cases hl : leaves xs ps ps.length [] with
    | nil => simp
    | cons l ls =>
      have := leaves_len xs ps ps.length [] l (by rw [hl]; exact List.mem_cons_self ..)
      show l.length ≤ 8
      rw [this]
      simpa using hm8
  · simp
theorem walk_FnExactFillPosts (w : World) {x0 : List OperatorT} {v0 : Value} (a0 : RdOperatorS w.heap.size w v0 x0) {x1 : List Int} {v1 : Value} (a1 : RdInt64S w.heap.size w v1 x1) :
    Calls Try.prog 11 #[v0, v1] w fun e w' => e = .returned (.bool true) ∧ Below w.heap.size w w' :=
  walk0_FnExactFillPosts (r0 := FPR x0 x1) (r1 := FPC x0 x1) w a0 a1 (by have := FPR_len x0 x1; unfold cntInt64S; omega) (fun _ _ w A v h1 ha B u h2 hb => sFillPosts_c h1 h2 ha hb) (fun _ _ w A v h1 ha B u h2 hb => FillPosts_c h1 h2 ha hb)
namespace fnExactFillPosts
theorem own : ownKnob Try.prog.godebug = none := by kernel_rfl
set_option maxRecDepth 100000 in
theorem lifted (os : Os) (started : os.Started) (H : Type) (enc : TypeId × Value → H) :
    ReturnsInHanded {} Try.checked os 11 .any (Rows.fnExactFillPostsSpec.pre6 enc Try.prog Try.f11 Rows.fnExactFillPostsRow.domain false) (Rows.fnExactFillPostsSpec.post enc Try.prog Try.f11 false true false false) := by
  refine returnsInHanded_of_change_sized (C := Try.checked) own started (by kernel_rfl) Try.func11
    (ChangeSpec.witness6 (enc := enc) (C := Try.checked) false ⟨#[], #[.slice none 0 0, .slice none 0 0], []⟩ 8 (by kernel_rfl) (by kernel_rfl) (by kernel_rfl) (by kernel_rfl)) ?_
  intro W base args ds gs before hval0 hW hcnd hsz _
  have hval : ∀ (j : Nat) t v, Try.f11.params[j]? = some t → args[j]? = some v → Value.okWide Try.prog W .any base t v := hval0
  have hW' := hW
  obtain ⟨p, q, hA0, hV, rfl, hfz, hnd⟩ := hW
  have hA : DataW.TrodAll enc Try.prog W 0 (fun _ => true) true Try.f11.params.toList args.toList ds p := hA0
  rw [Try.params11] at hA hval
  obtain ⟨v0, vs0, d0, ds0, p0, s0, hargs, rfl, rfl, h0, q0⟩ := trodAll_cons hA
  obtain ⟨v1, vs1, d1, ds1, p1, s1, rfl, rfl, rfl, h1, q1⟩ := trodAll_cons q0
  obtain ⟨rfl, rfl, rfl⟩ := trodAll_nil q1
  obtain rfl : args = #[v0, v1] := by cases args; simp_all
  obtain ⟨x0, r0⟩ := openOperatorS (hval 0 22 v0 rfl rfl) h0
  obtain ⟨x1, r1, _⟩ := open_rdI Try.underlying34 Try.underlying2 (by kernel_rfl) (hval 1 34 v1 rfl rfl) h1
  exact (walk_FnExactFillPosts W r0 r1).mono fun e W' hh => ⟨_, hh.1, law_post (f := Try.f11) (s := Rows.fnExactFillPostsSpec) (T := 4) (by kernel_rfl) (of_decide_eq_true (by kernel_rfl)) rfl rfl Try.underlying4 rfl hW' hh.2⟩
theorem proved : Rows.FnExactFillPostsSaid :=
  OpenClaim.holds_of_wide 11 Try.f11 rfl rfl rfl rfl rfl rfl rfl ⟨rfl, rfl, rfl, rfl, rfl⟩ rfl rfl rfl rfl rfl (by kernel_rfl) Try.func11 (by kernel_rfl)
    (of_decide_eq_true (by kernel_rfl)) (by unfold Func.isWrapper; first | (rw [if_pos (by decide +kernel)]; kernel_rfl) | (rw [if_neg (by decide +kernel)]; exact ⟨rfl, rfl⟩))
    (fun os started H enc _ => lifted os started H enc)
end fnExactFillPosts
#print axioms fnExactFillPosts.proved
end Go.Proofs.Ytfojfcmjoacbgaa
