/- The law 'the program's TableSums returns what the reference's returns'. No condition. -/
import Derived.Test.YtljjilgpmckccaaTab3
import Derived.Test.YtljjilgpmckccaaMatL
namespace Go.Proofs.Ytljjilgpmckccaa
open Go.ChangeShapes Go.WideShapes Go.ChangeAt Go.RowKit
set_option linter.unusedVariables false
set_option maxRecDepth 100000
theorem walk1_FnExactTableSums (w : World) {x0 : List (List Int)} {r0 : List Int} {r1 : List Int} {r2 : Int} {v0 : Value} (a0 : RdInt64SS w.heap.size w v0 x0) (bg0 : cntInt64S r0 ≤ 1000000000) (bg1 : cntInt64S r1 ≤ 1000000000)
    (hS : ∀ (w : World), ∀ (B0 : Nat) (v0 : Value), B0 ≤ w.heap.size → RdInt64SS B0 w v0 x0 → Calls Try.prog 38 #[v0] w fun e w' => ∃ u0 u1, e = .returned (.tuple #[u0, u1, .int .i64 r2]) ∧ OwnInt64S w.heap.size w' u0 r0 ∧ OwnInt64S w.heap.size w' u1 r1 ∧ (u1.ownBlock = none ∨ u1.ownBlock ≠ u0.ownBlock) ∧ Below w.heap.size w w')
    (hI : ∀ (w : World), ∀ (B0 : Nat) (v0 : Value), B0 ≤ w.heap.size → RdInt64SS B0 w v0 x0 → Calls Try.prog 40 #[v0] w fun e w' => ∃ u0 u1, e = .returned (.tuple #[u0, u1, .int .i64 r2]) ∧ OwnInt64S w.heap.size w' u0 r0 ∧ OwnInt64S w.heap.size w' u1 r1 ∧ (u1.ownBlock = none ∨ u1.ownBlock ≠ u0.ownBlock) ∧ Below w.heap.size w w') (c0 : szInt64SS x0 ≤ 1048576) :
    Calls Try.prog 11 #[v0] w fun e w' => e = .returned (.bool true) ∧ Below w.heap.size w w' := by
  have hB0 : Below w.heap.size w w := Below.refl _ _
  have Bg0 := Lib.hid bg0
  clear bg0
  have Bg1 := Lib.hid bg1
  clear bg1
  have C0 := Lib.hid c0
  have N0 := Lib.hid (szInt64SS_nonneg x0)
  clear c0
  go_enter Try.func11, Try.ntmps11
  go_wp2_with fail
  refine (szInt64SS_c a0 (by omega) C0.out).mono ?_
  rintro e w1 ⟨rfl, hb1⟩
  have hs1 : w.heap.size ≤ w1.heap.size := hb1.size
  have hB1 : Below w.heap.size w w1 := hB0.trans (hb1.mono hB0.size)
  replace a0 := a0.below hb1 (by omega)
  have L0 := C0.out
  go_wp2_with fail
  refine (toInt64SS_c a0 (by have := C0.out; have := N0.out; omega)).mono ?_
  rintro e w2 ⟨vt1_0, rfl, t1_0, hb2⟩
  have hs2 : w1.heap.size ≤ w2.heap.size := hb2.size
  have hB2 : Below w.heap.size w w2 := hB1.trans (hb2.mono hB1.size)
  replace a0 := a0.below hb2 (by omega)
  have rt1_0 := t1_0.rds
  clear t1_0
  go_wp2_with fail
  refine (hS w2 _ _ (by omega) rt1_0).mono ?_
  rintro e w3 ⟨Vw0, Vw1, rfl, ow0, ow1, ne_w1, hb3⟩
  have hs3 : w2.heap.size ≤ w3.heap.size := hb3.size
  have hB3 : Below w.heap.size w w3 := hB2.trans (hb3.mono hB2.size)
  replace a0 := a0.below hb3 (by omega)
  replace rt1_0 := rt1_0.below hb3 (by omega)
  have ne_w0 := ne_swap ne_w1
  replace ow0 := ow0.top
  have rw0 := ow0.rds
  clear ow0
  replace ow1 := ow1.top
  have rw1 := ow1.rds
  clear ow1
  go_wp2_with fail
  refine (toInt64SS_c a0 (by have := C0.out; have := N0.out; omega)).mono ?_
  rintro e w4 ⟨Vx0, rfl, ox0, hb4⟩
  have hs4 : w3.heap.size ≤ w4.heap.size := hb4.size
  have hB4 : Below w.heap.size w w4 := hB3.trans (hb4.mono hB3.size)
  replace a0 := a0.below hb4 (by omega)
  replace rt1_0 := rt1_0.below hb4 (by omega)
  replace rw0 := rw0.below hb4 (by omega)
  replace rw1 := rw1.below hb4 (by omega)
  replace ox0 := ox0.top
  have rx0 := ox0.rds
  go_wp2_with fail
  refine (hI w4 _ _ (by omega) rx0).mono ?_
  rintro e w5 ⟨Vg0, Vg1, rfl, og0, og1, ne_g1, hb5⟩
  have hs5 : w4.heap.size ≤ w5.heap.size := hb5.size
  have hB5 : Below w.heap.size w w5 := hB4.trans (hb5.mono hB4.size)
  replace a0 := a0.below hb5 (by omega)
  replace rt1_0 := rt1_0.below hb5 (by omega)
  replace rw0 := rw0.below hb5 (by omega)
  replace rw1 := rw1.below hb5 (by omega)
  replace rx0 := rx0.below hb5 (by omega)
  replace ox0 := ox0.below hb5 (by omega)
  have ne_g0 := ne_swap ne_g1
  replace og0 := og0.top
  have rg0 := og0.rds
  replace og1 := og1.top
  have rg1 := og1.rds
  go_wp2_with fail
  refine (eqInt64S_c rg0 rw0).mono ?_
  rintro e w6 ⟨rfl, hb6⟩
  have hs6 : w5.heap.size ≤ w6.heap.size := hb6.size
  have hB6 : Below w.heap.size w w6 := hB5.trans (hb6.mono hB5.size)
  replace a0 := a0.below hb6 (by omega)
  replace rt1_0 := rt1_0.below hb6 (by omega)
  replace rw0 := rw0.below hb6 (by omega)
  replace rw1 := rw1.below hb6 (by omega)
  replace rx0 := rx0.below hb6 (by omega)
  replace ox0 := ox0.below hb6 (by omega)
  replace rg0 := rg0.below hb6 (by omega)
  replace og0 := og0.below hb6 (by omega)
  replace rg1 := rg1.below hb6 (by omega)
  replace og1 := og1.below hb6 (by omega)
  go_wp2_with fail
  refine (eqInt64S_c rg1 rw1).mono ?_
  rintro e w7 ⟨rfl, hb7⟩
  have hs7 : w6.heap.size ≤ w7.heap.size := hb7.size
  have hB7 : Below w.heap.size w w7 := hB6.trans (hb7.mono hB6.size)
  replace a0 := a0.below hb7 (by omega)
  replace rt1_0 := rt1_0.below hb7 (by omega)
  replace rw0 := rw0.below hb7 (by omega)
  replace rw1 := rw1.below hb7 (by omega)
  replace rx0 := rx0.below hb7 (by omega)
  replace ox0 := ox0.below hb7 (by omega)
  replace rg0 := rg0.below hb7 (by omega)
  replace og0 := og0.below hb7 (by omega)
  replace rg1 := rg1.below hb7 (by omega)
  replace og1 := og1.below hb7 (by omega)
  go_wp2_with fail
  refine (toInt64SS_c a0 (by have := C0.out; have := N0.out; omega)).mono ?_
  rintro e w8 ⟨vt7_9, rfl, t7_9, hb8⟩
  have hs8 : w7.heap.size ≤ w8.heap.size := hb8.size
  have hB8 : Below w.heap.size w w8 := hB7.trans (hb8.mono hB7.size)
  replace a0 := a0.below hb8 (by omega)
  replace rt1_0 := rt1_0.below hb8 (by omega)
  replace rw0 := rw0.below hb8 (by omega)
  replace rw1 := rw1.below hb8 (by omega)
  replace rx0 := rx0.below hb8 (by omega)
  replace ox0 := ox0.below hb8 (by omega)
  replace rg0 := rg0.below hb8 (by omega)
  replace og0 := og0.below hb8 (by omega)
  replace rg1 := rg1.below hb8 (by omega)
  replace og1 := og1.below hb8 (by omega)
  have rt7_9 := t7_9.rds
  clear t7_9
  go_wp2_with fail
  refine (eqInt64SS_c rx0 rt7_9).mono ?_
  rintro e w9 ⟨rfl, hb9⟩
  have hs9 : w8.heap.size ≤ w9.heap.size := hb9.size
  have hB9 : Below w.heap.size w w9 := hB8.trans (hb9.mono hB8.size)
  replace a0 := a0.below hb9 (by omega)
  replace rt1_0 := rt1_0.below hb9 (by omega)
  replace rw0 := rw0.below hb9 (by omega)
  replace rw1 := rw1.below hb9 (by omega)
  replace rx0 := rx0.below hb9 (by omega)
  replace ox0 := ox0.below hb9 (by omega)
  replace rg0 := rg0.below hb9 (by omega)
  replace og0 := og0.below hb9 (by omega)
  replace rg1 := rg1.below hb9 (by omega)
  replace og1 := og1.below hb9 (by omega)
  replace rt7_9 := rt7_9.below hb9 (by omega)
  go_wp2_with fail
  refine (markInt64SS_c _ ox0 (by omega) (by first | omega | (have := cntInt64SS_le x0; have := C0.out; have := N0.out;  omega))).mono ?_
  rintro e w10 ⟨rfl, ox0, hw10⟩
  have hb10 := hw10.below (by omega)
  have hs10 : w9.heap.size ≤ w10.heap.size := hb10.size
  have hB10 : Below w.heap.size w w10 := hB9.trans (hb10.mono (by have := hB3.size; omega))
  replace a0 := a0.below hb10 (by omega)
  replace rt1_0 := rt1_0.below hb10 (by omega)
  replace rw0 := rw0.below hb10 (by omega)
  replace rw1 := rw1.below hb10 (by omega)
  clear rx0
  replace og0 := og0.within hw10 (by omega)
  replace rg0 := og0.rds
  replace og1 := og1.within hw10 (by omega)
  replace rg1 := og1.rds
  clear rt7_9
  have rx0 := ox0.rds
  go_wp2_with fail
  refine (eqInt64S_c rg0 rw0).mono ?_
  rintro e w11 ⟨rfl, hb11⟩
  have hs11 : w10.heap.size ≤ w11.heap.size := hb11.size
  have hB11 : Below w.heap.size w w11 := hB10.trans (hb11.mono hB10.size)
  replace a0 := a0.below hb11 (by omega)
  replace rt1_0 := rt1_0.below hb11 (by omega)
  replace rw0 := rw0.below hb11 (by omega)
  replace rw1 := rw1.below hb11 (by omega)
  replace ox0 := ox0.below hb11 (by omega)
  replace rg0 := rg0.below hb11 (by omega)
  replace og0 := og0.below hb11 (by omega)
  replace rg1 := rg1.below hb11 (by omega)
  replace og1 := og1.below hb11 (by omega)
  replace rx0 := rx0.below hb11 (by omega)
  go_wp2_with fail
  refine (eqInt64S_c rg1 rw1).mono ?_
  rintro e w12 ⟨rfl, hb12⟩
  have hs12 : w11.heap.size ≤ w12.heap.size := hb12.size
  have hB12 : Below w.heap.size w w12 := hB11.trans (hb12.mono hB11.size)
  replace a0 := a0.below hb12 (by omega)
  replace rt1_0 := rt1_0.below hb12 (by omega)
  replace rw0 := rw0.below hb12 (by omega)
  replace rw1 := rw1.below hb12 (by omega)
  replace ox0 := ox0.below hb12 (by omega)
  replace rg0 := rg0.below hb12 (by omega)
  replace og0 := og0.below hb12 (by omega)
  replace rg1 := rg1.below hb12 (by omega)
  replace og1 := og1.below hb12 (by omega)
  replace rx0 := rx0.below hb12 (by omega)
  go_wp2_with fail
  refine (markInt64S_c _ og0 (by omega) (by first | omega | (have := Bg0.out; have := Bg1.out; omega))).mono ?_
  rintro e w13 ⟨rfl, og0, hw13, hg13⟩
  have hb13 := hw13.below (by omega)
  have hs13 : w12.heap.size ≤ w13.heap.size := hb13.size
  have hB13 : Below w.heap.size w w13 := hB12.trans (hb13.mono (by have := hB4.size; omega))
  replace a0 := a0.below hb13 (by omega)
  replace rt1_0 := rt1_0.below hb13 (by omega)
  replace rw0 := rw0.below hb13 (by omega)
  replace rw1 := rw1.below hb13 (by omega)
  clear ox0
  clear rg0
  replace og1 := OwnT.keep og1 hg13 ne_g1
  replace rg1 := og1.rds
  clear rx0
  have rg0 := og0.rds
  go_wp2_with fail
  refine (markInt64S_c _ og1 (by omega) (by first | omega | (have := Bg0.out; have := Bg1.out; omega))).mono ?_
  rintro e w14 ⟨rfl, og1, hw14, hg14⟩
  have hb14 := hw14.below (by omega)
  have hs14 : w13.heap.size ≤ w14.heap.size := hb14.size
  have hB14 : Below w.heap.size w w14 := hB13.trans (hb14.mono (by have := hB4.size; omega))
  replace a0 := a0.below hb14 (by omega)
  replace rt1_0 := rt1_0.below hb14 (by omega)
  replace rw0 := rw0.below hb14 (by omega)
  replace rw1 := rw1.below hb14 (by omega)
  replace og0 := OwnT.keep og0 hg14 ne_g0
  replace rg0 := og0.rds
  clear rg1
  have rg1 := og1.rds
  go_wp2_with fail
  refine (heldInt64S_c _ rg0 (by omega) (by first | omega | (have := Bg0.out; have := Bg1.out; omega))).mono ?_
  rintro e w15 ⟨rfl, hb15⟩
  have hs15 : w14.heap.size ≤ w15.heap.size := hb15.size
  have hB15 : Below w.heap.size w w15 := hB14.trans (hb15.mono hB14.size)
  replace a0 := a0.below hb15 (by omega)
  replace rt1_0 := rt1_0.below hb15 (by omega)
  replace rw0 := rw0.below hb15 (by omega)
  replace rw1 := rw1.below hb15 (by omega)
  replace og0 := og0.below hb15 (by omega)
  replace og1 := og1.below hb15 (by omega)
  replace rg0 := rg0.below hb15 (by omega)
  replace rg1 := rg1.below hb15 (by omega)
  go_wp2_with fail
  refine (heldInt64S_c _ rg1 (by omega) (by first | omega | (have := Bg0.out; have := Bg1.out; omega))).mono ?_
  rintro e w16 ⟨rfl, hb16⟩
  have hs16 : w15.heap.size ≤ w16.heap.size := hb16.size
  have hB16 : Below w.heap.size w w16 := hB15.trans (hb16.mono hB15.size)
  replace a0 := a0.below hb16 (by omega)
  replace rt1_0 := rt1_0.below hb16 (by omega)
  replace rw0 := rw0.below hb16 (by omega)
  replace rw1 := rw1.below hb16 (by omega)
  replace og0 := og0.below hb16 (by omega)
  replace og1 := og1.below hb16 (by omega)
  replace rg0 := rg0.below hb16 (by omega)
  replace rg1 := rg1.below hb16 (by omega)
  go_wp2_with fail
  refine (toInt64SS_c a0 (by have := C0.out; have := N0.out; omega)).mono ?_
  rintro e w17 ⟨vt16_0, rfl, t16_0, hb17⟩
  have hs17 : w16.heap.size ≤ w17.heap.size := hb17.size
  have hB17 : Below w.heap.size w w17 := hB16.trans (hb17.mono hB16.size)
  replace a0 := a0.below hb17 (by omega)
  replace rt1_0 := rt1_0.below hb17 (by omega)
  replace rw0 := rw0.below hb17 (by omega)
  replace rw1 := rw1.below hb17 (by omega)
  replace og0 := og0.below hb17 (by omega)
  replace og1 := og1.below hb17 (by omega)
  replace rg0 := rg0.below hb17 (by omega)
  replace rg1 := rg1.below hb17 (by omega)
  have rt16_0 := t16_0.rds
  clear t16_0
  go_wp2_with fail
  refine (hI w17 _ _ (by omega) rt16_0).mono ?_
  rintro e w18 ⟨Vh0, Vh1, rfl, oh0, oh1, ne_h1, hb18⟩
  have hs18 : w17.heap.size ≤ w18.heap.size := hb18.size
  have hB18 : Below w.heap.size w w18 := hB17.trans (hb18.mono hB17.size)
  replace a0 := a0.below hb18 (by omega)
  replace rt1_0 := rt1_0.below hb18 (by omega)
  replace rw0 := rw0.below hb18 (by omega)
  replace rw1 := rw1.below hb18 (by omega)
  replace og0 := og0.below hb18 (by omega)
  replace og1 := og1.below hb18 (by omega)
  replace rg0 := rg0.below hb18 (by omega)
  replace rg1 := rg1.below hb18 (by omega)
  replace rt16_0 := rt16_0.below hb18 (by omega)
  have ne_h0 := ne_swap ne_h1
  replace oh0 := oh0.top
  have rh0 := oh0.rds
  clear oh0
  replace oh1 := oh1.top
  have rh1 := oh1.rds
  clear oh1
  go_wp2_with fail
  refine (eqInt64S_c rh0 rw0).mono ?_
  rintro e w19 ⟨rfl, hb19⟩
  have hs19 : w18.heap.size ≤ w19.heap.size := hb19.size
  have hB19 : Below w.heap.size w w19 := hB18.trans (hb19.mono hB18.size)
  replace a0 := a0.below hb19 (by omega)
  replace rt1_0 := rt1_0.below hb19 (by omega)
  replace rw0 := rw0.below hb19 (by omega)
  replace rw1 := rw1.below hb19 (by omega)
  replace og0 := og0.below hb19 (by omega)
  replace og1 := og1.below hb19 (by omega)
  replace rg0 := rg0.below hb19 (by omega)
  replace rg1 := rg1.below hb19 (by omega)
  replace rt16_0 := rt16_0.below hb19 (by omega)
  replace rh0 := rh0.below hb19 (by omega)
  replace rh1 := rh1.below hb19 (by omega)
  go_wp2_with fail
  refine (eqInt64S_c rh1 rw1).mono ?_
  rintro e w20 ⟨rfl, hb20⟩
  have hs20 : w19.heap.size ≤ w20.heap.size := hb20.size
  have hB20 : Below w.heap.size w w20 := hB19.trans (hb20.mono hB19.size)
  replace a0 := a0.below hb20 (by omega)
  replace rt1_0 := rt1_0.below hb20 (by omega)
  replace rw0 := rw0.below hb20 (by omega)
  replace rw1 := rw1.below hb20 (by omega)
  replace og0 := og0.below hb20 (by omega)
  replace og1 := og1.below hb20 (by omega)
  replace rg0 := rg0.below hb20 (by omega)
  replace rg1 := rg1.below hb20 (by omega)
  replace rt16_0 := rt16_0.below hb20 (by omega)
  replace rh0 := rh0.below hb20 (by omega)
  replace rh1 := rh1.below hb20 (by omega)
  go_wp2_with fail
  refine (heldInt64S_c _ rg0 (by omega) (by first | omega | (have := Bg0.out; have := Bg1.out; omega))).mono ?_
  rintro e w21 ⟨rfl, hb21⟩
  have hs21 : w20.heap.size ≤ w21.heap.size := hb21.size
  have hB21 : Below w.heap.size w w21 := hB20.trans (hb21.mono hB20.size)
  replace a0 := a0.below hb21 (by omega)
  replace rt1_0 := rt1_0.below hb21 (by omega)
  replace rw0 := rw0.below hb21 (by omega)
  replace rw1 := rw1.below hb21 (by omega)
  replace og0 := og0.below hb21 (by omega)
  replace og1 := og1.below hb21 (by omega)
  replace rg0 := rg0.below hb21 (by omega)
  replace rg1 := rg1.below hb21 (by omega)
  replace rt16_0 := rt16_0.below hb21 (by omega)
  replace rh0 := rh0.below hb21 (by omega)
  replace rh1 := rh1.below hb21 (by omega)
  go_wp2_with fail
  refine (heldInt64S_c _ rg1 (by omega) (by first | omega | (have := Bg0.out; have := Bg1.out; omega))).mono ?_
  rintro e w22 ⟨rfl, hb22⟩
  have hs22 : w21.heap.size ≤ w22.heap.size := hb22.size
  have hB22 : Below w.heap.size w w22 := hB21.trans (hb22.mono hB21.size)
  replace a0 := a0.below hb22 (by omega)
  replace rt1_0 := rt1_0.below hb22 (by omega)
  replace rw0 := rw0.below hb22 (by omega)
  replace rw1 := rw1.below hb22 (by omega)
  replace og0 := og0.below hb22 (by omega)
  replace og1 := og1.below hb22 (by omega)
  replace rg0 := rg0.below hb22 (by omega)
  replace rg1 := rg1.below hb22 (by omega)
  replace rt16_0 := rt16_0.below hb22 (by omega)
  replace rh0 := rh0.below hb22 (by omega)
  replace rh1 := rh1.below hb22 (by omega)
  go_wp2
  go_ret
  exact ⟨rfl, hB22⟩
theorem walk0_FnExactTableSums (w : World) {x0 : List (List Int)} {r0 : List Int} {r1 : List Int} {r2 : Int} {v0 : Value} (a0 : RdInt64SS w.heap.size w v0 x0) (bg0 : cntInt64S r0 ≤ 1000000000) (bg1 : cntInt64S r1 ≤ 1000000000)
    (hS : (szInt64SS x0 ≤ 1048576) → ∀ (w : World), ∀ (B0 : Nat) (v0 : Value), B0 ≤ w.heap.size → RdInt64SS B0 w v0 x0 → Calls Try.prog 38 #[v0] w fun e w' => ∃ u0 u1, e = .returned (.tuple #[u0, u1, .int .i64 r2]) ∧ OwnInt64S w.heap.size w' u0 r0 ∧ OwnInt64S w.heap.size w' u1 r1 ∧ (u1.ownBlock = none ∨ u1.ownBlock ≠ u0.ownBlock) ∧ Below w.heap.size w w')
    (hI : (szInt64SS x0 ≤ 1048576) → ∀ (w : World), ∀ (B0 : Nat) (v0 : Value), B0 ≤ w.heap.size → RdInt64SS B0 w v0 x0 → Calls Try.prog 40 #[v0] w fun e w' => ∃ u0 u1, e = .returned (.tuple #[u0, u1, .int .i64 r2]) ∧ OwnInt64S w.heap.size w' u0 r0 ∧ OwnInt64S w.heap.size w' u1 r1 ∧ (u1.ownBlock = none ∨ u1.ownBlock ≠ u0.ownBlock) ∧ Below w.heap.size w w') :
    Calls Try.prog 11 #[v0] w fun e w' => e = .returned (.bool true) ∧ Below w.heap.size w w' := by
  by_cases c0 : szInt64SS x0 ≤ 1048576
  · have _t := True.intro
    exact walk1_FnExactTableSums w a0 bg0 bg1 (hS c0) (hI c0) c0
  · clear hS hI
    have C0 := Lib.hid c0
    clear c0
    go_enter Try.func11, Try.ntmps11
    go_wp2_with fail
    refine (szInt64SS_no a0 (by omega) (by have := C0.out; omega)).mono ?_
    rintro e w' ⟨rfl, hb0⟩
    go_wp2
    go_ret
    exact ⟨rfl, hb0⟩
theorem TSR_len (xss : List (List Int)) : (TSR xss).length ≤ 40 ∧ (TSK xss).length ≤ 40 := by
  unfold TSR TSK
  by_cases h : tabB xss = true
  · rw [if_pos h, if_pos h, List.length_map, cf_length]
    obtain ⟨h1, h2⟩ := tabB_parts h
    refine ⟨h1, ?_⟩
    cases xss with
    | nil => exact Nat.zero_le _
    | cons x ys => exact (h2 x (List.mem_cons_self ..)).2.1
  · rw [if_neg h, if_neg h]; decide
theorem walk_FnExactTableSums (w : World) {x0 : List (List Int)} {v0 : Value} (a0 : RdInt64SS w.heap.size w v0 x0) :
    Calls Try.prog 11 #[v0] w fun e w' => e = .returned (.bool true) ∧ Below w.heap.size w w' :=
  walk0_FnExactTableSums (r0 := TSR x0) (r1 := TSK x0) (r2 := TSC x0) w a0 (by have := (TSR_len x0).1; unfold cntInt64S; omega) (by have := (TSR_len x0).2; unfold cntInt64S; omega) (fun _ w A v h ha => sTableSums_c h ha) (fun _ w A v h ha => TableSums_c h ha)
namespace fnExactTableSums
theorem own : ownKnob Try.prog.godebug = none := by kernel_rfl
set_option maxRecDepth 100000 in
theorem lifted (os : Os) (started : os.Started) (H : Type) (enc : TypeId × Value → H) :
    ReturnsInHanded {} Try.checked os 11 .any (Rows.fnExactTableSumsSpec.pre6 enc Try.prog Try.f11 Rows.fnExactTableSumsRow.domain false) (Rows.fnExactTableSumsSpec.post enc Try.prog Try.f11 false true false false) := by
  refine returnsInHanded_of_change_sized (C := Try.checked) own started (by kernel_rfl) Try.func11
    (ChangeSpec.witness6 (enc := enc) (C := Try.checked) false ⟨#[], #[.slice none 0 0], []⟩ 8 (by kernel_rfl) (by kernel_rfl) (by kernel_rfl) (by kernel_rfl)) ?_
  intro W base args ds gs before hval0 hW hcnd hsz _
  have hval : ∀ (j : Nat) t v, Try.f11.params[j]? = some t → args[j]? = some v → Value.okWide Try.prog W .any base t v := hval0
  have hW' := hW
  obtain ⟨p, q, hA0, hV, rfl, hfz, hnd⟩ := hW
  have hA : DataW.TrodAll enc Try.prog W 0 (fun _ => true) true Try.f11.params.toList args.toList ds p := hA0
  rw [Try.params11] at hA hval
  obtain ⟨v0, vs0, d0, ds0, p0, s0, hargs, rfl, rfl, h0, q0⟩ := trodAll_cons hA
  obtain ⟨rfl, rfl, rfl⟩ := trodAll_nil q0
  obtain rfl : args = #[v0] := by cases args; simp_all
  obtain ⟨x0, r0, _⟩ := open_rdM Try.underlying43 Try.underlying22 Try.underlying2 (by kernel_rfl) (by kernel_rfl) (hval 0 43 v0 rfl rfl) h0
  exact (walk_FnExactTableSums W r0).mono fun e W' hh => ⟨_, hh.1, law_post (f := Try.f11) (s := Rows.fnExactTableSumsSpec) (T := 4) (by kernel_rfl) (of_decide_eq_true (by kernel_rfl)) rfl rfl Try.underlying4 rfl hW' hh.2⟩
theorem proved : Rows.FnExactTableSumsSaid :=
  OpenClaim.holds_of_wide 11 Try.f11 rfl rfl rfl rfl rfl rfl rfl ⟨rfl, rfl, rfl, rfl, rfl⟩ rfl rfl rfl rfl rfl (by kernel_rfl) Try.func11 (by kernel_rfl)
    (of_decide_eq_true (by kernel_rfl)) (by unfold Func.isWrapper; first | (rw [if_pos (by decide +kernel)]; kernel_rfl) | (rw [if_neg (by decide +kernel)]; exact ⟨rfl, rfl⟩))
    (fun os started H enc _ => lifted os started H enc)
end fnExactTableSums
#print axioms fnExactTableSums.proved
end Go.Proofs.Ytljjilgpmckccaa
