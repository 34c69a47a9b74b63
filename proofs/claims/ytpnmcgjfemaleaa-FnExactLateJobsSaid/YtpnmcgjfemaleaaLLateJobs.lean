/- The law 'the program's LateJobs returns what the reference's returns'. No condition. -/
import Derived.Test.YtpnmcgjfemaleaaLate2
import Derived.Test.YtpnmcgjfemaleaaMatL
namespace Go.Proofs.Ytpnmcgjfemaleaa
open Go.ChangeShapes Go.WideShapes Go.ChangeAt Go.RowKit
set_option linter.unusedVariables false
set_option maxRecDepth 100000
set_option maxHeartbeats 1000000 in
theorem walk1_FnExactLateJobs (w : World) {x0 : List (List Int)} {x1 : List Int} {x2 : List Int} {r0 : List Int} {r1 : Int} {v0 : Value} (a0 : RdInt64SS w.heap.size w v0 x0) {v1 : Value} (a1 : RdInt64S w.heap.size w v1 x1) {v2 : Value} (a2 : RdInt64S w.heap.size w v2 x2) (bg0 : cntInt64S r0 ≤ 1000000000)
    (hS : ∀ (w : World), ∀ (B0 : Nat) (v0 : Value), B0 ≤ w.heap.size → RdInt64SS B0 w v0 x0 → ∀ (B1 : Nat) (v1 : Value), B1 ≤ w.heap.size → RdInt64S B1 w v1 x1 → ∀ (B2 : Nat) (v2 : Value), B2 ≤ w.heap.size → RdInt64S B2 w v2 x2 → Calls Try.prog 39 #[v0, v1, v2] w fun e w' => ∃ u0, e = .returned (.tuple #[u0, .int .i64 r1]) ∧ OwnInt64S w.heap.size w' u0 r0 ∧ Below w.heap.size w w')
    (hI : ∀ (w : World), ∀ (B0 : Nat) (v0 : Value), B0 ≤ w.heap.size → RdInt64SS B0 w v0 x0 → ∀ (B1 : Nat) (v1 : Value), B1 ≤ w.heap.size → RdInt64S B1 w v1 x1 → ∀ (B2 : Nat) (v2 : Value), B2 ≤ w.heap.size → RdInt64S B2 w v2 x2 → Calls Try.prog 40 #[v0, v1, v2] w fun e w' => ∃ u0, e = .returned (.tuple #[u0, .int .i64 r1]) ∧ OwnInt64S w.heap.size w' u0 r0 ∧ Below w.heap.size w w') (c0 : x1.length ≤ 1048576) (c1 : x2.length ≤ 1048576) (c2 : szInt64SS x0 ≤ 1048576) :
    Calls Try.prog 11 #[v0, v1, v2] w fun e w' => e = .returned (.bool true) ∧ Below w.heap.size w w' := by
  have hB0 : Below w.heap.size w w := Below.refl _ _
  obtain ⟨ao1, cap1, rfl⟩ := a1.shape
  obtain ⟨ao2, cap2, rfl⟩ := a2.shape
  have Bg0 := Lib.hid bg0
  clear bg0
  have C0 := Lib.hid c0
  have C1 := Lib.hid c1
  have C2 := Lib.hid c2
  have N2 := Lib.hid (szInt64SS_nonneg x0)
  clear c2
  go_enter Try.func11, Try.ntmps11
  go_wp2_with fail
  refine (szInt64SS_c a0 (by omega) C2.out).mono ?_
  rintro e w1 ⟨rfl, hb1⟩
  have hs1 : w.heap.size ≤ w1.heap.size := hb1.size
  have hB1 : Below w.heap.size w w1 := hB0.trans (hb1.mono hB0.size)
  replace a0 := a0.below hb1 (by omega)
  replace a1 := a1.below hb1 (by omega)
  replace a2 := a2.below hb1 (by omega)
  have L2 := C2.out
  go_wp2_with fail
  refine (toInt64SS_c a0 (by have := C2.out; have := N2.out; omega)).mono ?_
  rintro e w2 ⟨vt1_0, rfl, t1_0, hb2⟩
  have hs2 : w1.heap.size ≤ w2.heap.size := hb2.size
  have hB2 : Below w.heap.size w w2 := hB1.trans (hb2.mono hB1.size)
  replace a0 := a0.below hb2 (by omega)
  replace a1 := a1.below hb2 (by omega)
  replace a2 := a2.below hb2 (by omega)
  have rt1_0 := t1_0.rds
  clear t1_0
  go_wp2_with fail
  refine (toInt64S_c a1 (by have := C0.out; show (x1.length : Int) ≤ 1048576; omega)).mono ?_
  rintro e w3 ⟨vt2_1, rfl, t2_1, hb3⟩
  have hs3 : w2.heap.size ≤ w3.heap.size := hb3.size
  have hB3 : Below w.heap.size w w3 := hB2.trans (hb3.mono hB2.size)
  replace a0 := a0.below hb3 (by omega)
  replace a1 := a1.below hb3 (by omega)
  replace a2 := a2.below hb3 (by omega)
  replace rt1_0 := rt1_0.below hb3 (by omega)
  have rt2_1 := t2_1.rds
  clear t2_1
  go_wp2_with fail
  refine (toInt64S_c a2 (by have := C1.out; show (x2.length : Int) ≤ 1048576; omega)).mono ?_
  rintro e w4 ⟨vt3_2, rfl, t3_2, hb4⟩
  have hs4 : w3.heap.size ≤ w4.heap.size := hb4.size
  have hB4 : Below w.heap.size w w4 := hB3.trans (hb4.mono hB3.size)
  replace a0 := a0.below hb4 (by omega)
  replace a1 := a1.below hb4 (by omega)
  replace a2 := a2.below hb4 (by omega)
  replace rt1_0 := rt1_0.below hb4 (by omega)
  replace rt2_1 := rt2_1.below hb4 (by omega)
  have rt3_2 := t3_2.rds
  clear t3_2
  go_wp2_with fail
  refine (hS w4 _ _ (by omega) rt1_0 _ _ (by omega) rt2_1 _ _ (by omega) rt3_2).mono ?_
  rintro e w5 ⟨Vw0, rfl, ow0, hb5⟩
  have hs5 : w4.heap.size ≤ w5.heap.size := hb5.size
  have hB5 : Below w.heap.size w w5 := hB4.trans (hb5.mono hB4.size)
  replace a0 := a0.below hb5 (by omega)
  replace a1 := a1.below hb5 (by omega)
  replace a2 := a2.below hb5 (by omega)
  replace rt1_0 := rt1_0.below hb5 (by omega)
  replace rt2_1 := rt2_1.below hb5 (by omega)
  replace rt3_2 := rt3_2.below hb5 (by omega)
  replace ow0 := ow0.top
  have rw0 := ow0.rds
  clear ow0
  go_wp2_with fail
  refine (toInt64SS_c a0 (by have := C2.out; have := N2.out; omega)).mono ?_
  rintro e w6 ⟨Vx0, rfl, ox0, hb6⟩
  have hs6 : w5.heap.size ≤ w6.heap.size := hb6.size
  have hB6 : Below w.heap.size w w6 := hB5.trans (hb6.mono hB5.size)
  replace a0 := a0.below hb6 (by omega)
  replace a1 := a1.below hb6 (by omega)
  replace a2 := a2.below hb6 (by omega)
  replace rt1_0 := rt1_0.below hb6 (by omega)
  replace rt2_1 := rt2_1.below hb6 (by omega)
  replace rt3_2 := rt3_2.below hb6 (by omega)
  replace rw0 := rw0.below hb6 (by omega)
  replace ox0 := ox0.top
  have rx0 := ox0.rds
  go_wp2_with fail
  refine (toInt64S_c a1 (by have := C0.out; show (x1.length : Int) ≤ 1048576; omega)).mono ?_
  rintro e w7 ⟨Vx1, rfl, ox1, hb7⟩
  have hs7 : w6.heap.size ≤ w7.heap.size := hb7.size
  have hB7 : Below w.heap.size w w7 := hB6.trans (hb7.mono hB6.size)
  replace a0 := a0.below hb7 (by omega)
  replace a1 := a1.below hb7 (by omega)
  replace a2 := a2.below hb7 (by omega)
  replace rt1_0 := rt1_0.below hb7 (by omega)
  replace rt2_1 := rt2_1.below hb7 (by omega)
  replace rt3_2 := rt3_2.below hb7 (by omega)
  replace rw0 := rw0.below hb7 (by omega)
  replace rx0 := rx0.below hb7 (by omega)
  replace ox0 := ox0.below hb7 (by omega)
  replace ox1 := ox1.top
  have rx1 := ox1.rds
  go_wp2_with fail
  refine (toInt64S_c a2 (by have := C1.out; show (x2.length : Int) ≤ 1048576; omega)).mono ?_
  rintro e w8 ⟨Vx2, rfl, ox2, hb8⟩
  have hs8 : w7.heap.size ≤ w8.heap.size := hb8.size
  have hB8 : Below w.heap.size w w8 := hB7.trans (hb8.mono hB7.size)
  replace a0 := a0.below hb8 (by omega)
  replace a1 := a1.below hb8 (by omega)
  replace a2 := a2.below hb8 (by omega)
  replace rt1_0 := rt1_0.below hb8 (by omega)
  replace rt2_1 := rt2_1.below hb8 (by omega)
  replace rt3_2 := rt3_2.below hb8 (by omega)
  replace rw0 := rw0.below hb8 (by omega)
  replace rx0 := rx0.below hb8 (by omega)
  replace ox0 := ox0.below hb8 (by omega)
  replace rx1 := rx1.below hb8 (by omega)
  replace ox1 := ox1.below hb8 (by omega)
  replace ox2 := ox2.top
  have rx2 := ox2.rds
  go_wp2_with fail
  refine (hI w8 _ _ (by omega) rx0 _ _ (by omega) rx1 _ _ (by omega) rx2).mono ?_
  rintro e w9 ⟨Vg0, rfl, og0, hb9⟩
  have hs9 : w8.heap.size ≤ w9.heap.size := hb9.size
  have hB9 : Below w.heap.size w w9 := hB8.trans (hb9.mono hB8.size)
  replace a0 := a0.below hb9 (by omega)
  replace a1 := a1.below hb9 (by omega)
  replace a2 := a2.below hb9 (by omega)
  replace rt1_0 := rt1_0.below hb9 (by omega)
  replace rt2_1 := rt2_1.below hb9 (by omega)
  replace rt3_2 := rt3_2.below hb9 (by omega)
  replace rw0 := rw0.below hb9 (by omega)
  replace rx0 := rx0.below hb9 (by omega)
  replace ox0 := ox0.below hb9 (by omega)
  replace rx1 := rx1.below hb9 (by omega)
  replace ox1 := ox1.below hb9 (by omega)
  replace rx2 := rx2.below hb9 (by omega)
  replace ox2 := ox2.below hb9 (by omega)
  replace og0 := og0.top
  have rg0 := og0.rds
  go_wp2_with fail
  refine (eqInt64S_c rg0 rw0).mono ?_
  rintro e w10 ⟨rfl, hb10⟩
  have hs10 : w9.heap.size ≤ w10.heap.size := hb10.size
  have hB10 : Below w.heap.size w w10 := hB9.trans (hb10.mono hB9.size)
  replace a0 := a0.below hb10 (by omega)
  replace a1 := a1.below hb10 (by omega)
  replace a2 := a2.below hb10 (by omega)
  replace rt1_0 := rt1_0.below hb10 (by omega)
  replace rt2_1 := rt2_1.below hb10 (by omega)
  replace rt3_2 := rt3_2.below hb10 (by omega)
  replace rw0 := rw0.below hb10 (by omega)
  replace rx0 := rx0.below hb10 (by omega)
  replace ox0 := ox0.below hb10 (by omega)
  replace rx1 := rx1.below hb10 (by omega)
  replace ox1 := ox1.below hb10 (by omega)
  replace rx2 := rx2.below hb10 (by omega)
  replace ox2 := ox2.below hb10 (by omega)
  replace rg0 := rg0.below hb10 (by omega)
  replace og0 := og0.below hb10 (by omega)
  go_wp2_with fail
  refine (toInt64SS_c a0 (by have := C2.out; have := N2.out; omega)).mono ?_
  rintro e w11 ⟨vt10_9, rfl, t10_9, hb11⟩
  have hs11 : w10.heap.size ≤ w11.heap.size := hb11.size
  have hB11 : Below w.heap.size w w11 := hB10.trans (hb11.mono hB10.size)
  replace a0 := a0.below hb11 (by omega)
  replace a1 := a1.below hb11 (by omega)
  replace a2 := a2.below hb11 (by omega)
  replace rt1_0 := rt1_0.below hb11 (by omega)
  replace rt2_1 := rt2_1.below hb11 (by omega)
  replace rt3_2 := rt3_2.below hb11 (by omega)
  replace rw0 := rw0.below hb11 (by omega)
  replace rx0 := rx0.below hb11 (by omega)
  replace ox0 := ox0.below hb11 (by omega)
  replace rx1 := rx1.below hb11 (by omega)
  replace ox1 := ox1.below hb11 (by omega)
  replace rx2 := rx2.below hb11 (by omega)
  replace ox2 := ox2.below hb11 (by omega)
  replace rg0 := rg0.below hb11 (by omega)
  replace og0 := og0.below hb11 (by omega)
  have rt10_9 := t10_9.rds
  clear t10_9
  go_wp2_with fail
  refine (eqInt64SS_c rx0 rt10_9).mono ?_
  rintro e w12 ⟨rfl, hb12⟩
  have hs12 : w11.heap.size ≤ w12.heap.size := hb12.size
  have hB12 : Below w.heap.size w w12 := hB11.trans (hb12.mono hB11.size)
  replace a0 := a0.below hb12 (by omega)
  replace a1 := a1.below hb12 (by omega)
  replace a2 := a2.below hb12 (by omega)
  replace rt1_0 := rt1_0.below hb12 (by omega)
  replace rt2_1 := rt2_1.below hb12 (by omega)
  replace rt3_2 := rt3_2.below hb12 (by omega)
  replace rw0 := rw0.below hb12 (by omega)
  replace rx0 := rx0.below hb12 (by omega)
  replace ox0 := ox0.below hb12 (by omega)
  replace rx1 := rx1.below hb12 (by omega)
  replace ox1 := ox1.below hb12 (by omega)
  replace rx2 := rx2.below hb12 (by omega)
  replace ox2 := ox2.below hb12 (by omega)
  replace rg0 := rg0.below hb12 (by omega)
  replace og0 := og0.below hb12 (by omega)
  replace rt10_9 := rt10_9.below hb12 (by omega)
  go_wp2_with fail
  refine (toInt64S_c a1 (by have := C0.out; show (x1.length : Int) ≤ 1048576; omega)).mono ?_
  rintro e w13 ⟨vt12_9, rfl, t12_9, hb13⟩
  have hs13 : w12.heap.size ≤ w13.heap.size := hb13.size
  have hB13 : Below w.heap.size w w13 := hB12.trans (hb13.mono hB12.size)
  replace a0 := a0.below hb13 (by omega)
  replace a1 := a1.below hb13 (by omega)
  replace a2 := a2.below hb13 (by omega)
  replace rt1_0 := rt1_0.below hb13 (by omega)
  replace rt2_1 := rt2_1.below hb13 (by omega)
  replace rt3_2 := rt3_2.below hb13 (by omega)
  replace rw0 := rw0.below hb13 (by omega)
  replace rx0 := rx0.below hb13 (by omega)
  replace ox0 := ox0.below hb13 (by omega)
  replace rx1 := rx1.below hb13 (by omega)
  replace ox1 := ox1.below hb13 (by omega)
  replace rx2 := rx2.below hb13 (by omega)
  replace ox2 := ox2.below hb13 (by omega)
  replace rg0 := rg0.below hb13 (by omega)
  replace og0 := og0.below hb13 (by omega)
  replace rt10_9 := rt10_9.below hb13 (by omega)
  have rt12_9 := t12_9.rds
  clear t12_9
  go_wp2_with fail
  refine (eqInt64S_c rx1 rt12_9).mono ?_
  rintro e w14 ⟨rfl, hb14⟩
  have hs14 : w13.heap.size ≤ w14.heap.size := hb14.size
  have hB14 : Below w.heap.size w w14 := hB13.trans (hb14.mono hB13.size)
  replace a0 := a0.below hb14 (by omega)
  replace a1 := a1.below hb14 (by omega)
  replace a2 := a2.below hb14 (by omega)
  replace rt1_0 := rt1_0.below hb14 (by omega)
  replace rt2_1 := rt2_1.below hb14 (by omega)
  replace rt3_2 := rt3_2.below hb14 (by omega)
  replace rw0 := rw0.below hb14 (by omega)
  replace rx0 := rx0.below hb14 (by omega)
  replace ox0 := ox0.below hb14 (by omega)
  replace rx1 := rx1.below hb14 (by omega)
  replace ox1 := ox1.below hb14 (by omega)
  replace rx2 := rx2.below hb14 (by omega)
  replace ox2 := ox2.below hb14 (by omega)
  replace rg0 := rg0.below hb14 (by omega)
  replace og0 := og0.below hb14 (by omega)
  replace rt10_9 := rt10_9.below hb14 (by omega)
  replace rt12_9 := rt12_9.below hb14 (by omega)
  go_wp2_with fail
  refine (toInt64S_c a2 (by have := C1.out; show (x2.length : Int) ≤ 1048576; omega)).mono ?_
  rintro e w15 ⟨vt14_9, rfl, t14_9, hb15⟩
  have hs15 : w14.heap.size ≤ w15.heap.size := hb15.size
  have hB15 : Below w.heap.size w w15 := hB14.trans (hb15.mono hB14.size)
  replace a0 := a0.below hb15 (by omega)
  replace a1 := a1.below hb15 (by omega)
  replace a2 := a2.below hb15 (by omega)
  replace rt1_0 := rt1_0.below hb15 (by omega)
  replace rt2_1 := rt2_1.below hb15 (by omega)
  replace rt3_2 := rt3_2.below hb15 (by omega)
  replace rw0 := rw0.below hb15 (by omega)
  replace rx0 := rx0.below hb15 (by omega)
  replace ox0 := ox0.below hb15 (by omega)
  replace rx1 := rx1.below hb15 (by omega)
  replace ox1 := ox1.below hb15 (by omega)
  replace rx2 := rx2.below hb15 (by omega)
  replace ox2 := ox2.below hb15 (by omega)
  replace rg0 := rg0.below hb15 (by omega)
  replace og0 := og0.below hb15 (by omega)
  replace rt10_9 := rt10_9.below hb15 (by omega)
  replace rt12_9 := rt12_9.below hb15 (by omega)
  have rt14_9 := t14_9.rds
  clear t14_9
  go_wp2_with fail
  refine (eqInt64S_c rx2 rt14_9).mono ?_
  rintro e w16 ⟨rfl, hb16⟩
  have hs16 : w15.heap.size ≤ w16.heap.size := hb16.size
  have hB16 : Below w.heap.size w w16 := hB15.trans (hb16.mono hB15.size)
  replace a0 := a0.below hb16 (by omega)
  replace a1 := a1.below hb16 (by omega)
  replace a2 := a2.below hb16 (by omega)
  replace rt1_0 := rt1_0.below hb16 (by omega)
  replace rt2_1 := rt2_1.below hb16 (by omega)
  replace rt3_2 := rt3_2.below hb16 (by omega)
  replace rw0 := rw0.below hb16 (by omega)
  replace rx0 := rx0.below hb16 (by omega)
  replace ox0 := ox0.below hb16 (by omega)
  replace rx1 := rx1.below hb16 (by omega)
  replace ox1 := ox1.below hb16 (by omega)
  replace rx2 := rx2.below hb16 (by omega)
  replace ox2 := ox2.below hb16 (by omega)
  replace rg0 := rg0.below hb16 (by omega)
  replace og0 := og0.below hb16 (by omega)
  replace rt10_9 := rt10_9.below hb16 (by omega)
  replace rt12_9 := rt12_9.below hb16 (by omega)
  replace rt14_9 := rt14_9.below hb16 (by omega)
  go_wp2_with fail
  refine (markInt64SS_c _ ox0 (by omega) (by first | omega | (have := cntInt64SS_le x0; have := cntInt64S_le x1; have := cntInt64S_le x2; have := C0.out; have : szInt64S x1 ≤ 1048576 := (by show (x1.length : Int) ≤ 1048576; omega); have := C1.out; have : szInt64S x2 ≤ 1048576 := (by show (x2.length : Int) ≤ 1048576; omega); have := C2.out; have := N2.out;  omega))).mono ?_
  rintro e w17 ⟨rfl, ox0, hw17⟩
  have hb17 := hw17.below (by omega)
  have hs17 : w16.heap.size ≤ w17.heap.size := hb17.size
  have hB17 : Below w.heap.size w w17 := hB16.trans (hb17.mono (by have := hB5.size; omega))
  replace a0 := a0.below hb17 (by omega)
  replace a1 := a1.below hb17 (by omega)
  replace a2 := a2.below hb17 (by omega)
  replace rt1_0 := rt1_0.below hb17 (by omega)
  replace rt2_1 := rt2_1.below hb17 (by omega)
  replace rt3_2 := rt3_2.below hb17 (by omega)
  replace rw0 := rw0.below hb17 (by omega)
  clear rx0
  replace ox1 := ox1.within hw17 (by omega)
  replace rx1 := ox1.rds
  replace ox2 := ox2.within hw17 (by omega)
  replace rx2 := ox2.rds
  replace og0 := og0.within hw17 (by omega)
  replace rg0 := og0.rds
  clear rt10_9
  clear rt12_9
  clear rt14_9
  have rx0 := ox0.rds
  go_wp2_with fail
  refine (markInt64S_c _ ox1 (by omega) (by first | omega | (have := cntInt64SS_le x0; have := cntInt64S_le x1; have := cntInt64S_le x2; have := C0.out; have : szInt64S x1 ≤ 1048576 := (by show (x1.length : Int) ≤ 1048576; omega); have := C1.out; have : szInt64S x2 ≤ 1048576 := (by show (x2.length : Int) ≤ 1048576; omega); have := C2.out; have := N2.out;  omega))).mono ?_
  rintro e w18 ⟨rfl, ox1, hw18, hg18⟩
  have hb18 := hw18.below (by omega)
  have hs18 : w17.heap.size ≤ w18.heap.size := hb18.size
  have hB18 : Below w.heap.size w w18 := hB17.trans (hb18.mono (by have := hB6.size; omega))
  replace a0 := a0.below hb18 (by omega)
  replace a1 := a1.below hb18 (by omega)
  replace a2 := a2.below hb18 (by omega)
  replace rt1_0 := rt1_0.below hb18 (by omega)
  replace rt2_1 := rt2_1.below hb18 (by omega)
  replace rt3_2 := rt3_2.below hb18 (by omega)
  replace rw0 := rw0.below hb18 (by omega)
  clear ox0
  clear rx1
  replace ox2 := ox2.within hw18 (by omega)
  replace rx2 := ox2.rds
  replace og0 := og0.within hw18 (by omega)
  replace rg0 := og0.rds
  clear rx0
  have rx1 := ox1.rds
  go_wp2_with fail
  refine (markInt64S_c _ ox2 (by omega) (by first | omega | (have := cntInt64SS_le x0; have := cntInt64S_le x1; have := cntInt64S_le x2; have := C0.out; have : szInt64S x1 ≤ 1048576 := (by show (x1.length : Int) ≤ 1048576; omega); have := C1.out; have : szInt64S x2 ≤ 1048576 := (by show (x2.length : Int) ≤ 1048576; omega); have := C2.out; have := N2.out;  omega))).mono ?_
  rintro e w19 ⟨rfl, ox2, hw19, hg19⟩
  have hb19 := hw19.below (by omega)
  have hs19 : w18.heap.size ≤ w19.heap.size := hb19.size
  have hB19 : Below w.heap.size w w19 := hB18.trans (hb19.mono (by have := hB7.size; omega))
  replace a0 := a0.below hb19 (by omega)
  replace a1 := a1.below hb19 (by omega)
  replace a2 := a2.below hb19 (by omega)
  replace rt1_0 := rt1_0.below hb19 (by omega)
  replace rt2_1 := rt2_1.below hb19 (by omega)
  replace rt3_2 := rt3_2.below hb19 (by omega)
  replace rw0 := rw0.below hb19 (by omega)
  clear ox1
  clear rx2
  replace og0 := og0.within hw19 (by omega)
  replace rg0 := og0.rds
  clear rx1
  have rx2 := ox2.rds
  go_wp2_with fail
  refine (eqInt64S_c rg0 rw0).mono ?_
  rintro e w20 ⟨rfl, hb20⟩
  have hs20 : w19.heap.size ≤ w20.heap.size := hb20.size
  have hB20 : Below w.heap.size w w20 := hB19.trans (hb20.mono hB19.size)
  replace a0 := a0.below hb20 (by omega)
  replace a1 := a1.below hb20 (by omega)
  replace a2 := a2.below hb20 (by omega)
  replace rt1_0 := rt1_0.below hb20 (by omega)
  replace rt2_1 := rt2_1.below hb20 (by omega)
  replace rt3_2 := rt3_2.below hb20 (by omega)
  replace rw0 := rw0.below hb20 (by omega)
  replace ox2 := ox2.below hb20 (by omega)
  replace rg0 := rg0.below hb20 (by omega)
  replace og0 := og0.below hb20 (by omega)
  replace rx2 := rx2.below hb20 (by omega)
  go_wp2_with fail
  refine (markInt64S_c _ og0 (by omega) (by first | omega | (have := Bg0.out; omega))).mono ?_
  rintro e w21 ⟨rfl, og0, hw21, hg21⟩
  have hb21 := hw21.below (by omega)
  have hs21 : w20.heap.size ≤ w21.heap.size := hb21.size
  have hB21 : Below w.heap.size w w21 := hB20.trans (hb21.mono (by have := hB8.size; omega))
  replace a0 := a0.below hb21 (by omega)
  replace a1 := a1.below hb21 (by omega)
  replace a2 := a2.below hb21 (by omega)
  replace rt1_0 := rt1_0.below hb21 (by omega)
  replace rt2_1 := rt2_1.below hb21 (by omega)
  replace rt3_2 := rt3_2.below hb21 (by omega)
  replace rw0 := rw0.below hb21 (by omega)
  clear ox2
  clear rg0
  clear rx2
  have rg0 := og0.rds
  go_wp2_with fail
  refine (heldInt64S_c _ rg0 (by omega) (by first | omega | (have := Bg0.out; omega))).mono ?_
  rintro e w22 ⟨rfl, hb22⟩
  have hs22 : w21.heap.size ≤ w22.heap.size := hb22.size
  have hB22 : Below w.heap.size w w22 := hB21.trans (hb22.mono hB21.size)
  replace a0 := a0.below hb22 (by omega)
  replace a1 := a1.below hb22 (by omega)
  replace a2 := a2.below hb22 (by omega)
  replace rt1_0 := rt1_0.below hb22 (by omega)
  replace rt2_1 := rt2_1.below hb22 (by omega)
  replace rt3_2 := rt3_2.below hb22 (by omega)
  replace rw0 := rw0.below hb22 (by omega)
  replace og0 := og0.below hb22 (by omega)
  replace rg0 := rg0.below hb22 (by omega)
  go_wp2_with fail
  refine (toInt64SS_c a0 (by have := C2.out; have := N2.out; omega)).mono ?_
  rintro e w23 ⟨vt22_0, rfl, t22_0, hb23⟩
  have hs23 : w22.heap.size ≤ w23.heap.size := hb23.size
  have hB23 : Below w.heap.size w w23 := hB22.trans (hb23.mono hB22.size)
  replace a0 := a0.below hb23 (by omega)
  replace a1 := a1.below hb23 (by omega)
  replace a2 := a2.below hb23 (by omega)
  replace rt1_0 := rt1_0.below hb23 (by omega)
  replace rt2_1 := rt2_1.below hb23 (by omega)
  replace rt3_2 := rt3_2.below hb23 (by omega)
  replace rw0 := rw0.below hb23 (by omega)
  replace og0 := og0.below hb23 (by omega)
  replace rg0 := rg0.below hb23 (by omega)
  have rt22_0 := t22_0.rds
  clear t22_0
  go_wp2_with fail
  refine (toInt64S_c a1 (by have := C0.out; show (x1.length : Int) ≤ 1048576; omega)).mono ?_
  rintro e w24 ⟨vt23_1, rfl, t23_1, hb24⟩
  have hs24 : w23.heap.size ≤ w24.heap.size := hb24.size
  have hB24 : Below w.heap.size w w24 := hB23.trans (hb24.mono hB23.size)
  replace a0 := a0.below hb24 (by omega)
  replace a1 := a1.below hb24 (by omega)
  replace a2 := a2.below hb24 (by omega)
  replace rt1_0 := rt1_0.below hb24 (by omega)
  replace rt2_1 := rt2_1.below hb24 (by omega)
  replace rt3_2 := rt3_2.below hb24 (by omega)
  replace rw0 := rw0.below hb24 (by omega)
  replace og0 := og0.below hb24 (by omega)
  replace rg0 := rg0.below hb24 (by omega)
  replace rt22_0 := rt22_0.below hb24 (by omega)
  have rt23_1 := t23_1.rds
  clear t23_1
  go_wp2_with fail
  refine (toInt64S_c a2 (by have := C1.out; show (x2.length : Int) ≤ 1048576; omega)).mono ?_
  rintro e w25 ⟨vt24_2, rfl, t24_2, hb25⟩
  have hs25 : w24.heap.size ≤ w25.heap.size := hb25.size
  have hB25 : Below w.heap.size w w25 := hB24.trans (hb25.mono hB24.size)
  replace a0 := a0.below hb25 (by omega)
  replace a1 := a1.below hb25 (by omega)
  replace a2 := a2.below hb25 (by omega)
  replace rt1_0 := rt1_0.below hb25 (by omega)
  replace rt2_1 := rt2_1.below hb25 (by omega)
  replace rt3_2 := rt3_2.below hb25 (by omega)
  replace rw0 := rw0.below hb25 (by omega)
  replace og0 := og0.below hb25 (by omega)
  replace rg0 := rg0.below hb25 (by omega)
  replace rt22_0 := rt22_0.below hb25 (by omega)
  replace rt23_1 := rt23_1.below hb25 (by omega)
  have rt24_2 := t24_2.rds
  clear t24_2
  go_wp2_with fail
  refine (hI w25 _ _ (by omega) rt22_0 _ _ (by omega) rt23_1 _ _ (by omega) rt24_2).mono ?_
  rintro e w26 ⟨Vh0, rfl, oh0, hb26⟩
  have hs26 : w25.heap.size ≤ w26.heap.size := hb26.size
  have hB26 : Below w.heap.size w w26 := hB25.trans (hb26.mono hB25.size)
  replace a0 := a0.below hb26 (by omega)
  replace a1 := a1.below hb26 (by omega)
  replace a2 := a2.below hb26 (by omega)
  replace rt1_0 := rt1_0.below hb26 (by omega)
  replace rt2_1 := rt2_1.below hb26 (by omega)
  replace rt3_2 := rt3_2.below hb26 (by omega)
  replace rw0 := rw0.below hb26 (by omega)
  replace og0 := og0.below hb26 (by omega)
  replace rg0 := rg0.below hb26 (by omega)
  replace rt22_0 := rt22_0.below hb26 (by omega)
  replace rt23_1 := rt23_1.below hb26 (by omega)
  replace rt24_2 := rt24_2.below hb26 (by omega)
  replace oh0 := oh0.top
  have rh0 := oh0.rds
  clear oh0
  go_wp2_with fail
  refine (eqInt64S_c rh0 rw0).mono ?_
  rintro e w27 ⟨rfl, hb27⟩
  have hs27 : w26.heap.size ≤ w27.heap.size := hb27.size
  have hB27 : Below w.heap.size w w27 := hB26.trans (hb27.mono hB26.size)
  replace a0 := a0.below hb27 (by omega)
  replace a1 := a1.below hb27 (by omega)
  replace a2 := a2.below hb27 (by omega)
  replace rt1_0 := rt1_0.below hb27 (by omega)
  replace rt2_1 := rt2_1.below hb27 (by omega)
  replace rt3_2 := rt3_2.below hb27 (by omega)
  replace rw0 := rw0.below hb27 (by omega)
  replace og0 := og0.below hb27 (by omega)
  replace rg0 := rg0.below hb27 (by omega)
  replace rt22_0 := rt22_0.below hb27 (by omega)
  replace rt23_1 := rt23_1.below hb27 (by omega)
  replace rt24_2 := rt24_2.below hb27 (by omega)
  replace rh0 := rh0.below hb27 (by omega)
  go_wp2_with fail
  refine (heldInt64S_c _ rg0 (by omega) (by first | omega | (have := Bg0.out; omega))).mono ?_
  rintro e w28 ⟨rfl, hb28⟩
  have hs28 : w27.heap.size ≤ w28.heap.size := hb28.size
  have hB28 : Below w.heap.size w w28 := hB27.trans (hb28.mono hB27.size)
  replace a0 := a0.below hb28 (by omega)
  replace a1 := a1.below hb28 (by omega)
  replace a2 := a2.below hb28 (by omega)
  replace rt1_0 := rt1_0.below hb28 (by omega)
  replace rt2_1 := rt2_1.below hb28 (by omega)
  replace rt3_2 := rt3_2.below hb28 (by omega)
  replace rw0 := rw0.below hb28 (by omega)
  replace og0 := og0.below hb28 (by omega)
  replace rg0 := rg0.below hb28 (by omega)
  replace rt22_0 := rt22_0.below hb28 (by omega)
  replace rt23_1 := rt23_1.below hb28 (by omega)
  replace rt24_2 := rt24_2.below hb28 (by omega)
  replace rh0 := rh0.below hb28 (by omega)
  go_wp2
  go_ret
  exact ⟨rfl, hB28⟩
theorem walk0_FnExactLateJobs (w : World) {x0 : List (List Int)} {x1 : List Int} {x2 : List Int} {r0 : List Int} {r1 : Int} {v0 : Value} (a0 : RdInt64SS w.heap.size w v0 x0) {v1 : Value} (a1 : RdInt64S w.heap.size w v1 x1) {v2 : Value} (a2 : RdInt64S w.heap.size w v2 x2) (bg0 : cntInt64S r0 ≤ 1000000000)
    (hS : (x1.length ≤ 1048576) → (x2.length ≤ 1048576) → (szInt64SS x0 ≤ 1048576) → ∀ (w : World), ∀ (B0 : Nat) (v0 : Value), B0 ≤ w.heap.size → RdInt64SS B0 w v0 x0 → ∀ (B1 : Nat) (v1 : Value), B1 ≤ w.heap.size → RdInt64S B1 w v1 x1 → ∀ (B2 : Nat) (v2 : Value), B2 ≤ w.heap.size → RdInt64S B2 w v2 x2 → Calls Try.prog 39 #[v0, v1, v2] w fun e w' => ∃ u0, e = .returned (.tuple #[u0, .int .i64 r1]) ∧ OwnInt64S w.heap.size w' u0 r0 ∧ Below w.heap.size w w')
    (hI : (x1.length ≤ 1048576) → (x2.length ≤ 1048576) → (szInt64SS x0 ≤ 1048576) → ∀ (w : World), ∀ (B0 : Nat) (v0 : Value), B0 ≤ w.heap.size → RdInt64SS B0 w v0 x0 → ∀ (B1 : Nat) (v1 : Value), B1 ≤ w.heap.size → RdInt64S B1 w v1 x1 → ∀ (B2 : Nat) (v2 : Value), B2 ≤ w.heap.size → RdInt64S B2 w v2 x2 → Calls Try.prog 40 #[v0, v1, v2] w fun e w' => ∃ u0, e = .returned (.tuple #[u0, .int .i64 r1]) ∧ OwnInt64S w.heap.size w' u0 r0 ∧ Below w.heap.size w w') :
    Calls Try.prog 11 #[v0, v1, v2] w fun e w' => e = .returned (.bool true) ∧ Below w.heap.size w w' := by
  by_cases c0 : x1.length ≤ 1048576
  · have _t := True.intro
    by_cases c1 : x2.length ≤ 1048576
    · have _t := True.intro
      by_cases c2 : szInt64SS x0 ≤ 1048576
      · have _t := True.intro
        exact walk1_FnExactLateJobs w a0 a1 a2 bg0 (hS c0 c1 c2) (hI c0 c1 c2) c0 c1 c2
      · clear hS hI
        obtain ⟨ao1, cap1, rfl⟩ := a1.shape
        obtain ⟨ao2, cap2, rfl⟩ := a2.shape
        have C2 := Lib.hid c2
        clear c2
        go_enter Try.func11, Try.ntmps11
        go_wp2_with fail
        refine (szInt64SS_no a0 (by omega) (by have := C2.out; omega)).mono ?_
        rintro e w' ⟨rfl, hb2⟩
        go_wp2
        go_ret
        exact ⟨rfl, hb2⟩
    · clear hS hI
      obtain ⟨ao1, cap1, rfl⟩ := a1.shape
      obtain ⟨ao2, cap2, rfl⟩ := a2.shape
      go_enter Try.func11, Try.ntmps11
      go_wp2
      go_ret
      exact ⟨rfl, Below.refl _ _⟩
  · clear hS hI
    obtain ⟨ao1, cap1, rfl⟩ := a1.shape
    go_enter Try.func11, Try.ntmps11
    go_wp2
    go_ret
    exact ⟨rfl, Below.refl _ _⟩
theorem LTV_len (xss : List (List Int)) (o dl : List Int) : (LTV xss o dl).length ≤ 8 := by
  unfold LTV
  split
  · rename_i h
    have h1 : OCode xss o = 0 := by
      by_cases h2 : OCode xss o = 0
      · exact h2
      · have := LTC_of (dl := dl) h2; omega
    have h3 := (ordP_parts h1).2.2.1
    have h4 := lateL_len xss o dl o.length
    rw [sortL_len]
    omega
  · exact Nat.zero_le _
theorem walk_FnExactLateJobs (w : World) {x0 : List (List Int)} {v0 : Value} (a0 : RdInt64SS w.heap.size w v0 x0) {x1 : List Int} {v1 : Value} (a1 : RdInt64S w.heap.size w v1 x1) {x2 : List Int} {v2 : Value} (a2 : RdInt64S w.heap.size w v2 x2) :
    Calls Try.prog 11 #[v0, v1, v2] w fun e w' => e = .returned (.bool true) ∧ Below w.heap.size w w' :=
  walk0_FnExactLateJobs (r0 := LTV x0 x1 x2) (r1 := LTC x0 x1 x2) w a0 a1 a2 (by have := LTV_len x0 x1 x2; unfold cntInt64S; omega) (fun hl _ _ w A v h ha B u h2 hb C z h3 hd => sLateJobs_c h h2 ha hb hd) (fun hl _ _ w A v h ha B u h2 hb C z h3 hd => LateJobs_c h h2 ha hb hd (by omega))
namespace fnExactLateJobs
theorem own : ownKnob Try.prog.godebug = none := by kernel_rfl
set_option maxRecDepth 100000 in
theorem lifted (os : Os) (started : os.Started) (H : Type) (enc : TypeId × Value → H) :
    ReturnsInHanded {} Try.checked os 11 .any (Rows.fnExactLateJobsSpec.pre6 enc Try.prog Try.f11 Rows.fnExactLateJobsRow.domain false) (Rows.fnExactLateJobsSpec.post enc Try.prog Try.f11 false true false false) := by
  refine returnsInHanded_of_change_sized (C := Try.checked) own started (by kernel_rfl) Try.func11
    (ChangeSpec.witness6 (enc := enc) (C := Try.checked) false ⟨#[], #[.slice none 0 0, .slice none 0 0, .slice none 0 0], []⟩ 8 (by kernel_rfl) (by kernel_rfl) (by kernel_rfl) (by kernel_rfl)) ?_
  intro W base args ds gs before hval0 hW hcnd hsz _
  have hval : ∀ (j : Nat) t v, Try.f11.params[j]? = some t → args[j]? = some v → Value.okWide Try.prog W .any base t v := hval0
  have hW' := hW
  obtain ⟨p, q, hA0, hV, rfl, hfz, hnd⟩ := hW
  have hA : DataW.TrodAll enc Try.prog W 0 (fun _ => true) true Try.f11.params.toList args.toList ds p := hA0
  rw [Try.params11] at hA hval
  obtain ⟨v0, vs0, d0, ds0, p0, s0, hargs, rfl, rfl, h0, q0⟩ := trodAll_cons hA
  obtain ⟨v1, vs1, d1, ds1, p1, s1, rfl, rfl, rfl, h1, q1⟩ := trodAll_cons q0
  obtain ⟨v2, vs2, d2, ds2, p2, s2, rfl, rfl, rfl, h2, q2⟩ := trodAll_cons q1
  obtain ⟨rfl, rfl, rfl⟩ := trodAll_nil q2
  obtain rfl : args = #[v0, v1, v2] := by cases args; simp_all
  obtain ⟨x0, r0, _⟩ := open_rdM Try.underlying22 Try.underlying29 Try.underlying2 (by kernel_rfl) (by kernel_rfl) (hval 0 22 v0 rfl rfl) h0
  obtain ⟨x1, r1, _⟩ := open_rdI Try.underlying29 Try.underlying2 (by kernel_rfl) (hval 1 29 v1 rfl rfl) h1
  obtain ⟨x2, r2, _⟩ := open_rdI Try.underlying29 Try.underlying2 (by kernel_rfl) (hval 2 29 v2 rfl rfl) h2
  exact (walk_FnExactLateJobs W r0 r1 r2).mono fun e W' hh => ⟨_, hh.1, law_post (f := Try.f11) (s := Rows.fnExactLateJobsSpec) (T := 4) (by kernel_rfl) (of_decide_eq_true (by kernel_rfl)) rfl rfl Try.underlying4 rfl hW' hh.2⟩
theorem proved : Rows.FnExactLateJobsSaid :=
  OpenClaim.holds_of_wide 11 Try.f11 rfl rfl rfl rfl rfl rfl rfl ⟨rfl, rfl, rfl, rfl, rfl⟩ rfl rfl rfl rfl rfl (by kernel_rfl) Try.func11 (by kernel_rfl)
    (of_decide_eq_true (by kernel_rfl)) (by unfold Func.isWrapper; first | (rw [if_pos (by decide +kernel)]; kernel_rfl) | (rw [if_neg (by decide +kernel)]; exact ⟨rfl, rfl⟩))
    (fun os started H enc _ => lifted os started H enc)
end fnExactLateJobs
#print axioms fnExactLateJobs.proved
end Go.Proofs.Ytpnmcgjfemaleaa
