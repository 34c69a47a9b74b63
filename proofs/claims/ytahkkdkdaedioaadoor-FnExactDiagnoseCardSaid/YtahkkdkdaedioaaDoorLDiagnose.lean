/- The law 'the program's Diagnose returns what the reference's returns'. The condition: the library's tables lie as the program's text lays them. -/
import Derived.Test.YtahkkdkdaedioaaDoorDiaI
import Derived.Test.YtahkkdkdaedioaaDoorDiaT
import Derived.Test.YtahkkdkdaedioaaDoorMarkF
import Derived.Test.YtahkkdkdaedioaaDoorPow
import Derived.Test.YtahkkdkdaedioaaDoorRegL
import Derived.Test.YtahkkdkdaedioaaDoorLaw
import Derived.Test.YtahkkdkdaedioaaDoorTie
import Derived.Test.YtahkkdkdaedioaaDoorCards
namespace Go.Proofs.YtahkkdkdaedioaaDoor
open Go.ChangeShapes Go.WideShapes Go.ChangeAt Go.RowKit Go.Sort
set_option linter.unusedVariables false
set_option maxRecDepth 100000
set_option maxHeartbeats 4000000 in
theorem walk1_FnExactDiagnose (w : World) {x0 : List Int} {x1 : ReportT} {r0 : List FaultT} {r1 : Int} {r2 : Int} {v0 : Value} (a0 : RdInt64S w.heap.size w v0 x0) (a1 : okReport x1) (bg0 : cntFaultS r0 ≤ 1000000000)
    (hS : ∀ (wz : World), Below w.heap.size w wz → ∀ (B0 : Nat) (v0 : Value), B0 ≤ wz.heap.size → RdInt64S B0 wz v0 x0 → Calls Tryd.prog 26 #[v0, vReport x1] wz fun e w' => ∃ u0, e = .returned (.tuple #[u0, .int .i64 r1, .int .i64 r2]) ∧ OwnFaultS wz.heap.size w' u0 r0 ∧ Below wz.heap.size wz w')
    (hI : ∀ (wz : World), Below w.heap.size w wz → ∀ (B0 : Nat) (v0 : Value), B0 ≤ wz.heap.size → RdInt64S B0 wz v0 x0 → Calls Tryd.prog 10 #[v0, vReport x1] wz fun e w' => ∃ u0, e = .returned (.tuple #[u0, .int .i64 r1, .int .i64 r2]) ∧ OwnFaultS wz.heap.size w' u0 r0 ∧ Below wz.heap.size wz w') (c0 : x0.length ≤ 1048576) :
    Calls Tryd.prog 6 #[v0, lReport x1] w fun e w' => e = .returned (.bool true) ∧ Below w.heap.size w w' := by
  have hB0 : Below w.heap.size w w := Below.refl _ _
  obtain ⟨ao0, cap0, rfl⟩ := a0.shape
  have Bg0 := Lib.hid bg0
  clear bg0
  have C0 := Lib.hid c0
  go_enter Tryd.func6, Tryd.ntmps6
  go_upto_region 3 with fail
  obtain ⟨W0, hW0⟩ : ∃ W0, W0 = w.alloc (.cells #[.int .i64 x1.count, .int .i64 x1.sum, .int .i64 x1.digits] 43) := ⟨_, rfl⟩
  have hBW : Below w.heap.size w W0 := by rw [hW0]; exact (Below.refl _ _).alloc (Nat.le_refl _) _
  have hB0' : Box W0 w.heap.size [.int .i64 x1.count, .int .i64 x1.sum, .int .i64 x1.digits] := by rw [hW0]; exact Box.new w [.int .i64 x1.count, .int .i64 x1.sum, .int .i64 x1.digits] _
  rw [← hW0]
  have HB := Lib.hid hB0'
  have Hsl : Hid (szInt64S x0 ≤ 1048576) := Lib.hid (by have := C0.out; unfold szInt64S; omega)
  clear hW0 hB0' hB0
  have hsW := hBW.size
  replace a0 := a0.below hBW (Nat.le_refl _)
  go_cut [5, 6, 7] (fun c0 c1 c2 wx => RdFaultS wx.heap.size wx c0 r0 ∧ c1 = .int .i64 r1 ∧ c2 = .int .i64 r2 ∧ Below W0.heap.size W0 wx)
  case first =>
    have hTd : Below W0.heap.size W0 W0.drew := (Below.refl _ _).drew1
    have HBX := Lib.hid (HB.out)
    have b0 := HBX.out.cell 0 _ rfl
    have b1 := HBX.out.cell 1 _ rfl
    have b2 := HBX.out.cell 2 _ rfl
    have b3 : w.heap.size < W0.heap.size := HBX.out.lt
    have haD := a0.below hTd hsW
    have HaD := Lib.hid haD
    have hbs := hBW
    clear haD
    go_region_law (first
      | (go_simp; go_at_call 18; (with_reducible refine (toInt64S_c HaD.out Hsl.out).mono ?_); rintro e w8 ⟨vt, rfl, t8, hb8⟩; have h8 := hTd.trans hb8; have B8 := HBX.out.on h8; have c0' := B8.cell 0 _ rfl; have c1' := B8.cell 1 _ rfl; have c2' := B8.cell 2 _ rfl; have c3' : w.heap.size < w8.heap.size := B8.lt; have rt8 := Lib.hid t8.rds; clear t8 B8)
      | (go_simp; go_at_call 19; (with_reducible refine (toReport_c w8 (x := x1) a1).mono ?_); rintro e wF ⟨rfl, hbF⟩; have hF := h8.trans (hbF.mono h8.size); have rtF := Lib.hid (rt8.out.below hbF (Nat.le_refl _)); have hlF := hbF.size)
      | (go_simp; go_at_call 19; (with_reducible refine (toReport_c W0.drew (x := x1) a1).mono ?_); rintro e w9 ⟨rfl, hb9⟩; have h9 := hTd.trans hb9; have ha9 := Lib.hid (HaD.out.below hb9 hsW))
      | (go_simp; go_at_call 18; (with_reducible refine (toInt64S_c ha9.out Hsl.out).mono ?_); rintro e wF ⟨vt, rfl, t8, hbF⟩; have hF := h9.trans (hbF.mono h9.size); have rtF := Lib.hid t8.rds; have hlF : wF.heap.size ≤ wF.heap.size := (Nat.le_refl _); clear t8)
      | (go_simp; go_at_call 26; (with_reducible refine (hS wF (hbs.trans (hF.mono hbs.size)) _ _ (by first | exact hlF | exact Nat.le_refl _) rtF.out).mono ?_); rintro e wS ⟨VS, rfl, oS, hbS⟩; have hS9 := hF.trans (hbS.mono hF.size); have rS := Lib.hid oS.rds; clear oS))
    all_goals
      go_wp2_with fail
      go_meet
      exact ⟨rS.out, rfl, rfl, hS9⟩
  case rest =>
    obtain ⟨rw0, rfl, rfl, hB3⟩ := hcut
    generalize wc = w3 at *
    have hs3 := hB3.size
    replace a0 := a0.below hB3 hsW
    replace rw0 := rw0
    obtain ⟨wo0, wcap0, hwe0⟩ := rw0.shape
    have Hwe0 := Lib.hid hwe0
    clear hwe0
    go_wp2_with fail
    refine (toInt64S_c a0 (by have := C0.out; show (x0.length : Int) ≤ 1048576; omega)).mono ?_
    rintro e w4 ⟨Vx0, rfl, ox0, hb4⟩
    have hs4 : w3.heap.size ≤ w4.heap.size := hb4.size
    have hB4 : Below W0.heap.size W0 w4 := hB3.trans (hb4.mono hB3.size)
    replace a0 := a0.below hb4 (by omega)
    replace rw0 := rw0.below hb4 (by omega)
    replace ox0 := ox0.top
    have rx0 := ox0.rds
    have HB4 := HB.out.on hB4
    have q0 := HB4.cell 0 _ rfl
    have q1 := HB4.cell 1 _ rfl
    have q2 := HB4.cell 2 _ rfl
    have q3 : w.heap.size < w4.heap.size := HB4.lt
    clear HB4
    go_wp2_with fail
    refine (toReport_c w4 a1).mono ?_
    rintro e w5 ⟨rfl, hb5⟩
    clear q0 q1 q2 q3
    have hs5 : w4.heap.size ≤ w5.heap.size := hb5.size
    have hB5 : Below W0.heap.size W0 w5 := hB4.trans (hb5.mono hB4.size)
    replace a0 := a0.below hb5 (by omega)
    replace rw0 := rw0.below hb5 (by omega)
    replace rx0 := rx0.below hb5 (by omega)
    replace ox0 := ox0.below hb5 (by omega)
    go_wp2_with fail
    refine (hI w5 (hBW.trans (hB5.mono hBW.size)) _ _ (by omega) rx0).mono ?_
    rintro e w6 ⟨Vg0, rfl, og0, hb6⟩
    have hs6 : w5.heap.size ≤ w6.heap.size := hb6.size
    have hB6 : Below W0.heap.size W0 w6 := hB5.trans (hb6.mono hB5.size)
    replace a0 := a0.below hb6 (by omega)
    replace rw0 := rw0.below hb6 (by omega)
    replace rx0 := rx0.below hb6 (by omega)
    replace ox0 := ox0.below hb6 (by omega)
    replace og0 := og0.top
    have rg0 := og0.rds
    go_wp2_with fail
    refine (eqFaultS_c rg0 rw0).mono ?_
    rintro e w7 ⟨rfl, hb7⟩
    have hs7 : w6.heap.size ≤ w7.heap.size := hb7.size
    have hB7 : Below W0.heap.size W0 w7 := hB6.trans (hb7.mono hB6.size)
    replace a0 := a0.below hb7 (by omega)
    replace rw0 := rw0.below hb7 (by omega)
    replace rx0 := rx0.below hb7 (by omega)
    replace ox0 := ox0.below hb7 (by omega)
    replace rg0 := rg0.below hb7 (by omega)
    replace og0 := og0.below hb7 (by omega)
    go_wp2_with fail
    refine (toInt64S_c a0 (by have := C0.out; show (x0.length : Int) ≤ 1048576; omega)).mono ?_
    rintro e w8 ⟨vt7_9, rfl, t7_9, hb8⟩
    have hs8 : w7.heap.size ≤ w8.heap.size := hb8.size
    have hB8 : Below W0.heap.size W0 w8 := hB7.trans (hb8.mono hB7.size)
    replace a0 := a0.below hb8 (by omega)
    replace rw0 := rw0.below hb8 (by omega)
    replace rx0 := rx0.below hb8 (by omega)
    replace ox0 := ox0.below hb8 (by omega)
    replace rg0 := rg0.below hb8 (by omega)
    replace og0 := og0.below hb8 (by omega)
    have rt7_9 := t7_9.rds
    clear t7_9
    go_wp2_with fail
    refine (eqInt64S_c rx0 rt7_9).mono ?_
    rintro e w9 ⟨rfl, hb9⟩
    have hs9 : w8.heap.size ≤ w9.heap.size := hb9.size
    have hB9 : Below W0.heap.size W0 w9 := hB8.trans (hb9.mono hB8.size)
    replace a0 := a0.below hb9 (by omega)
    replace rw0 := rw0.below hb9 (by omega)
    replace rx0 := rx0.below hb9 (by omega)
    replace ox0 := ox0.below hb9 (by omega)
    replace rg0 := rg0.below hb9 (by omega)
    replace og0 := og0.below hb9 (by omega)
    replace rt7_9 := rt7_9.below hb9 (by omega)
    go_wp2_with fail
    refine (markInt64S_c _ ox0 (by omega) (by first | omega | (have := cntInt64S_le x0; have := C0.out; have : szInt64S x0 ≤ 1048576 := (by show (x0.length : Int) ≤ 1048576; omega);  omega))).mono ?_
    rintro e w10 ⟨rfl, ox0, hw10, hg10⟩
    have hb10 := hw10.below (by omega)
    have hs10 : w9.heap.size ≤ w10.heap.size := hb10.size
    have hB10 : Below W0.heap.size W0 w10 := hB9.trans (hb10.mono (by have := hB3.size; omega))
    replace a0 := a0.below hb10 (by omega)
    replace rw0 := rw0.below hb10 (by omega)
    clear rx0
    replace og0 := og0.within hw10 (by omega)
    replace rg0 := og0.rds
    clear rt7_9
    have rx0 := ox0.rds
    go_wp2_with fail
    refine (eqFaultS_c rg0 rw0).mono ?_
    rintro e w11 ⟨rfl, hb11⟩
    have hs11 : w10.heap.size ≤ w11.heap.size := hb11.size
    have hB11 : Below W0.heap.size W0 w11 := hB10.trans (hb11.mono hB10.size)
    replace a0 := a0.below hb11 (by omega)
    replace rw0 := rw0.below hb11 (by omega)
    replace ox0 := ox0.below hb11 (by omega)
    replace rg0 := rg0.below hb11 (by omega)
    replace og0 := og0.below hb11 (by omega)
    replace rx0 := rx0.below hb11 (by omega)
    go_wp2_with fail
    refine (markFaultS_c _ og0 (by omega) (by first | omega | (have := Bg0.out; omega))).mono ?_
    rintro e w12 ⟨rfl, og0, hw12, hg12⟩
    have hb12 := hw12.below (by omega)
    have hs12 : w11.heap.size ≤ w12.heap.size := hb12.size
    have hB12 : Below W0.heap.size W0 w12 := hB11.trans (hb12.mono (by have := hB5.size; omega))
    replace a0 := a0.below hb12 (by omega)
    replace rw0 := rw0.below hb12 (by omega)
    clear ox0
    clear rg0
    clear rx0
    have rg0 := og0.rds
    go_wp2_with fail
    refine (heldFaultS_c _ rg0 (by omega) (by first | omega | (have := Bg0.out; omega))).mono ?_
    rintro e w13 ⟨rfl, hb13⟩
    have hs13 : w12.heap.size ≤ w13.heap.size := hb13.size
    have hB13 : Below W0.heap.size W0 w13 := hB12.trans (hb13.mono hB12.size)
    replace a0 := a0.below hb13 (by omega)
    replace rw0 := rw0.below hb13 (by omega)
    replace og0 := og0.below hb13 (by omega)
    replace rg0 := rg0.below hb13 (by omega)
    go_upto_region 22 with fail
    go_cut [15, 16, 17] (fun c0 c1 c2 wx => RdFaultS wx.heap.size wx c0 r0 ∧ c1 = .int .i64 r1 ∧ c2 = .int .i64 r2 ∧ Below w13.heap.size w13 wx)
    case first =>
      have hTd : Below w13.heap.size w13 w13.drew := (Below.refl _ _).drew1
      have HBX := Lib.hid (HB.out.on hB13)
      have b0 := HBX.out.cell 0 _ rfl
      have b1 := HBX.out.cell 1 _ rfl
      have b2 := HBX.out.cell 2 _ rfl
      have b3 : w.heap.size < w13.heap.size := HBX.out.lt
      have haD := a0.below hTd (by omega)
      have HaD := Lib.hid haD
      have hbs := hBW.trans (hB13.mono hBW.size)
      clear haD
      go_region_law (first
        | (go_simp; go_at_call 18; (with_reducible refine (toInt64S_c HaD.out Hsl.out).mono ?_); rintro e w8 ⟨vt, rfl, t8, hb8⟩; have h8 := hTd.trans hb8; have B8 := HBX.out.on h8; have c0' := B8.cell 0 _ rfl; have c1' := B8.cell 1 _ rfl; have c2' := B8.cell 2 _ rfl; have c3' : w.heap.size < w8.heap.size := B8.lt; have rt8 := Lib.hid t8.rds; clear t8 B8)
        | (go_simp; go_at_call 19; (with_reducible refine (toReport_c w8 (x := x1) a1).mono ?_); rintro e wF ⟨rfl, hbF⟩; have hF := h8.trans (hbF.mono h8.size); have rtF := Lib.hid (rt8.out.below hbF (Nat.le_refl _)); have hlF := hbF.size)
        | (go_simp; go_at_call 19; (with_reducible refine (toReport_c w13.drew (x := x1) a1).mono ?_); rintro e w9 ⟨rfl, hb9⟩; have h9 := hTd.trans hb9; have ha9 := Lib.hid (HaD.out.below hb9 (by omega)))
        | (go_simp; go_at_call 18; (with_reducible refine (toInt64S_c ha9.out Hsl.out).mono ?_); rintro e wF ⟨vt, rfl, t8, hbF⟩; have hF := h9.trans (hbF.mono h9.size); have rtF := Lib.hid t8.rds; have hlF : wF.heap.size ≤ wF.heap.size := (Nat.le_refl _); clear t8)
        | (go_simp; go_at_call 10; (with_reducible refine (hI wF (hbs.trans (hF.mono hbs.size)) _ _ (by first | exact hlF | exact Nat.le_refl _) rtF.out).mono ?_); rintro e wS ⟨VS, rfl, oS, hbS⟩; have hS9 := hF.trans (hbS.mono hF.size); have rS := Lib.hid oS.rds; clear oS))
      all_goals
        go_wp2_with fail
        go_meet
        exact ⟨rS.out, rfl, rfl, hS9⟩
    case rest =>
      obtain ⟨rh0, rfl, rfl, hb16⟩ := hcut
      generalize wc = w16 at *
      have hs16 : w13.heap.size ≤ w16.heap.size := hb16.size
      have hB16 : Below W0.heap.size W0 w16 := hB13.trans (hb16.mono hB13.size)
      replace a0 := a0.below hb16 (by omega)
      replace rw0 := rw0.below hb16 (by omega)
      replace og0 := og0.below hb16 (by omega)
      replace rg0 := rg0.below hb16 (by omega)
      go_wp2_with fail
      refine (eqFaultS_c rh0 rw0).mono ?_
      rintro e w17 ⟨rfl, hb17⟩
      have hs17 : w16.heap.size ≤ w17.heap.size := hb17.size
      have hB17 : Below W0.heap.size W0 w17 := hB16.trans (hb17.mono hB16.size)
      replace a0 := a0.below hb17 (by omega)
      replace rw0 := rw0.below hb17 (by omega)
      replace og0 := og0.below hb17 (by omega)
      replace rg0 := rg0.below hb17 (by omega)
      replace rh0 := rh0.below hb17 (by omega)
      go_wp2_with fail
      refine (heldFaultS_c _ rg0 (by omega) (by first | omega | (have := Bg0.out; omega))).mono ?_
      rintro e w18 ⟨rfl, hb18⟩
      have hs18 : w17.heap.size ≤ w18.heap.size := hb18.size
      have hB18 : Below W0.heap.size W0 w18 := hB17.trans (hb18.mono hB17.size)
      replace a0 := a0.below hb18 (by omega)
      replace rw0 := rw0.below hb18 (by omega)
      replace og0 := og0.below hb18 (by omega)
      replace rg0 := rg0.below hb18 (by omega)
      replace rh0 := rh0.below hb18 (by omega)
      go_wp2
      go_ret
      exact ⟨rfl, hBW.trans (hB18.mono hBW.size)⟩
theorem walk0_FnExactDiagnose (w : World) {x0 : List Int} {x1 : ReportT} {r0 : List FaultT} {r1 : Int} {r2 : Int} {v0 : Value} (a0 : RdInt64S w.heap.size w v0 x0) (a1 : okReport x1) (bg0 : cntFaultS r0 ≤ 1000000000)
    (hS : (x0.length ≤ 1048576) → ∀ (wz : World), Below w.heap.size w wz → ∀ (B0 : Nat) (v0 : Value), B0 ≤ wz.heap.size → RdInt64S B0 wz v0 x0 → Calls Tryd.prog 26 #[v0, vReport x1] wz fun e w' => ∃ u0, e = .returned (.tuple #[u0, .int .i64 r1, .int .i64 r2]) ∧ OwnFaultS wz.heap.size w' u0 r0 ∧ Below wz.heap.size wz w')
    (hI : (x0.length ≤ 1048576) → ∀ (wz : World), Below w.heap.size w wz → ∀ (B0 : Nat) (v0 : Value), B0 ≤ wz.heap.size → RdInt64S B0 wz v0 x0 → Calls Tryd.prog 10 #[v0, vReport x1] wz fun e w' => ∃ u0, e = .returned (.tuple #[u0, .int .i64 r1, .int .i64 r2]) ∧ OwnFaultS wz.heap.size w' u0 r0 ∧ Below wz.heap.size wz w') :
    Calls Tryd.prog 6 #[v0, lReport x1] w fun e w' => e = .returned (.bool true) ∧ Below w.heap.size w w' := by
  by_cases c0 : x0.length ≤ 1048576
  · have _t := True.intro
    exact walk1_FnExactDiagnose w a0 a1 bg0 (hS c0) (hI c0) c0
  · clear hS hI
    obtain ⟨ao0, cap0, rfl⟩ := a0.shape
    go_enter Tryd.func6, Tryd.ntmps6
    go_wp2
    go_ret
    exact ⟨rfl, (Below.refl _ _).alloc (Nat.le_refl _) _⟩
theorem walk_FnExactDiagnose (w : World) (ht : PowAt w) {x0 : List Int} {x1 : ReportT} {v0 : Value} (a0 : RdInt64S w.heap.size w v0 x0) (a1 : okReport x1) :
    Calls Tryd.prog 6 #[v0, lReport x1] w fun e w' => e = .returned (.bool true) ∧ Below w.heap.size w w' :=
  walk0_FnExactDiagnose (r0 := (dgA x0 x1)) (r1 := (dgN x0 x1)) (r2 := (ffC x0 x1)) w a0 a1 (by have := dgA_len x0 x1; unfold cntFaultS; omega) (fun _ _ _ _ _ _ ha => sDiagnose_c ha a1) (fun _ _ hB _ _ _ ha => Diagnose_c ha a1 (ht.below hB))
namespace fnExactDiagnose
theorem own : ownKnob Tryd.prog.godebug = none := by kernel_rfl
theorem door_met (os : Os) (args : Array Value) : laidMetH Tryd.prog Rows.fnExactDiagnoseRow.laid ((World.doorLaid Tryd.prog 24 os).forCall (fun _ _ => 0) ⟨#[], args, []⟩).memory :=
  laidMetH_of_parts3 (fuel := 8) (laidMet_of_run' 8 (by kernel_rfl) (by kernel_rfl)) (by kernel_rfl) (by kernel_rfl)
set_option maxRecDepth 100000 in
theorem lifted (os : Os) (started : os.Started) (H : Type) (enc : TypeId × Value → H) :
    ReturnsInHanded {} Tryd.checked os 6 .any (fun w args => (Rows.fnExactDiagnoseSpec.pre enc Tryd.prog Tryd.f6 [] false w args ∧ laidMetH Tryd.prog Rows.fnExactDiagnoseRow.laid w) ∧ sizedMet enc Tryd.prog Tryd.f6 (OpenSpec.ofChange Rows.fnExactDiagnoseSpec) false w args) (Rows.fnExactDiagnoseSpec.post enc Tryd.prog Tryd.f6 false true false false) := by
  refine returnsInHanded_of_change_and (C := Tryd.checked) (X := fun w _ => laidMetH Tryd.prog Rows.fnExactDiagnoseRow.laid w) (fun _ _ _ hh h => h.of_heap hh) own started (by kernel_rfl) Tryd.func6
    (ChangeSpec.witness_shaped (enc := enc) (C := Tryd.checked) (os := os) (X := fun w _ => laidMetH Tryd.prog Rows.fnExactDiagnoseRow.laid w) false (World.doorLaid Tryd.prog 24 os) #[.slice none 0 0, .agg #[.int .i64 0, .int .i64 0, .int .i64 0]] 8 rfl (World.shaped_of_RefB (by kernel_rfl) (by kernel_rfl)) (by kernel_rfl) (by kernel_rfl) (by kernel_rfl) (door_met os _)) ?_
  intro W base args ds gs before hval0 hW _ _ hL _
  have hval : ∀ (j : Nat) t v, Tryd.f6.params[j]? = some t → args[j]? = some v → Value.okWide Tryd.prog W .any base t v := hval0
  have hW' := hW
  obtain ⟨p, q, hA0, hV, rfl, hfz, hnd⟩ := hW
  have hA : DataW.TrodAll enc Tryd.prog W 0 (fun _ => true) true Tryd.f6.params.toList args.toList ds p := hA0
  rw [Tryd.params6] at hA hval
  obtain ⟨v0, vs0, d0, ds0, p0, s0, hargs, rfl, rfl, h0, q0⟩ := trodAll_cons hA
  obtain ⟨v1, vs1, d1, ds1, p1, s1, rfl, rfl, rfl, h1, q1⟩ := trodAll_cons q0
  obtain ⟨rfl, rfl, rfl⟩ := trodAll_nil q1
  obtain rfl : args = #[v0, v1] := by cases args; simp_all
  obtain ⟨x0, r0, _⟩ := open_rdI Tryd.underlying24 Tryd.underlying2 (by kernel_rfl) (hval 0 24 v0 rfl rfl) h0
  obtain ⟨x1, rfl, r1⟩ := openReport (hval 1 43 v1 rfl rfl) h1
  obtain ⟨rfl, rfl⟩ := trodVars_none hV
  exact (walk_FnExactDiagnose W (pow_of3 hL) r0 r1).mono fun e W' hh => ⟨_, hh.1, law_postV (f := Tryd.f6) (s := Rows.fnExactDiagnoseSpec) (T := 4) (by kernel_rfl) (of_decide_eq_true (by kernel_rfl)) (by kernel_rfl) rfl Tryd.underlying4 rfl hW' hh.2⟩
theorem row_holds : Rows.FnExactDiagnoseSaid :=
  OpenClaim.holds_of_wide 6 Tryd.f6 rfl rfl rfl rfl rfl rfl rfl ⟨rfl, rfl, rfl, rfl, rfl⟩ rfl rfl rfl rfl rfl (by kernel_rfl) Tryd.func6 (by kernel_rfl)
    (of_decide_eq_true (by kernel_rfl)) (by unfold Func.isWrapper; first | (rw [if_pos (by decide +kernel)]; kernel_rfl) | (rw [if_neg (by decide +kernel)]; exact ⟨rfl, rfl⟩))
    (fun os started H enc _ => lifted os started H enc)
theorem proved : Rows.FnExactDiagnoseCardSaid :=
  Claim7.holds_tied_plain_at .later [] [.data, .data, .data] true (true, "27f1a4c2c09c8dbe7363f4c58242c9a7653fe1f6b3e24b5110c4d1452dbcbd24") false
    row_holds (fun _ h => by cases h) (by kernel_rfl) (fun _ h => by cases h) fnExactDiagnose_row_tie rfl ⟨rfl, rfl⟩ (by kernel_rfl) rfl
    (fun f fn hf hfn => by
      obtain rfl : f = 6 := Option.some.inj ((show Tryd.prog.funcNamed "loop.example/g01012/laws.FnExactDiagnose" = some 6 by kernel_rfl).symm.trans hf) |>.symm
      obtain rfl : fn = Tryd.f6 := (Option.some.inj (Tryd.func6.symm.trans hfn)).symm
      exact ⟨by kernel_rfl, fun j t ht => by
        rw [Tryd.params6] at ht
        have hm : t ∈ [24, 43] := by simpa using Array.mem_of_getElem? ht
        have hall : ([24, 43].all fun u => !Tryd.prog.wantsStandIn u) = true := by kernel_rfl
        exact (show Tryd.prog.wantsStandIn t = false by simpa using List.all_eq_true.1 hall t hm)⟩)
    (by kernel_rfl)
end fnExactDiagnose
#print axioms fnExactDiagnose.proved
end Go.Proofs.YtahkkdkdaedioaaDoor
