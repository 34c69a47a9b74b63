/- By how much a fault changes a report; all faults: the program's. The condition: the library's table of powers of ten lies as its text lays it. -/
import Derived.Test.YtahkkdkdaedioaaDoorAft
namespace Go.Proofs.YtahkkdkdaedioaaDoor
open Go.ChangeShapes Go.WideShapes Go.ChangeAt Go.RowKit
set_option linter.unusedVariables false
set_option maxRecDepth 100000
theorem after_one (n : Int) (f : FaultT) : afterL [n] [⟨f.kind, 0, f.place, f.digit⟩] = afterF n f := by
  simp [afterL, afterK, List.range_succ, findF, readAt, afterF, readF]
theorem less_small {a b : ReportT} (h1 : -1000000000 ≤ a.count - b.count ∧ a.count - b.count ≤ 1000000000) (h2 : -1000000000 ≤ a.sum - b.sum ∧ a.sum - b.sum ≤ 1000000000) (h3 : -1000000000 ≤ a.digits - b.digits ∧ a.digits - b.digits ≤ 1000000000) : lessW a b = subR a b := by
  unfold lessW subR
  rw [wrap_small (by omega), wrap_small (by omega), wrap_small (by omega)]
theorem chg_less {xs : List Int} {f : FaultT} (h : amtOk xs = true) (hf : fOk xs f) : lessW (repOf (afterF (atN xs f.card) f)) (repOf [atN xs f.card]) = chgF xs f := by
  have hb := chgF_bound h hf
  unfold chgF at hb ⊢
  unfold subR at hb
  simp only at hb
  exact less_small (by omega) (by omega) (by omega)
theorem fOk_rd {xs : List Int} {f : FaultT} (hf : fOk xs f) : fRd ⟨f.kind, 0, f.place, f.digit⟩ := by
  intro h3
  rcases hf.2 with ⟨h4 | h4, _⟩ | ⟨_, h4, h5, _⟩
  · simp only at h3; omega
  · simp only at h3; omega
  · exact ⟨h4, h5⟩
theorem chgStart (w : World) (O1 : Obj) (x : Int) (hx : eI.ok x) (f : FaultT) (hf : okFault f) (t2 : TypeId) :
    let X := ((((w.alloc O1).alloc (.cells #[.int .i64 0, .int .i64 0, .int .i64 0] t2)).alloc (.cells #[.int .i64 x] 2)).alloc (.cells #[.int .i64 x] 2)).alloc (.cells #[.int .i64 f.kind, .int .i64 f.card, .int .i64 f.place, .int .i64 f.digit] 40)
    RdI X.heap.size X (.slice (some ⟨w.heap.size + 1 + 1, 0, none⟩) 1 1) [x] ∧ RdI X.heap.size X (.slice (some ⟨w.heap.size + 1 + 1 + 1, 0, none⟩) 1 1) [x] ∧ RdFaultS X.heap.size X (.slice (some ⟨w.heap.size + 1 + 1 + 1 + 1, 0, none⟩) 1 1) [f] ∧
      Box X (w.heap.size + 1) [.int .i64 0, .int .i64 0, .int .i64 0] ∧ Below w.heap.size w X := by
  intro X
  obtain ⟨w1, h1⟩ : ∃ w1, w1 = w.alloc O1 := ⟨_, rfl⟩
  obtain ⟨w2, h2⟩ : ∃ w2, w2 = w1.alloc (.cells #[.int .i64 0, .int .i64 0, .int .i64 0] t2) := ⟨_, rfl⟩
  obtain ⟨w3, h3⟩ : ∃ w3, w3 = w2.alloc (.cells #[.int .i64 x] 2) := ⟨_, rfl⟩
  obtain ⟨w4, h4⟩ : ∃ w4, w4 = w3.alloc (.cells #[.int .i64 x] 2) := ⟨_, rfl⟩
  have hX : X = w4.alloc (.cells #[.int .i64 f.kind, .int .i64 f.card, .int .i64 f.place, .int .i64 f.digit] 40) := by rw [h4, h3, h2, h1]
  have e1 : w1.heap.size = w.heap.size + 1 := by rw [h1]; simp
  have e2 : w2.heap.size = w.heap.size + 1 + 1 := by rw [h2, ← e1]; simp
  have e3 : w3.heap.size = w.heap.size + 1 + 1 + 1 := by rw [h3, ← e2]; simp
  have e4 : w4.heap.size = w.heap.size + 1 + 1 + 1 + 1 := by rw [h4, ← e3]; simp
  have b1 : Below w.heap.size w w1 := by rw [h1]; exact (Below.refl _ _).alloc (Nat.le_refl _) _
  have b2 : Below w1.heap.size w1 w2 := by rw [h2]; exact (Below.refl _ _).alloc (Nat.le_refl _) _
  have b3 : Below w2.heap.size w2 w3 := by rw [h3]; exact (Below.refl _ _).alloc (Nat.le_refl _) _
  have b4 : Below w3.heap.size w3 w4 := by rw [h4]; exact (Below.refl _ _).alloc (Nat.le_refl _) _
  have b5 : Below w4.heap.size w4 X := by rw [hX]; exact (Below.refl _ _).alloc (Nat.le_refl _) _
  have r1 : RdI (w2.heap.size + 1) w3 (.slice (some ⟨w2.heap.size, 0, none⟩) 1 1) [x] := by rw [h3]; exact rds_one (E := eI) hx rfl
  have r2 : RdI (w3.heap.size + 1) w4 (.slice (some ⟨w3.heap.size, 0, none⟩) 1 1) [x] := by rw [h4]; exact rds_one (E := eI) hx rfl
  have r3 : RdFaultS (w4.heap.size + 1) X (.slice (some ⟨w4.heap.size, 0, none⟩) 1 1) [f] := by rw [hX]; exact rds_one (E := eFault) hf rfl
  have r4 : Box w2 w1.heap.size [.int .i64 0, .int .i64 0, .int .i64 0] := by rw [h2]; exact Box.new w1 _ _
  rw [e2] at r1
  rw [e3] at r2
  rw [e4] at r3
  rw [e1] at r4
  exact ⟨(r1.onn (b4)).onn b5, r2.onn b5, r3.tight, ((r4.on b3).on b4).on b5, b1.trans ((b2.mono (by omega)).trans ((b3.mono (by omega)).trans ((b4.mono (by omega)).trans (b5.mono (by omega)))))⟩
set_option maxHeartbeats 1000000 in
theorem change_c {xs : List Int} {f : FaultT} {v : Value} {w : World} {A : Nat} (ha : RdI A w v xs) (hx : amtOk xs = true) (hf : fOk xs f) (ht : PowAt w) :
    Calls Tryd.prog 63 #[v, vFault f] w fun e w' => e = .returned (vReport (chgF xs f)) ∧ Below w.heap.size w w' := by
  have hch := chg_less hx hf
  obtain ⟨hafl, hafx⟩ := after_ok hx hf
  have hrd := fOk_rd hf
  have hat := amt_at hx f.card
  have hone := after_one (atN xs f.card) f
  have hfo : okFault f := by
    have := (amtOk_parts hx).1
    have h1 := hf.1
    unfold okFault
    rcases hf.2 with ⟨h4 | h4, h5, h6⟩ | ⟨h4, h5, h6, _⟩ <;> omega
  rw [← hch]
  obtain ⟨ao, cap, rfl, ho⟩ := ha.open
  obtain ⟨b, off, rfl, hlt, hc⟩ := ho (by have := hf.1; omega)
  obtain ⟨ci, hci⟩ := Int.eq_ofNat_of_zero_le hf.1.1
  obtain ⟨x, hxk, hcx, _⟩ := hc ci (by have := hf.1.2; omega)
  have hax : atN xs f.card = x := by unfold atN; rw [hci, Int.toNat_natCast, List.getD_eq_getElem?_getD, hxk]; rfl
  rw [hax] at hafl hafx hat hone ⊢
  have hcl : (ci : Int) < (xs.length : Int) := by have := hf.1.2; omega
  generalize xs.length = n at hcl ⊢
  obtain ⟨kd, cd, pl, dg⟩ := f
  simp only at hci hrd hone
  subst hci
  generalize hP : afterF x ⟨kd, (ci : Int), pl, dg⟩ = P at hafl hafx hone ⊢
  have Hafl := Lib.hid hafl
  have Hafx := Lib.hid hafx
  have Hrd := Lib.hid hrd
  have Hat := Lib.hid hat
  have Hone := Lib.hid hone
  have Hfo := Lib.hid hfo
  have Ht := Lib.hid ht
  have hlt2 := hlt.2
  have hxok : eI.ok x := by show -9223372036854775808 ≤ x ∧ x ≤ 9223372036854775807; omega
  have Hxok := Lib.hid hxok
  have hne1 : w.heap.size ≠ b := by omega
  clear hch hafl hafx hrd hat hone hfo ht ha ho hc hx hf hxk hax hP hxok
  obtain ⟨k1, k2, k3, k4, k5⟩ := chgStart w (.cells #[.int .i64 kd, .int .i64 (ci : Int), .int .i64 pl, .int .i64 dg] 40) x Hxok.out ⟨kd, 0, pl, dg⟩ (by have := Hfo.out; unfold okFault at this ⊢; simp only at this ⊢; omega) 29
  obtain ⟨W5, hW5⟩ : ∃ W5, W5 = (((((w.alloc (.cells #[.int .i64 kd, .int .i64 (ci : Int), .int .i64 pl, .int .i64 dg] 40)).alloc (.cells #[.int .i64 0, .int .i64 0, .int .i64 0] 29)).alloc (.cells #[.int .i64 x] 2)).alloc (.cells #[.int .i64 x] 2)).alloc (.cells #[.int .i64 kd, .int .i64 0, .int .i64 pl, .int .i64 dg] 40)) := ⟨_, rfl⟩
  simp only at k1 k2 k3 k4 k5
  rw [← hW5] at k1 k2 k3 k4 k5
  have hcon := amountsAfter_c k2 k3 (by simp; exact Hat.out) (by simp) (by simp; exact Hrd.out)
  rw [Hone.out] at hcon
  have Hcon := Lib.hid hcon
  have HW5 := Lib.hid hW5
  have K1 := Lib.hid k1
  have K4 := Lib.hid k4
  have K5 := Lib.hid k5
  have Ht5 := Lib.hid (Ht.out.below k5)
  clear hcon hW5 k1 k2 k3 k4 k5 Hone
  go_enter Tryd.func63, Tryd.ntmps63
  go_wp2_with fail
  rw [← HW5.out]
  with_reducible refine Hcon.out.mono ?_
  rintro e w6 ⟨z, rfl, hz, hb6⟩
  obtain ⟨za, zc, rfl⟩ := hz.shape
  have Hz := Lib.hid hz.rds
  have K16 := Lib.hid (K1.out.onn hb6)
  have K46 := Lib.hid (K4.out.on hb6)
  have K56 := Lib.hid (K5.out.trans (hb6.mono K5.out.size))
  have Ht6 := Lib.hid (Ht5.out.below hb6)
  clear hz hb6 hcx
  go_wp2_with fail
  with_reducible refine (reportOf_c Hz.out Hafx.out (by have := Hafl.out; omega) Ht6.out).mono ?_
  rintro e w7 ⟨rfl, hb7⟩
  have K17 := Lib.hid (K16.out.onn hb7)
  have K47 := Lib.hid (K46.out.on hb7)
  have K57 := Lib.hid (K56.out.trans (hb7.mono K56.out.size))
  have Ht7 := Lib.hid (Ht6.out.below hb7)
  clear hb7
  go_wp2_with fail
  with_reducible refine (reportOf_c K17.out (by simp; exact Hat.out) (by simp) Ht7.out).mono ?_
  rintro e w8 ⟨rfl, hb8⟩
  have K48 := Lib.hid (K47.out.on hb8)
  have K58 := Lib.hid (K57.out.trans (hb8.mono K57.out.size))
  clear hb8
  go_wp2_with fail
  with_reducible refine (less_c _ _ _).mono ?_
  rintro e w9 ⟨rfl, hb9⟩
  have k4 := K48.out.on hb9
  have K59 := Lib.hid (K58.out.trans (hb9.mono K58.out.size))
  have c0 := k4.cell 0 _ rfl
  have c1 := k4.cell 1 _ rfl
  have c2 := k4.cell 2 _ rfl
  have f0 := k4.free 0
  have f1 := k4.free 1
  have f2 := k4.free 2
  generalize hR : lessW (repOf P) (repOf [x]) = R
  have HR := Lib.hid hR
  clear k4 hb9 hR
  go_wp2
  exact bodyPost_ret (v := vReport R) (by simp [results, Tryd.results63, go_sem, c0, c1, c2]) rfl ⟨by rw [HR.out], K59.out.run (g := w.heap.size + 1) (by omega) [_, _, _]⟩
end Go.Proofs.YtahkkdkdaedioaaDoor
