/- The law 'the program's SumOfPays returns what the reference's returns'. No condition. -/
import Derived.Test.YtlcmliibdfclnaaSum3
import Derived.Test.YtlcmliibdfclnaaLaw
namespace Go.Proofs.Ytlcmliibdfclnaa
open Go.ChangeShapes Go.WideShapes Go.ChangeAt Go.RowKit
set_option linter.unusedVariables false
theorem walk_FnExactSumOfPays (w : World) {x0 : List PayT} {v0 : Value} (a0 : RdPayS w.heap.size w v0 x0) :
    Calls Try.prog 6 #[v0] w fun e w' => e = .returned (.bool true) ∧ Below w.heap.size w w' := by
  obtain ⟨y, hy⟩ : ∃ y, SumR x0 = y := ⟨_, rfl⟩
  obtain ⟨c, hc⟩ : ∃ c, SumC x0 = c := ⟨_, rfl⟩
  have Hy := Lib.hid hy
  have Hc := Lib.hid hc
  clear hy hc
  by_cases hsz : szPayS x0 ≤ 1048576
  · have Hsz := Lib.hid hsz
    clear hsz
    go_enter Try.func6, Try.ntmps6
    go_wp2_with fail
    with_reducible refine (szPayS_c a0 (by omega) Hsz.out).mono ?_
    rintro e w1 ⟨rfl, hb⟩
    have hB' : Below w.heap.size w w1 := ((Below.refl w.heap.size w)).trans (hb.mono (by (try simp); (try omega)))
    have hN := hb
    replace a0 := a0.onn hN
    clear hN
    have hB := hB'
    clear hb hB'
    have hl : 0 ≤ 1048576 - szPayS x0 := by have := Hsz.out; omega
    go_wp2_with fail
    with_reducible refine (toPayS_c a0 Hsz.out).mono ?_
    rintro e w2 ⟨u1, rfl, o1, hb⟩
    have hB' : Below w.heap.size w w2 := (hB).trans (hb.mono (by have := hB.size; (try simp); (try omega)))
    have hN := hb
    replace a0 := a0.onn hN
    clear hN
    replace hB := hB'
    clear hb hB'
    have r1 := o1.rds
    clear o1
    go_wp2_with fail
    with_reducible refine (sSumOfPays_c r1).mono ?_
    rw [Hy.out, Hc.out]
    rintro e w3 ⟨rfl, hb⟩
    have hB' : Below w.heap.size w w3 := (hB).trans (hb.mono (by have := hB.size; (try simp); (try omega)))
    have hN := hb
    replace a0 := a0.onn hN
    replace r1 := r1.onn hN
    clear hN
    replace hB := hB'
    clear hb hB'
    clear r1
    go_wp2_with fail
    with_reducible refine (toPayS_c (a0.onn ((Below.refl _ _).alloc (Nat.le_refl _) _)) Hsz.out).mono ?_
    rintro e w4 ⟨u2, rfl, o2, hb⟩
    have hB' : Below w.heap.size w w4 := ((hB).alloc (by have := (hB).size; simp at this ⊢; omega) _).trans (hb.mono (by have := hB.size; (try simp); (try omega)))
    have hN : Below w3.heap.size w3 w4 := (((Below.refl _ _)).alloc (by simp) _).trans (hb.mono (by simp; try omega))
    replace a0 := a0.onn hN
    clear hN
    have q0_0 : w4.cell? ⟨w3.heap.size, 0, none⟩ = some (.int .i64 y.hours) := (hb.cell (p := ⟨w3.heap.size, 0, none⟩) (by simp; try omega)).trans (by simp [go_sem])
    have q1_1 : w4.cell? ⟨w3.heap.size, 1, none⟩ = some (.int .i64 y.gross) := (hb.cell (p := ⟨w3.heap.size, 1, none⟩) (by simp; try omega)).trans (by simp [go_sem])
    have q2_2 : w4.cell? ⟨w3.heap.size, 2, none⟩ = some (.int .i64 y.tax) := (hb.cell (p := ⟨w3.heap.size, 2, none⟩) (by simp; try omega)).trans (by simp [go_sem])
    have q3_3 : w4.cell? ⟨w3.heap.size, 3, none⟩ = some (.int .i64 y.net) := (hb.cell (p := ⟨w3.heap.size, 3, none⟩) (by simp; try omega)).trans (by simp [go_sem])
    have hz_b0 : w3.heap.size < w4.heap.size := by have := hb.size; (try simp at this); omega
    replace hB := hB'
    clear hb hB'
    have r2 := o2.rds
    clear o2
    go_wp2_with fail
    with_reducible refine (SumOfPays_c r2).mono ?_
    rw [Hy.out, Hc.out]
    rintro e w5 ⟨rfl, hb⟩
    have hB' : Below w.heap.size w w5 := (hB).trans (hb.mono (by have := hB.size; (try simp); (try omega)))
    have hN := hb
    replace a0 := a0.onn hN
    replace r2 := r2.onn hN
    clear hN
    replace q0_0 : w5.cell? ⟨w3.heap.size, 0, none⟩ = some (.int .i64 y.hours) := (hb.cell (p := ⟨w3.heap.size, 0, none⟩) (by omega)).trans (by simp [go_sem, *])
    replace q1_1 : w5.cell? ⟨w3.heap.size, 1, none⟩ = some (.int .i64 y.gross) := (hb.cell (p := ⟨w3.heap.size, 1, none⟩) (by omega)).trans (by simp [go_sem, *])
    replace q2_2 : w5.cell? ⟨w3.heap.size, 2, none⟩ = some (.int .i64 y.tax) := (hb.cell (p := ⟨w3.heap.size, 2, none⟩) (by omega)).trans (by simp [go_sem, *])
    replace q3_3 : w5.cell? ⟨w3.heap.size, 3, none⟩ = some (.int .i64 y.net) := (hb.cell (p := ⟨w3.heap.size, 3, none⟩) (by omega)).trans (by simp [go_sem, *])
    replace hz_b0 : w3.heap.size < w5.heap.size := by have := hb.size; (try simp at this); omega
    replace hB := hB'
    clear hb hB'
    go_wp2_with fail
    with_reducible refine (eqPay_c _ y).mono ?_
    rintro e w6 ⟨rfl, hb⟩
    have hB' : Below w.heap.size w w6 := ((hB).alloc (by have := (hB).size; simp at this ⊢; omega) _).trans (hb.mono (by have := hB.size; (try simp); (try omega)))
    have hN : Below w5.heap.size w5 w6 := (((Below.refl _ _)).alloc (by simp) _).trans (hb.mono (by simp; try omega))
    replace a0 := a0.onn hN
    replace r2 := r2.onn hN
    clear hN
    replace q0_0 : w6.cell? ⟨w3.heap.size, 0, none⟩ = some (.int .i64 y.hours) := (hb.cell (p := ⟨w3.heap.size, 0, none⟩) (by simp; omega)).trans (by simp [go_sem, *])
    replace q1_1 : w6.cell? ⟨w3.heap.size, 1, none⟩ = some (.int .i64 y.gross) := (hb.cell (p := ⟨w3.heap.size, 1, none⟩) (by simp; omega)).trans (by simp [go_sem, *])
    replace q2_2 : w6.cell? ⟨w3.heap.size, 2, none⟩ = some (.int .i64 y.tax) := (hb.cell (p := ⟨w3.heap.size, 2, none⟩) (by simp; omega)).trans (by simp [go_sem, *])
    replace q3_3 : w6.cell? ⟨w3.heap.size, 3, none⟩ = some (.int .i64 y.net) := (hb.cell (p := ⟨w3.heap.size, 3, none⟩) (by simp; omega)).trans (by simp [go_sem, *])
    have q4_0 : w6.cell? ⟨w5.heap.size, 0, none⟩ = some (.int .i64 y.hours) := (hb.cell (p := ⟨w5.heap.size, 0, none⟩) (by simp; try omega)).trans (by simp [go_sem])
    have q5_1 : w6.cell? ⟨w5.heap.size, 1, none⟩ = some (.int .i64 y.gross) := (hb.cell (p := ⟨w5.heap.size, 1, none⟩) (by simp; try omega)).trans (by simp [go_sem])
    have q6_2 : w6.cell? ⟨w5.heap.size, 2, none⟩ = some (.int .i64 y.tax) := (hb.cell (p := ⟨w5.heap.size, 2, none⟩) (by simp; try omega)).trans (by simp [go_sem])
    have q7_3 : w6.cell? ⟨w5.heap.size, 3, none⟩ = some (.int .i64 y.net) := (hb.cell (p := ⟨w5.heap.size, 3, none⟩) (by simp; try omega)).trans (by simp [go_sem])
    replace hz_b0 : w3.heap.size < w6.heap.size := by have := hb.size; (try simp at this); omega
    have hz_b1 : w5.heap.size < w6.heap.size := by have := hb.size; (try simp at this); omega
    replace hB := hB'
    clear hb hB'
    go_wp2_with fail
    with_reducible refine (toPayS_c a0 Hsz.out).mono ?_
    rintro e w7 ⟨u3, rfl, o3, hb⟩
    have hB' : Below w.heap.size w w7 := (hB).trans (hb.mono (by have := hB.size; (try simp); (try omega)))
    have hN := hb
    replace a0 := a0.onn hN
    replace r2 := r2.onn hN
    clear hN
    replace q0_0 : w7.cell? ⟨w3.heap.size, 0, none⟩ = some (.int .i64 y.hours) := (hb.cell (p := ⟨w3.heap.size, 0, none⟩) (by omega)).trans (by simp [go_sem, *])
    replace q1_1 : w7.cell? ⟨w3.heap.size, 1, none⟩ = some (.int .i64 y.gross) := (hb.cell (p := ⟨w3.heap.size, 1, none⟩) (by omega)).trans (by simp [go_sem, *])
    replace q2_2 : w7.cell? ⟨w3.heap.size, 2, none⟩ = some (.int .i64 y.tax) := (hb.cell (p := ⟨w3.heap.size, 2, none⟩) (by omega)).trans (by simp [go_sem, *])
    replace q3_3 : w7.cell? ⟨w3.heap.size, 3, none⟩ = some (.int .i64 y.net) := (hb.cell (p := ⟨w3.heap.size, 3, none⟩) (by omega)).trans (by simp [go_sem, *])
    replace q4_0 : w7.cell? ⟨w5.heap.size, 0, none⟩ = some (.int .i64 y.hours) := (hb.cell (p := ⟨w5.heap.size, 0, none⟩) (by omega)).trans (by simp [go_sem, *])
    replace q5_1 : w7.cell? ⟨w5.heap.size, 1, none⟩ = some (.int .i64 y.gross) := (hb.cell (p := ⟨w5.heap.size, 1, none⟩) (by omega)).trans (by simp [go_sem, *])
    replace q6_2 : w7.cell? ⟨w5.heap.size, 2, none⟩ = some (.int .i64 y.tax) := (hb.cell (p := ⟨w5.heap.size, 2, none⟩) (by omega)).trans (by simp [go_sem, *])
    replace q7_3 : w7.cell? ⟨w5.heap.size, 3, none⟩ = some (.int .i64 y.net) := (hb.cell (p := ⟨w5.heap.size, 3, none⟩) (by omega)).trans (by simp [go_sem, *])
    replace hz_b0 : w3.heap.size < w7.heap.size := by have := hb.size; (try simp at this); omega
    replace hz_b1 : w5.heap.size < w7.heap.size := by have := hb.size; (try simp at this); omega
    replace hB := hB'
    clear hb hB'
    have r3 := o3.rds
    clear o3
    go_wp2_with fail
    with_reducible refine (eqPayS_c r2 r3).mono ?_
    rintro e w8 ⟨rfl, hb⟩
    have hB' : Below w.heap.size w w8 := (hB).trans (hb.mono (by have := hB.size; (try simp); (try omega)))
    have hN := hb
    replace a0 := a0.onn hN
    replace r2 := r2.onn hN
    replace r3 := r3.onn hN
    clear hN
    replace q0_0 : w8.cell? ⟨w3.heap.size, 0, none⟩ = some (.int .i64 y.hours) := (hb.cell (p := ⟨w3.heap.size, 0, none⟩) (by omega)).trans (by simp [go_sem, *])
    replace q1_1 : w8.cell? ⟨w3.heap.size, 1, none⟩ = some (.int .i64 y.gross) := (hb.cell (p := ⟨w3.heap.size, 1, none⟩) (by omega)).trans (by simp [go_sem, *])
    replace q2_2 : w8.cell? ⟨w3.heap.size, 2, none⟩ = some (.int .i64 y.tax) := (hb.cell (p := ⟨w3.heap.size, 2, none⟩) (by omega)).trans (by simp [go_sem, *])
    replace q3_3 : w8.cell? ⟨w3.heap.size, 3, none⟩ = some (.int .i64 y.net) := (hb.cell (p := ⟨w3.heap.size, 3, none⟩) (by omega)).trans (by simp [go_sem, *])
    replace q4_0 : w8.cell? ⟨w5.heap.size, 0, none⟩ = some (.int .i64 y.hours) := (hb.cell (p := ⟨w5.heap.size, 0, none⟩) (by omega)).trans (by simp [go_sem, *])
    replace q5_1 : w8.cell? ⟨w5.heap.size, 1, none⟩ = some (.int .i64 y.gross) := (hb.cell (p := ⟨w5.heap.size, 1, none⟩) (by omega)).trans (by simp [go_sem, *])
    replace q6_2 : w8.cell? ⟨w5.heap.size, 2, none⟩ = some (.int .i64 y.tax) := (hb.cell (p := ⟨w5.heap.size, 2, none⟩) (by omega)).trans (by simp [go_sem, *])
    replace q7_3 : w8.cell? ⟨w5.heap.size, 3, none⟩ = some (.int .i64 y.net) := (hb.cell (p := ⟨w5.heap.size, 3, none⟩) (by omega)).trans (by simp [go_sem, *])
    replace hz_b0 : w3.heap.size < w8.heap.size := by have := hb.size; (try simp at this); omega
    replace hz_b1 : w5.heap.size < w8.heap.size := by have := hb.size; (try simp at this); omega
    replace hB := hB'
    clear hb hB'
    clear q0_0 q1_1 q2_2 q3_3 q4_0 q5_1 q6_2 q7_3
    go_wp2
    go_ret
    exact ⟨rfl, hB⟩
  · have Hsz := Lib.hid hsz
    clear hsz
    go_enter Try.func6, Try.ntmps6
    go_wp2_with fail
    with_reducible refine (szPayS_no a0 (by omega) (by have := Hsz.out; omega)).mono ?_
    rintro e w1 ⟨rfl, hb⟩
    have hB' : Below w.heap.size w w1 := ((Below.refl w.heap.size w)).trans (hb.mono (by (try simp); (try omega)))
    have hN := hb
    replace a0 := a0.onn hN
    clear hN
    have hB := hB'
    clear hb hB'
    go_wp2
    go_ret
    exact ⟨rfl, hB⟩
namespace fnExactSumOfPays
theorem own : ownKnob Try.prog.godebug = none := by kernel_rfl
set_option maxRecDepth 100000 in
theorem lifted (os : Os) (started : os.Started) (H : Type) (enc : TypeId × Value → H) :
    ReturnsInHanded {} Try.checked os 6 .any (Rows.fnExactSumOfPaysSpec.pre6 enc Try.prog Try.f6 Rows.fnExactSumOfPaysRow.domain false) (Rows.fnExactSumOfPaysSpec.post enc Try.prog Try.f6 false true false false) := by
  refine returnsInHanded_of_change_sized (C := Try.checked) own started (by kernel_rfl) Try.func6
    (ChangeSpec.witness6 (enc := enc) (C := Try.checked) false ⟨#[], #[.slice none 0 0], []⟩ 8 (by kernel_rfl) (by kernel_rfl) (by kernel_rfl) (by kernel_rfl)) ?_
  intro W base args ds gs before hval0 hW hcnd hsz _
  have hval : ∀ (j : Nat) t v, Try.f6.params[j]? = some t → args[j]? = some v → Value.okWide Try.prog W .any base t v := hval0
  have hW' := hW
  obtain ⟨p, q, hA0, hV, rfl, hfz, hnd⟩ := hW
  have hA : DataW.TrodAll enc Try.prog W 0 (fun _ => true) true Try.f6.params.toList args.toList ds p := hA0
  rw [Try.params6] at hA hval
  obtain ⟨v0, vs0, d0, ds0, p0, s0, hargs, rfl, rfl, h0, q0⟩ := trodAll_cons hA
  obtain ⟨rfl, rfl, rfl⟩ := trodAll_nil q0
  obtain rfl : args = #[v0] := by cases args; simp_all
  obtain ⟨x0, r0⟩ := openPayS (hval 0 37 v0 rfl rfl) h0
  exact (walk_FnExactSumOfPays W r0).mono fun e W' hh => ⟨_, hh.1, law_post (f := Try.f6) (s := Rows.fnExactSumOfPaysSpec) (T := 4) (by kernel_rfl) (of_decide_eq_true (by kernel_rfl)) rfl rfl Try.underlying4 rfl hW' hh.2⟩
theorem proved : Rows.FnExactSumOfPaysSaid :=
  OpenClaim.holds_of_wide 6 Try.f6 rfl rfl rfl rfl rfl rfl rfl ⟨rfl, rfl, rfl, rfl, rfl⟩ rfl rfl rfl rfl rfl (by kernel_rfl) Try.func6 (by kernel_rfl)
    (of_decide_eq_true (by kernel_rfl)) (by unfold Func.isWrapper; first | (rw [if_pos (by decide +kernel)]; kernel_rfl) | (rw [if_neg (by decide +kernel)]; exact ⟨rfl, rfl⟩))
    (fun os started H enc _ => lifted os started H enc)
end fnExactSumOfPays
#print axioms fnExactSumOfPays.proved
end Go.Proofs.Ytlcmliibdfclnaa
