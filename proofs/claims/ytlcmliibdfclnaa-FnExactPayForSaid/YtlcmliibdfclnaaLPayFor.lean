/- The law 'the program's PayFor returns what the reference's returns'. No condition. -/
import Derived.Test.YtlcmliibdfclnaaPay
import Derived.Test.YtlcmliibdfclnaaLaw
namespace Go.Proofs.Ytlcmliibdfclnaa
open Go.ChangeShapes Go.WideShapes Go.ChangeAt Go.RowKit
set_option linter.unusedVariables false
theorem walk_FnExactPayFor (w : World) {x0 : WorkerT} (a0 : okWorker x0) {x1 : Int} (a1 : -9223372036854775808 ≤ x1 ∧ x1 ≤ 9223372036854775807) :
    Calls Try.prog 7 #[lWorker x0, .int .i64 x1] w fun e w' => e = .returned (.bool true) ∧ Below w.heap.size w w' := by
  have Ha := Lib.hid a0
  obtain ⟨y, hy⟩ : ∃ y, PayForR x0 x1 = y := ⟨_, rfl⟩
  obtain ⟨c, hc⟩ : ∃ c, PayForC x0 x1 = c := ⟨_, rfl⟩
  have Hy := Lib.hid hy
  have Hc := Lib.hid hc
  clear a0 a1 hy hc
  by_cases hsz : szWorker x0 ≤ 1048576
  · have Hsz := Lib.hid hsz
    clear hsz
    go_enter Try.func7, Try.ntmps7
    go_wp2_with fail
    with_reducible refine (szWorker_c _ (x := x0) Ha.out (by omega) Hsz.out).mono ?_
    rintro e w1 ⟨rfl, hb⟩
    have hB' : Below w.heap.size w w1 := (((Below.refl w.heap.size w)).alloc (by simp) _).trans (hb.mono (by (try simp); (try omega)))
    have q0_0 : w1.cell? ⟨w.heap.size, 0, none⟩ = some (.string x0.nm) := (hb.cell (p := ⟨w.heap.size, 0, none⟩) (by simp; try omega)).trans (by simp [go_sem])
    have q1_1 : w1.cell? ⟨w.heap.size, 1, none⟩ = some (.int .i64 x0.rate) := (hb.cell (p := ⟨w.heap.size, 1, none⟩) (by simp; try omega)).trans (by simp [go_sem])
    have q2_2 : w1.cell? ⟨w.heap.size, 2, none⟩ = some (.int .i64 x0.tax) := (hb.cell (p := ⟨w.heap.size, 2, none⟩) (by simp; try omega)).trans (by simp [go_sem])
    have hz_b0 : w.heap.size < w1.heap.size := by have := hb.size; (try simp at this); omega
    have hB := hB'
    clear hb hB'
    have hl : 0 ≤ 1048576 - szWorker x0 := by have := Hsz.out; omega
    go_wp2_with fail
    with_reducible refine (toWorker_c _ (x := x0) Ha.out).mono ?_
    rintro e w2 ⟨rfl, hb⟩
    have hB' : Below w.heap.size w w2 := (hB).trans (hb.mono (by have := hB.size; (try simp); (try omega)))
    replace q0_0 : w2.cell? ⟨w.heap.size, 0, none⟩ = some (.string x0.nm) := (hb.cell (p := ⟨w.heap.size, 0, none⟩) (by omega)).trans (by simp [go_sem, *])
    replace q1_1 : w2.cell? ⟨w.heap.size, 1, none⟩ = some (.int .i64 x0.rate) := (hb.cell (p := ⟨w.heap.size, 1, none⟩) (by omega)).trans (by simp [go_sem, *])
    replace q2_2 : w2.cell? ⟨w.heap.size, 2, none⟩ = some (.int .i64 x0.tax) := (hb.cell (p := ⟨w.heap.size, 2, none⟩) (by omega)).trans (by simp [go_sem, *])
    replace hz_b0 : w.heap.size < w2.heap.size := by have := hb.size; (try simp at this); omega
    replace hB := hB'
    clear hb hB'
    go_wp2_with fail
    with_reducible refine (sPayFor_c x0 x1 _ Ha.out).mono ?_
    rw [Hy.out, Hc.out]
    rintro e w3 ⟨rfl, hb⟩
    have hB' : Below w.heap.size w w3 := (hB).trans (hb.mono (by have := hB.size; (try simp); (try omega)))
    replace q0_0 : w3.cell? ⟨w.heap.size, 0, none⟩ = some (.string x0.nm) := (hb.cell (p := ⟨w.heap.size, 0, none⟩) (by omega)).trans (by simp [go_sem, *])
    replace q1_1 : w3.cell? ⟨w.heap.size, 1, none⟩ = some (.int .i64 x0.rate) := (hb.cell (p := ⟨w.heap.size, 1, none⟩) (by omega)).trans (by simp [go_sem, *])
    replace q2_2 : w3.cell? ⟨w.heap.size, 2, none⟩ = some (.int .i64 x0.tax) := (hb.cell (p := ⟨w.heap.size, 2, none⟩) (by omega)).trans (by simp [go_sem, *])
    replace hz_b0 : w.heap.size < w3.heap.size := by have := hb.size; (try simp at this); omega
    replace hB := hB'
    clear hb hB'
    go_wp2_with fail
    with_reducible refine (toWorker_c _ (x := x0) Ha.out).mono ?_
    rintro e w4 ⟨rfl, hb⟩
    have hB' : Below w.heap.size w w4 := ((hB).alloc (by have := (hB).size; simp at this ⊢; omega) _).trans (hb.mono (by have := hB.size; (try simp); (try omega)))
    replace q0_0 : w4.cell? ⟨w.heap.size, 0, none⟩ = some (.string x0.nm) := (hb.cell (p := ⟨w.heap.size, 0, none⟩) (by simp; omega)).trans (by simp [go_sem, *])
    replace q1_1 : w4.cell? ⟨w.heap.size, 1, none⟩ = some (.int .i64 x0.rate) := (hb.cell (p := ⟨w.heap.size, 1, none⟩) (by simp; omega)).trans (by simp [go_sem, *])
    replace q2_2 : w4.cell? ⟨w.heap.size, 2, none⟩ = some (.int .i64 x0.tax) := (hb.cell (p := ⟨w.heap.size, 2, none⟩) (by simp; omega)).trans (by simp [go_sem, *])
    have q3_0 : w4.cell? ⟨w3.heap.size, 0, none⟩ = some (.int .i64 y.hours) := (hb.cell (p := ⟨w3.heap.size, 0, none⟩) (by simp; try omega)).trans (by simp [go_sem])
    have q4_1 : w4.cell? ⟨w3.heap.size, 1, none⟩ = some (.int .i64 y.gross) := (hb.cell (p := ⟨w3.heap.size, 1, none⟩) (by simp; try omega)).trans (by simp [go_sem])
    have q5_2 : w4.cell? ⟨w3.heap.size, 2, none⟩ = some (.int .i64 y.tax) := (hb.cell (p := ⟨w3.heap.size, 2, none⟩) (by simp; try omega)).trans (by simp [go_sem])
    have q6_3 : w4.cell? ⟨w3.heap.size, 3, none⟩ = some (.int .i64 y.net) := (hb.cell (p := ⟨w3.heap.size, 3, none⟩) (by simp; try omega)).trans (by simp [go_sem])
    replace hz_b0 : w.heap.size < w4.heap.size := by have := hb.size; (try simp at this); omega
    have hz_b1 : w3.heap.size < w4.heap.size := by have := hb.size; (try simp at this); omega
    replace hB := hB'
    clear hb hB'
    go_wp2_with fail
    with_reducible refine (PayFor_c x0 x1 _ Ha.out).mono ?_
    rw [Hy.out, Hc.out]
    rintro e w5 ⟨rfl, hb⟩
    have hB' : Below w.heap.size w w5 := (hB).trans (hb.mono (by have := hB.size; (try simp); (try omega)))
    replace q0_0 : w5.cell? ⟨w.heap.size, 0, none⟩ = some (.string x0.nm) := (hb.cell (p := ⟨w.heap.size, 0, none⟩) (by omega)).trans (by simp [go_sem, *])
    replace q1_1 : w5.cell? ⟨w.heap.size, 1, none⟩ = some (.int .i64 x0.rate) := (hb.cell (p := ⟨w.heap.size, 1, none⟩) (by omega)).trans (by simp [go_sem, *])
    replace q2_2 : w5.cell? ⟨w.heap.size, 2, none⟩ = some (.int .i64 x0.tax) := (hb.cell (p := ⟨w.heap.size, 2, none⟩) (by omega)).trans (by simp [go_sem, *])
    replace q3_0 : w5.cell? ⟨w3.heap.size, 0, none⟩ = some (.int .i64 y.hours) := (hb.cell (p := ⟨w3.heap.size, 0, none⟩) (by omega)).trans (by simp [go_sem, *])
    replace q4_1 : w5.cell? ⟨w3.heap.size, 1, none⟩ = some (.int .i64 y.gross) := (hb.cell (p := ⟨w3.heap.size, 1, none⟩) (by omega)).trans (by simp [go_sem, *])
    replace q5_2 : w5.cell? ⟨w3.heap.size, 2, none⟩ = some (.int .i64 y.tax) := (hb.cell (p := ⟨w3.heap.size, 2, none⟩) (by omega)).trans (by simp [go_sem, *])
    replace q6_3 : w5.cell? ⟨w3.heap.size, 3, none⟩ = some (.int .i64 y.net) := (hb.cell (p := ⟨w3.heap.size, 3, none⟩) (by omega)).trans (by simp [go_sem, *])
    replace hz_b0 : w.heap.size < w5.heap.size := by have := hb.size; (try simp at this); omega
    replace hz_b1 : w3.heap.size < w5.heap.size := by have := hb.size; (try simp at this); omega
    replace hB := hB'
    clear hb hB'
    go_wp2_with fail
    with_reducible refine (eqPay_c _ y).mono ?_
    rintro e w6 ⟨rfl, hb⟩
    have hB' : Below w.heap.size w w6 := ((hB).alloc (by have := (hB).size; simp at this ⊢; omega) _).trans (hb.mono (by have := hB.size; (try simp); (try omega)))
    replace q0_0 : w6.cell? ⟨w.heap.size, 0, none⟩ = some (.string x0.nm) := (hb.cell (p := ⟨w.heap.size, 0, none⟩) (by simp; omega)).trans (by simp [go_sem, *])
    replace q1_1 : w6.cell? ⟨w.heap.size, 1, none⟩ = some (.int .i64 x0.rate) := (hb.cell (p := ⟨w.heap.size, 1, none⟩) (by simp; omega)).trans (by simp [go_sem, *])
    replace q2_2 : w6.cell? ⟨w.heap.size, 2, none⟩ = some (.int .i64 x0.tax) := (hb.cell (p := ⟨w.heap.size, 2, none⟩) (by simp; omega)).trans (by simp [go_sem, *])
    replace q3_0 : w6.cell? ⟨w3.heap.size, 0, none⟩ = some (.int .i64 y.hours) := (hb.cell (p := ⟨w3.heap.size, 0, none⟩) (by simp; omega)).trans (by simp [go_sem, *])
    replace q4_1 : w6.cell? ⟨w3.heap.size, 1, none⟩ = some (.int .i64 y.gross) := (hb.cell (p := ⟨w3.heap.size, 1, none⟩) (by simp; omega)).trans (by simp [go_sem, *])
    replace q5_2 : w6.cell? ⟨w3.heap.size, 2, none⟩ = some (.int .i64 y.tax) := (hb.cell (p := ⟨w3.heap.size, 2, none⟩) (by simp; omega)).trans (by simp [go_sem, *])
    replace q6_3 : w6.cell? ⟨w3.heap.size, 3, none⟩ = some (.int .i64 y.net) := (hb.cell (p := ⟨w3.heap.size, 3, none⟩) (by simp; omega)).trans (by simp [go_sem, *])
    have q7_0 : w6.cell? ⟨w5.heap.size, 0, none⟩ = some (.int .i64 y.hours) := (hb.cell (p := ⟨w5.heap.size, 0, none⟩) (by simp; try omega)).trans (by simp [go_sem])
    have q8_1 : w6.cell? ⟨w5.heap.size, 1, none⟩ = some (.int .i64 y.gross) := (hb.cell (p := ⟨w5.heap.size, 1, none⟩) (by simp; try omega)).trans (by simp [go_sem])
    have q9_2 : w6.cell? ⟨w5.heap.size, 2, none⟩ = some (.int .i64 y.tax) := (hb.cell (p := ⟨w5.heap.size, 2, none⟩) (by simp; try omega)).trans (by simp [go_sem])
    have q10_3 : w6.cell? ⟨w5.heap.size, 3, none⟩ = some (.int .i64 y.net) := (hb.cell (p := ⟨w5.heap.size, 3, none⟩) (by simp; try omega)).trans (by simp [go_sem])
    replace hz_b0 : w.heap.size < w6.heap.size := by have := hb.size; (try simp at this); omega
    replace hz_b1 : w3.heap.size < w6.heap.size := by have := hb.size; (try simp at this); omega
    have hz_b2 : w5.heap.size < w6.heap.size := by have := hb.size; (try simp at this); omega
    replace hB := hB'
    clear hb hB'
    clear q0_0 q1_1 q2_2 q3_0 q4_1 q5_2 q6_3 q7_0 q8_1 q9_2 q10_3
    go_wp2
    go_ret
    exact ⟨rfl, hB⟩
  · have Hsz := Lib.hid hsz
    clear hsz
    go_enter Try.func7, Try.ntmps7
    go_wp2_with fail
    with_reducible refine (szWorker_no _ (x := x0) Ha.out (by omega) (by have := Hsz.out; omega)).mono ?_
    rintro e w1 ⟨rfl, hb⟩
    have hB' : Below w.heap.size w w1 := (((Below.refl w.heap.size w)).alloc (by simp) _).trans (hb.mono (by (try simp); (try omega)))
    have q0_0 : w1.cell? ⟨w.heap.size, 0, none⟩ = some (.string x0.nm) := (hb.cell (p := ⟨w.heap.size, 0, none⟩) (by simp; try omega)).trans (by simp [go_sem])
    have q1_1 : w1.cell? ⟨w.heap.size, 1, none⟩ = some (.int .i64 x0.rate) := (hb.cell (p := ⟨w.heap.size, 1, none⟩) (by simp; try omega)).trans (by simp [go_sem])
    have q2_2 : w1.cell? ⟨w.heap.size, 2, none⟩ = some (.int .i64 x0.tax) := (hb.cell (p := ⟨w.heap.size, 2, none⟩) (by simp; try omega)).trans (by simp [go_sem])
    have hz_b0 : w.heap.size < w1.heap.size := by have := hb.size; (try simp at this); omega
    have hB := hB'
    clear hb hB'
    clear q0_0 q1_1 q2_2
    go_wp2
    go_ret
    exact ⟨rfl, hB⟩
namespace fnExactPayFor
theorem own : ownKnob Try.prog.godebug = none := by kernel_rfl
set_option maxRecDepth 100000 in
theorem lifted (os : Os) (started : os.Started) (H : Type) (enc : TypeId × Value → H) :
    ReturnsInHanded {} Try.checked os 7 .any (Rows.fnExactPayForSpec.pre6 enc Try.prog Try.f7 Rows.fnExactPayForRow.domain false) (Rows.fnExactPayForSpec.post enc Try.prog Try.f7 false true false false) := by
  refine returnsInHanded_of_change_sized (C := Try.checked) own started (by kernel_rfl) Try.func7
    (ChangeSpec.witness6 (enc := enc) (C := Try.checked) false ⟨#[], #[.agg #[.string ⟨#[]⟩, .int .i64 0, .int .i64 0], .int .i64 0], []⟩ 8 (by kernel_rfl) (by kernel_rfl) (by kernel_rfl) (by kernel_rfl)) ?_
  intro W base args ds gs before hval0 hW hcnd hsz _
  have hval : ∀ (j : Nat) t v, Try.f7.params[j]? = some t → args[j]? = some v → Value.okWide Try.prog W .any base t v := hval0
  have hW' := hW
  obtain ⟨p, q, hA0, hV, rfl, hfz, hnd⟩ := hW
  have hA : DataW.TrodAll enc Try.prog W 0 (fun _ => true) true Try.f7.params.toList args.toList ds p := hA0
  rw [Try.params7] at hA hval
  obtain ⟨v0, vs0, d0, ds0, p0, s0, hargs, rfl, rfl, h0, q0⟩ := trodAll_cons hA
  obtain ⟨v1, vs1, d1, ds1, p1, s1, rfl, rfl, rfl, h1, q1⟩ := trodAll_cons q0
  obtain ⟨rfl, rfl, rfl⟩ := trodAll_nil q1
  obtain rfl : args = #[v0, v1] := by cases args; simp_all
  obtain ⟨x0, rfl, r0⟩ := openWorker (hval 0 49 v0 rfl rfl) h0
  obtain ⟨a1, rfl, _, _, w1⟩ := open_int Try.underlying2 (hval 1 2 v1 rfl rfl) h1
  have r1 := i64_bd w1
  exact (walk_FnExactPayFor W r0 r1).mono fun e W' hh => ⟨_, hh.1, law_post (f := Try.f7) (s := Rows.fnExactPayForSpec) (T := 4) (by kernel_rfl) (of_decide_eq_true (by kernel_rfl)) rfl rfl Try.underlying4 rfl hW' hh.2⟩
theorem proved : Rows.FnExactPayForSaid :=
  OpenClaim.holds_of_wide 7 Try.f7 rfl rfl rfl rfl rfl rfl rfl ⟨rfl, rfl, rfl, rfl, rfl⟩ rfl rfl rfl rfl rfl (by kernel_rfl) Try.func7 (by kernel_rfl)
    (of_decide_eq_true (by kernel_rfl)) (by unfold Func.isWrapper; first | (rw [if_pos (by decide +kernel)]; kernel_rfl) | (rw [if_neg (by decide +kernel)]; exact ⟨rfl, rfl⟩))
    (fun os started H enc _ => lifted os started H enc)
end fnExactPayFor
#print axioms fnExactPayFor.proved
end Go.Proofs.Ytlcmliibdfclnaa
