/- The law of schedules: no order ends before the bound, none before the best one, and for two machines the rule is best. No condition. -/
import Derived.Test.YtpnmcgjfemaleaaSchD
import Derived.Test.YtpnmcgjfemaleaaEndsP
import Derived.Test.YtpnmcgjfemaleaaSchQ
import Derived.Test.YtpnmcgjfemaleaaInsI
import Derived.Test.YtpnmcgjfemaleaaJohI
import Derived.Test.YtpnmcgjfemaleaaA2L
import Derived.Deep.DeepCutAuto
namespace Go.Proofs.Ytpnmcgjfemaleaa
open Go.ChangeShapes Go.WideShapes Go.ChangeAt Go.RowKit
set_option linter.unusedVariables false
set_option maxRecDepth 100000
set_option maxRecDepth 100000 in
set_option maxHeartbeats 2000000 in
theorem walk_FnSchedules (w : World) {x0 : List Int} {v0 : Value} (a0 : Rds eB w.heap.size w v0 x0) {x1 : List Int} {v1 : Value} (a1 : Rds eB w.heap.size w v1 x1) :
    Calls Try.prog 12 #[v0, v1] w fun e w' => e = .returned (.bool true) ∧ Below w.heap.size w w' := by
  obtain ⟨i0, hi, hz0, hz1, hz2⟩ := info_parts Try.infoInt64
  have A0 := Lib.hid a0
  have A1 := Lib.hid a1
  clear a0 a1
  by_cases hbig : (3000 : Int) < x0.length ∨ (3000 : Int) < x1.length
  · have Hbig := Lib.hid hbig
    clear hbig
    go_enter Try.func12, Try.ntmps12
    go_wp2_with fail
    with_reducible refine (a2Long_any A0.out A1.out).mono ?_
    rw [decide_eq_true Hbig.out]
    rintro e w' ⟨rfl, rfl⟩
    go_wp2
    go_ret
    exact ⟨rfl, Below.refl _ _⟩
  have Hbig := Lib.hid hbig
  clear hbig
  go_enter Try.func12, Try.ntmps12
  go_wp2_with fail
  with_reducible refine (a2Long_any A0.out A1.out).mono ?_
  rw [decide_eq_false Hbig.out]
  rintro e w' ⟨rfl, rfl⟩
  go_wp2_with fail
  with_reducible refine (A2Jobs_any A0.out (Nat.le_refl _)).mono ?_
  rintro e w1 ⟨⟨u, xss, rfl, ou, hv, hl4⟩, hb1⟩
  have l := ou.rds
  have hp := validJ_parts hv
  obtain ⟨n, hn⟩ : ∃ n, n = xss.length := ⟨_, rfl⟩
  obtain ⟨m, hm⟩ : ∃ m, m = colsJ xss := ⟨_, rfl⟩
  rw [← hn] at hl4 hp
  rw [← hm] at hp
  obtain ⟨hn8, hm4, hrows⟩ := hp
  obtain ⟨ao, cap, hsh, hao⟩ := l.open
  rw [← hn] at hsh hao
  subst hsh
  obtain ⟨b, off, rfl, _, _⟩ := hao (by omega)
  have a1' := A1.out.on hb1
  have Hn := Lib.hid hn
  have Hm := Lib.hid hm
  have Hv := Lib.hid hv
  have Hrows := Lib.hid hrows
  have Hl := Lib.hid l
  have HA1 := Lib.hid a1'
  have Hb1 := Lib.hid hb1
  clear hao ou hn hm hv hrows l a1' hb1
  go_wp2_with fail
  with_reducible refine (A2Order_any HA1.out (Nat.le_refl _) (n := n) (by omega)).mono ?_
  rintro e w2 ⟨⟨u2, o, rfl, oo, ho⟩, hb2⟩
  have p := oo.rds
  have hol : o.length = n := ho.1
  have l2 := Hl.out.onn hb2
  have Ho := Lib.hid ho
  have Hol := Lib.hid hol
  have Hp := Lib.hid p
  have Hl2 := Lib.hid l2
  have Hb2 := Lib.hid (Hb1.out.trans (hb2.mono Hb1.out.size))
  have hlo : o.length ≤ 8 := by omega
  have ho' : orderP xss.length o := by have := ho; rwa [Hn.out] at this
  have h4 : xss.length ≤ 4 := by rw [← Hn.out]; exact hl4
  obtain ⟨hbo, hbest⟩ := bor_ok Hv.out h4
  obtain ⟨hic, hio⟩ := ior_ok Hv.out
  have f1 := sbv_ok Hv.out ho'
  have f2 := hbest o ho'
  have f3 := sbv_ok Hv.out hbo
  have f4 := hbest _ hio
  have fj : (colsJ xss = 2 → JC xss = 0 ∧ orderP xss.length (JR xss) ∧ SOV xss (JR xss) = SOV xss (BOR xss)) := jr_ok Hv.out h4
  have hbl : (BOR xss).length ≤ 8 := by rw [hbo.1]; omega
  have hil : (IOR xss).length ≤ 8 := by rw [hio.1]; omega
  have oc1 := OCode_zero Hv.out ho'
  have oc2 := OCode_zero Hv.out hbo
  have oc3 := OCode_zero Hv.out hio
  have sbc : SBC xss = 0 := by unfold SBC; rw [if_pos Hv.out]
  have boc := boc_ok Hv.out h4
  have HF := Lib.hid (And.intro f1 (And.intro f2 (And.intro f3 f4)))
  have Fj := Lib.hid fj
  have Hlen := Lib.hid (And.intro hlo (And.intro hbl hil))
  have Hoc := Lib.hid (And.intro oc1 (And.intro oc2 oc3))
  have Hc := Lib.hid (And.intro sbc (And.intro boc hic))
  clear ho hol oo p l2 hb2 Hl Hb1 HA1 hlo ho' h4 hbo hbest hic hio f1 f2 f3 f4 fj hbl hil oc1 oc2 oc3 sbc boc
  go_wp2_with fail
  with_reducible refine (SpanOf_c (Nat.le_refl _) (Nat.le_refl _) Hl2.out Hp.out (by have := Hlen.out.1; omega)).mono ?_
  rw [Hoc.out.1]
  rintro e w3 ⟨rfl, hb3⟩
  have Hl3 := Lib.hid (Hl2.out.onn hb3)
  have Hb3 := Lib.hid (Hb2.out.trans (hb3.mono Hb2.out.size))
  clear hb3 Hl2 Hb2 Hp
  go_wp2_with fail
  with_reducible refine (SpanBound_c (Nat.le_refl _) Hl3.out).mono ?_
  rw [Hc.out.1]
  rintro e w4 ⟨rfl, hb4⟩
  have Hl4 := Lib.hid (Hl3.out.onn hb4)
  have Hb4 := Lib.hid (Hb3.out.trans (hb4.mono Hb3.out.size))
  clear hb4 Hl3 Hb3
  go_wp2_with fail
  with_reducible refine (BestOrder_c Hl4.out).mono ?_
  rw [Hc.out.2.1]
  rintro e w5 ⟨u5, rfl, hu5, hb5⟩
  have hr5 := hu5.rds
  obtain ⟨ao5, cap5, rfl⟩ := hu5.shape
  have Hr5 := Lib.hid hr5
  have Hl5 := Lib.hid (Hl4.out.onn hb5)
  have Hb5 := Lib.hid (Hb4.out.trans (hb5.mono Hb4.out.size))
  clear hb5 hu5 hr5 Hl4 Hb4
  have t1 : decide (SOV xss o < SBV xss) = false := decide_eq_false (by have := HF.out.1; omega)
  have t2 : decide (SOV xss o < SOV xss (BOR xss)) = false := decide_eq_false (by have := HF.out.2.1; omega)
  have t3 : decide (SOV xss (BOR xss) < SBV xss) = false := decide_eq_false (by have := HF.out.2.2.1; omega)
  have t4 : decide (SOV xss (IOR xss) < SOV xss (BOR xss)) = false := decide_eq_false (by have := HF.out.2.2.2; omega)
  go_wp2_with fail
  with_reducible refine (sSpanOf_c (Nat.le_refl _) (Nat.le_refl _) Hl5.out Hr5.out (by have := Hlen.out.2.1; omega)).mono ?_
  rw [Hoc.out.2.1]
  rintro e w6 ⟨rfl, hb6⟩
  have Hl6 := Lib.hid (Hl5.out.onn hb6)
  have Hb6 := Lib.hid (Hb5.out.trans (hb6.mono Hb5.out.size))
  clear hb6 Hl5 Hb5 Hr5
  go_wp2_with fail
  with_reducible refine (InsertOrder_c Hl6.out).mono ?_
  rw [Hc.out.2.2]
  rintro e w7 ⟨u7, rfl, hu7, hb7⟩
  have hr7 := hu7.rds
  obtain ⟨ao7, cap7, rfl⟩ := hu7.shape
  have Hr7 := Lib.hid hr7
  have Hl7 := Lib.hid (Hl6.out.onn hb7)
  have Hb7 := Lib.hid (Hb6.out.trans (hb7.mono Hb6.out.size))
  clear hb7 hu7 hr7 Hl6 Hb6
  go_wp2_with fail
  with_reducible refine (sSpanOf_c (Nat.le_refl _) (Nat.le_refl _) Hl7.out Hr7.out (by have := Hlen.out.2.2; omega)).mono ?_
  rw [Hoc.out.2.2]
  rintro e w8 ⟨rfl, hb8⟩
  have Hl8 := Lib.hid (Hl7.out.onn hb8)
  have Hb8 := Lib.hid (Hb7.out.trans (hb8.mono Hb7.out.size))
  clear hb8 Hl7 Hb7 Hr7
  go_wp2_with fail
  with_reducible refine (JohnsonOrder_c Hl8.out).mono ?_
  rintro e w9 ⟨u9, rfl, hu9, hb9⟩
  have hr9 := hu9.rds
  obtain ⟨ao9, cap9, rfl⟩ := hu9.shape
  have hl9 := Hl8.out.onn hb9
  obtain ⟨x, rx, cx, hx, c0, _, _⟩ := jobRow (i := 0) hl9 (by omega)
  rw [Nat.add_zero, ← colsJ_of hx, ← Hm.out] at c0
  have Hr9 := Lib.hid hr9
  have Hl9 := Lib.hid hl9
  have Hb9 := Lib.hid (Hb8.out.trans (hb9.mono Hb8.out.size))
  clear hb9 hu9 hr9 hl9 hx Hl8 Hb8
  by_cases hm2 : m = 2
  · obtain ⟨j1, j2, j3⟩ := Fj.out (by rw [← Hm.out]; exact hm2)
    rw [j1]
    have oc4 := OCode_zero Hv.out j2
    have hjl : (JR xss).length ≤ 8 := by rw [j2.1]; have := Hn.out; omega
    have Oc4 := Lib.hid oc4
    have J3 := Lib.hid j3
    have Hjl := Lib.hid hjl
    have t5 : ((m : Int) != 2) = false := by rw [hm2]; rfl
    clear j1 j2 j3 oc4 hjl hm2
    go_wp2_with fail
    clear c0
    with_reducible refine (sSpanOf_c (Nat.le_refl _) (Nat.le_refl _) Hl9.out Hr9.out (by have := Hjl.out; omega)).mono ?_
    rw [Oc4.out]
    rintro e w10 ⟨rfl, hb10⟩
    have hbf := Hb9.out.trans (hb10.mono Hb9.out.size)
    rw [J3.out]
    clear hb10
    go_wp2
    go_ret
    exact ⟨rfl, hbf⟩
  · have j6 := jr_no Hv.out (by rw [← Hm.out]; exact hm2)
    rw [j6]
    have t5 : ((m : Int) != 2) = true := by simp; omega
    clear j6 hm2
    go_wp2
    go_ret
    exact ⟨rfl, Hb9.out⟩
namespace fnSchedules
theorem own : ownKnob Try.prog.godebug = none := by kernel_rfl
set_option maxRecDepth 100000 in
theorem lifted (os : Os) (started : os.Started) (H : Type) (enc : TypeId × Value → H) :
    ReturnsInHanded {} Try.checked os 12 .any (Rows.fnSchedulesSpec.pre6 enc Try.prog Try.f12 Rows.fnSchedulesRow.domain false) (Rows.fnSchedulesSpec.post enc Try.prog Try.f12 false true false false) := by
  refine returnsInHanded_of_change_sized (C := Try.checked) own started (by kernel_rfl) Try.func12
    (ChangeSpec.witness6 (enc := enc) (C := Try.checked) false ⟨#[], #[.slice none 0 0, .slice none 0 0], []⟩ 8 (by kernel_rfl) (by kernel_rfl) (by kernel_rfl) (by kernel_rfl)) ?_
  intro W base args ds gs before hval0 hW hcnd hsz _
  have hval : ∀ (j : Nat) t v, Try.f12.params[j]? = some t → args[j]? = some v → Value.okWide Try.prog W .any base t v := hval0
  have hW' := hW
  obtain ⟨p, q, hA0, hV, rfl, hfz, hnd⟩ := hW
  have hA : DataW.TrodAll enc Try.prog W 0 (fun _ => true) true Try.f12.params.toList args.toList ds p := hA0
  rw [Try.params12] at hA hval
  obtain ⟨v0, vs0, d0, ds0, p0, s0, hargs, rfl, rfl, h0, q0⟩ := trodAll_cons hA
  obtain ⟨v1, vs1, d1, ds1, p1, s1, rfl, rfl, rfl, h1, q1⟩ := trodAll_cons q0
  obtain ⟨rfl, rfl, rfl⟩ := trodAll_nil q1
  obtain rfl : args = #[v0, v1] := by cases args; simp_all
  obtain ⟨x0, r0, _⟩ := open_rdB Try.underlying43 Try.underlying5 (by kernel_rfl) (hval 0 43 v0 rfl rfl) h0
  obtain ⟨x1, r1, _⟩ := open_rdB Try.underlying43 Try.underlying5 (by kernel_rfl) (hval 1 43 v1 rfl rfl) h1
  exact (walk_FnSchedules W r0 r1).mono fun e W' hh => ⟨_, hh.1, law_post (f := Try.f12) (s := Rows.fnSchedulesSpec) (T := 4) (by kernel_rfl) (of_decide_eq_true (by kernel_rfl)) rfl rfl Try.underlying4 rfl hW' hh.2⟩
theorem proved : Rows.FnSchedulesSaid :=
  OpenClaim.holds_of_wide 12 Try.f12 rfl rfl rfl rfl rfl rfl rfl ⟨rfl, rfl, rfl, rfl, rfl⟩ rfl rfl rfl rfl rfl (by kernel_rfl) Try.func12 (by kernel_rfl)
    (of_decide_eq_true (by kernel_rfl)) (by unfold Func.isWrapper; first | (rw [if_pos (by decide +kernel)]; kernel_rfl) | (rw [if_neg (by decide +kernel)]; exact ⟨rfl, rfl⟩))
    (fun os started H enc _ => lifted os started H enc)
end fnSchedules
#print axioms fnSchedules.proved
end Go.Proofs.Ytpnmcgjfemaleaa
