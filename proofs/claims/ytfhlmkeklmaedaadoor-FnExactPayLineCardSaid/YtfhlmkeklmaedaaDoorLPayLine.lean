/- The law 'the program's PayLine returns what the reference's returns'. The condition: the library's tables lie as the program's text lays them. -/
import Derived.Test.YtfhlmkeklmaedaaDoorPayI
import Derived.Test.YtfhlmkeklmaedaaDoorLaw
import Derived.Test.YtfhlmkeklmaedaaDoorTie
import Derived.Test.YtfhlmkeklmaedaaDoorCards
namespace Go.Proofs.YtfhlmkeklmaedaaDoor
open Go.ChangeShapes Go.WideShapes Go.ChangeAt Go.RowKit Go.Sort
set_option linter.unusedVariables false
set_option maxRecDepth 100000
theorem PLV_size {x : WorkerT} {p : PayT} (a : okWorker x) : (PLV x p).size ≤ 300 := by
  unfold PLV
  split
  · rename_i h
    rw [Bool.and_eq_true] at h
    have h1 := h.1
    unfold validW at h1
    rw [Bool.and_eq_true] at h1
    have hnm := (nameB_size h1.1).2
    obtain ⟨na, nb, nc, nd, rfl, ha, hb, hc, hd⟩ := plainB_nat h.2
    unfold lineP
    simp only [Int.toNat_natCast, ByteArray.size_append]
    have z1 := itoaB_len (n := na) (by omega)
    have z2 := twoD_size (n := nb) (by omega)
    have z3 := twoD_size (n := nc) (by omega)
    have z4 := twoD_size (n := nd) (by omega)
    have l1 : (⟨#[32]⟩ : ByteArray).size = 1 := rfl
    have l2 : (⟨#[104, 32]⟩ : ByteArray).size = 2 := rfl
    have l3 : (⟨#[32, 45, 32]⟩ : ByteArray).size = 3 := rfl
    have l4 : (⟨#[32, 61, 32]⟩ : ByteArray).size = 3 := rfl
    omega
  · exact Nat.zero_le _
set_option maxHeartbeats 1000000 in
theorem walk_FnExactPayLine (w : World) (ht : PowAt w) {x0 : WorkerT} {x1 : PayT} (a0 : okWorker x0) (a1 : okPay x1) :
    Calls Tryd.prog 3 #[lWorker x0, lPay x1] w fun e w' => e = .returned (.bool true) ∧ Below w.heap.size w w' := by
  obtain ⟨W, hW⟩ : ∃ W, W = (w.alloc (.cells #[.string x0.nm, .int .i64 x0.rate, .int .i64 x0.tax] 23)).alloc (.cells #[.int .i64 x1.hours, .int .i64 x1.gross, .int .i64 x1.tax, .int .i64 x1.net] 25) := ⟨_, rfl⟩
  have hs1 : (w.alloc (.cells #[.string x0.nm, .int .i64 x0.rate, .int .i64 x0.tax] 23)).heap.size = w.heap.size + 1 := by simp
  have hb0 : Below w.heap.size w W := by rw [hW]; exact ((Below.refl w.heap.size w).alloc (Nat.le_refl _) _).alloc (by simp) _
  have hBw : Box W w.heap.size [.string x0.nm, .int .i64 x0.rate, .int .i64 x0.tax] := by rw [hW]; exact (Box.new w [.string x0.nm, .int .i64 x0.rate, .int .i64 x0.tax] _).alloc _
  have hBp : Box W (w.heap.size + 1) [.int .i64 x1.hours, .int .i64 x1.gross, .int .i64 x1.tax, .int .i64 x1.net] := by
    have h := Box.new (w.alloc (.cells #[.string x0.nm, .int .i64 x0.rate, .int .i64 x0.tax] 23)) [.int .i64 x1.hours, .int .i64 x1.gross, .int .i64 x1.tax, .int .i64 x1.net] 25
    rw [hs1] at h
    rw [hW]; exact h
  have ht0 := ht.below hb0
  have Ht0 := Lib.hid ht0
  have Hb0 := Lib.hid hb0
  have HBw := Lib.hid hBw
  have HBp := Lib.hid hBp
  have HW := Lib.hid hW
  have A0 := Lib.hid a0
  have A1 := Lib.hid a1
  have N0 := Lib.hid (szWorker_nonneg x0)
  clear hb0 hBw hBp hW hs1 ht ht0 a0 a1
  by_cases c0 : szWorker x0 ≤ 1048576
  · have C0 := Lib.hid c0
    clear c0
    have Hcs := Lib.hid (fun V => sPayLine_c x0 x1 V A0.out)
    have Hci := Lib.hid (fun V (h : PowAt V) => PayLine_c x0 x1 V A0.out h)
    have hpls := PLV_size (p := x1) A0.out
    generalize PLV x0 x1 = V0 at Hcs Hci hpls
    generalize PLC x0 x1 = V1 at Hcs Hci
    have L0 := C0.out
    go_enter Tryd.func3, Tryd.ntmps3
    go_wp2_with fail
    rw [← HW.out]
    with_reducible refine (szWorker_c W A0.out (by omega) C0.out).mono ?_
    rintro e w1 ⟨rfl, hb1⟩
    have hB1 := HBw.out.on hb1
    have hP1 := HBp.out.on hb1
    have Hb1 := Lib.hid (Hb0.out.trans (hb1.mono Hb0.out.size))
    have Ht1 := Lib.hid (Ht0.out.below hb1)
    have f0 := cell_regrown (hB1.cell 0 _ rfl)
    have f1 := cell_regrown (hB1.cell 1 _ rfl)
    have f2 := cell_regrown (hB1.cell 2 _ rfl)
    have p0 := cell_regrown (hP1.cell 0 _ rfl)
    have p1 := cell_regrown (hP1.cell 1 _ rfl)
    have p2 := cell_regrown (hP1.cell 2 _ rfl)
    have p3 := cell_regrown (hP1.cell 3 _ rfl)
    have HB1 := Lib.hid hB1
    have HP1 := Lib.hid hP1
    clear hB1 hP1 hb1
    go_wp2
    refine wp_region_quiet_below (by kernel_rfl) (by kernel_rfl) ?_
    repeat ((with_reducible refine wpQuiet_step (fun K hK => ?_)); go_simp; first | ((with_reducible refine hK _ ?_); clear hK K) | (apply Exists.intro; refine ⟨fun _ => ?_, hK _ ?_⟩; ((first | (go_at_call 7; exact qb_below (toWorker_c _ A0.out)) | (go_at_call 8; exact qb_below (toPay_c _ A1.out)) | (go_at_call 6; exact qb_below (Hcs.out _)))); clear hK K))
    refine wpQuiet_nil ?_
    intro _ hw'
    obtain ⟨⟨dq, osq⟩, hw''⟩ := hw'
    subst hw''
    have hbq := below_regrown w1 dq osq
    generalize grow (redrawn w1 dq) osq = wq at hbq ⊢
    have hB2 := HB1.out.on hbq
    have hP2 := HP1.out.on hbq
    have Hb2 := Lib.hid (Hb1.out.trans (hbq.mono Hb1.out.size))
    have Ht2 := Lib.hid (Ht1.out.below hbq)
    clear hbq f0 f1 f2 p0 p1 p2 p3 HB1 HP1 Hb1 Ht1 Hcs
    generalize wq = w2 at hB2 hP2 Hb2 Ht2 ⊢
    have f0 := cell_regrown (hB2.cell 0 _ rfl)
    have f1 := cell_regrown (hB2.cell 1 _ rfl)
    have f2 := cell_regrown (hB2.cell 2 _ rfl)
    have p0 := cell_regrown (hP2.cell 0 _ rfl)
    have p1 := cell_regrown (hP2.cell 1 _ rfl)
    have p2 := cell_regrown (hP2.cell 2 _ rfl)
    have p3 := cell_regrown (hP2.cell 3 _ rfl)
    clear hB2 hP2
    go_wp2
    refine wp_region_quiet_below (by kernel_rfl) (by kernel_rfl) ?_
    repeat ((with_reducible refine wpQuiet_step (fun K hK => ?_)); go_simp; first | ((with_reducible refine hK _ ?_); clear hK K) | (apply Exists.intro; refine ⟨fun _ => ?_, hK _ ?_⟩; ((first | (go_at_call 7; exact qb_below (toWorker_c _ A0.out)) | (go_at_call 8; exact qb_below (toPay_c _ A1.out)) | (go_at_call 9; exact qb_below (Hci.out _ (Ht2.out.below (below_regrown _ _ _)))))); clear hK K))
    refine wpQuiet_nil ?_
    intro _ hw'
    obtain ⟨⟨dq, osq⟩, hw''⟩ := hw'
    subst hw''
    have hbq := below_regrown w2 dq osq
    generalize grow (redrawn w2 dq) osq = wq at hbq ⊢
    have Hb3 := Lib.hid (Hb2.out.trans (hbq.mono Hb2.out.size))
    clear hbq f0 f1 f2 p0 p1 p2 p3
    go_wp2
    go_ret
    exact ⟨rfl, Hb3.out⟩
  · have C0 := Lib.hid c0
    clear c0
    go_enter Tryd.func3, Tryd.ntmps3
    go_wp2_with fail
    rw [← HW.out]
    with_reducible refine (szWorker_no W A0.out (by omega) (by have := C0.out; omega)).mono ?_
    rintro e w1 ⟨rfl, hb1⟩
    have Hb1 := Lib.hid (Hb0.out.trans (hb1.mono Hb0.out.size))
    clear hb1
    go_wp2
    go_ret
    exact ⟨rfl, Hb1.out⟩
namespace fnExactPayLine
theorem own : ownKnob Tryd.prog.godebug = none := by kernel_rfl
theorem door_met (os : Os) (args : Array Value) : laidMetH Tryd.prog Rows.fnExactPayLineRow.laid ((World.doorLaid Tryd.prog 24 os).forCall (fun _ _ => 0) ⟨#[], args, []⟩).memory :=
  laidMetH_of_parts3 (fuel := 8) (laidMet_of_run' 8 (by kernel_rfl) (by kernel_rfl)) (by kernel_rfl) (by kernel_rfl)
set_option maxRecDepth 100000 in
theorem lifted (os : Os) (started : os.Started) (H : Type) (enc : TypeId × Value → H) :
    ReturnsInHanded {} Tryd.checked os 3 .any (fun w args => (Rows.fnExactPayLineSpec.pre enc Tryd.prog Tryd.f3 [] false w args ∧ laidMetH Tryd.prog Rows.fnExactPayLineRow.laid w) ∧ sizedMet enc Tryd.prog Tryd.f3 (OpenSpec.ofChange Rows.fnExactPayLineSpec) false w args) (Rows.fnExactPayLineSpec.post enc Tryd.prog Tryd.f3 false true false false) := by
  refine returnsInHanded_of_change_and (C := Tryd.checked) (X := fun w _ => laidMetH Tryd.prog Rows.fnExactPayLineRow.laid w) (fun _ _ _ hh h => h.of_heap hh) own started (by kernel_rfl) Tryd.func3
    (ChangeSpec.witness_shaped (enc := enc) (C := Tryd.checked) (os := os) (X := fun w _ => laidMetH Tryd.prog Rows.fnExactPayLineRow.laid w) false (World.doorLaid Tryd.prog 24 os) #[.agg #[.string ⟨#[]⟩, .int .i64 0, .int .i64 0], .agg #[.int .i64 0, .int .i64 0, .int .i64 0, .int .i64 0]] 8 rfl (World.shaped_of_RefB (by kernel_rfl) (by kernel_rfl)) (by kernel_rfl) (by kernel_rfl) (by kernel_rfl) (door_met os _)) ?_
  intro W base args ds gs before hval0 hW _ _ hL _
  have hval : ∀ (j : Nat) t v, Tryd.f3.params[j]? = some t → args[j]? = some v → Value.okWide Tryd.prog W .any base t v := hval0
  have hW' := hW
  obtain ⟨p, q, hA0, hV, rfl, hfz, hnd⟩ := hW
  have hA : DataW.TrodAll enc Tryd.prog W 0 (fun _ => true) true Tryd.f3.params.toList args.toList ds p := hA0
  rw [Tryd.params3] at hA hval
  obtain ⟨v0, vs0, d0, ds0, p0, s0, hargs, rfl, rfl, h0, q0⟩ := trodAll_cons hA
  obtain ⟨v1, vs1, d1, ds1, p1, s1, rfl, rfl, rfl, h1, q1⟩ := trodAll_cons q0
  obtain ⟨rfl, rfl, rfl⟩ := trodAll_nil q1
  obtain rfl : args = #[v0, v1] := by cases args; simp_all
  obtain ⟨x0, rfl, r0⟩ := openWorker (hval 0 23 v0 rfl rfl) h0
  obtain ⟨x1, rfl, r1⟩ := openPay (hval 1 25 v1 rfl rfl) h1
  obtain ⟨rfl, rfl⟩ := trodVars_none hV
  exact (walk_FnExactPayLine W (pow_of3 hL) r0 r1).mono fun e W' hh => ⟨_, hh.1, law_postV (f := Tryd.f3) (s := Rows.fnExactPayLineSpec) (T := 4) (by kernel_rfl) (of_decide_eq_true (by kernel_rfl)) (by kernel_rfl) rfl Tryd.underlying4 rfl hW' hh.2⟩
theorem row_holds : Rows.FnExactPayLineSaid :=
  OpenClaim.holds_of_wide 3 Tryd.f3 rfl rfl rfl rfl rfl rfl rfl ⟨rfl, rfl, rfl, rfl, rfl⟩ rfl rfl rfl rfl rfl (by kernel_rfl) Tryd.func3 (by kernel_rfl)
    (of_decide_eq_true (by kernel_rfl)) (by unfold Func.isWrapper; first | (rw [if_pos (by decide +kernel)]; kernel_rfl) | (rw [if_neg (by decide +kernel)]; exact ⟨rfl, rfl⟩))
    (fun os started H enc _ => lifted os started H enc)
theorem proved : Rows.FnExactPayLineCardSaid :=
  Claim7.holds_tied_plain_at .later [] [.data, .data, .data] true (true, "9275f28cf4529c0b41c03e56066d724b7603ed98f6c8d8176b8227608a31c23f") false
    row_holds (fun _ h => by cases h) (by kernel_rfl) (fun _ h => by cases h) fnExactPayLine_row_tie rfl ⟨rfl, rfl⟩ (by kernel_rfl) rfl
    (fun f fn hf hfn => by
      obtain rfl : f = 3 := Option.some.inj ((show Tryd.prog.funcNamed "loop.example/g01012/laws.FnExactPayLine" = some 3 by kernel_rfl).symm.trans hf) |>.symm
      obtain rfl : fn = Tryd.f3 := (Option.some.inj (Tryd.func3.symm.trans hfn)).symm
      exact ⟨by kernel_rfl, fun j t ht => by
        rw [Tryd.params3] at ht
        have hm : t ∈ [23, 25] := by simpa using Array.mem_of_getElem? ht
        have hall : ([23, 25].all fun u => !Tryd.prog.wantsStandIn u) = true := by kernel_rfl
        exact (show Tryd.prog.wantsStandIn t = false by simpa using List.all_eq_true.1 hall t hm)⟩)
    (by kernel_rfl)
end fnExactPayLine
#print axioms fnExactPayLine.proved
end Go.Proofs.YtfhlmkeklmaedaaDoor
