/- Faults: the reports behind them, their texts, and the drawing of both. The condition: the library's table of powers of ten lies as its text lays it. -/
import Derived.Test.YtahkkdkdaedioaaDoorDgE
import Derived.Test.YtahkkdkdaedioaaDoorDgD2
namespace Go.Proofs.YtahkkdkdaedioaaDoor
open Go.ChangeShapes Go.WideShapes Go.ChangeAt Go.RowKit Go.Sort
set_option linter.unusedVariables false
set_option maxRecDepth 100000
theorem flts_yes {xs : List Int} {fs : List FaultT} {e : Ending} (hfs : fsOk xs fs) (h : FltsR xs fs e) : e = .returned (.bool true) := by
  obtain ⟨q, rfl, hq⟩ := h
  rw [hq.2 hfs]
theorem l19Code_yes {xs : List Int} {fs : List FaultT} {v u : Value} {w : World} {A B : Nat} (ha : RdI A w v xs) (hf : RdFaultS B w u fs) (hxs : amtOk xs = true) (hfs : fsOk xs fs) :
    Calls Tryd.prog 40 #[v, u] w fun e w' => e = .returned (.int .i64 0) ∧ Below w.heap.size w w' := by
  obtain ⟨hl, hx⟩ := amtOk_parts hxs
  have Ha := Lib.hid ha
  have Hf := Lib.hid hf
  have Hx := Lib.hid hx
  have Hfs := Lib.hid hfs
  have Hxs := Lib.hid hxs
  obtain ⟨ao, cap, rfl⟩ := ha.shape
  obtain ⟨fo, fcap, rfl⟩ := hf.shape
  clear ha hf hx hfs hxs
  go_enter Tryd.func40, Tryd.ntmps40
  go_wp2_with fail
  with_reducible refine (l19Ok_c Ha.out).mono ?_
  rw [Hxs.out]
  rintro e w' ⟨rfl, rfl⟩
  go_wp2_with fail
  with_reducible refine (l19Faults_c Ha.out Hf.out hl Hx.out).mono ?_
  rintro e w1 ⟨he, hb⟩
  obtain rfl := flts_yes Hfs.out he
  clear he
  go_wp2
  go_ret
  exact ⟨rfl, hb⟩
theorem sReportAfter_c {xs : List Int} {fs : List FaultT} {v u : Value} {w : World} {A B : Nat} (ha : RdI A w v xs) (hf : RdFaultS B w u fs) (hxs : amtOk xs = true) (hfs : fsOk xs fs) :
    Calls Tryd.prog 15 #[v, u] w fun e w' => e = .returned (.tuple #[vReport (repOf (afterL xs fs)), .int .i64 0]) ∧ Below w.heap.size w w' := by
  obtain ⟨hl, hx⟩ := amtOk_parts hxs
  obtain ⟨hal, hax⟩ := afterL_ok hxs hfs
  have Hpw := Lib.hid hfs.2.1
  obtain ⟨R, hR⟩ : ∃ R, repOf (afterL xs fs) = R := ⟨_, rfl⟩
  rw [hR]
  have HR := Lib.hid hR
  have hb0 : Below w.heap.size w (w.alloc (.cells #[.int .i64 0, .int .i64 0, .int .i64 0] 29)) := (Below.refl _ _).alloc (Nat.le_refl _) _
  have hB0 := Box.new w [.int .i64 0, .int .i64 0, .int .i64 0] 29
  have Ha := Lib.hid (Rds.onn ha hb0)
  have Hf := Lib.hid (Rds.onn hf hb0)
  have Hx := Lib.hid hx
  have Hfs := Lib.hid hfs
  have Hxs := Lib.hid hxs
  have Hax := Lib.hid hax
  have Hal := Lib.hid hal
  have Hb0 := Lib.hid hb0
  have HB0 := Lib.hid hB0
  obtain ⟨ao, cap, rfl⟩ := ha.shape
  obtain ⟨fo, fcap, rfl⟩ := hf.shape
  clear ha hf hx hfs hxs hR hax hal hb0 hB0
  go_enter Tryd.func15, Tryd.ntmps15
  go_wp2_with fail
  with_reducible refine (l19Code_yes Ha.out Hf.out Hxs.out Hfs.out).mono ?_
  rintro e w1 ⟨rfl, hb1⟩
  have Ha1 := Lib.hid (Rds.onn Ha.out hb1)
  have Hf1 := Lib.hid (Rds.onn Hf.out hb1)
  have Hb1 := Lib.hid (Hb0.out.trans (hb1.mono Hb0.out.size))
  have HB1 := Lib.hid (HB0.out.on hb1)
  clear hb1
  go_wp2_with fail
  with_reducible refine (l19After_c Ha1.out Hf1.out Hx.out (by omega) (fsOk_rd Hfs.out) Hpw.out (fsOk_card Hfs.out)).mono ?_
  rintro e w2 ⟨z, rfl, hz, hb2⟩
  have Hz := Lib.hid hz.rds
  have Hb2 := Lib.hid (Hb1.out.trans (hb2.mono Hb1.out.size))
  have HB2 := Lib.hid (HB1.out.on hb2)
  clear hb2 hz
  go_wp2_with fail
  with_reducible refine (l19Report_c Hz.out Hax.out Hal.out).mono ?_
  rw [HR.out]
  rintro e w3 ⟨rfl, hb3⟩
  have hB3 := HB2.out.on hb3
  have c0 := hB3.cell 0 _ rfl
  have c1 := hB3.cell 1 _ rfl
  have c2 := hB3.cell 2 _ rfl
  have f0 := hB3.free 0
  have f1 := hB3.free 1
  have f2 := hB3.free 2
  have Hb3 := Lib.hid (Hb2.out.trans (hb3.mono Hb2.out.size))
  clear hb3 hB3
  go_wp2
  refine bodyPost_ret (v := .tuple #[vReport R, .int .i64 0]) (by simp [results, Tryd.results15, go_sem, c0, c1, c2]) rfl ⟨rfl, ?_⟩
  exact ((Hb3.out.setCell (by simp) _).setCell (by simp) _).setCell (by simp) _
theorem sValidFaults_yes {xs : List Int} {fs : List FaultT} {v u : Value} {w : World} {A B : Nat} (ha : RdI A w v xs) (hf : RdFaultS B w u fs) (hxs : amtOk xs = true) (hfs : fsOk xs fs) :
    Calls Tryd.prog 13 #[v, u] w fun e w' => e = .returned (.bool true) ∧ Below w.heap.size w w' := by
  obtain ⟨hl, hx⟩ := amtOk_parts hxs
  have Ha := Lib.hid ha
  have Hf := Lib.hid hf
  have Hx := Lib.hid hx
  have Hfs := Lib.hid hfs
  have Hxs := Lib.hid hxs
  obtain ⟨ao, cap, rfl⟩ := ha.shape
  obtain ⟨fo, fcap, rfl⟩ := hf.shape
  clear ha hf hx hfs hxs
  go_enter Tryd.func13, Tryd.ntmps13
  go_wp2_with fail
  with_reducible refine (l19Ok_c Ha.out).mono ?_
  rw [Hxs.out]
  rintro e w' ⟨rfl, rfl⟩
  go_wp2_with fail
  with_reducible refine (l19Faults_c Ha.out Hf.out hl Hx.out).mono ?_
  rintro e w1 ⟨he, hb⟩
  obtain rfl := flts_yes Hfs.out he
  clear he
  go_wp2
  go_ret
  exact ⟨rfl, hb⟩
theorem faultCode_yes {xs : List Int} {fs : List FaultT} {v u : Value} {w : World} {A B : Nat} (ha : RdI A w v xs) (hf : RdFaultS B w u fs) (hxs : amtOk xs = true) (hfs : fsOk xs fs) :
    Calls Tryd.prog 31 #[v, u] w fun e w' => e = .returned (.int .i64 0) ∧ Below w.heap.size w w' := by
  have Ha := Lib.hid ha
  have Hf := Lib.hid hf
  have Hfs := Lib.hid hfs
  have Hxs := Lib.hid hxs
  obtain ⟨ao, cap, rfl⟩ := ha.shape
  obtain ⟨fo, fcap, rfl⟩ := hf.shape
  clear ha hf hfs hxs
  go_enter Tryd.func31, Tryd.ntmps31
  go_wp2_with fail
  with_reducible refine (ValidAmounts_c Ha.out).mono ?_
  rw [Hxs.out]
  rintro e w' ⟨rfl, rfl⟩
  go_wp2_with fail
  with_reducible refine (areFaults_yes Ha.out Hf.out Hxs.out Hfs.out).mono ?_
  rintro e w1 ⟨rfl, hb⟩
  go_wp2
  go_ret
  exact ⟨rfl, hb⟩
theorem ReportAfter_c {xs : List Int} {fs : List FaultT} {v u : Value} {w : World} {A B : Nat} (ha : RdI A w v xs) (hf : RdFaultS B w u fs) (hxs : amtOk xs = true) (hfs : fsOk xs fs) (ht : PowAt w) :
    Calls Tryd.prog 9 #[v, u] w fun e w' => e = .returned (.tuple #[vReport (repOf (afterL xs fs)), .int .i64 0]) ∧ Below w.heap.size w w' := by
  obtain ⟨hl, hx⟩ := amtOk_parts hxs
  obtain ⟨hal, hax⟩ := afterL_ok hxs hfs
  have Hpw := Lib.hid hfs.2.1
  obtain ⟨R, hR⟩ : ∃ R, repOf (afterL xs fs) = R := ⟨_, rfl⟩
  rw [hR]
  have HR := Lib.hid hR
  have hb0 : Below w.heap.size w (w.alloc (.cells #[.int .i64 0, .int .i64 0, .int .i64 0] 29)) := (Below.refl _ _).alloc (Nat.le_refl _) _
  have hB0 := Box.new w [.int .i64 0, .int .i64 0, .int .i64 0] 29
  have Ha := Lib.hid (Rds.onn ha hb0)
  have Hf := Lib.hid (Rds.onn hf hb0)
  have Hx := Lib.hid hx
  have Hfs := Lib.hid hfs
  have Hxs := Lib.hid hxs
  have Hax := Lib.hid hax
  have Hal := Lib.hid hal
  have Hb0 := Lib.hid hb0
  have HB0 := Lib.hid hB0
  have Ht := Lib.hid ht
  obtain ⟨ao, cap, rfl⟩ := ha.shape
  obtain ⟨fo, fcap, rfl⟩ := hf.shape
  clear ha hf hx hfs hxs hR hax hal hb0 hB0 ht
  go_enter Tryd.func9, Tryd.ntmps9
  go_wp2_with fail
  with_reducible refine (faultCode_yes Ha.out Hf.out Hxs.out Hfs.out).mono ?_
  rintro e w1 ⟨rfl, hb1⟩
  have Ha1 := Lib.hid (Rds.onn Ha.out hb1)
  have Hf1 := Lib.hid (Rds.onn Hf.out hb1)
  have Hb1 := Lib.hid (Hb0.out.trans (hb1.mono Hb0.out.size))
  have HB1 := Lib.hid (HB0.out.on hb1)
  clear hb1
  go_wp2_with fail
  with_reducible refine (amountsAfter_c Ha1.out Hf1.out Hx.out (by omega) (fsOk_rd Hfs.out)).mono ?_
  rintro e w2 ⟨z, rfl, hz, hb2⟩
  have Hz := Lib.hid hz.rds
  have Hb2 := Lib.hid (Hb1.out.trans (hb2.mono Hb1.out.size))
  have HB2 := Lib.hid (HB1.out.on hb2)
  clear hb2 hz
  go_wp2_with fail
  with_reducible refine (reportOf_c Hz.out Hax.out Hal.out (Ht.out.below Hb2.out)).mono ?_
  rw [HR.out]
  rintro e w3 ⟨rfl, hb3⟩
  have hB3 := HB2.out.on hb3
  have c0 := hB3.cell 0 _ rfl
  have c1 := hB3.cell 1 _ rfl
  have c2 := hB3.cell 2 _ rfl
  have f0 := hB3.free 0
  have f1 := hB3.free 1
  have f2 := hB3.free 2
  have Hb3 := Lib.hid (Hb2.out.trans (hb3.mono Hb2.out.size))
  clear hb3 hB3
  go_wp2
  refine bodyPost_ret (v := .tuple #[vReport R, .int .i64 0]) (by simp [results, Tryd.results9, go_sem, c0, c1, c2]) rfl ⟨rfl, ?_⟩
  exact ((Hb3.out.setCell (by simp) _).setCell (by simp) _).setCell (by simp) _
theorem ValidFaults_yes {xs : List Int} {fs : List FaultT} {v u : Value} {w : World} {A B : Nat} (ha : RdI A w v xs) (hf : RdFaultS B w u fs) (hxs : amtOk xs = true) (hfs : fsOk xs fs) :
    Calls Tryd.prog 14 #[v, u] w fun e w' => e = .returned (.bool true) ∧ Below w.heap.size w w' := by
  have Ha := Lib.hid ha
  have Hf := Lib.hid hf
  have Hfs := Lib.hid hfs
  have Hxs := Lib.hid hxs
  obtain ⟨ao, cap, rfl⟩ := ha.shape
  obtain ⟨fo, fcap, rfl⟩ := hf.shape
  clear ha hf hfs hxs
  go_enter Tryd.func14, Tryd.ntmps14
  go_wp2_with fail
  with_reducible refine (ValidAmounts_c Ha.out).mono ?_
  rw [Hxs.out]
  rintro e w' ⟨rfl, rfl⟩
  go_wp2_with fail
  with_reducible refine (areFaults_yes Ha.out Hf.out Hxs.out Hfs.out).mono ?_
  rintro e w1 ⟨rfl, hb⟩
  go_wp2
  go_ret
  exact ⟨rfl, hb⟩
def DrawnAF (base : Nat) (e : Ending) (w' : World) : Prop := ∃ u v xs fs, e = .returned (.tuple #[u, v]) ∧ OwnInt64S base w' u xs ∧ OwnFaultS base w' v fs ∧ amtOk xs = true ∧ fsOk xs fs
theorem amtOk_of {xs : List Int} (hl : xs.length ≤ 6) (hx : ∀ n ∈ xs, 0 ≤ n ∧ n ≤ 9999) : amtOk xs = true := by
  unfold amtOk
  simp only [Bool.and_eq_true, decide_eq_true_eq, List.all_eq_true]
  exact ⟨by omega, hx⟩
set_option maxHeartbeats 1000000 in
theorem A2Amounts_any {w : World} {A : Nat} {v : Value} {cs : List Int} (ha : Rds eB A w v cs) (hA : A ≤ w.heap.size) :
    Calls Tryd.prog 8 #[v] w fun e w' => DrawnAF w.heap.size e w' ∧ Below w.heap.size w w' := by
  obtain ⟨ao, cap, hsh⟩ := ha.shape
  subst hsh
  go_enter Tryd.func8, Tryd.ntmps8
  go_wp2_with fail
  refine (l00From_any ha hA).mono ?_
  rintro e w1 ⟨rfl, hs1, hb1⟩
  have hbl := hs1.lt
  obtain ⟨b, hb⟩ : ∃ b, b = w.heap.size := ⟨_, rfl⟩
  rw [← hb] at hs1 hbl ⊢
  have hwb : w.heap.size ≤ b := by omega
  clear ha hb
  go_wp2_with fail
  refine (l19Draw_any hs1 (by omega)).mono ?_
  rintro e w2 ⟨⟨u, xs, rfl, ho2, hl, hx⟩, hs2, hg2⟩
  have hb2 := grown_below hb1 hg2 hwb hb1.size
  have hz12 : w.heap.size ≤ w1.heap.size := hb1.size
  have hz2 : w1.heap.size ≤ w2.heap.size := hg2.size
  have hxs := amtOk_of hl hx
  have Hx := Lib.hid hx
  have Hxs := Lib.hid hxs
  obtain ⟨uo, ucap, hsh⟩ := ho2.shape
  subst hsh
  clear hs1 hg2 hb1 hx hxs
  go_wp2_with fail
  refine (l19DrawFaults_any (xs.length : Int) hs2 (by omega) (by omega)).mono ?_
  rintro e w3 ⟨⟨v, fs, rfl, ho3, hfl⟩, hs3, hg3⟩
  have hb3 := grown_below hb2 hg3 hwb hb2.size
  have ho23 := ho2.keptS hg3 hbl
  obtain ⟨vo, vcap, hsh⟩ := ho3.shape
  subst hsh
  have hz3 : w2.heap.size ≤ w3.heap.size := hg3.size
  clear hs2 hg3 hb2 ho2 hs3
  go_wp2_with fail
  refine (l19Faults_c ho23.rds ho3.rds (by omega) Hx.out).mono ?_
  rintro e w4 ⟨⟨q, rfl, hq⟩, hb4⟩
  have Hq := Lib.hid hq
  have Ho2 := Lib.hid ((ho23.below hb4 (Nat.le_refl _)).mono hz12)
  have Ho3 := Lib.hid ((ho3.below hb4 (Nat.le_refl _)).mono (Nat.le_trans hz12 hz2))
  have Hb4 := Lib.hid (hb3.trans (hb4.mono hb3.size))
  clear hq ho23 ho3 hb4 hb3
  cases q with
  | true =>
    go_wp2
    go_ret2
    exact ⟨⟨_, _, xs, fs, rfl, Ho2.out, Ho3.out, Hxs.out, by first | exact Hq.out.1 trivial | simpa using Hq.out⟩, Hb4.out⟩
  | false =>
    have hz4 : w.heap.size ≤ w4.heap.size := Hb4.out.size
    have hlit : Own eFault 40 w.heap.size (w4.alloc (.cells #[] 40)) (.slice (some ⟨w4.heap.size, 0, none⟩) 0 0) [] :=
      Own.lit (E := eFault) (xs := []) (cs := #[]) hz4 rfl rfl (by decide) (fun x hx => by cases hx)
    have Hlit := Lib.hid hlit
    clear hlit
    go_wp2
    go_ret2
    exact ⟨⟨_, _, xs, [], rfl, Ho2.out.alloc _, Hlit.out, Hxs.out, fsOk_nil xs⟩, Hb4.out.alloc hz4 _⟩
end Go.Proofs.YtahkkdkdaedioaaDoor
