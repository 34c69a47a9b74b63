/- Operators: what is drawn for the law of operators. No condition. -/
import Derived.Test.YtilgepapkigblaaDoorOpD2
import Derived.Test.YtilgepapkigblaaDoorOpDV
import Derived.Test.YtilgepapkigblaaDoorOpT2
namespace Go.Proofs.YtilgepapkigblaaDoor
open Go.ChangeShapes Go.WideShapes Go.ChangeAt Go.RowKit
set_option linter.unusedVariables false
set_option maxRecDepth 100000
theorem DrawOperatorsText_any {w : World} {A : Nat} {v : Value} {cs : List Int} (ha : Rds eB A w v cs) (hA : A ≤ w.heap.size) :
    Calls Tryd.prog 17 #[v] w fun e w' => DrawnO w.heap.size 9 e w' ∧ Below w.heap.size w w' := by
  have Ha := Lib.hid ha
  obtain ⟨ao, cap, rfl⟩ := ha.shape
  clear ha
  go_enter Tryd.func17, Tryd.ntmps17
  go_wp2_with fail
  refine (l00From_any Ha.out hA).mono ?_
  rintro e w1 ⟨rfl, hs1, hb1⟩
  have hz1 : w.heap.size < w1.heap.size := hs1.lt
  have Hb1 := Lib.hid hb1
  clear hb1
  go_wp2_with fail
  refine (l22Bent_any hs1 (by omega)).mono ?_
  rintro e w2 ⟨⟨u, xs, rfl, ho2, hl2⟩, hs2, hg2⟩
  have hb2 : Below w.heap.size w w2 := grown_below Hb1.out hg2 (Nat.le_refl _) (by omega)
  have hown2 := ho2.mono (base' := w.heap.size) (by omega)
  clear ho2 hs1 hs2 hg2
  go_wp2
  go_ret
  exact ⟨⟨_, xs, rfl, hown2, hl2⟩, hb2⟩
def DrawnOK (base L : Nat) (e : Ending) (w' : World) : Prop := ∃ u xs, ∃ m : Int, e = .returned (.tuple #[u, .int .i64 m]) ∧ Own eOperator 50 base w' u xs ∧ xs.length ≤ L
def DrawnOKM (base L : Nat) (e : Ending) (w' : World) : Prop := ∃ u xs, ∃ k m : Int, e = .returned (.tuple #[u, .int .i64 k, .int .i64 m]) ∧ Own eOperator 50 base w' u xs ∧ xs.length ≤ L
theorem DrawOperatorsFor_any {w : World} {A : Nat} {v : Value} {cs : List Int} (ha : Rds eB A w v cs) (hA : A ≤ w.heap.size) :
    Calls Tryd.prog 14 #[v] w fun e w' => DrawnOK w.heap.size 9 e w' ∧ Below w.heap.size w w' := by
  have Ha := Lib.hid ha
  obtain ⟨ao, cap, rfl⟩ := ha.shape
  clear ha
  go_enter Tryd.func14, Tryd.ntmps14
  go_wp2_with fail
  refine (l00From_any Ha.out hA).mono ?_
  rintro e w1 ⟨rfl, hs1, hb1⟩
  have hz1 : w.heap.size < w1.heap.size := hs1.lt
  have Hb1 := Lib.hid hb1
  clear hb1
  go_wp2_with fail
  refine (l22Bent_any hs1 (by omega)).mono ?_
  rintro e w2 ⟨⟨u, xs, rfl, ho2, hl2⟩, hs2, hg2⟩
  have hb2 : Below w.heap.size w w2 := grown_below Hb1.out hg2 (Nat.le_refl _) (by omega)
  have hz2 : w.heap.size ≤ w2.heap.size := hb2.size
  clear hs1 hg2
  go_wp2_with fail
  refine (pick_any 8 hs2 (by omega) (by omega)).mono ?_
  rintro e w3 ⟨⟨r, rfl, hr0, hr1, _⟩, hs3, hg3, -⟩
  have hr2 := hr1 (by omega)
  have hb3 := grown_below hb2 hg3 (Nat.le_refl _) hz2
  have hown3 := (ho2.keptS hg3 hz1).mono (base' := w.heap.size) (by omega)
  clear ho2 hs2 hs3 hg3 hr1 hb2
  go_wp2
  go_ret2
  exact ⟨⟨_, xs, _, rfl, hown3, hl2⟩, hb3⟩
theorem DrawTeachOperator_any {w : World} {A : Nat} {v : Value} {cs : List Int} (ha : Rds eB A w v cs) (hA : A ≤ w.heap.size) :
    Calls Tryd.prog 11 #[v] w fun e w' => DrawnOKM w.heap.size 9 e w' ∧ Below w.heap.size w w' := by
  have Ha := Lib.hid ha
  obtain ⟨ao, cap, rfl⟩ := ha.shape
  clear ha
  go_enter Tryd.func11, Tryd.ntmps11
  go_wp2_with fail
  refine (l00From_any Ha.out hA).mono ?_
  rintro e w1 ⟨rfl, hs1, hb1⟩
  have hz1 : w.heap.size < w1.heap.size := hs1.lt
  have Hb1 := Lib.hid hb1
  clear hb1
  go_wp2_with fail
  refine (l22Bent_any hs1 (by omega)).mono ?_
  rintro e w2 ⟨⟨u, xs, rfl, ho2, hl2⟩, hs2, hg2⟩
  have hb2 : Below w.heap.size w w2 := grown_below Hb1.out hg2 (Nat.le_refl _) (by omega)
  have hz2 : w.heap.size ≤ w2.heap.size := hb2.size
  obtain ⟨ao2, cap2, rfl⟩ := ho2.shape
  clear hs1 hg2
  go_wp2_with fail
  refine (pick_any ((xs.length : Int) + 1) hs2 (by omega) (by omega)).mono ?_
  rintro e w3 ⟨⟨r, rfl, hr0, hr1, _⟩, hs3, hg3, -⟩
  have hr2 := hr1 (by omega)
  have hb3 := grown_below hb2 hg3 (Nat.le_refl _) hz2
  have hz3 := hb3.size
  have ho3 := ho2.keptS hg3 hz1
  clear ho2 hs2 hg3 hr1 hb2
  go_wp2_with fail
  refine (pick_any 16 hs3 (by omega) (by omega)).mono ?_
  rintro e w4 ⟨⟨q, rfl, hq0, hq1, _⟩, hs4, hg4, -⟩
  have hq2 := hq1 (by omega)
  have hb4 := grown_below hb3 hg4 (Nat.le_refl _) hz3
  have hz4 := hb4.size
  have ho4 := ho3.keptS hg4 hz1
  clear ho3 hs3 hg4 hq1 hb3
  go_wp2_with fail
  refine (pick_any 8 hs4 (by omega) (by omega)).mono ?_
  rintro e w5 ⟨⟨t, rfl, ht0, ht1, _⟩, hs5, hg5, -⟩
  have ht2 := ht1 (by omega)
  have hb5 := grown_below hb4 hg5 (Nat.le_refl _) hz4
  have ho5 := (ho4.keptS hg5 hz1).mono (base' := w.heap.size) (by omega)
  clear ho4 hs4 hs5 hg5 ht1 hb4
  go_wp2
  go_ret3
  exact ⟨⟨_, xs, _, _, rfl, ho5, hl2⟩, hb5⟩
theorem DrawMachineName_any {w : World} {A : Nat} {v : Value} {cs : List Int} (ha : Rds eB A w v cs) (hA : A ≤ w.heap.size) :
    Calls Tryd.prog 21 #[v] w fun e w' => (∃ m : Int, e = .returned (.int .i64 m)) ∧ Below w.heap.size w w' := by
  have Ha := Lib.hid ha
  obtain ⟨ao, cap, rfl⟩ := ha.shape
  clear ha
  go_enter Tryd.func21, Tryd.ntmps21
  go_wp2_with fail
  refine (l00From_any Ha.out hA).mono ?_
  rintro e w1 ⟨rfl, hs1, hb1⟩
  have hz1 : w.heap.size < w1.heap.size := hs1.lt
  have Hb1 := Lib.hid hb1
  clear hb1
  go_wp2_with fail
  refine (pick_any 9 hs1 (by omega) (by omega)).mono ?_
  rintro e w3 ⟨⟨r, rfl, hr0, hr1, _⟩, hs3, hg3, -⟩
  have hr2 := hr1 (by omega)
  have hb3 := grown_below Hb1.out hg3 (Nat.le_refl _) (by omega)
  clear hs1 hs3 hg3 hr1
  go_wp2
  go_ret
  exact ⟨⟨_, rfl⟩, hb3⟩
end Go.Proofs.YtilgepapkigblaaDoor
