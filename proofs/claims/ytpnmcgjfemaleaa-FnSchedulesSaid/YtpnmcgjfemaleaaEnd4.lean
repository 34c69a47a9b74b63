/- The times of jobs' ends and their spans, of jobs and an order that may be wrong: both sides. No condition. -/
import Derived.Test.YtpnmcgjfemaleaaEnd3
namespace Go.Proofs.Ytpnmcgjfemaleaa
open Go.ChangeShapes Go.WideShapes Go.ChangeAt Go.RowKit
set_option linter.unusedVariables false
set_option maxRecDepth 100000
set_option maxHeartbeats 400000 in
theorem sEndTimes_c {xss : List (List Int)} {o : List Int} {v u : Value} {w : World} {A B : Nat} (hA : A ≤ w.heap.size) (hB : B ≤ w.heap.size) (ha : RdInt64SS A w v xss) (ho : RdI B w u o) (hl : o.length ≤ 2097152) :
    Calls Try.prog 36 #[v, u] w fun e w' => ∃ u0, e = .returned (.tuple #[u0, .int .i64 (OCode xss o)]) ∧ OwnInt64SS w.heap.size w' u0 (ETR xss o) ∧ Below w.heap.size w w' := by
  have Ha := Lib.hid ha.tight
  have Ho := Lib.hid (Rds.tight ho)
  have hA' : w.heap.size ≤ w.heap.size := Nat.le_refl _
  clear ha ho hA hB
  have hA := hA'
  by_cases hc : OCode xss o = 0
  · have e1 : ETR xss o = endsJ xss o := by unfold ETR; rw [if_pos hc]
    obtain ⟨hv, hr, hl8, hne⟩ := ordP_parts hc
    rw [e1, hc]
    have Hc := Lib.hid hc
    have Hr := Lib.hid hr
    have Hv := Lib.hid hv
    have Hne := Lib.hid hne
    clear hc e1 hr hv hne
    go_enter Try.func36, Try.ntmps36
    go_wp2_with fail
    with_reducible refine (l21Code_c Ha.out Ho.out).mono ?_
    rw [Hc.out]
    rintro e w1 ⟨rfl, q, rfl⟩
    have hb : Below w.heap.size w (w.drewN q) := (Below.refl _ _).drewNy _
    have hA2 : w.heap.size ≤ (w.drewN q).heap.size := hb.size
    have ha2 := Ha.out.below hb (Nat.le_refl _)
    have ho2 := Ho.out.below hb (Nat.le_refl _)
    have hcon := l21Ends_c hA2 hA2 ha2 ho2 Hv.out Hr.out hl8
    have Hcon := Lib.hid hcon
    have Hb := Lib.hid hb
    clear ha2 ho2 hcon hb
    go_wp2_with fail
    with_reducible refine Hcon.out.mono ?_
    rintro e w2 ⟨r, rfl, hR, hb2⟩
    have hb3 := Hb.out.trans (hb2.mono Hb.out.size)
    obtain ⟨hs, h1, h2, h3, h4⟩ := hR
    have hR2 : OwnInt64SS w.heap.size w2 r (endsJ xss o) := ⟨hs, ⟨h1.1.mono Hb.out.size, h1.2⟩, h2, fun i x xs e1 e2 => ⟨(h3 i x xs e1 e2).1.mono Hb.out.size, (h3 i x xs e1 e2).2⟩, h4⟩
    have HR2 := Lib.hid hR2
    clear h1 h2 h3 h4 hb2 hR2
    go_wp2
    go_ret2
    exact ⟨_, rfl, HR2.out, hb3⟩
  · have e1 : ETR xss o = [] := by unfold ETR; rw [if_neg hc]
    obtain ⟨c, hcc⟩ : ∃ c, OCode xss o = c := ⟨_, rfl⟩
    have hc12 : c = 1 ∨ c = 2 := by have := OCode_cases xss o; omega
    rw [e1, hcc]
    have Hcc := Lib.hid hcc
    clear hc e1 hcc
    rcases hc12 with rfl | rfl <;>
    · go_enter Try.func36, Try.ntmps36
      go_wp2_with fail
      with_reducible refine (l21Code_c Ha.out Ho.out).mono ?_
      rw [Hcc.out]
      rintro e w1 ⟨rfl, q, rfl⟩
      go_wp2
      go_ret2
      exact ⟨_, rfl, OwnTM.nil _ _ _ _, (Below.refl _ _).drewNy _⟩
set_option maxHeartbeats 400000 in
theorem sSpanOf_c {xss : List (List Int)} {o : List Int} {v u : Value} {w : World} {A B : Nat} (hA : A ≤ w.heap.size) (hB : B ≤ w.heap.size) (ha : RdInt64SS A w v xss) (ho : RdI B w u o) (hl : o.length ≤ 2097152) :
    Calls Try.prog 34 #[v, u] w fun e w' => e = .returned (.tuple #[.int .i64 (SOV xss o), .int .i64 (OCode xss o)]) ∧ Below w.heap.size w w' := by
  have Ha := Lib.hid ha.tight
  have Ho := Lib.hid (Rds.tight ho)
  have hA' : w.heap.size ≤ w.heap.size := Nat.le_refl _
  clear ha ho hA hB
  have hA := hA'
  by_cases hc : OCode xss o = 0
  · have e1 : SOV xss o = spanJ xss o := by unfold SOV; rw [if_pos hc]
    obtain ⟨hv, hr, hl8, hne⟩ := ordP_parts hc
    rw [e1, hc]
    have Hc := Lib.hid hc
    have Hr := Lib.hid hr
    have Hv := Lib.hid hv
    have Hne := Lib.hid hne
    clear hc e1 hr hv hne
    go_enter Try.func34, Try.ntmps34
    go_wp2_with fail
    with_reducible refine (l21Code_c Ha.out Ho.out).mono ?_
    rw [Hc.out]
    rintro e w1 ⟨rfl, q, rfl⟩
    have hb : Below w.heap.size w (w.drewN q) := (Below.refl _ _).drewNy _
    have hA2 : w.heap.size ≤ (w.drewN q).heap.size := hb.size
    have ha2 := Ha.out.below hb (Nat.le_refl _)
    have ho2 := Ho.out.below hb (Nat.le_refl _)
    have hcon := l21Span_c hA2 hA2 ha2 ho2 Hv.out Hr.out hl8
    have Hcon := Lib.hid hcon
    have Hb := Lib.hid hb
    clear ha2 ho2 hcon hb
    go_wp2_with fail
    with_reducible refine Hcon.out.mono ?_
    rintro e w2 ⟨rfl, hb2⟩
    have hb3 := Hb.out.trans (hb2.mono Hb.out.size)
    clear hb2
    go_wp2
    go_ret2
    exact ⟨rfl, hb3⟩
  · have e1 : SOV xss o = 0 := by unfold SOV; rw [if_neg hc]
    obtain ⟨c, hcc⟩ : ∃ c, OCode xss o = c := ⟨_, rfl⟩
    have hc12 : c = 1 ∨ c = 2 := by have := OCode_cases xss o; omega
    rw [e1, hcc]
    have Hcc := Lib.hid hcc
    clear hc e1 hcc
    rcases hc12 with rfl | rfl <;>
    · go_enter Try.func34, Try.ntmps34
      go_wp2_with fail
      with_reducible refine (l21Code_c Ha.out Ho.out).mono ?_
      rw [Hcc.out]
      rintro e w1 ⟨rfl, q, rfl⟩
      go_wp2
      go_ret2
      exact ⟨rfl, (Below.refl _ _).drewNy _⟩
set_option maxHeartbeats 400000 in
theorem EndTimes_c {xss : List (List Int)} {o : List Int} {v u : Value} {w : World} {A B : Nat} (hA : A ≤ w.heap.size) (hB : B ≤ w.heap.size) (ha : RdInt64SS A w v xss) (ho : RdI B w u o) (hl : o.length ≤ 2097152) :
    Calls Try.prog 37 #[v, u] w fun e w' => ∃ u0, e = .returned (.tuple #[u0, .int .i64 (OCode xss o)]) ∧ OwnInt64SS w.heap.size w' u0 (ETR xss o) ∧ Below w.heap.size w w' := by
  have Ha := Lib.hid ha.tight
  have Ho := Lib.hid (Rds.tight ho)
  have hA' : w.heap.size ≤ w.heap.size := Nat.le_refl _
  clear ha ho hA hB
  have hA := hA'
  by_cases hc : OCode xss o = 0
  · have e1 : ETR xss o = endsJ xss o := by unfold ETR; rw [if_pos hc]
    obtain ⟨hv, hr, hl8, hne⟩ := ordP_parts hc
    rw [e1, hc]
    have Hc := Lib.hid hc
    have Hr := Lib.hid hr
    have Hv := Lib.hid hv
    have Hne := Lib.hid hne
    clear hc e1 hr hv hne
    go_enter Try.func37, Try.ntmps37
    go_wp2_with fail
    with_reducible refine (orderCode_c true hA Ha.out Ho.out hl).mono ?_
    rw [OCodeIn_true, Hc.out]
    rintro e w1 ⟨rfl, hb0⟩
    have hb : Below w.heap.size w w1 := hb0
    have hA2 : w.heap.size ≤ w1.heap.size := hb.size
    have ha2 := Ha.out.below hb (Nat.le_refl _)
    have ho2 := Ho.out.below hb (Nat.le_refl _)
    have hcon := endTimes_c hA2 hA2 ha2 ho2 Hv.out Hr.out hl8
    have Hcon := Lib.hid hcon
    have Hb := Lib.hid hb
    clear ha2 ho2 hcon hb
    go_wp2_with fail
    with_reducible refine Hcon.out.mono ?_
    rintro e w2 ⟨r, rfl, hR, hb2⟩
    have hb3 := Hb.out.trans (hb2.mono Hb.out.size)
    obtain ⟨hs, h1, h2, h3, h4⟩ := hR
    have hR2 : OwnInt64SS w.heap.size w2 r (endsJ xss o) := ⟨hs, ⟨h1.1.mono Hb.out.size, h1.2⟩, h2, fun i x xs e1 e2 => ⟨(h3 i x xs e1 e2).1.mono Hb.out.size, (h3 i x xs e1 e2).2⟩, h4⟩
    have HR2 := Lib.hid hR2
    clear h1 h2 h3 h4 hb2 hR2
    go_wp2
    go_ret2
    exact ⟨_, rfl, HR2.out, hb3⟩
  · have e1 : ETR xss o = [] := by unfold ETR; rw [if_neg hc]
    obtain ⟨c, hcc⟩ : ∃ c, OCode xss o = c := ⟨_, rfl⟩
    have hc12 : c = 1 ∨ c = 2 := by have := OCode_cases xss o; omega
    rw [e1, hcc]
    have Hcc := Lib.hid hcc
    clear hc e1 hcc
    rcases hc12 with rfl | rfl <;>
    · go_enter Try.func37, Try.ntmps37
      go_wp2_with fail
      with_reducible refine (orderCode_c true hA Ha.out Ho.out hl).mono ?_
      rw [OCodeIn_true, Hcc.out]
      rintro e w1 ⟨rfl, hb0⟩
      go_wp2
      go_ret2
      exact ⟨_, rfl, OwnTM.nil _ _ _ _, hb0⟩
set_option maxHeartbeats 400000 in
theorem SpanOf_c {xss : List (List Int)} {o : List Int} {v u : Value} {w : World} {A B : Nat} (hA : A ≤ w.heap.size) (hB : B ≤ w.heap.size) (ha : RdInt64SS A w v xss) (ho : RdI B w u o) (hl : o.length ≤ 2097152) :
    Calls Try.prog 35 #[v, u] w fun e w' => e = .returned (.tuple #[.int .i64 (SOV xss o), .int .i64 (OCode xss o)]) ∧ Below w.heap.size w w' := by
  have Ha := Lib.hid ha.tight
  have Ho := Lib.hid (Rds.tight ho)
  have hA' : w.heap.size ≤ w.heap.size := Nat.le_refl _
  clear ha ho hA hB
  have hA := hA'
  by_cases hc : OCode xss o = 0
  · have e1 : SOV xss o = spanJ xss o := by unfold SOV; rw [if_pos hc]
    obtain ⟨hv, hr, hl8, hne⟩ := ordP_parts hc
    rw [e1, hc]
    have Hc := Lib.hid hc
    have Hr := Lib.hid hr
    have Hv := Lib.hid hv
    have Hne := Lib.hid hne
    clear hc e1 hr hv hne
    go_enter Try.func35, Try.ntmps35
    go_wp2_with fail
    with_reducible refine (orderCode_c true hA Ha.out Ho.out hl).mono ?_
    rw [OCodeIn_true, Hc.out]
    rintro e w1 ⟨rfl, hb0⟩
    have hb : Below w.heap.size w w1 := hb0
    have hA2 : w.heap.size ≤ w1.heap.size := hb.size
    have ha2 := Ha.out.below hb (Nat.le_refl _)
    have ho2 := Ho.out.below hb (Nat.le_refl _)
    have hcon := spanOf_c hA2 hA2 ha2 ho2 Hv.out Hr.out hl8 Hne.out
    have Hcon := Lib.hid hcon
    have Hb := Lib.hid hb
    clear ha2 ho2 hcon hb
    go_wp2_with fail
    with_reducible refine Hcon.out.mono ?_
    rintro e w2 ⟨rfl, hb2⟩
    have hb3 := Hb.out.trans (hb2.mono Hb.out.size)
    clear hb2
    go_wp2
    go_ret2
    exact ⟨rfl, hb3⟩
  · have e1 : SOV xss o = 0 := by unfold SOV; rw [if_neg hc]
    obtain ⟨c, hcc⟩ : ∃ c, OCode xss o = c := ⟨_, rfl⟩
    have hc12 : c = 1 ∨ c = 2 := by have := OCode_cases xss o; omega
    rw [e1, hcc]
    have Hcc := Lib.hid hcc
    clear hc e1 hcc
    rcases hc12 with rfl | rfl <;>
    · go_enter Try.func35, Try.ntmps35
      go_wp2_with fail
      with_reducible refine (orderCode_c true hA Ha.out Ho.out hl).mono ?_
      rw [OCodeIn_true, Hcc.out]
      rintro e w1 ⟨rfl, hb0⟩
      go_wp2
      go_ret2
      exact ⟨rfl, hb0⟩
end Go.Proofs.Ytpnmcgjfemaleaa
