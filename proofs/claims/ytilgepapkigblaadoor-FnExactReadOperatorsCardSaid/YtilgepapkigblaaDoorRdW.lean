/- The law 'the program's ReadOperators returns what the reference's returns': its walk. The conditions: the machines' names lie as the program's text lays them; the library's own number lies. -/
import Derived.Test.YtilgepapkigblaaDoorRdJ
import Derived.Test.YtilgepapkigblaaDoorMarkO
namespace Go.Proofs.YtilgepapkigblaaDoor
open Go.ChangeShapes Go.WideShapes Go.ChangeAt Go.RowKit
set_option linter.unusedVariables false
set_option maxRecDepth 100000
theorem readL_len (s : ByteArray) : (readL s).length ≤ 8 := by
  unfold readL
  cases h : refO s.data.toList with
  | none => simp
  | some xs =>
    unfold refO at h
    split at h
    · cases h
    · cases ha : allM refL (parts 10 s.data.toList).dropLast with
      | none => rw [ha] at h; cases h
      | some ys =>
        rw [ha] at h
        simp only at h
        split at h
        · rename_i hv
          obtain rfl := Option.some.inj h
          exact (validOs_parts hv).1
        · cases h
set_option maxHeartbeats 1000000 in
theorem walk_FnExactReadOperators (w : World) (hn : NamesAt w) (hm : MaxAt w) (x0 : ByteArray) (hx0 : x0.size ≤ 9223372036854775807) :
    Calls Tryd.prog 3 #[.string x0] w fun e w' => e = .returned (.bool true) ∧ Below w.heap.size w w' := by
  have Hn := Lib.hid hn
  have Hm := Lib.hid hm
  have hlen := readL_len x0
  have hcnt : cntOperatorS (readL x0) ≤ 1000 := by unfold cntOperatorS; omega
  clear hn hm
  by_cases hbig : (1048576 : Int) < x0.size
  · go_enter Tryd.func3, Tryd.ntmps3
    go_wp2
    go_ret
    exact ⟨rfl, Below.refl _ _⟩
  have hbig2 : (x0.size : Int) ≤ 1048576 := by omega
  obtain ⟨q, hq⟩ : ∃ q, q = readB x0 := ⟨_, rfl⟩
  obtain ⟨xs, hxs⟩ : ∃ xs, xs = readL x0 := ⟨_, rfl⟩
  rw [← hxs] at hcnt hlen
  have Hq := Lib.hid hq
  have Hxs := Lib.hid hxs
  have hS := fun W => sReadOperators_c x0 (w := W) (by omega)
  have HS := Lib.hid hS
  have Hcnt := Lib.hid hcnt
  clear hq hxs hS hcnt hlen
  go_enter Tryd.func3, Tryd.ntmps3
  go_wp2_with fail
  with_reducible refine (HS.out _).mono ?_
  rintro e w1 ⟨⟨u, rfl, ou⟩, hb1⟩
  rw [← Hq.out]
  rw [← Hxs.out] at ou
  have l1 := ou.rds
  have B1 := hb1
  clear ou
  go_wp2_with fail
  with_reducible refine (ReadOperators_c x0 (by omega) (Hm.out.below B1) (Hn.out.below B1)).mono ?_
  rintro e w2 ⟨⟨g, rfl, og⟩, hb2⟩
  rw [← Hq.out]
  rw [← Hxs.out] at og
  have hs12 := hb2.size
  have l2 := l1.below hb2 (Nat.le_refl _)
  have B2 := B1.trans (hb2.mono B1.size)
  have og2 := og.top
  have rg2 := og2.rds
  have hs01 := B1.size
  clear l1 hb1 hb2
  go_wp2_with fail
  refine (eqOperatorS_c rg2 l2).mono ?_
  rintro e w3 ⟨rfl, hb3⟩
  have hs3 := hb3.size
  have l3 := l2.below hb3 (by omega)
  have B3 := B2.trans (hb3.mono B2.size)
  have og3 := og2.below hb3 (by omega)
  clear l2 og2 rg2 hb3
  go_wp2_with fail
  refine (markOperatorS_c _ og3 (by omega) (by first | omega | (have := Hcnt.out; omega))).mono ?_
  rintro e w4 ⟨rfl, og4, hw4, hg4⟩
  have hb4 := hw4.below (by omega)
  have hs4 := hb4.size
  have B4 := B3.trans (hb4.mono (by omega))
  have l4 := l3.below hb4 (Nat.le_refl _)
  have rg4 := og4.rds
  clear l3 og3 hw4 hg4 hb4
  go_wp2_with fail
  refine (heldOperatorS_c _ rg4 (by omega) (by first | omega | (have := Hcnt.out; omega))).mono ?_
  rintro e w5 ⟨rfl, hb5⟩
  have hs5 := hb5.size
  have l5 := l4.below hb5 (by omega)
  have rg5 := rg4.below hb5 (by omega)
  have B5 := B4.trans (hb5.mono (by omega))
  clear l4 rg4 og4 hb5
  have hcn := Hcnt.out
  have hcn0 : (0 : Int) ≤ cntOperatorS xs := by omega
  go_wp2_with fail
  with_reducible refine (ReadOperators_c x0 (by omega) (Hm.out.below B5) (Hn.out.below B5)).mono ?_
  rintro e w6 ⟨⟨h, rfl, oh⟩, hb6⟩
  rw [← Hq.out]
  rw [← Hxs.out] at oh
  have hs6 := hb6.size
  have l6 := l5.below hb6 (by omega)
  have rg6 := rg5.below hb6 (by omega)
  have rh6 := oh.rds
  have B6 := B5.trans (hb6.mono (by omega))
  clear l5 rg5 oh hb6
  go_wp2_with fail
  refine (eqOperatorS_c rh6 l6).mono ?_
  rintro e w7 ⟨rfl, hb7⟩
  have hs7 := hb7.size
  have rg7 := rg6.below hb7 (by omega)
  have B7 := B6.trans (hb7.mono (by omega))
  clear l6 rg6 rh6 hb7
  go_wp2_with fail
  refine (heldOperatorS_c _ rg7 (by omega) (by first | omega | (have := Hcnt.out; omega))).mono ?_
  rintro e w8 ⟨rfl, hb8⟩
  have B8 := Lib.hid (B7.trans (hb8.mono (by omega)))
  clear rg7 hb8 B1 B2 B3 B4 B5 B6 B7
  go_wp2
  go_ret
  exact ⟨rfl, B8.out⟩
end Go.Proofs.YtilgepapkigblaaDoor
