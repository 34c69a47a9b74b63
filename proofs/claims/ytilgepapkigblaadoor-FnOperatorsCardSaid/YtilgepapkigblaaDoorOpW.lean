/- The law of the operators: its walk. The conditions: the machines' names lie as the program's text lays them; the library's own number lies. Printed by gfnops.py. -/
import Derived.Test.YtilgepapkigblaaDoorOpG
import Derived.Test.YtilgepapkigblaaDoorOpP
import Derived.Test.YtilgepapkigblaaDoorRdJ
import Derived.Test.YtilgepapkigblaaDoorLawB
import Derived.Test.YtilgepapkigblaaDoorOpT2
import Derived.Deep.DeepCutAuto
namespace Go.Proofs.YtilgepapkigblaaDoor
open Go.ChangeShapes Go.WideShapes Go.ChangeAt Go.RowKit
set_option linter.unusedVariables false
set_option maxRecDepth 100000
theorem empty_is {s : ByteArray} (h : s.toList.isEmpty = true) : s = ⟨#[]⟩ := by
  rw [ByteArray.toList_eq, List.isEmpty_iff] at h
  cases s with
  | mk d =>
    have : d = #[] := by simpa using h
    rw [this]
theorem OTV_le (xs : List OperatorT) : (OTV xs).size ≤ 1000 := by
  unfold OTV
  split
  · rename_i hv
    have := textO_le (xs := xs) (by have := (validOs_parts hv).1; omega) (validOs_names hv)
    omega
  · show (0 : Nat) ≤ 1000
    omega
set_option maxRecDepth 100000 in
set_option maxHeartbeats 2000000 in
theorem walk_FnOperators (w : World) (hn : NamesAt w) (hm : MaxAt w) {x0 : List Int} {v0 : Value} (a0 : Rds eB w.heap.size w v0 x0) :
    Calls Tryd.prog 4 #[v0] w fun e w' => e = .returned (.bool true) ∧ Below w.heap.size w w' := by
  have Hn := Lib.hid hn
  have Hm := Lib.hid hm
  clear hn hm
  by_cases hbig : (4096 : Int) < x0.length
  · go_enter Tryd.func4, Tryd.ntmps4
    go_wp2_with fail
    refine (f6big_any a0).mono ?_
    rw [decide_eq_true hbig]
    rintro e w' ⟨rfl, rfl⟩
    go_wp2
    go_ret
    exact ⟨rfl, Below.refl _ _⟩
  have Hbig := Lib.hid hbig
  clear hbig
  go_enter Tryd.func4, Tryd.ntmps4
  go_wp2_with fail
  refine (f6big_any a0).mono ?_
  rw [decide_eq_false (by have := Hbig.out; omega)]
  rintro e w' ⟨rfl, rfl⟩
  obtain ⟨B, a⟩ : Below w.heap.size w w ∧ Rds eB w.heap.size w v0 x0 := ⟨Below.refl _ _, a0⟩
  clear a0
  go_wp2_with fail
  with_reducible refine (DrawTeachOperator_any a (Nat.le_refl _)).mono ?_
  rintro e w' ⟨⟨u1, xs, k, m, rfl, o1, l1⟩, bb⟩
  clear l1
  replace a := a.on bb
  replace B := B.trans (bb.mono B.size)
  clear bb
  have L := o1.rds
  clear o1
  go_wp2_with fail
  with_reducible refine (TeachOperator_c k m L).mono ?_
  rintro e w' ⟨u2, rfl, o1, bb⟩
  replace a := a.on bb
  replace L := L.on bb
  replace B := B.trans (bb.mono B.size)
  clear bb
  have X := o1.rds
  clear o1
  go_wp2_with fail
  with_reducible refine (sTeachOperator_c k m L).mono ?_
  rintro e w' ⟨u3, rfl, o1, bb⟩
  replace a := a.on bb
  replace L := L.on bb
  replace X := X.on bb
  replace B := B.trans (bb.mono B.size)
  clear bb
  have M := o1.rds
  clear o1
  have TL : Hid (TOC xs k m = 0 → OFC xs m = 0 ∧ OFC (TOR xs k m) m = 0 ∧ (OFR (TOR xs k m) m).length = (OFR xs m).length + 1 ∧ (OFR xs m).length ≤ 8) := Lib.hid teach_law
  generalize hg : TOR xs k m = ls at TL X M ⊢
  clear hg
  generalize hg : TOC xs k m = tc at TL ⊢
  clear hg
  as_aux_lemma =>
  go_wp2_with fail
  with_reducible refine (DrawOperatorsFor_any a (Nat.le_refl _)).mono ?_
  rintro e w' ⟨⟨u4, ys, j, rfl, o1, l1⟩, bb⟩
  clear l1
  replace a := a.on bb
  replace L := L.on bb
  replace X := X.on bb
  replace M := M.on bb
  replace B := B.trans (bb.mono B.size)
  clear bb
  have Y := o1.rds
  clear o1
  go_wp2_with fail
  with_reducible refine (OperatorsFor_c j Y).mono ?_
  rintro e w' ⟨u5, rfl, o1, bb⟩
  replace a := a.on bb
  replace L := L.on bb
  replace X := X.on bb
  replace M := M.on bb
  replace Y := Y.on bb
  replace B := B.trans (bb.mono B.size)
  clear bb
  have P := o1.rds
  clear o1
  go_wp2_with fail
  with_reducible refine (sOperatorsFor_c j Y).mono ?_
  rintro e w' ⟨u6, rfl, o1, bb⟩
  replace a := a.on bb
  replace L := L.on bb
  replace X := X.on bb
  replace M := M.on bb
  replace Y := Y.on bb
  replace P := P.on bb
  replace B := B.trans (bb.mono B.size)
  clear bb
  have R := o1.rds
  clear o1
  clear Y
  generalize hg : OFR ys j = fr at P R ⊢
  clear hg
  generalize hg : OFC ys j = fc
  clear hg
  as_aux_lemma =>
  go_wp2_with fail
  with_reducible refine (DrawOperatorsText_any a (Nat.le_refl _)).mono ?_
  rintro e w' ⟨⟨u7, ts, rfl, o1, l1⟩, bb⟩
  clear l1
  replace a := a.on bb
  replace L := L.on bb
  replace X := X.on bb
  replace M := M.on bb
  replace P := P.on bb
  replace R := R.on bb
  replace B := B.trans (bb.mono B.size)
  clear bb
  have T := o1.rds
  clear o1
  go_wp2_with fail
  with_reducible refine (OperatorsText_c (Hn.out.below B) T).mono ?_
  rintro e w' ⟨rfl, bb⟩
  replace a := a.on bb
  replace L := L.on bb
  replace X := X.on bb
  replace M := M.on bb
  replace P := P.on bb
  replace R := R.on bb
  replace T := T.on bb
  replace B := B.trans (bb.mono B.size)
  clear bb
  have TX : Hid (((OTV ts).toList == (⟨#[]⟩ : ByteArray).toList) = true ∨ (readB (OTV ts) = true ∧ readL (OTV ts) = ts)) := Lib.hid (read_any ts)
  have tz := OTV_le ts
  obtain ⟨tx, htx⟩ : ∃ tx, tx = OTV ts := ⟨_, rfl⟩
  rw [← htx] at TX tz ⊢
  have Htx := Lib.hid htx
  clear htx
  go_wp2_with fail
  with_reducible refine (ReadOperators_c tx (by omega) (Hm.out.below B) (Hn.out.below B)).mono ?_
  rintro e w' ⟨⟨u8, rfl, o1⟩, bb⟩
  replace a := a.on bb
  replace L := L.on bb
  replace X := X.on bb
  replace M := M.on bb
  replace P := P.on bb
  replace R := R.on bb
  replace T := T.on bb
  replace B := B.trans (bb.mono B.size)
  clear bb
  have G := o1.rds
  clear o1
  generalize hg : readL tx = rl at TX G ⊢
  clear hg
  generalize hg : readB tx = rb at TX ⊢
  clear hg
  as_aux_lemma =>
  go_wp2_with fail
  with_reducible refine (DrawReadOperators_any a (Nat.le_refl _)).mono ?_
  rintro e w' ⟨⟨s, rfl, hs⟩, bb⟩
  replace a := a.on bb
  replace L := L.on bb
  replace X := X.on bb
  replace M := M.on bb
  replace P := P.on bb
  replace R := R.on bb
  replace T := T.on bb
  replace G := G.on bb
  replace B := B.trans (bb.mono B.size)
  clear bb
  go_wp2_with fail
  with_reducible refine (ReadOperators_c s (by omega) (Hm.out.below B) (Hn.out.below B)).mono ?_
  rintro e w' ⟨⟨u9, rfl, o1⟩, bb⟩
  replace a := a.on bb
  replace L := L.on bb
  replace X := X.on bb
  replace M := M.on bb
  replace P := P.on bb
  replace R := R.on bb
  replace T := T.on bb
  replace G := G.on bb
  replace B := B.trans (bb.mono B.size)
  clear bb
  have U := o1.rds
  clear o1
  go_wp2_with fail
  with_reducible refine (sReadOperators_c s (by omega)).mono ?_
  rintro e w' ⟨⟨u10, rfl, o1⟩, bb⟩
  replace a := a.on bb
  replace L := L.on bb
  replace X := X.on bb
  replace M := M.on bb
  replace P := P.on bb
  replace R := R.on bb
  replace T := T.on bb
  replace G := G.on bb
  replace U := U.on bb
  replace B := B.trans (bb.mono B.size)
  clear bb
  have V := o1.rds
  clear o1
  generalize hg : readL s = sl at U V ⊢
  clear hg
  generalize hg : readB s = sb
  clear hg
  as_aux_lemma =>
  go_wp2_with fail
  with_reducible refine (DrawSameOperators_any a (Nat.le_refl _)).mono ?_
  rintro e w' ⟨⟨u11, u12, bs, cs, rfl, o1, l1, o2, l2⟩, bb⟩
  clear l1 l2
  replace a := a.on bb
  replace L := L.on bb
  replace X := X.on bb
  replace M := M.on bb
  replace P := P.on bb
  replace R := R.on bb
  replace T := T.on bb
  replace G := G.on bb
  replace U := U.on bb
  replace V := V.on bb
  replace B := B.trans (bb.mono B.size)
  clear bb
  have C := o1.rds
  clear o1
  have D := o2.rds
  clear o2
  go_wp2_with fail
  with_reducible refine (DrawMachineName_any a (Nat.le_refl _)).mono ?_
  rintro e w' ⟨⟨n, rfl⟩, bb⟩
  replace a := a.on bb
  replace L := L.on bb
  replace X := X.on bb
  replace M := M.on bb
  replace P := P.on bb
  replace R := R.on bb
  replace T := T.on bb
  replace G := G.on bb
  replace U := U.on bb
  replace V := V.on bb
  replace C := C.on bb
  replace D := D.on bb
  replace B := B.trans (bb.mono B.size)
  clear bb
  clear a
  as_aux_lemma =>
  go_wp2_with fail
  with_reducible refine (sSameOperators_c X M).mono ?_
  rw [decide_eq_true rfl]
  rintro e w' ⟨rfl, bb⟩
  replace L := L.on bb
  replace X := X.on bb
  replace M := M.on bb
  replace P := P.on bb
  replace R := R.on bb
  replace T := T.on bb
  replace G := G.on bb
  replace U := U.on bb
  replace V := V.on bb
  replace C := C.on bb
  replace D := D.on bb
  replace B := B.trans (bb.mono B.size)
  clear bb
  clear M
  go_wp2_with fail
  with_reducible refine (f6ints_c P R).mono ?_
  rw [decide_eq_true rfl]
  rintro e w' ⟨rfl, bb⟩
  replace L := L.on bb
  replace X := X.on bb
  replace P := P.on bb
  replace R := R.on bb
  replace T := T.on bb
  replace G := G.on bb
  replace U := U.on bb
  replace V := V.on bb
  replace C := C.on bb
  replace D := D.on bb
  replace B := B.trans (bb.mono B.size)
  clear bb
  clear P
  clear R
  as_aux_lemma =>
  go_wp2_with fail
  with_reducible refine (sOperatorsText_c T).mono ?_
  rintro e w' ⟨rfl, bb⟩
  rw [← Htx.out]
  replace L := L.on bb
  replace X := X.on bb
  replace T := T.on bb
  replace G := G.on bb
  replace U := U.on bb
  replace V := V.on bb
  replace C := C.on bb
  replace D := D.on bb
  replace B := B.trans (bb.mono B.size)
  clear bb
  by_cases he : tx.toList.isEmpty = true
  · obtain rfl : tx = ⟨#[]⟩ := empty_is he
    clear TX T G he
    go_simp
    go_step
    go_step
    go_step
    go_step
    go_step
    go_step
    go_step
    go_step
    go_step
    go_step
    go_step
    go_step
    go_step
    simp only [List.append_eq, List.nil_append, List.cons_append]
    go_wp2_with fail
    with_reducible refine (sSameOperators_c U V).mono ?_
    rw [decide_eq_true rfl]
    rintro e w' ⟨rfl, bb⟩
    replace L := L.on bb
    replace X := X.on bb
    replace U := U.on bb
    replace V := V.on bb
    replace C := C.on bb
    replace D := D.on bb
    replace B := B.trans (bb.mono B.size)
    clear bb
    clear U
    clear V
    go_wp2_with fail
    with_reducible refine (SameOperators_c C D).mono ?_
    rintro e w' ⟨rfl, bb⟩
    replace L := L.on bb
    replace X := X.on bb
    replace C := C.on bb
    replace D := D.on bb
    replace B := B.trans (bb.mono B.size)
    clear bb
    go_wp2_with fail
    with_reducible refine (sSameOperators_c C D).mono ?_
    rintro e w' ⟨rfl, bb⟩
    replace L := L.on bb
    replace X := X.on bb
    replace C := C.on bb
    replace D := D.on bb
    replace B := B.trans (bb.mono B.size)
    clear bb
    clear C
    clear D
    generalize decide (bs = cs) = qd
    go_wp2_with fail
    with_reducible refine (MachineName_c n (Hn.out.below B)).mono ?_
    rintro e w' ⟨rfl, rfl⟩
    go_wp2_with fail
    with_reducible refine (sMachineName_c n _).mono ?_
    rintro e w' ⟨rfl, bb⟩
    replace L := L.on bb
    replace X := X.on bb
    replace B := B.trans (bb.mono B.size)
    clear bb
    generalize MNV n = nv
    go_wp2_with fail
    with_reducible refine (ValidOperators_c L).mono ?_
    rintro e w' ⟨rfl, bb⟩
    replace L := L.on bb
    replace X := X.on bb
    replace B := B.trans (bb.mono B.size)
    clear bb
    go_wp2_with fail
    with_reducible refine (sValidOperators_c L).mono ?_
    rintro e w' ⟨rfl, bb⟩
    replace L := L.on bb
    replace X := X.on bb
    replace B := B.trans (bb.mono B.size)
    clear bb
    generalize validOs xs = vo
    as_aux_lemma =>
    by_cases h0 : tc = 0
    · subst h0
      obtain ⟨t1, t2, t3, t4⟩ := TL.out rfl
      have T1 := Lib.hid t1
      have T2 := Lib.hid t2
      have T3 := Lib.hid t3
      have T4 := Lib.hid t4
      clear t1 t2 t3 t4 TL
      go_wp2_with fail
      with_reducible refine (OperatorsFor_c m X).mono ?_
      rw [T2.out]
      rintro e w' ⟨u20, rfl, o1, bb⟩
      replace L := L.on bb
      replace X := X.on bb
      replace B := B.trans (bb.mono B.size)
      clear bb
      have P := o1.rds
      clear o1
      obtain ⟨po, pcap, rfl⟩ := P.shape
      go_wp2_with fail
      with_reducible refine (OperatorsFor_c m L).mono ?_
      rw [T1.out]
      rintro e w' ⟨u21, rfl, o1, bb⟩
      replace L := L.on bb
      replace X := X.on bb
      replace P := P.on bb
      replace B := B.trans (bb.mono B.size)
      clear bb
      have R := o1.rds
      clear o1
      obtain ⟨ro, rcap, rfl⟩ := R.shape
      have hB := Lib.hid B
      clear P R X L B
      obtain ⟨n1, hn1⟩ : ∃ n1, n1 = (OFR ls m).length := ⟨_, rfl⟩
      obtain ⟨n2, hn2⟩ : ∃ n2, n2 = (OFR xs m).length := ⟨_, rfl⟩
      rw [← hn1, ← hn2]
      have hn3 : n1 = n2 + 1 := by rw [hn1, hn2]; exact T3.out
      have hn4 : n2 ≤ 8 := by rw [hn2]; exact T4.out
      clear hn1 hn2 T1 T2 T3 T4
      subst hn3
      go_wp2
      go_ret
      exact ⟨by first | rfl | exact ret_bool (by simp), hB.out⟩
    · have e0 : (tc == 0) = false := by simpa using h0
      have hB := Lib.hid B
      clear X L B TL h0
      go_wp2
      go_ret
      exact ⟨rfl, hB.out⟩
  · have he2 : tx.toList.isEmpty = false := by simpa using he
    obtain ⟨rfl, rfl⟩ : rb = true ∧ rl = ts := by
      rcases TX.out with h | h
      · exact absurd (by rw [eq_of_beq h, ByteArray.toList_eq]; rfl) he
      · exact h
    clear he TX
    go_wp2_with fail
    with_reducible refine (sSameOperators_c G T).mono ?_
    rw [decide_eq_true rfl]
    rintro e w' ⟨rfl, bb⟩
    replace L := L.on bb
    replace X := X.on bb
    replace T := T.on bb
    replace G := G.on bb
    replace U := U.on bb
    replace V := V.on bb
    replace C := C.on bb
    replace D := D.on bb
    replace B := B.trans (bb.mono B.size)
    clear bb
    clear G
    clear T
    go_wp2_with fail
    with_reducible refine (sSameOperators_c U V).mono ?_
    rw [decide_eq_true rfl]
    rintro e w' ⟨rfl, bb⟩
    replace L := L.on bb
    replace X := X.on bb
    replace U := U.on bb
    replace V := V.on bb
    replace C := C.on bb
    replace D := D.on bb
    replace B := B.trans (bb.mono B.size)
    clear bb
    clear U
    clear V
    go_wp2_with fail
    with_reducible refine (SameOperators_c C D).mono ?_
    rintro e w' ⟨rfl, bb⟩
    replace L := L.on bb
    replace X := X.on bb
    replace C := C.on bb
    replace D := D.on bb
    replace B := B.trans (bb.mono B.size)
    clear bb
    go_wp2_with fail
    with_reducible refine (sSameOperators_c C D).mono ?_
    rintro e w' ⟨rfl, bb⟩
    replace L := L.on bb
    replace X := X.on bb
    replace C := C.on bb
    replace D := D.on bb
    replace B := B.trans (bb.mono B.size)
    clear bb
    clear C
    clear D
    generalize decide (bs = cs) = qd
    go_wp2_with fail
    with_reducible refine (MachineName_c n (Hn.out.below B)).mono ?_
    rintro e w' ⟨rfl, rfl⟩
    go_wp2_with fail
    with_reducible refine (sMachineName_c n _).mono ?_
    rintro e w' ⟨rfl, bb⟩
    replace L := L.on bb
    replace X := X.on bb
    replace B := B.trans (bb.mono B.size)
    clear bb
    generalize MNV n = nv
    go_wp2_with fail
    with_reducible refine (ValidOperators_c L).mono ?_
    rintro e w' ⟨rfl, bb⟩
    replace L := L.on bb
    replace X := X.on bb
    replace B := B.trans (bb.mono B.size)
    clear bb
    go_wp2_with fail
    with_reducible refine (sValidOperators_c L).mono ?_
    rintro e w' ⟨rfl, bb⟩
    replace L := L.on bb
    replace X := X.on bb
    replace B := B.trans (bb.mono B.size)
    clear bb
    generalize validOs xs = vo
    as_aux_lemma =>
    by_cases h0 : tc = 0
    · subst h0
      obtain ⟨t1, t2, t3, t4⟩ := TL.out rfl
      have T1 := Lib.hid t1
      have T2 := Lib.hid t2
      have T3 := Lib.hid t3
      have T4 := Lib.hid t4
      clear t1 t2 t3 t4 TL
      go_wp2_with fail
      with_reducible refine (OperatorsFor_c m X).mono ?_
      rw [T2.out]
      rintro e w' ⟨u20, rfl, o1, bb⟩
      replace L := L.on bb
      replace X := X.on bb
      replace B := B.trans (bb.mono B.size)
      clear bb
      have P := o1.rds
      clear o1
      obtain ⟨po, pcap, rfl⟩ := P.shape
      go_wp2_with fail
      with_reducible refine (OperatorsFor_c m L).mono ?_
      rw [T1.out]
      rintro e w' ⟨u21, rfl, o1, bb⟩
      replace L := L.on bb
      replace X := X.on bb
      replace P := P.on bb
      replace B := B.trans (bb.mono B.size)
      clear bb
      have R := o1.rds
      clear o1
      obtain ⟨ro, rcap, rfl⟩ := R.shape
      have hB := Lib.hid B
      clear P R X L B
      obtain ⟨n1, hn1⟩ : ∃ n1, n1 = (OFR ls m).length := ⟨_, rfl⟩
      obtain ⟨n2, hn2⟩ : ∃ n2, n2 = (OFR xs m).length := ⟨_, rfl⟩
      rw [← hn1, ← hn2]
      have hn3 : n1 = n2 + 1 := by rw [hn1, hn2]; exact T3.out
      have hn4 : n2 ≤ 8 := by rw [hn2]; exact T4.out
      clear hn1 hn2 T1 T2 T3 T4
      subst hn3
      go_wp2
      go_ret
      exact ⟨by first | rfl | exact ret_bool (by simp), hB.out⟩
    · have e0 : (tc == 0) = false := by simpa using h0
      have hB := Lib.hid B
      clear X L B TL h0
      go_wp2
      go_ret
      exact ⟨rfl, hB.out⟩
end Go.Proofs.YtilgepapkigblaaDoor
