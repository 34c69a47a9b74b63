/- The law of the pays. Printed by gfnpays.py. No condition. -/
import Derived.Test.YtfhlmkeklmaedaaDoorPayP
import Derived.Test.YtfhlmkeklmaedaaDoorPayLit
import Derived.Test.YtfhlmkeklmaedaaDoorPayD2
import Derived.Test.YtfhlmkeklmaedaaDoorPayD6
import Derived.Test.YtfhlmkeklmaedaaDoorPayD7
import Derived.Test.YtfhlmkeklmaedaaDoorPayI
import Derived.Test.YtfhlmkeklmaedaaDoorSum3
import Derived.Test.YtfhlmkeklmaedaaDoorLawB
import Derived.Test.YtfhlmkeklmaedaaDoorLawD
import Derived.Test.YtfhlmkeklmaedaaDoorPow
import Derived.Test.YtfhlmkeklmaedaaDoorTie
import Derived.Test.YtfhlmkeklmaedaaDoorCards
namespace Go.Proofs.YtfhlmkeklmaedaaDoor
open Go.ChangeShapes Go.WideShapes Go.ChangeAt Go.RowKit
set_option linter.unusedVariables false
set_option maxRecDepth 100000
theorem DrawSumOfPays_b {w : World} {A : Nat} {v : Value} {cs : List Int} (ha : Rds eB A w v cs) (hA : A ≤ w.heap.size) :
    Calls Tryd.prog 17 #[v] w fun e w' => (∃ u xs, e = .returned u ∧ Own ePay 31 w.heap.size w' u xs ∧ xs.length ≤ 31) ∧ Below w.heap.size w w' := DrawSumOfPays_any ha hA
set_option maxRecDepth 100000 in
set_option maxHeartbeats 8000000 in
theorem walk_FnPays (w : World) (t : PowAt w) {x0 : List Int} {v0 : Value} (a0 : Rds eB w.heap.size w v0 x0) :
    Calls Tryd.prog 4 #[v0] w fun e w' => e = .returned (.bool true) ∧ Below w.heap.size w w' := by
  by_cases hbig : (4096 : Int) < x0.length
  · go_enter Tryd.func4, Tryd.ntmps4
    go_wp2_with fail
    refine (f6big_any a0).mono ?_
    rw [decide_eq_true hbig]
    rintro e w' ⟨rfl, rfl⟩
    go_wp2
    go_ret
    exact ⟨rfl, Below.refl _ _⟩
  have Hbig := Lib.hid hbig
  clear hbig
  obtain ⟨vo, vcap, hv0⟩ := a0.shape
  subst hv0
  go_enter Tryd.func4, Tryd.ntmps4
  go_wp2_with fail
  refine (f6big_any a0).mono ?_
  rw [decide_eq_false (by have := Hbig.out; omega)]
  rintro e w' ⟨rfl, rfl⟩
  obtain ⟨B, a⟩ : Below w.heap.size w w ∧ Rds eB w.heap.size w (.slice vo x0.length vcap) x0 := ⟨Below.refl _ _, a0⟩
  clear a0
  go_upto_region 3 with fail
  go_wp2_with fail
  with_reducible refine (DrawPayFor_any a (Nat.le_refl _)).mono ?_
  rintro e w1 ⟨⟨x, h, rfl, okx, hh⟩, bb⟩
  replace a := a.on bb
  replace t := t.below bb
  replace B := B.trans (bb.mono B.size)
  clear bb
  have HX := Lib.hid okx
  have HH := Lib.hid hh
  clear okx hh
  obtain ⟨W, hW⟩ : ∃ W, W = (w1.alloc (.cells #[.string x.nm, .int .i64 x.rate, .int .i64 x.tax] 29)) := ⟨_, rfl⟩
  have bb : Below w1.heap.size w1 W := by rw [hW]; exact (Below.refl _ _).alloc (Nat.le_refl _) _
  have kx : Box W w1.heap.size [.string x.nm, .int .i64 x.rate, .int .i64 x.tax] := by rw [hW]; exact Box.new w1 [.string x.nm, .int .i64 x.rate, .int .i64 x.tax] _
  have HW := Lib.hid hW
  clear hW
  replace a := a.on bb
  replace t := t.below bb
  replace B := B.trans (bb.mono B.size)
  clear bb
  go_upto_region 4 with fail
  rw [← HW.out]
  clear HW
  generalize w1.heap.size = Xkx at kx ⊢
  as_aux_lemma =>
  obtain ⟨p, hp⟩ : ∃ p, PayForR x h = p := ⟨_, rfl⟩
  obtain ⟨pc, hpc⟩ : ∃ c, PayForC x h = c := ⟨_, rfl⟩
  have Hp := Lib.hid hp
  have Hpc := Lib.hid hpc
  clear hp hpc
  have ckx0 := kx.cell 0 _ rfl
  have ckx1 := kx.cell 1 _ rfl
  have ckx2 := kx.cell 2 _ rfl
  go_wp2_with fail
  with_reducible refine (PayFor_c x h _ HX.out).mono ?_
  rintro e w1 ⟨rfl, bb⟩
  clear ckx0 ckx1 ckx2
  replace a := a.on bb
  replace t := t.below bb
  replace kx := kx.on bb
  replace B := B.trans (bb.mono B.size)
  clear bb
  rw [Hp.out, Hpc.out]
  obtain ⟨W, hW⟩ : ∃ W, W = (w1.alloc (.cells #[.int .i64 p.hours, .int .i64 p.gross, .int .i64 p.tax, .int .i64 p.net] 31)) := ⟨_, rfl⟩
  have bb : Below w1.heap.size w1 W := by rw [hW]; exact (Below.refl _ _).alloc (Nat.le_refl _) _
  have kp : Box W w1.heap.size [.int .i64 p.hours, .int .i64 p.gross, .int .i64 p.tax, .int .i64 p.net] := by rw [hW]; exact Box.new w1 [.int .i64 p.hours, .int .i64 p.gross, .int .i64 p.tax, .int .i64 p.net] _
  have HW := Lib.hid hW
  clear hW
  replace a := a.on bb
  replace t := t.below bb
  replace kx := kx.on bb
  replace B := B.trans (bb.mono B.size)
  clear bb
  go_upto_region 5 with fail
  rw [← HW.out]
  clear HW
  generalize w1.heap.size = Xkp at kp ⊢
  as_aux_lemma =>
  have ckx0 := kx.cell 0 _ rfl
  have ckx1 := kx.cell 1 _ rfl
  have ckx2 := kx.cell 2 _ rfl
  go_wp2_with fail
  with_reducible refine (sPayFor_c x h _ HX.out).mono ?_
  rintro e w1 ⟨rfl, bb⟩
  clear ckx0 ckx1 ckx2
  replace a := a.on bb
  replace t := t.below bb
  replace kx := kx.on bb
  replace kp := kp.on bb
  replace B := B.trans (bb.mono B.size)
  clear bb
  rw [Hp.out, Hpc.out]
  obtain ⟨W, hW⟩ : ∃ W, W = (w1.alloc (.cells #[.int .i64 p.hours, .int .i64 p.gross, .int .i64 p.tax, .int .i64 p.net] 31)) := ⟨_, rfl⟩
  have bb : Below w1.heap.size w1 W := by rw [hW]; exact (Below.refl _ _).alloc (Nat.le_refl _) _
  have km : Box W w1.heap.size [.int .i64 p.hours, .int .i64 p.gross, .int .i64 p.tax, .int .i64 p.net] := by rw [hW]; exact Box.new w1 [.int .i64 p.hours, .int .i64 p.gross, .int .i64 p.tax, .int .i64 p.net] _
  have HW := Lib.hid hW
  clear hW
  replace a := a.on bb
  replace t := t.below bb
  replace kx := kx.on bb
  replace kp := kp.on bb
  replace B := B.trans (bb.mono B.size)
  clear bb
  go_upto_region 6 with fail
  rw [← HW.out]
  clear HW
  generalize w1.heap.size = Xkm at km ⊢
  as_aux_lemma =>
  clear kx
  go_wp2_with fail
  with_reducible refine (DrawGrossFor_any a (Nat.le_refl _)).mono ?_
  rintro e w1 ⟨⟨r, u, rfl, hr, hu⟩, bb⟩
  replace a := a.on bb
  replace t := t.below bb
  replace kp := kp.on bb
  replace km := km.on bb
  replace B := B.trans (bb.mono B.size)
  clear bb
  have HR := Lib.hid hr
  have HU := Lib.hid hu
  clear hr hu
  go_upto_region 7 with fail
  as_aux_lemma =>
  obtain ⟨g, hg⟩ : ∃ g, GrR r u = g := ⟨_, rfl⟩
  obtain ⟨gc, hgc⟩ : ∃ c, GrC r u = c := ⟨_, rfl⟩
  have Hg := Lib.hid hg
  have Hgc := Lib.hid hgc
  clear hg hgc
  go_wp2_with fail
  with_reducible refine (GrossFor_c r u _).mono ?_
  rintro e w1 ⟨rfl, rfl⟩
  rw [Hg.out, Hgc.out]
  go_upto_region 8 with fail
  as_aux_lemma =>
  go_wp2_with fail
  with_reducible refine (sGrossFor_c r u _).mono ?_
  rintro e w1 ⟨rfl, rfl⟩
  rw [Hg.out, Hgc.out]
  go_upto_region 9 with fail
  as_aux_lemma =>
  go_wp2_with fail
  with_reducible refine (DrawSumOfPays_b a (Nat.le_refl _)).mono ?_
  rintro e w1 ⟨⟨ul, xs, rfl, ol, hl⟩, bb⟩
  replace a := a.on bb
  replace t := t.below bb
  replace kp := kp.on bb
  replace km := km.on bb
  replace B := B.trans (bb.mono B.size)
  clear bb
  have l := ol.rds
  clear ol
  go_upto_region 10 with fail
  as_aux_lemma =>
  obtain ⟨s, hs⟩ : ∃ s, SumR xs = s := ⟨_, rfl⟩
  obtain ⟨sc, hsc⟩ : ∃ c, SumC xs = c := ⟨_, rfl⟩
  have Hs := Lib.hid hs
  have Hsc := Lib.hid hsc
  clear hs hsc
  go_wp2_with fail
  with_reducible refine (SumOfPays_c l).mono ?_
  rintro e w1 ⟨rfl, bb⟩
  replace a := a.on bb
  replace t := t.below bb
  replace l := l.on bb
  replace kp := kp.on bb
  replace km := km.on bb
  replace B := B.trans (bb.mono B.size)
  clear bb
  rw [Hs.out, Hsc.out]
  obtain ⟨W, hW⟩ : ∃ W, W = (w1.alloc (.cells #[.int .i64 s.hours, .int .i64 s.gross, .int .i64 s.tax, .int .i64 s.net] 31)) := ⟨_, rfl⟩
  have bb : Below w1.heap.size w1 W := by rw [hW]; exact (Below.refl _ _).alloc (Nat.le_refl _) _
  have ks : Box W w1.heap.size [.int .i64 s.hours, .int .i64 s.gross, .int .i64 s.tax, .int .i64 s.net] := by rw [hW]; exact Box.new w1 [.int .i64 s.hours, .int .i64 s.gross, .int .i64 s.tax, .int .i64 s.net] _
  have HW := Lib.hid hW
  clear hW
  replace a := a.on bb
  replace t := t.below bb
  replace l := l.on bb
  replace kp := kp.on bb
  replace km := km.on bb
  replace B := B.trans (bb.mono B.size)
  clear bb
  go_upto_region 11 with fail
  rw [← HW.out]
  clear HW
  generalize w1.heap.size = Xks at ks ⊢
  as_aux_lemma =>
  go_wp2_with fail
  with_reducible refine (sSumOfPays_c l).mono ?_
  rintro e w1 ⟨rfl, bb⟩
  replace a := a.on bb
  replace t := t.below bb
  replace l := l.on bb
  replace kp := kp.on bb
  replace km := km.on bb
  replace ks := ks.on bb
  replace B := B.trans (bb.mono B.size)
  clear bb
  rw [Hs.out, Hsc.out]
  obtain ⟨W, hW⟩ : ∃ W, W = (w1.alloc (.cells #[.int .i64 s.hours, .int .i64 s.gross, .int .i64 s.tax, .int .i64 s.net] 31)) := ⟨_, rfl⟩
  have bb : Below w1.heap.size w1 W := by rw [hW]; exact (Below.refl _ _).alloc (Nat.le_refl _) _
  have kt : Box W w1.heap.size [.int .i64 s.hours, .int .i64 s.gross, .int .i64 s.tax, .int .i64 s.net] := by rw [hW]; exact Box.new w1 [.int .i64 s.hours, .int .i64 s.gross, .int .i64 s.tax, .int .i64 s.net] _
  have HW := Lib.hid hW
  clear hW
  replace a := a.on bb
  replace t := t.below bb
  replace l := l.on bb
  replace kp := kp.on bb
  replace km := km.on bb
  replace ks := ks.on bb
  replace B := B.trans (bb.mono B.size)
  clear bb
  go_upto_region 12 with fail
  rw [← HW.out]
  clear HW
  generalize w1.heap.size = Xkt at kt ⊢
  as_aux_lemma =>
  clear l
  go_wp2_with fail
  with_reducible refine (DrawCoinsFor_any a (Nat.le_refl _)).mono ?_
  rintro e w1 ⟨⟨m, rfl, hm⟩, bb⟩
  replace a := a.on bb
  replace t := t.below bb
  replace kp := kp.on bb
  replace km := km.on bb
  replace ks := ks.on bb
  replace kt := kt.on bb
  replace B := B.trans (bb.mono B.size)
  clear bb
  have HM := Lib.hid hm
  clear hm
  go_upto_region 13 with fail
  as_aux_lemma =>
  go_wp2_with fail
  with_reducible refine (CoinsFor_c m _).mono ?_
  rintro e w1 ⟨uc, rfl, oc, bb⟩
  replace a := a.on bb
  replace t := t.below bb
  replace kp := kp.on bb
  replace km := km.on bb
  replace ks := ks.on bb
  replace kt := kt.on bb
  replace B := B.trans (bb.mono B.size)
  clear bb
  have c := oc.rds
  clear oc
  go_upto_region 14 with fail
  as_aux_lemma =>
  go_wp2_with fail
  with_reducible refine (sCoinsFor_c m _).mono ?_
  rintro e w1 ⟨ud, rfl, od, bb⟩
  replace a := a.on bb
  replace t := t.below bb
  replace c := c.on bb
  replace kp := kp.on bb
  replace km := km.on bb
  replace ks := ks.on bb
  replace kt := kt.on bb
  replace B := B.trans (bb.mono B.size)
  clear bb
  have d := od.rds
  clear od
  go_upto_region 15 with fail
  as_aux_lemma =>
  go_wp2_with fail
  with_reducible refine (DrawPayLine_any a (Nat.le_refl _)).mono ?_
  rintro e w1 ⟨⟨y, q, rfl, oky, okq⟩, bb⟩
  replace a := a.on bb
  replace t := t.below bb
  replace c := c.on bb
  replace d := d.on bb
  replace kp := kp.on bb
  replace km := km.on bb
  replace ks := ks.on bb
  replace kt := kt.on bb
  replace B := B.trans (bb.mono B.size)
  clear bb
  have HY := Lib.hid oky
  clear oky okq
  obtain ⟨W, hW⟩ : ∃ W, W = ((w1.alloc (.cells #[.string y.nm, .int .i64 y.rate, .int .i64 y.tax] 29)).alloc (.cells #[.int .i64 q.hours, .int .i64 q.gross, .int .i64 q.tax, .int .i64 q.net] 31)) := ⟨_, rfl⟩
  have bb : Below w1.heap.size w1 W := by rw [hW]; exact ((Below.refl _ _).alloc (Nat.le_refl _) _).alloc (by simp) _
  have ky : Box W w1.heap.size [.string y.nm, .int .i64 y.rate, .int .i64 y.tax] := by rw [hW]; exact (Box.new w1 [.string y.nm, .int .i64 y.rate, .int .i64 y.tax] _).alloc _
  have kq : Box W (w1.heap.size + 1) [.int .i64 q.hours, .int .i64 q.gross, .int .i64 q.tax, .int .i64 q.net] := by rw [hW]; have h := Box.new (w1.alloc (.cells #[.string y.nm, .int .i64 y.rate, .int .i64 y.tax] 29)) [.int .i64 q.hours, .int .i64 q.gross, .int .i64 q.tax, .int .i64 q.net] 31; rw [show (w1.alloc (.cells #[.string y.nm, .int .i64 y.rate, .int .i64 y.tax] 29)).heap.size = w1.heap.size + 1 from by simp] at h; exact h
  have HW := Lib.hid hW
  clear hW
  replace a := a.on bb
  replace t := t.below bb
  replace c := c.on bb
  replace d := d.on bb
  replace kp := kp.on bb
  replace km := km.on bb
  replace ks := ks.on bb
  replace kt := kt.on bb
  replace B := B.trans (bb.mono B.size)
  clear bb
  go_upto_region 16 with fail
  rw [← HW.out]
  clear HW
  generalize w1.heap.size + 1 = Xkq at kq ⊢
  generalize w1.heap.size = Xky at ky ⊢
  as_aux_lemma =>
  obtain ⟨z, hz⟩ : ∃ z, PLV y q = z := ⟨_, rfl⟩
  obtain ⟨zc, hzc⟩ : ∃ c, PLC y q = c := ⟨_, rfl⟩
  have Hz := Lib.hid hz
  have Hzc := Lib.hid hzc
  clear hz hzc
  have cky0 := ky.cell 0 _ rfl
  have cky1 := ky.cell 1 _ rfl
  have cky2 := ky.cell 2 _ rfl
  have ckq0 := kq.cell 0 _ rfl
  have ckq1 := kq.cell 1 _ rfl
  have ckq2 := kq.cell 2 _ rfl
  have ckq3 := kq.cell 3 _ rfl
  go_wp2_with fail
  with_reducible refine (PayLine_c y q _ HY.out t).mono ?_
  rintro e w1 ⟨rfl, bb⟩
  clear cky0 cky1 cky2 ckq0 ckq1 ckq2 ckq3
  replace a := a.on bb
  replace t := t.below bb
  replace c := c.on bb
  replace d := d.on bb
  replace kp := kp.on bb
  replace km := km.on bb
  replace ks := ks.on bb
  replace kt := kt.on bb
  replace ky := ky.on bb
  replace kq := kq.on bb
  replace B := B.trans (bb.mono B.size)
  clear bb
  rw [Hz.out, Hzc.out]
  go_upto_region 17 with fail
  as_aux_lemma =>
  have cky0 := ky.cell 0 _ rfl
  have cky1 := ky.cell 1 _ rfl
  have cky2 := ky.cell 2 _ rfl
  have ckq0 := kq.cell 0 _ rfl
  have ckq1 := kq.cell 1 _ rfl
  have ckq2 := kq.cell 2 _ rfl
  have ckq3 := kq.cell 3 _ rfl
  go_wp2_with fail
  with_reducible refine (sPayLine_c y q _ HY.out).mono ?_
  rintro e w1 ⟨rfl, bb⟩
  clear cky0 cky1 cky2 ckq0 ckq1 ckq2 ckq3
  replace a := a.on bb
  replace t := t.below bb
  replace c := c.on bb
  replace d := d.on bb
  replace kp := kp.on bb
  replace km := km.on bb
  replace ks := ks.on bb
  replace kt := kt.on bb
  replace ky := ky.on bb
  replace kq := kq.on bb
  replace B := B.trans (bb.mono B.size)
  clear bb
  rw [Hz.out, Hzc.out]
  go_upto_region 18 with fail
  as_aux_lemma =>
  have HB := Lib.hid B
  clear a t ky kq HX HY
  have ckp0 := kp.cell 0 _ rfl
  have ckp1 := kp.cell 1 _ rfl
  have ckp2 := kp.cell 2 _ rfl
  have ckp3 := kp.cell 3 _ rfl
  have ckm0 := km.cell 0 _ rfl
  have ckm1 := km.cell 1 _ rfl
  have ckm2 := km.cell 2 _ rfl
  have ckm3 := km.cell 3 _ rfl
  have cks0 := ks.cell 0 _ rfl
  have cks1 := ks.cell 1 _ rfl
  have cks2 := ks.cell 2 _ rfl
  have cks3 := ks.cell 3 _ rfl
  have ckt0 := kt.cell 0 _ rfl
  have ckt1 := kt.cell 1 _ rfl
  have ckt2 := kt.cell 2 _ rfl
  have ckt3 := kt.cell 3 _ rfl
  obtain ⟨cc, hcc⟩ : ∃ c, CoinsC m = c := ⟨_, rfl⟩
  rw [hcc]
  have Hcc := Lib.hid hcc
  clear hcc
  go_wp2_with fail
  with_reducible refine (f6ints_c c d).mono ?_
  rintro e w1 ⟨rfl, bb⟩
  rw [decide_eq_true rfl]
  clear ckp0 ckp1 ckp2 ckp3 ckm0 ckm1 ckm2 ckm3 cks0 cks1 cks2 cks3 ckt0 ckt1 ckt2 ckt3
  replace d := d.on bb
  replace kp := kp.on bb
  replace B := B.trans (bb.mono B.size)
  clear bb km ks kt c HB
  go_upto_region 20 with fail
  as_aux_lemma =>
  by_cases eg : gc = 0
  · subst eg
    by_cases eu : u < 120
    · obtain ⟨n1, n2⟩ := Gr_next Hgc.out eu
      have hr1 := GrC_cases Hgc.out
      have hb1 := GrR_bd r u
      have hb2 := GrR_bd r (u + 1)
      rw [Hg.out] at n2 hb1
      go_wp2_with fail
      with_reducible refine (GrossFor_c r (u + 1) _).mono ?_
      rintro e w2 ⟨rfl, rfl⟩
      rw [n1]
      generalize GrR r (u + 1) = g2 at n2 hb2 ⊢
      have n3 : ¬ g2 < g + r := by omega
      by_cases ec : cc = 0
      · subst ec
        have hm : 0 ≤ m ∧ m ≤ 100000000 := by
          have h := Hcc.out
          unfold CoinsC at h
          split at h
          · assumption
          · omega
        have hR : CoinsR m = coinsF m 12 := by unfold CoinsR; rw [if_pos hm]
        rw [hR] at d
        have Hlen : (coinsF m 12).length = 12 := coinsF_length m 12
        have hop := (show RdI w1.heap.size w1 ud (coinsF m 12) from d).open
        obtain ⟨ao, cap, hv, hoa⟩ := hop
        rw [Hlen] at hv hoa
        subst hv
        obtain ⟨b1, off1, rfl, hlt, hc⟩ := hoa (by omega)
        obtain ⟨W1, hW1⟩ : ∃ W1, W1 = w1.alloc (.cells #[.int .i64 5000, .int .i64 2000, .int .i64 1000, .int .i64 500, .int .i64 200, .int .i64 100, .int .i64 50, .int .i64 20, .int .i64 10, .int .i64 5, .int .i64 2, .int .i64 1] 2) := ⟨_, rfl⟩
        have hL : Box W1 w1.heap.size (pieces.map (Value.int .i64)) := by rw [hW1]; exact Box.new w1 (pieces.map (Value.int .i64)) _
        have bb : Below w1.heap.size w1 W1 := by rw [hW1]; exact (Below.refl _ _).alloc (Nat.le_refl _) _
        replace kp := kp.on bb
        have B1 : Below w.heap.size w W1 := B.trans (bb.mono B.size)
        have hcW : ∀ k, k < 12 → ∃ p, pieces[k]? = some p ∧ W1.cell? ⟨b1, off1 + k, none⟩ = some (.int .i64 (leftF m k / p)) ∧ W1.cell? ⟨w1.heap.size, k, none⟩ = some (.int .i64 p) ∧ (1 ≤ p ∧ p ≤ 5000) ∧ (0 ≤ leftF m k ∧ leftF m k ≤ 100000000) := by
          intro k hk
          obtain ⟨p, hp⟩ : ∃ p, pieces[k]? = some p := ⟨_, List.getElem?_eq_getElem hk⟩
          obtain ⟨x, hx, hcx, _⟩ := hc k (by omega)
          rw [coin_at hp hk] at hx
          obtain rfl := Option.some.inj hx
          exact ⟨p, hp, (bb.cell (p := ⟨b1, off1 + k, none⟩) hlt.2).trans hcx, hL.cell k _ (by rw [List.getElem?_map, hp]; rfl), piece_bd hp, leftF_bd m hm.1 hm.2 k (by omega)⟩
        have HcW := Lib.hid hcW
        have HW1 := Lib.hid hW1
        have KP := Lib.hid kp
        have BB := Lib.hid B1
        clear hc hoa d hR Hlen hcW hW1 hL bb B B1 kp hlt
        go_upto_region 25 with fail
        (try clear n1)
        go_step
        go_step
        refine lit_step ?_
        go_wp2_with fail
        rw [← HW1.out]
        generalize w1.heap.size = N at HcW ⊢
        go_loopw [34, 35] (fun tv iv wr => ∃ k : Nat, k ≤ 12 ∧ iv = .int .i64 k ∧ tv = .int .i64 (m - leftF m k) ∧ ∃ n, wr = W1.drewN n) (fun _ i _ => 12 - (intOf i).toNat)
        case atStart => exact ⟨0, by omega, rfl, by simp [leftF], 0, rfl⟩
        case round =>
          obtain ⟨k, hk, rfl, rfl, dn, rfl⟩ := hrel
          by_cases hkn : k < 12
          · obtain ⟨pk, hpk, ca, cb, hpb, hlb⟩ := HcW.out k hkn
            have hst := left_step (a := m) hpk
            have hst2 := leftF_bd m hm.1 hm.2 (k + 1) (by omega)
            obtain ⟨L1, hL1⟩ : ∃ z, leftF m (k + 1) = z := ⟨_, rfl⟩
            rw [hL1] at hst hst2
            have HL1 := Lib.hid hL1
            clear hL1
            generalize leftF m k = L0 at *
            have hq0 : 0 ≤ L0 / pk := Int.ediv_nonneg hlb.1 (by omega)
            have hq1 : L0 / pk ≤ L0 := Int.ediv_le_self _ hlb.1
            generalize L0 / pk = Q at *
            have hQ0 : 0 ≤ Q * pk := Int.mul_nonneg hq0 (by omega)
            obtain ⟨m1, hm1⟩ : ∃ z, Q * pk = z := ⟨_, rfl⟩
            rw [hm1] at hst hQ0
            have hw1 : IntKind.i64.wrap (Q * pk) = m1 := by rw [hm1]; exact IntWalk.i64_in _ (by omega)
            have hw2 : IntKind.i64.wrap (m - L0 + m1) = m - L1 := by rw [hst]; exact IntWalk.i64_in _ (by omega)
            have hw3 : wrap64 (Q * pk) = m1 := by rw [hm1]; exact IntWalk.wrap64_in _ ⟨by omega, by omega⟩
            have hw4 : wrap64 (m - L0 + m1) = m - L1 := by rw [hst]; exact IntWalk.wrap64_in _ ⟨by omega, by omega⟩
            have hk12 : (k : Int) < 12 := by omega
            clear hst hst2 hlb hq0 hq1 hQ0 hm1 hpk hpb
            go_wp2
            go_quiet (fail)
            go_wp2
            go_roundw
            case rel => exact ⟨k + 1, by omega, by go_num, by rw [HL1.out], _, rfl⟩
            case measure => simp [intOf]; omega
          · obtain rfl : k = 12 := by omega
            have hend := left_end m
            rw [hend, Int.sub_zero]
            have kp := KP.out.drewN dn
            have B := BB.out.drewNx dn
            clear KP BB HcW hend HW1
            by_cases ep : pc = 0
            · subst ep
              obtain ⟨f1, f2, f3, f4, f5⟩ := PayFor_facts Hpc.out
              rw [Hp.out] at f1 f2 f3 f4 f5
              have c0 := kp.cell 0 _ rfl
              have c1 := kp.cell 1 _ rfl
              have c2 := kp.cell 2 _ rfl
              have c3 := kp.cell 3 _ rfl
              have HB := Lib.hid B
              clear B kp
              go_wp2
              go_ret
              exact ⟨by first | rfl | exact ret_bool (by simp; omega), HB.out⟩
            · have e4 : (pc != 0) = true := by simpa using ep
              have HB := Lib.hid B
              clear B ep kp
              go_wp2
              go_ret
              exact ⟨rfl, HB.out⟩
      · have e3 : (cc == 0) = false := by simpa using ec
        clear ec d
        by_cases ep : pc = 0
        · subst ep
          obtain ⟨f1, f2, f3, f4, f5⟩ := PayFor_facts Hpc.out
          rw [Hp.out] at f1 f2 f3 f4 f5
          have c0 := kp.cell 0 _ rfl
          have c1 := kp.cell 1 _ rfl
          have c2 := kp.cell 2 _ rfl
          have c3 := kp.cell 3 _ rfl
          have HB := Lib.hid B
          clear B kp
          go_wp2
          go_ret
          exact ⟨by first | rfl | exact ret_bool (by simp; omega), HB.out⟩
        · have e4 : (pc != 0) = true := by simpa using ep
          have HB := Lib.hid B
          clear B ep kp
          go_wp2
          go_ret
          exact ⟨rfl, HB.out⟩
    · by_cases ec : cc = 0
      · subst ec
        have hm : 0 ≤ m ∧ m ≤ 100000000 := by
          have h := Hcc.out
          unfold CoinsC at h
          split at h
          · assumption
          · omega
        have hR : CoinsR m = coinsF m 12 := by unfold CoinsR; rw [if_pos hm]
        rw [hR] at d
        have Hlen : (coinsF m 12).length = 12 := coinsF_length m 12
        have hop := (show RdI w1.heap.size w1 ud (coinsF m 12) from d).open
        obtain ⟨ao, cap, hv, hoa⟩ := hop
        rw [Hlen] at hv hoa
        subst hv
        obtain ⟨b1, off1, rfl, hlt, hc⟩ := hoa (by omega)
        obtain ⟨W1, hW1⟩ : ∃ W1, W1 = w1.alloc (.cells #[.int .i64 5000, .int .i64 2000, .int .i64 1000, .int .i64 500, .int .i64 200, .int .i64 100, .int .i64 50, .int .i64 20, .int .i64 10, .int .i64 5, .int .i64 2, .int .i64 1] 2) := ⟨_, rfl⟩
        have hL : Box W1 w1.heap.size (pieces.map (Value.int .i64)) := by rw [hW1]; exact Box.new w1 (pieces.map (Value.int .i64)) _
        have bb : Below w1.heap.size w1 W1 := by rw [hW1]; exact (Below.refl _ _).alloc (Nat.le_refl _) _
        replace kp := kp.on bb
        have B1 : Below w.heap.size w W1 := B.trans (bb.mono B.size)
        have hcW : ∀ k, k < 12 → ∃ p, pieces[k]? = some p ∧ W1.cell? ⟨b1, off1 + k, none⟩ = some (.int .i64 (leftF m k / p)) ∧ W1.cell? ⟨w1.heap.size, k, none⟩ = some (.int .i64 p) ∧ (1 ≤ p ∧ p ≤ 5000) ∧ (0 ≤ leftF m k ∧ leftF m k ≤ 100000000) := by
          intro k hk
          obtain ⟨p, hp⟩ : ∃ p, pieces[k]? = some p := ⟨_, List.getElem?_eq_getElem hk⟩
          obtain ⟨x, hx, hcx, _⟩ := hc k (by omega)
          rw [coin_at hp hk] at hx
          obtain rfl := Option.some.inj hx
          exact ⟨p, hp, (bb.cell (p := ⟨b1, off1 + k, none⟩) hlt.2).trans hcx, hL.cell k _ (by rw [List.getElem?_map, hp]; rfl), piece_bd hp, leftF_bd m hm.1 hm.2 k (by omega)⟩
        have HcW := Lib.hid hcW
        have HW1 := Lib.hid hW1
        have KP := Lib.hid kp
        have BB := Lib.hid B1
        clear hc hoa d hR Hlen hcW hW1 hL bb B B1 kp hlt
        go_upto_region 25 with fail
        (try clear n1)
        go_step
        go_step
        refine lit_step ?_
        go_wp2_with fail
        rw [← HW1.out]
        generalize w1.heap.size = N at HcW ⊢
        go_loopw [34, 35] (fun tv iv wr => ∃ k : Nat, k ≤ 12 ∧ iv = .int .i64 k ∧ tv = .int .i64 (m - leftF m k) ∧ ∃ n, wr = W1.drewN n) (fun _ i _ => 12 - (intOf i).toNat)
        case atStart => exact ⟨0, by omega, rfl, by simp [leftF], 0, rfl⟩
        case round =>
          obtain ⟨k, hk, rfl, rfl, dn, rfl⟩ := hrel
          by_cases hkn : k < 12
          · obtain ⟨pk, hpk, ca, cb, hpb, hlb⟩ := HcW.out k hkn
            have hst := left_step (a := m) hpk
            have hst2 := leftF_bd m hm.1 hm.2 (k + 1) (by omega)
            obtain ⟨L1, hL1⟩ : ∃ z, leftF m (k + 1) = z := ⟨_, rfl⟩
            rw [hL1] at hst hst2
            have HL1 := Lib.hid hL1
            clear hL1
            generalize leftF m k = L0 at *
            have hq0 : 0 ≤ L0 / pk := Int.ediv_nonneg hlb.1 (by omega)
            have hq1 : L0 / pk ≤ L0 := Int.ediv_le_self _ hlb.1
            generalize L0 / pk = Q at *
            have hQ0 : 0 ≤ Q * pk := Int.mul_nonneg hq0 (by omega)
            obtain ⟨m1, hm1⟩ : ∃ z, Q * pk = z := ⟨_, rfl⟩
            rw [hm1] at hst hQ0
            have hw1 : IntKind.i64.wrap (Q * pk) = m1 := by rw [hm1]; exact IntWalk.i64_in _ (by omega)
            have hw2 : IntKind.i64.wrap (m - L0 + m1) = m - L1 := by rw [hst]; exact IntWalk.i64_in _ (by omega)
            have hw3 : wrap64 (Q * pk) = m1 := by rw [hm1]; exact IntWalk.wrap64_in _ ⟨by omega, by omega⟩
            have hw4 : wrap64 (m - L0 + m1) = m - L1 := by rw [hst]; exact IntWalk.wrap64_in _ ⟨by omega, by omega⟩
            have hk12 : (k : Int) < 12 := by omega
            clear hst hst2 hlb hq0 hq1 hQ0 hm1 hpk hpb
            go_wp2
            go_quiet (fail)
            go_wp2
            go_roundw
            case rel => exact ⟨k + 1, by omega, by go_num, by rw [HL1.out], _, rfl⟩
            case measure => simp [intOf]; omega
          · obtain rfl : k = 12 := by omega
            have hend := left_end m
            rw [hend, Int.sub_zero]
            have kp := KP.out.drewN dn
            have B := BB.out.drewNx dn
            clear KP BB HcW hend HW1
            by_cases ep : pc = 0
            · subst ep
              obtain ⟨f1, f2, f3, f4, f5⟩ := PayFor_facts Hpc.out
              rw [Hp.out] at f1 f2 f3 f4 f5
              have c0 := kp.cell 0 _ rfl
              have c1 := kp.cell 1 _ rfl
              have c2 := kp.cell 2 _ rfl
              have c3 := kp.cell 3 _ rfl
              have HB := Lib.hid B
              clear B kp
              go_wp2
              go_ret
              exact ⟨by first | rfl | exact ret_bool (by simp; omega), HB.out⟩
            · have e4 : (pc != 0) = true := by simpa using ep
              have HB := Lib.hid B
              clear B ep kp
              go_wp2
              go_ret
              exact ⟨rfl, HB.out⟩
      · have e3 : (cc == 0) = false := by simpa using ec
        clear ec d
        by_cases ep : pc = 0
        · subst ep
          obtain ⟨f1, f2, f3, f4, f5⟩ := PayFor_facts Hpc.out
          rw [Hp.out] at f1 f2 f3 f4 f5
          have c0 := kp.cell 0 _ rfl
          have c1 := kp.cell 1 _ rfl
          have c2 := kp.cell 2 _ rfl
          have c3 := kp.cell 3 _ rfl
          have HB := Lib.hid B
          clear B kp
          go_wp2
          go_ret
          exact ⟨by first | rfl | exact ret_bool (by simp; omega), HB.out⟩
        · have e4 : (pc != 0) = true := by simpa using ep
          have HB := Lib.hid B
          clear B ep kp
          go_wp2
          go_ret
          exact ⟨rfl, HB.out⟩
  · have e5 : (gc == 0) = false := by simpa using eg
    clear eg
    by_cases ec : cc = 0
    · subst ec
      have hm : 0 ≤ m ∧ m ≤ 100000000 := by
        have h := Hcc.out
        unfold CoinsC at h
        split at h
        · assumption
        · omega
      have hR : CoinsR m = coinsF m 12 := by unfold CoinsR; rw [if_pos hm]
      rw [hR] at d
      have Hlen : (coinsF m 12).length = 12 := coinsF_length m 12
      have hop := (show RdI w1.heap.size w1 ud (coinsF m 12) from d).open
      obtain ⟨ao, cap, hv, hoa⟩ := hop
      rw [Hlen] at hv hoa
      subst hv
      obtain ⟨b1, off1, rfl, hlt, hc⟩ := hoa (by omega)
      obtain ⟨W1, hW1⟩ : ∃ W1, W1 = w1.alloc (.cells #[.int .i64 5000, .int .i64 2000, .int .i64 1000, .int .i64 500, .int .i64 200, .int .i64 100, .int .i64 50, .int .i64 20, .int .i64 10, .int .i64 5, .int .i64 2, .int .i64 1] 2) := ⟨_, rfl⟩
      have hL : Box W1 w1.heap.size (pieces.map (Value.int .i64)) := by rw [hW1]; exact Box.new w1 (pieces.map (Value.int .i64)) _
      have bb : Below w1.heap.size w1 W1 := by rw [hW1]; exact (Below.refl _ _).alloc (Nat.le_refl _) _
      replace kp := kp.on bb
      have B1 : Below w.heap.size w W1 := B.trans (bb.mono B.size)
      have hcW : ∀ k, k < 12 → ∃ p, pieces[k]? = some p ∧ W1.cell? ⟨b1, off1 + k, none⟩ = some (.int .i64 (leftF m k / p)) ∧ W1.cell? ⟨w1.heap.size, k, none⟩ = some (.int .i64 p) ∧ (1 ≤ p ∧ p ≤ 5000) ∧ (0 ≤ leftF m k ∧ leftF m k ≤ 100000000) := by
        intro k hk
        obtain ⟨p, hp⟩ : ∃ p, pieces[k]? = some p := ⟨_, List.getElem?_eq_getElem hk⟩
        obtain ⟨x, hx, hcx, _⟩ := hc k (by omega)
        rw [coin_at hp hk] at hx
        obtain rfl := Option.some.inj hx
        exact ⟨p, hp, (bb.cell (p := ⟨b1, off1 + k, none⟩) hlt.2).trans hcx, hL.cell k _ (by rw [List.getElem?_map, hp]; rfl), piece_bd hp, leftF_bd m hm.1 hm.2 k (by omega)⟩
      have HcW := Lib.hid hcW
      have HW1 := Lib.hid hW1
      have KP := Lib.hid kp
      have BB := Lib.hid B1
      clear hc hoa d hR Hlen hcW hW1 hL bb B B1 kp hlt
      go_upto_region 25 with fail
      (try clear n1)
      go_step
      go_step
      refine lit_step ?_
      go_wp2_with fail
      rw [← HW1.out]
      generalize w1.heap.size = N at HcW ⊢
      go_loopw [34, 35] (fun tv iv wr => ∃ k : Nat, k ≤ 12 ∧ iv = .int .i64 k ∧ tv = .int .i64 (m - leftF m k) ∧ ∃ n, wr = W1.drewN n) (fun _ i _ => 12 - (intOf i).toNat)
      case atStart => exact ⟨0, by omega, rfl, by simp [leftF], 0, rfl⟩
      case round =>
        obtain ⟨k, hk, rfl, rfl, dn, rfl⟩ := hrel
        by_cases hkn : k < 12
        · obtain ⟨pk, hpk, ca, cb, hpb, hlb⟩ := HcW.out k hkn
          have hst := left_step (a := m) hpk
          have hst2 := leftF_bd m hm.1 hm.2 (k + 1) (by omega)
          obtain ⟨L1, hL1⟩ : ∃ z, leftF m (k + 1) = z := ⟨_, rfl⟩
          rw [hL1] at hst hst2
          have HL1 := Lib.hid hL1
          clear hL1
          generalize leftF m k = L0 at *
          have hq0 : 0 ≤ L0 / pk := Int.ediv_nonneg hlb.1 (by omega)
          have hq1 : L0 / pk ≤ L0 := Int.ediv_le_self _ hlb.1
          generalize L0 / pk = Q at *
          have hQ0 : 0 ≤ Q * pk := Int.mul_nonneg hq0 (by omega)
          obtain ⟨m1, hm1⟩ : ∃ z, Q * pk = z := ⟨_, rfl⟩
          rw [hm1] at hst hQ0
          have hw1 : IntKind.i64.wrap (Q * pk) = m1 := by rw [hm1]; exact IntWalk.i64_in _ (by omega)
          have hw2 : IntKind.i64.wrap (m - L0 + m1) = m - L1 := by rw [hst]; exact IntWalk.i64_in _ (by omega)
          have hw3 : wrap64 (Q * pk) = m1 := by rw [hm1]; exact IntWalk.wrap64_in _ ⟨by omega, by omega⟩
          have hw4 : wrap64 (m - L0 + m1) = m - L1 := by rw [hst]; exact IntWalk.wrap64_in _ ⟨by omega, by omega⟩
          have hk12 : (k : Int) < 12 := by omega
          clear hst hst2 hlb hq0 hq1 hQ0 hm1 hpk hpb
          go_wp2
          go_quiet (fail)
          go_wp2
          go_roundw
          case rel => exact ⟨k + 1, by omega, by go_num, by rw [HL1.out], _, rfl⟩
          case measure => simp [intOf]; omega
        · obtain rfl : k = 12 := by omega
          have hend := left_end m
          rw [hend, Int.sub_zero]
          have kp := KP.out.drewN dn
          have B := BB.out.drewNx dn
          clear KP BB HcW hend HW1
          by_cases ep : pc = 0
          · subst ep
            obtain ⟨f1, f2, f3, f4, f5⟩ := PayFor_facts Hpc.out
            rw [Hp.out] at f1 f2 f3 f4 f5
            have c0 := kp.cell 0 _ rfl
            have c1 := kp.cell 1 _ rfl
            have c2 := kp.cell 2 _ rfl
            have c3 := kp.cell 3 _ rfl
            have HB := Lib.hid B
            clear B kp
            go_wp2
            go_ret
            exact ⟨by first | rfl | exact ret_bool (by simp; omega), HB.out⟩
          · have e4 : (pc != 0) = true := by simpa using ep
            have HB := Lib.hid B
            clear B ep kp
            go_wp2
            go_ret
            exact ⟨rfl, HB.out⟩
    · have e3 : (cc == 0) = false := by simpa using ec
      clear ec d
      by_cases ep : pc = 0
      · subst ep
        obtain ⟨f1, f2, f3, f4, f5⟩ := PayFor_facts Hpc.out
        rw [Hp.out] at f1 f2 f3 f4 f5
        have c0 := kp.cell 0 _ rfl
        have c1 := kp.cell 1 _ rfl
        have c2 := kp.cell 2 _ rfl
        have c3 := kp.cell 3 _ rfl
        have HB := Lib.hid B
        clear B kp
        go_wp2
        go_ret
        exact ⟨by first | rfl | exact ret_bool (by simp; omega), HB.out⟩
      · have e4 : (pc != 0) = true := by simpa using ep
        have HB := Lib.hid B
        clear B ep kp
        go_wp2
        go_ret
        exact ⟨rfl, HB.out⟩
namespace fnPays
theorem own : ownKnob Tryd.prog.godebug = none := by kernel_rfl
theorem door_met (os : Os) (args : Array Value) : laidMetH Tryd.prog Rows.fnPaysRow.laid ((World.doorLaid Tryd.prog 24 os).forCall (fun _ _ => 0) ⟨#[], args, []⟩).memory :=
  laidMetH_of_parts3 (fuel := 8) (laidMet_of_run' 8 (by kernel_rfl) (by kernel_rfl)) (by kernel_rfl) (by kernel_rfl)
set_option maxRecDepth 100000 in
theorem lifted (os : Os) (started : os.Started) (H : Type) (enc : TypeId × Value → H) :
    ReturnsInHanded {} Tryd.checked os 4 .any (fun w args => (Rows.fnPaysSpec.pre enc Tryd.prog Tryd.f4 [] false w args ∧ laidMetH Tryd.prog Rows.fnPaysRow.laid w) ∧ sizedMet enc Tryd.prog Tryd.f4 (OpenSpec.ofChange Rows.fnPaysSpec) false w args) (Rows.fnPaysSpec.post enc Tryd.prog Tryd.f4 false true false false) := by
  refine returnsInHanded_of_change_and (C := Tryd.checked) (X := fun w _ => laidMetH Tryd.prog Rows.fnPaysRow.laid w) (fun _ _ _ hh h => h.of_heap hh) own started (by kernel_rfl) Tryd.func4
    (ChangeSpec.witness_shaped (enc := enc) (C := Tryd.checked) (os := os) (X := fun w _ => laidMetH Tryd.prog Rows.fnPaysRow.laid w) false (World.doorLaid Tryd.prog 24 os) #[.slice none 0 0] 8 rfl (World.shaped_of_RefB (by kernel_rfl) (by kernel_rfl)) (by kernel_rfl) (by kernel_rfl) (by kernel_rfl) (door_met os _)) ?_
  intro W base args ds gs before hval0 hW _ _ hL _
  have hval : ∀ (j : Nat) t v, Tryd.f4.params[j]? = some t → args[j]? = some v → Value.okWide Tryd.prog W .any base t v := hval0
  have hW' := hW
  obtain ⟨p, q, hA0, hV, rfl, hfz, hnd⟩ := hW
  have hA : DataW.TrodAll enc Tryd.prog W 0 (fun _ => true) true Tryd.f4.params.toList args.toList ds p := hA0
  rw [Tryd.params4] at hA hval
  obtain ⟨v0, vs0, d0, ds0, p0, s0, hargs, rfl, rfl, h0, q0⟩ := trodAll_cons hA
  obtain ⟨rfl, rfl, rfl⟩ := trodAll_nil q0
  obtain rfl : args = #[v0] := by cases args; simp_all
  obtain ⟨x0, r0, _⟩ := open_rdB Tryd.underlying34 Tryd.underlying5 (by kernel_rfl) (hval 0 34 v0 rfl rfl) h0
  obtain ⟨rfl, rfl⟩ := trodVars_none hV
  exact (walk_FnPays W (pow_of3 hL) r0).mono fun e W' hh => ⟨_, hh.1, law_postV (f := Tryd.f4) (s := Rows.fnPaysSpec) (T := 4) (by kernel_rfl) (of_decide_eq_true (by kernel_rfl)) (by kernel_rfl) rfl Tryd.underlying4 rfl hW' hh.2⟩
theorem row_holds : Rows.FnPaysSaid :=
  OpenClaim.holds_of_wide 4 Tryd.f4 rfl rfl rfl rfl rfl rfl rfl ⟨rfl, rfl, rfl, rfl, rfl⟩ rfl rfl rfl rfl rfl (by kernel_rfl) Tryd.func4 (by kernel_rfl)
    (of_decide_eq_true (by kernel_rfl)) (by unfold Func.isWrapper; first | (rw [if_pos (by decide +kernel)]; kernel_rfl) | (rw [if_neg (by decide +kernel)]; exact ⟨rfl, rfl⟩))
    (fun os started H enc _ => lifted os started H enc)
theorem proved : Rows.FnPaysCardSaid :=
  Claim7.holds_tied_plain_at .later [] [.data, .data, .data] true (true, "9275f28cf4529c0b41c03e56066d724b7603ed98f6c8d8176b8227608a31c23f") false
    row_holds (fun _ h => by cases h) (by kernel_rfl) (fun _ h => by cases h) fnPays_row_tie rfl ⟨rfl, rfl⟩ (by kernel_rfl) rfl
    (fun f fn hf hfn => by
      obtain rfl : f = 4 := Option.some.inj ((show Tryd.prog.funcNamed "loop.example/g01012/laws.FnPays" = some 4 by kernel_rfl).symm.trans hf) |>.symm
      obtain rfl : fn = Tryd.f4 := (Option.some.inj (Tryd.func4.symm.trans hfn)).symm
      exact ⟨by kernel_rfl, fun j t ht => by
        rw [Tryd.params4] at ht
        have hm : t ∈ [34] := by simpa using Array.mem_of_getElem? ht
        have hall : ([34].all fun u => !Tryd.prog.wantsStandIn u) = true := by kernel_rfl
        exact (show Tryd.prog.wantsStandIn t = false by simpa using List.all_eq_true.1 hall t hm)⟩)
    (by kernel_rfl)
end fnPays
#print axioms fnPays.proved
end Go.Proofs.YtfhlmkeklmaedaaDoor
