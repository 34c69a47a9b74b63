/- The law of the payrolls. Printed by gfnroll.py. No condition. -/
import Derived.Test.YtkpcdnbjngpooaaGreatDoorPR27
import Derived.Test.YtkpcdnbjngpooaaGreatDoorPR26
import Derived.Test.YtkpcdnbjngpooaaGreatDoorPR12
import Derived.Test.YtkpcdnbjngpooaaGreatDoorPR22
import Derived.Test.YtkpcdnbjngpooaaGreatDoorPR16
import Derived.Test.YtkpcdnbjngpooaaGreatDoorPR8
import Derived.Test.YtkpcdnbjngpooaaGreatDoorPR11
import Derived.Lay
import Derived.Test.YtkpcdnbjngpooaaGreatDoorTie
import Derived.Test.YtkpcdnbjngpooaaGreatDoorCards
namespace Go.Proofs.YtkpcdnbjngpooaaGreatDoor
open Go.ChangeShapes Go.WideShapes Go.ChangeAt Go.RowKit
set_option linter.unusedVariables false
set_option maxRecDepth 100000
theorem DrawPayrollOf_b {w : World} {A : Nat} {v : Value} {cs : List Int} (ha : Rds eB A w v cs) (hA : A ≤ w.heap.size) :
    Calls Tryz.prog 5 #[v] w fun e w' => (∃ t L wd v xs u d, e = .returned (.tuple #[t, .agg #[.int .i64 wd, v], u]) ∧ Own eWorker 49 w.heap.size w' t L ∧ OwnItemS w.heap.size w' v xs ∧ OwnCardS w.heap.size w' u d) ∧ Below w.heap.size w w' := DrawPayrollOf_any ha hA
theorem DrawHoursFrom_b {w : World} {A : Nat} {v : Value} {cs : List Int} (ha : Rds eB A w v cs) (hA : A ≤ w.heap.size) :
    Calls Tryz.prog 10 #[v] w fun e w' => (∃ wd v xs u d nm, e = .returned (.tuple #[.agg #[.int .i64 wd, v], u, .string nm]) ∧ OwnItemS w.heap.size w' v xs ∧ OwnCardS w.heap.size w' u d ∧ nm.size ≤ 100) ∧ Below w.heap.size w w' := DrawHoursFrom_any ha hA
theorem DrawSameWorkers_b {w : World} {A : Nat} {v : Value} {cs : List Int} (ha : Rds eB A w v cs) (hA : A ≤ w.heap.size) :
    Calls Tryz.prog 13 #[v] w fun e w' => (∃ u v xs ys, e = .returned (.tuple #[u, v]) ∧ Own eWorker 49 w.heap.size w' u xs ∧ xs.length ≤ 4 ∧ Own eWorker 49 w.heap.size w' v ys ∧ ys.length ≤ 5) ∧ Below w.heap.size w w' := DrawSameWorkers_any ha hA
theorem OwnCardS.shape {base : Nat} {w : World} {v : Value} {d : List (List Int)} (h : OwnCardS base w v d) : ∃ ao cap, v = .slice ao d.length cap := OwnTM.shape h
theorem RdInt64SS.drewQ {B : Nat} {w : World} {v : Value} {xss : List (List Int)} (h : RdInt64SS B w v xss) (q : Nat) : RdInt64SS B (w.drewN q) v xss := h
theorem below_undrew {w w' : World} (h : Below w.drew.heap.size w.drew w') : Below w.heap.size w w' := ⟨h.os, h.tape, h.output, h.size, h.block⟩
theorem neq_pay (x : PayT) (w : World) : (binOp .neq 47 (vPay x) (vPay x)).run Tryz.prog w = .ok (.bool false) w := by
  have hS : Tryz.prog.underlying 47 = some (.struct (Tryz.prog.fieldsOf 47)) := by kernel_rfl
  have hp : Tryz.prog.stoodInHeld 47 = false := by kernel_rfl
  rw [run_neq_struct, show (10000 : Nat) = 9999 + 1 from rfl, run_equalIn_agg w 9999 47 _ _ hS hp]
  simp only [Program.fieldsOf, Tryz.underlying47]
  go_simp
theorem okW_nm {z : WorkerT} (h : okWorker z) : z.nm.size ≤ 9223372036854775807 := by unfold okWorker at h; omega
theorem payF_ok {z : WorkerT} {n : Int} (h1 : validW z = true) (h2 : 0 ≤ n ∧ n ≤ 120) : PayForR z n = payF z n ∧ PayForC z n = 0 := by
  have h : PayForC z n = 0 := by unfold PayForC; rw [if_pos h1, if_pos h2]
  exact ⟨by unfold PayForR; rw [if_pos h], h⟩
theorem one_pay {w : World} {k cap j : Nat} {mo : Option Addr} {pl : List PayT} {y : PayT} (h : Rds ePay w.heap.size w (.slice mo k cap) pl) (hy : pl[j]? = some y) :
    ∃ b o, mo = some ⟨b, o, none⟩ ∧ w.cell? ⟨b, o + j * 4, none⟩ = some (.int .i64 y.hours) ∧ w.cell? ⟨b, o + j * 4 + 1, none⟩ = some (.int .i64 y.gross) ∧ w.cell? ⟨b, o + j * 4 + 2, none⟩ = some (.int .i64 y.tax) ∧ w.cell? ⟨b, o + j * 4 + 3, none⟩ = some (.int .i64 y.net) := by
  rcases Rds.cases h with ⟨h0, _⟩ | ⟨b, off, cp, hv, hlt, hc⟩
  · rw [h0] at hy; cases hy
  · cases hv
    have h1 := (hc j y hy).2
    exact ⟨b, off, rfl, h1 0 (by decide), by rw [Nat.add_assoc]; exact h1 1 (by decide), by rw [Nat.add_assoc]; exact h1 2 (by decide), by rw [Nat.add_assoc]; exact h1 3 (by decide)⟩
theorem two_pays {w : World} {n c1 c2 k : Nat} {po mo : Option Addr} {pl : List PayT} (h1 : Rds ePay w.heap.size w (.slice po n c1) pl) (h2 : Rds ePay w.heap.size w (.slice mo n c2) pl) (hn : n = pl.length) (hk : k < n) :
    ∃ (x : PayT) (b1 o1 b2 o2 : Nat), po = some ⟨b1, o1, none⟩ ∧ mo = some ⟨b2, o2, none⟩ ∧ (w.cell? ⟨b1, o1 + k * 4, none⟩ = some (.int .i64 x.hours) ∧ w.cell? ⟨b1, o1 + k * 4 + 1, none⟩ = some (.int .i64 x.gross) ∧ w.cell? ⟨b1, o1 + k * 4 + 2, none⟩ = some (.int .i64 x.tax) ∧ w.cell? ⟨b1, o1 + k * 4 + 3, none⟩ = some (.int .i64 x.net)) ∧
      w.cell? ⟨b2, o2 + k * 4, none⟩ = some (.int .i64 x.hours) ∧ w.cell? ⟨b2, o2 + k * 4 + 1, none⟩ = some (.int .i64 x.gross) ∧ w.cell? ⟨b2, o2 + k * 4 + 2, none⟩ = some (.int .i64 x.tax) ∧ w.cell? ⟨b2, o2 + k * 4 + 3, none⟩ = some (.int .i64 x.net) := by
  obtain ⟨x, hx⟩ : ∃ x, pl[k]? = some x := ⟨_, List.getElem?_eq_getElem (by omega)⟩
  obtain ⟨b1, o1, e1, c⟩ := one_pay h1 hx
  obtain ⟨b2, o2, e2, d⟩ := one_pay h2 hx
  exact ⟨x, b1, o1, b2, o2, e1, e2, c, d⟩
theorem one_worker {w : World} {N c j : Nat} {lo : Option Addr} {L : List WorkerT} (h : RdWorkerS w.heap.size w (.slice lo N c) L) (hN : N = L.length) (hj : j < N) :
    ∃ (z : WorkerT) (b o : Nat), lo = some ⟨b, o, none⟩ ∧ L[j]? = some z ∧ okWorker z ∧ w.cell? ⟨b, o + j * 3, none⟩ = some (.string z.nm) ∧ w.cell? ⟨b, o + j * 3 + 1, none⟩ = some (.int .i64 z.rate) ∧ w.cell? ⟨b, o + j * 3 + 2, none⟩ = some (.int .i64 z.tax) := by
  obtain ⟨z, hz⟩ : ∃ z, L[j]? = some z := ⟨_, List.getElem?_eq_getElem (by omega)⟩
  rcases Rds.cases h with ⟨h0, _⟩ | ⟨b, off, cp, hv, hlt, hc⟩
  · rw [h0] at hz; cases hz
  · cases hv
    have h1 := (hc j z hz).2
    exact ⟨z, b, off, rfl, hz, (hc j z hz).1, h1 0 (by decide), by rw [Nat.add_assoc]; exact h1 1 (by decide), by rw [Nat.add_assoc]; exact h1 2 (by decide)⟩
set_option maxRecDepth 100000 in
set_option maxHeartbeats 8000000 in
theorem walk_FnPayrolls (w : World) {x0 : List Int} {v0 : Value} (a0 : Rds eB w.heap.size w v0 x0) :
    Calls Tryz.prog 3 #[v0] w fun e w' => e = .returned (.bool true) ∧ Below w.heap.size w w' := by
  by_cases hbig : (4096 : Int) < x0.length
  · go_enter Tryz.func3, Tryz.ntmps3
    go_wp2_with fail
    refine (f6big_any a0).mono ?_
    rw [decide_eq_true hbig]
    rintro e w' ⟨rfl, rfl⟩
    go_wp2
    go_ret
    exact ⟨rfl, Below.refl _ _⟩
  have Hbig := Lib.hid hbig
  clear hbig
  obtain ⟨vo, vcap, hv0⟩ := a0.shape
  subst hv0
  go_enter Tryz.func3, Tryz.ntmps3
  go_wp2_with fail
  refine (f6big_any a0).mono ?_
  rw [decide_eq_false (by have := Hbig.out; omega)]
  rintro e w' ⟨rfl, rfl⟩
  obtain ⟨B, a⟩ : Below w.heap.size w w ∧ Rds eB w.heap.size w (.slice vo x0.length vcap) x0 := ⟨Below.refl _ _, a0⟩
  clear a0
  go_upto_region 3 with fail
  go_wp2_with fail
  with_reducible refine (DrawPayrollOf_b a (Nat.le_refl _)).mono ?_
  rintro e w1 ⟨⟨t, L, wd, v, xs, u, d, rfl, l0, i0, d0⟩, bb⟩
  obtain ⟨lo, lc, e1⟩ := l0.shape
  subst e1
  obtain ⟨io, ic, e2⟩ := i0.shape
  subst e2
  obtain ⟨qo, qc, e3⟩ := d0.shape
  subst e3
  have l := l0.rds
  have it := i0.rds
  have dk := OwnCardS.rds d0
  clear l0 i0 d0
  replace a := a.on bb
  replace B := B.trans (bb.mono B.size)
  clear bb
  obtain ⟨W, hW⟩ : ∃ W, W = (w1.alloc (.cells #[.int .i64 wd, .slice io xs.length ic] 27)) := ⟨_, rfl⟩
  have bb : Below w1.heap.size w1 W := by rw [hW]; exact (Below.refl _ _).alloc (Nat.le_refl _) _
  have kl : Box W w1.heap.size [.int .i64 wd, .slice io xs.length ic] := by rw [hW]; exact Box.new w1 [.int .i64 wd, .slice io xs.length ic] _
  have HW := Lib.hid hW
  clear hW
  replace a := a.on bb
  replace l := l.on bb
  replace it := it.on bb
  replace dk := RdInt64SS.onn dk bb
  replace B := B.trans (bb.mono B.size)
  clear bb
  go_upto_region 4 with fail
  rw [← HW.out]
  clear HW
  generalize w1.heap.size = Xkl at kl ⊢
  as_aux_lemma =>
  obtain ⟨pc, hpc⟩ : ∃ z, prE (prR L wd xs d) = z := ⟨_, rfl⟩
  have Hpc := Lib.hid hpc
  obtain ⟨pl, hpl⟩ : ∃ z, prL (prR L wd xs d) = z := ⟨_, rfl⟩
  have Hpl := Lib.hid hpl
  obtain ⟨sc, hsc⟩ : ∃ z, strC (validWs L) wd xs d = z := ⟨_, rfl⟩
  have Hsc := Lib.hid hsc
  obtain ⟨sl, hsl⟩ : ∃ z, strL L wd xs d = z := ⟨_, rfl⟩
  have Hsl := Lib.hid hsl
  clear hpc hpl hsc hsl
  have ckl0 := kl.cell 0 _ rfl
  have ckl1 := kl.cell 1 _ rfl
  go_wp2_with fail
  with_reducible refine (PayrollOf_c wd l it dk).mono ?_
  rintro e w1 ⟨r1, rfl, o1, bb⟩
  clear ckl0 ckl1
  replace a := a.on bb
  replace l := l.on bb
  replace it := it.on bb
  replace dk := RdInt64SS.onn dk bb
  replace kl := kl.on bb
  replace B := B.trans (bb.mono B.size)
  clear bb
  rw [Hpl.out] at o1
  rw [Hpc.out]
  obtain ⟨po, pcap, e1⟩ := o1.shape
  subst e1
  have p := o1.rds
  clear o1
  go_upto_region 5 with fail
  as_aux_lemma =>
  have ckl0 := kl.cell 0 _ rfl
  have ckl1 := kl.cell 1 _ rfl
  go_wp2_with fail
  with_reducible refine (sPayrollOf_c wd l it dk).mono ?_
  rintro e w1 ⟨r1, rfl, o1, bb⟩
  clear ckl0 ckl1
  replace a := a.on bb
  replace l := l.on bb
  replace it := it.on bb
  replace p := p.on bb
  replace dk := RdInt64SS.onn dk bb
  replace kl := kl.on bb
  replace B := B.trans (bb.mono B.size)
  clear bb
  rw [Hpl.out] at o1
  rw [Hpc.out]
  obtain ⟨mo, mcap, e1⟩ := o1.shape
  subst e1
  have m := o1.rds
  clear o1
  go_upto_region 6 with fail
  as_aux_lemma =>
  have ckl0 := kl.cell 0 _ rfl
  have ckl1 := kl.cell 1 _ rfl
  go_wp2_with fail
  with_reducible refine (StrangeCards_c wd l it dk).mono ?_
  rintro e w1 ⟨r1, rfl, o1, bb⟩
  clear ckl0 ckl1
  replace a := a.on bb
  replace l := l.on bb
  replace it := it.on bb
  replace p := p.on bb
  replace m := m.on bb
  replace dk := RdInt64SS.onn dk bb
  replace kl := kl.on bb
  replace B := B.trans (bb.mono B.size)
  clear bb
  rw [Hsl.out] at o1
  rw [Hsc.out]
  have s := o1.rds
  clear o1
  go_upto_region 7 with fail
  as_aux_lemma =>
  have ckl0 := kl.cell 0 _ rfl
  have ckl1 := kl.cell 1 _ rfl
  go_wp2_with fail
  with_reducible refine (sStrangeCards_c wd l it dk).mono ?_
  rintro e w1 ⟨r2, rfl, o1, bb⟩
  clear ckl0 ckl1
  replace a := a.on bb
  replace l := l.on bb
  replace it := it.on bb
  replace p := p.on bb
  replace m := m.on bb
  replace s := s.on bb
  replace dk := RdInt64SS.onn dk bb
  replace kl := kl.on bb
  replace B := B.trans (bb.mono B.size)
  clear bb
  rw [Hsl.out] at o1
  rw [Hsc.out]
  have g := o1.rds
  clear o1
  go_upto_region 8 with fail
  as_aux_lemma =>
  go_wp2_with fail
  with_reducible refine (DrawHoursFrom_b a (Nat.le_refl _)).mono ?_
  rintro e w1 ⟨⟨wd2, v2, ys, u2, f, nm, rfl, i0, d0, hnm⟩, bb⟩
  obtain ⟨jo, jc, e2⟩ := i0.shape
  subst e2
  obtain ⟨fo, fc, e3⟩ := d0.shape
  subst e3
  have hnm2 : nm.size ≤ 9223372036854775807 := by omega
  clear hnm
  replace a := a.on bb
  replace l := l.on bb
  replace it := it.on bb
  replace p := p.on bb
  replace m := m.on bb
  replace s := s.on bb
  replace g := g.on bb
  replace dk := RdInt64SS.onn dk bb
  replace kl := kl.on bb
  replace B := B.trans (bb.mono B.size)
  clear bb
  have jt := i0.rds
  have fk := OwnCardS.rds d0
  clear i0 d0
  obtain ⟨W, hW⟩ : ∃ W, W = (w1.alloc (.cells #[.int .i64 wd2, .slice jo ys.length jc] 27)) := ⟨_, rfl⟩
  have bb : Below w1.heap.size w1 W := by rw [hW]; exact (Below.refl _ _).alloc (Nat.le_refl _) _
  have km : Box W w1.heap.size [.int .i64 wd2, .slice jo ys.length jc] := by rw [hW]; exact Box.new w1 [.int .i64 wd2, .slice jo ys.length jc] _
  have HW := Lib.hid hW
  clear hW
  replace a := a.on bb
  replace l := l.on bb
  replace it := it.on bb
  replace p := p.on bb
  replace m := m.on bb
  replace s := s.on bb
  replace g := g.on bb
  replace jt := jt.on bb
  replace dk := RdInt64SS.onn dk bb
  replace fk := RdInt64SS.onn fk bb
  replace kl := kl.on bb
  replace B := B.trans (bb.mono B.size)
  clear bb
  go_upto_region 9 with fail
  rw [← HW.out]
  clear HW
  generalize w1.heap.size = Xkm at km ⊢
  as_aux_lemma =>
  obtain ⟨hv, hhv⟩ : ∃ z, hoursV wd2 ys f nm = z := ⟨_, rfl⟩
  have Hhv := Lib.hid hhv
  obtain ⟨hc, hhc⟩ : ∃ z, hoursC wd2 ys f nm = z := ⟨_, rfl⟩
  have Hhc := Lib.hid hhc
  clear hhv hhc
  have ckm0 := km.cell 0 _ rfl
  have ckm1 := km.cell 1 _ rfl
  go_wp2_with fail
  with_reducible refine (HoursFrom_c wd2 nm hnm2 jt fk).mono ?_
  rintro e w1 ⟨rfl, bb⟩
  clear ckm0 ckm1
  replace a := a.on bb
  replace l := l.on bb
  replace it := it.on bb
  replace p := p.on bb
  replace m := m.on bb
  replace s := s.on bb
  replace g := g.on bb
  replace jt := jt.on bb
  replace dk := RdInt64SS.onn dk bb
  replace fk := RdInt64SS.onn fk bb
  replace kl := kl.on bb
  replace km := km.on bb
  replace B := B.trans (bb.mono B.size)
  clear bb
  rw [Hhv.out, Hhc.out]
  go_upto_region 10 with fail
  as_aux_lemma =>
  have ckm0 := km.cell 0 _ rfl
  have ckm1 := km.cell 1 _ rfl
  go_wp2_with fail
  with_reducible refine (sHoursFrom_c wd2 nm hnm2 jt fk).mono ?_
  rintro e w1 ⟨rfl, bb⟩
  clear ckm0 ckm1
  replace a := a.on bb
  replace l := l.on bb
  replace it := it.on bb
  replace p := p.on bb
  replace m := m.on bb
  replace s := s.on bb
  replace g := g.on bb
  replace jt := jt.on bb
  replace dk := RdInt64SS.onn dk bb
  replace fk := RdInt64SS.onn fk bb
  replace kl := kl.on bb
  replace km := km.on bb
  replace B := B.trans (bb.mono B.size)
  clear bb
  rw [Hhv.out, Hhc.out]
  go_upto_region 11 with fail
  as_aux_lemma =>
  clear jt fk km hnm2
  go_wp2_with fail
  with_reducible refine (DrawSameWorkers_b a (Nat.le_refl _)).mono ?_
  rintro e w1 ⟨⟨ua, ub, xa, xb, rfl, o1, -, o2, -⟩, bb⟩
  replace a := a.on bb
  replace l := l.on bb
  replace it := it.on bb
  replace p := p.on bb
  replace m := m.on bb
  replace s := s.on bb
  replace g := g.on bb
  replace dk := RdInt64SS.onn dk bb
  replace kl := kl.on bb
  replace B := B.trans (bb.mono B.size)
  clear bb
  have sa := o1.rds
  have sb := o2.rds
  clear o1 o2
  go_upto_region 12 with fail
  as_aux_lemma =>
  obtain ⟨n, hn⟩ : ∃ n, n = pl.length := ⟨_, rfl⟩
  rw [← hn] at p m ⊢
  have Hn := Lib.hid hn
  clear hn
  go_wp2_with fail
  with_reducible refine (f6ints_c s g).mono ?_
  rintro e w1 ⟨rfl, bb⟩
  replace a := a.on bb
  replace l := l.on bb
  replace it := it.on bb
  replace p := p.on bb
  replace m := m.on bb
  replace s := s.on bb
  replace g := g.on bb
  replace sa := sa.on bb
  replace sb := sb.on bb
  replace dk := RdInt64SS.onn dk bb
  replace kl := kl.on bb
  replace B := B.trans (bb.mono B.size)
  clear bb
  rw [decide_eq_true rfl]
  clear s g
  go_wp2_with fail
  with_reducible refine (SameWorkers_c sa sb).mono ?_
  rintro e w1 ⟨rfl, bb⟩
  replace a := a.on bb
  replace l := l.on bb
  replace it := it.on bb
  replace p := p.on bb
  replace m := m.on bb
  replace sa := sa.on bb
  replace sb := sb.on bb
  replace dk := RdInt64SS.onn dk bb
  replace kl := kl.on bb
  replace B := B.trans (bb.mono B.size)
  clear bb
  go_wp2_with fail
  with_reducible refine (sSameWorkers_c sa sb).mono ?_
  rintro e w1 ⟨rfl, bb⟩
  replace a := a.on bb
  replace l := l.on bb
  replace it := it.on bb
  replace p := p.on bb
  replace m := m.on bb
  replace sa := sa.on bb
  replace sb := sb.on bb
  replace dk := RdInt64SS.onn dk bb
  replace kl := kl.on bb
  replace B := B.trans (bb.mono B.size)
  clear bb
  clear sa sb
  obtain ⟨vb, hvb⟩ : ∃ z, validWs L = z := ⟨_, rfl⟩
  have Hvb := Lib.hid hvb
  clear hvb
  go_wp2_with fail
  with_reducible refine (ValidWorkers_c l).mono ?_
  rintro e w1 ⟨rfl, bb⟩
  replace a := a.on bb
  replace l := l.on bb
  replace it := it.on bb
  replace p := p.on bb
  replace m := m.on bb
  replace dk := RdInt64SS.onn dk bb
  replace kl := kl.on bb
  replace B := B.trans (bb.mono B.size)
  clear bb
  rw [Hvb.out]
  go_wp2_with fail
  with_reducible refine (sValidWorkers_c l).mono ?_
  rintro e w1 ⟨rfl, bb⟩
  replace a := a.on bb
  replace l := l.on bb
  replace it := it.on bb
  replace p := p.on bb
  replace m := m.on bb
  replace dk := RdInt64SS.onn dk bb
  replace kl := kl.on bb
  replace B := B.trans (bb.mono B.size)
  clear bb
  rw [Hvb.out]
  go_upto_region 14 with fail
  as_aux_lemma =>
  have Ha := Lib.hid a
  have HB := Lib.hid B
  have Hp := Lib.hid p
  have Hm := Lib.hid m
  have Hl := Lib.hid l
  have Hit := Lib.hid it
  have Hdk := Lib.hid dk
  have Hkl := Lib.hid kl
  have hrun := fun (x : PayT) (W : World) => neq_pay x W
  have hnle : n ≤ 9223372036854775807 := by have := Hp.out.le; have := Hn.out; omega
  clear a B p m l it dk kl
  go_wp2
  go_loopw [23] (fun iv wr => ∃ k : Nat, k ≤ n ∧ iv = .int .i64 k ∧ ∃ q, wr = w1.drewN q) (fun i _ => n - (intOf i).toNat)
  case atStart => exact ⟨0, Nat.zero_le _, rfl, 0, rfl⟩
  case round =>
    obtain ⟨k, hk, rfl, q, rfl⟩ := hrel
    by_cases hkn : k < n
    · obtain ⟨x, b1, o1, b2, o2, e1, e2, ⟨c0, c1, c2, c3⟩, d0, d1, d2, d3⟩ := two_pays Hp.out Hm.out Hn.out hkn
      subst e1; subst e2
      have hr := hrun x
      have hki : (k : Int) < (n : Int) := by omega
      clear hrun
      go_wp2
      go_quiet (fail)
      go_wp2
      go_roundw
      case rel => exact ⟨k + 1, by omega, by go_num, _, rfl⟩
      case measure => simp [intOf]; omega
    · obtain rfl : k = n := by omega
      generalize hw2 : w1.drewN q = w2
      have HB2 : Hid (Below w.heap.size w w2) := Lib.hid (by rw [← hw2]; exact HB.out.drewNx q)
      have Hm2 : Hid (Rds ePay w2.heap.size w2 (.slice mo k mcap) pl) := Lib.hid (by rw [← hw2]; exact Hm.out.drewN q)
      have Hl2 : Hid (RdWorkerS w2.heap.size w2 (.slice lo L.length lc) L) := Lib.hid (by rw [← hw2]; exact Hl.out.drewN q)
      have Hit2 : Hid (RdItemS w2.heap.size w2 (.slice io xs.length ic) xs) := Lib.hid (by rw [← hw2]; exact Hit.out.drewN q)
      have Hdk2 : Hid (RdInt64SS w2.heap.size w2 (.slice qo d.length qc) d) := Lib.hid (by rw [← hw2]; exact RdInt64SS.drewQ Hdk.out q)
      have Hkl2 : Hid (Box w2 Xkl [.int .i64 wd, .slice io xs.length ic]) := Lib.hid (by rw [← hw2]; exact Hkl.out.drewN q)
      clear hw2 HB Hp Hm Hl Hit Hdk Hkl hkn hk Ha
      as_aux_lemma =>
      by_cases hp0 : pc = 0
      · subst hp0
        have hlaw := fun (i : Nat) (z : WorkerT) (hz : L[i]? = some z) => payroll_law Hpc.out i z hz
        obtain ⟨N, hN⟩ : ∃ N, N = L.length := ⟨_, rfl⟩
        rw [← hN] at Hl2 ⊢
        have HN := Lib.hid hN
        have hNle : N ≤ 9223372036854775807 := by have := Hl2.out.le; omega
        have Hlaw := Lib.hid hlaw
        clear hlaw hN
        go_wp2
        go_loopw [24] (fun iv wr => ∃ k : Nat, k ≤ N ∧ iv = .int .i64 k ∧ Below w2.heap.size w2 wr) (fun i _ => N - (intOf i).toNat)
        case atStart => exact ⟨0, Nat.zero_le _, rfl, Below.refl _ _⟩
        case round =>
          obtain ⟨j, hj, rfl, hb⟩ := hrel
          by_cases hjN : j < N
          · have l := Rds.on Hl2.out hb
            have it := Rds.on Hit2.out hb
            have dk := RdInt64SS.onn Hdk2.out hb
            have kl := Hkl2.out.on hb
            have m := Rds.on Hm2.out hb
            obtain ⟨z, b1, o1, e1, hz, okz, ⟨c0, c1, c2⟩⟩ := one_worker l HN.out hjN
            subst e1
            obtain ⟨hl0, hl1, hl2, hl3⟩ := Hlaw.out j z hz
            rw [Hpl.out] at hl3
            have k0 := kl.cell 0 _ rfl
            have k1 := kl.cell 1 _ rfl
            obtain ⟨own, hown⟩ : ∃ n, hoursV wd xs d z.nm = n := ⟨_, rfl⟩
            have hcon := HoursFrom_c (w := wr.drew) wd z.nm (okW_nm okz) (it.drewN 1) (RdInt64SS.drewQ dk 1)
            rw [hl0, hown] at hcon
            rw [hown] at hl2 hl3
            have Hcon := Lib.hid hcon
            have HL := Lib.hid l
            have HM := Lib.hid m
            have Hb := Lib.hid hb
            have Hl3 := Lib.hid hl3
            have Hokz := Lib.hid okz
            have Hz := Lib.hid hz
            have hpz := payF_ok hl1 hl2
            have Hpz := Lib.hid hpz
            have Hkl3 := Lib.hid kl
            have hjNi : (j : Int) < (N : Int) := by omega
            clear hcon l it dk m hb hl0 hl1 hl2 hl3 okz hz hown hpz kl
            go_upto_region 24 with fail
            go_region_law (go_simp; go_at_call 11; with_reducible refine Hcon.out.mono ?_; rintro e w3 ⟨rfl, hb3⟩; have Hb3 := Lib.hid hb3; clear hb3)
            all_goals
              clear c0 c1 c2 k0 k1
              have hb3 : Below wr.heap.size wr w3 := below_undrew Hb3.out
              have l := Rds.on HL.out hb3
              have m := Rds.on HM.out hb3
              have hb4 := Hb.out.trans (hb3.mono Hb.out.size)
              obtain ⟨z', b1', o1', e1', hz', okz', ⟨c0, c1, c2⟩⟩ := one_worker l HN.out hjN
              obtain rfl : z = z' := Option.some.inj (Hz.out.symm.trans hz')
              cases e1'
              have Hb4 := Lib.hid hb4
              have HM4 := Lib.hid m
              clear l m hb3 hb4 hz' okz'
              go_wp2_with fail
              with_reducible refine (PayFor_c z own _ Hokz.out).mono ?_
              rintro e w4 ⟨rfl, hb5⟩
              rw [Hpz.out.1, Hpz.out.2]
              have m := Rds.on HM4.out hb5
              have hb6 := Hb4.out.trans (hb5.mono Hb4.out.size)
              obtain ⟨y, hy⟩ : ∃ y, y = payF z own := ⟨_, rfl⟩
              have hl3 := Hl3.out
              rw [← hy] at hl3 ⊢
              obtain ⟨W, hW⟩ : ∃ W, W = (w4.alloc (.cells #[.int .i64 y.hours, .int .i64 y.gross, .int .i64 y.tax, .int .i64 y.net] 47)) := ⟨_, rfl⟩
              have bb : Below w4.heap.size w4 W := by rw [hW]; exact (Below.refl _ _).alloc (Nat.le_refl _) _
              have kp : Box W w4.heap.size [.int .i64 y.hours, .int .i64 y.gross, .int .i64 y.tax, .int .i64 y.net] := by rw [hW]; exact Box.new w4 [.int .i64 y.hours, .int .i64 y.gross, .int .i64 y.tax, .int .i64 y.net] _
              have m := Rds.on m bb
              have hb7 := hb6.trans (bb.mono hb6.size)
              obtain ⟨b2, o2, e2, d0, d1, d2, d3⟩ := one_pay m hl3
              subst e2
              have hjki : (j : Int) < (k : Int) := by have := at_lt hl3; have := Hn.out; omega
              have HW := Lib.hid hW
              have Hb7 := Lib.hid hb7
              have p0 := kp.cell 0 _ rfl
              have p1 := kp.cell 1 _ rfl
              have p2 := kp.cell 2 _ rfl
              have p3 := kp.cell 3 _ rfl
              have hr := hrun y
              clear hW bb m hb5 hb6 hb7 hl3 hy c0 c1 c2 kp
              go_upto_region 26 with fail
              rw [← HW.out]
              clear HW
              go_quiet (fail)
              have hb8 := Hb7.out.drewNx nq
              have Hb8 := Lib.hid hb8
              clear hb8 p0 p1 p2 p3 d0 d1 d2 d3
              go_wp2
              go_roundw
              case rel => exact ⟨j + 1, by omega, by go_num, Hb8.out⟩
              case measure => simp [intOf]; omega
          · have Hb := Lib.hid hb
            clear hb
            go_wp2
            go_ret
            exact ⟨rfl, HB2.out.trans (Hb.out.mono HB2.out.size)⟩
      · have e4 : (pc != 0) = true := by simpa using hp0
        clear hp0
        go_wp2
        go_ret
        exact ⟨rfl, HB2.out⟩
namespace fnPayrolls
theorem own : ownKnob Tryz.prog.godebug = none := by kernel_rfl
set_option maxRecDepth 100000 in
theorem lifted (os : Os) (started : os.Started) (H : Type) (enc : TypeId × Value → H) :
    ReturnsInHanded {} Tryz.checked os 3 .any (fun w args => (Rows.fnPayrollsSpec.pre enc Tryz.prog Tryz.f3 [] false w args ∧ laidMetH Tryz.prog Rows.fnPayrollsRow.laid w) ∧ sizedMet enc Tryz.prog Tryz.f3 (OpenSpec.ofChange Rows.fnPayrollsSpec) false w args) (Rows.fnPayrollsSpec.post enc Tryz.prog Tryz.f3 false true false false) := by
  refine returnsInHanded_of_change_and (C := Tryz.checked) (X := fun w _ => laidMetH Tryz.prog Rows.fnPayrollsRow.laid w) (fun _ _ _ hh h => h.of_heap hh) own started (by kernel_rfl) Tryz.func3
    (ChangeSpec.witness_shaped (enc := enc) (C := Tryz.checked) (os := os) (X := fun w _ => laidMetH Tryz.prog Rows.fnPayrollsRow.laid w) false (World.laidAll Tryz.prog os Rows.fnPayrollsRow.laid) #[.slice none 0 0] 8 (World.laidAll_os _ _ _) (World.shaped_of_ZipB (by kernel_rfl) (by kernel_rfl)) (by kernel_rfl) (by kernel_rfl) (by kernel_rfl)
      (by rw [MakeChecks.laidMetH_plain _ _ _ (by kernel_rfl)]; exact laidMet_laidAll _ (by kernel_rfl) (by kernel_rfl))) ?_
  intro W base args ds gs before hval0 hW _ _ hL _
  have hval : ∀ (j : Nat) t v, Tryz.f3.params[j]? = some t → args[j]? = some v → Value.okWide Tryz.prog W .any base t v := hval0
  have hW' := hW
  obtain ⟨p, q, hA0, hV, rfl, hfz, hnd⟩ := hW
  have hA : DataW.TrodAll enc Tryz.prog W 0 (fun _ => true) true Tryz.f3.params.toList args.toList ds p := hA0
  rw [Tryz.params3] at hA hval
  obtain ⟨v0, vs0, d0, ds0, p0, s0, hargs, rfl, rfl, h0, q0⟩ := trodAll_cons hA
  obtain ⟨rfl, rfl, rfl⟩ := trodAll_nil q0
  obtain rfl : args = #[v0] := by cases args; simp_all
  obtain ⟨x0, r0, _⟩ := open_rdB Tryz.underlying22 Tryz.underlying5 (by kernel_rfl) (hval 0 22 v0 rfl rfl) h0
  obtain ⟨rfl, rfl⟩ := trodVars_none hV
  exact (walk_FnPayrolls W r0).mono fun e W' hh => ⟨_, hh.1, law_postV (f := Tryz.f3) (s := Rows.fnPayrollsSpec) (T := 4) (by kernel_rfl) (of_decide_eq_true (by kernel_rfl)) (by kernel_rfl) rfl Tryz.underlying4 rfl hW' hh.2⟩
theorem row_holds : Rows.FnPayrollsSaid :=
  OpenClaim.holds_of_wide 3 Tryz.f3 rfl rfl rfl rfl rfl rfl rfl ⟨rfl, rfl, rfl, rfl, rfl⟩ rfl rfl rfl rfl rfl (by kernel_rfl) Tryz.func3 (by kernel_rfl)
    (of_decide_eq_true (by kernel_rfl)) (by unfold Func.isWrapper; first | (rw [if_pos (by decide +kernel)]; kernel_rfl) | (rw [if_neg (by decide +kernel)]; exact ⟨rfl, rfl⟩))
    (fun os started H enc _ => lifted os started H enc)
theorem proved : Rows.FnPayrollsCardSaid :=
  Claim7.holds_tied_plain_at .later [] [.data, .data, .data, .data, .pinned] true (true, "eecc5bc64122139f79ae146b2e768abe8caaee33433f0938a535e173ec4d481b") false
    row_holds (fun _ h => by cases h) (by kernel_rfl) (fun _ h => by cases h) fnPayrolls_row_tie rfl ⟨rfl, rfl⟩ (by kernel_rfl) rfl
    (fun f fn hf hfn => by
      obtain rfl : f = 3 := Option.some.inj ((show Tryz.prog.funcNamed "loop.example/g01012/laws.FnPayrolls" = some 3 by kernel_rfl).symm.trans hf) |>.symm
      obtain rfl : fn = Tryz.f3 := (Option.some.inj (Tryz.func3.symm.trans hfn)).symm
      exact ⟨by kernel_rfl, fun j t ht => by
        rw [Tryz.params3] at ht
        have hm : t ∈ [22] := by simpa using Array.mem_of_getElem? ht
        have hall : ([22].all fun u => !Tryz.prog.wantsStandIn u) = true := by kernel_rfl
        exact (show Tryz.prog.wantsStandIn t = false by simpa using List.all_eq_true.1 hall t hm)⟩)
    (by kernel_rfl)
end fnPayrolls
#print axioms fnPayrolls.proved
end Go.Proofs.YtkpcdnbjngpooaaGreatDoor
