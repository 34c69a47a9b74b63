/- The line of a pay: the reference's. No condition. -/
import Derived.Test.YtfhlmkeklmaedaaDoorDecS
import Derived.Test.YtfhlmkeklmaedaaDoorWork
import Derived.Test.YtfhlmkeklmaedaaDoorSum
import Derived.Test.YtfhlmkeklmaedaaDoorQB
namespace Go.Proofs.YtfhlmkeklmaedaaDoor
open Go.ChangeShapes Go.WideShapes Go.ChangeAt Go.RowKit Go.Sort
set_option linter.unusedVariables false
set_option maxRecDepth 100000
def lineP (x : WorkerT) (p : PayT) : ByteArray :=
  x.nm ++ ⟨#[32]⟩ ++ itoaB p.hours ++ ⟨#[104, 32]⟩ ++ twoD p.gross.toNat ++ ⟨#[32, 45, 32]⟩ ++ twoD p.tax.toNat ++ ⟨#[32, 61, 32]⟩ ++ twoD p.net.toNat
def PLC (x : WorkerT) (p : PayT) : Int := if (validW x && plainB p) = true then 0 else 1
def PLV (x : WorkerT) (p : PayT) : ByteArray := if (validW x && plainB p) = true then lineP x p else ⟨#[]⟩
theorem plainB_nat {p : PayT} (h : plainB p = true) : ∃ a b c d : Nat, p = ⟨(a : Int), (b : Int), (c : Int), (d : Int)⟩ ∧ a ≤ 100000000 ∧ b ≤ 100000000 ∧ c ≤ 100000000 ∧ d ≤ 100000000 := by
  obtain ⟨⟨h1, h2⟩, ⟨h3, h4⟩, ⟨h5, h6⟩, h7⟩ := plainB_parts h
  obtain ⟨a, b, c, d⟩ := p
  simp only at h1 h2 h3 h4 h5 h6 h7
  obtain ⟨a, rfl⟩ := Int.eq_ofNat_of_zero_le h1
  obtain ⟨b, rfl⟩ := Int.eq_ofNat_of_zero_le h3
  obtain ⟨c, rfl⟩ := Int.eq_ofNat_of_zero_le h5
  obtain ⟨d, rfl⟩ := Int.eq_ofNat_of_zero_le (a := d) (by omega)
  exact ⟨a, b, c, d, rfl, by omega, by omega, by omega, by omega⟩
set_option maxHeartbeats 1000000 in
theorem sPayLine_c (x : WorkerT) (p : PayT) (w : World) (a : okWorker x) :
    Calls Tryd.prog 6 #[vWorker x, vPay p] w fun e w' => e = .returned (.tuple #[.string (PLV x p), .int .i64 (PLC x p)]) ∧ Below w.heap.size w w' := by
  obtain ⟨W, hW⟩ : ∃ W, W = (w.alloc (.cells #[.string x.nm, .int .i64 x.rate, .int .i64 x.tax] 29)).alloc (.cells #[.int .i64 p.hours, .int .i64 p.gross, .int .i64 p.tax, .int .i64 p.net] 31) := ⟨_, rfl⟩
  have hs1 : (w.alloc (.cells #[.string x.nm, .int .i64 x.rate, .int .i64 x.tax] 29)).heap.size = w.heap.size + 1 := by simp
  have hb0 : Below w.heap.size w W := by rw [hW]; exact ((Below.refl w.heap.size w).alloc (Nat.le_refl _) _).alloc (by simp) _
  have hBw : Box W w.heap.size [.string x.nm, .int .i64 x.rate, .int .i64 x.tax] := by rw [hW]; exact (Box.new w [.string x.nm, .int .i64 x.rate, .int .i64 x.tax] _).alloc _
  have hBp : Box W (w.heap.size + 1) [.int .i64 p.hours, .int .i64 p.gross, .int .i64 p.tax, .int .i64 p.net] := by
    have h := Box.new (w.alloc (.cells #[.string x.nm, .int .i64 x.rate, .int .i64 x.tax] 29)) [.int .i64 p.hours, .int .i64 p.gross, .int .i64 p.tax, .int .i64 p.net] 31
    rw [hs1] at h
    rw [hW]; exact h
  have hone := l23One_c x W a (b := w.heap.size) (off := 0) (hBw.cell 0 _ rfl) (hBw.cell 1 _ rfl) (hBw.cell 2 _ rfl)
  have hpl := l23Plain_c p W (b := w.heap.size + 1) (off := 0) (hBp.cell 0 _ rfl) (hBp.cell 1 _ rfl) (hBp.cell 2 _ rfl) (hBp.cell 3 _ rfl)
  have Hone := Lib.hid hone
  have Hpl := Lib.hid hpl
  have Hb0 := Lib.hid hb0
  have HBw := Lib.hid hBw
  have HBp := Lib.hid hBp
  have HW := Lib.hid hW
  clear hb0 hBw hBp hone hpl hW hs1
  cases hv : validW x with
  | false =>
    have e1 : PLC x p = 1 := by unfold PLC; rw [hv]; rfl
    have e2 : PLV x p = ⟨#[]⟩ := by unfold PLV; rw [hv]; rfl
    rw [e1, e2]
    rw [hv] at Hone
    clear hv e1 e2
    go_enter Tryd.func6, Tryd.ntmps6
    go_wp2_with fail
    rw [← HW.out]
    with_reducible refine Hone.out.mono ?_
    rintro e w1 ⟨rfl, rfl⟩
    go_wp2
    go_ret2
    exact ⟨rfl, Hb0.out⟩
  | true =>
    cases hq : plainB p with
    | false =>
      have e1 : PLC x p = 1 := by unfold PLC; rw [hv, hq]; rfl
      have e2 : PLV x p = ⟨#[]⟩ := by unfold PLV; rw [hv, hq]; rfl
      rw [e1, e2]
      rw [hv] at Hone
      rw [hq] at Hpl
      clear hv hq e1 e2
      go_enter Tryd.func6, Tryd.ntmps6
      go_wp2_with fail
      rw [← HW.out]
      with_reducible refine Hone.out.mono ?_
      rintro e w1 ⟨rfl, rfl⟩
      go_wp2_with fail
      with_reducible refine Hpl.out.mono ?_
      rintro e w1 ⟨rfl, m, rfl⟩
      go_wp2
      go_ret2
      exact ⟨rfl, Hb0.out.drewNy m⟩
    | true =>
      have e1 : PLC x p = 0 := by unfold PLC; rw [hv, hq]; rfl
      have e2 : PLV x p = lineP x p := by unfold PLV; rw [hv, hq]; rfl
      rw [e1, e2]
      have hnm : x.nm.size ≤ 12 := by
        have h := hv
        unfold validW at h
        rw [Bool.and_eq_true] at h
        exact (nameB_size h.1).2
      rw [hv] at Hone
      rw [hq] at Hpl
      obtain ⟨na, nb, nc, nd, rfl, ha, hb, hc, hd⟩ := plainB_nat hq
      unfold lineP
      simp only [Int.toNat_natCast]
      have hc1 := fun W => l01Dec_c (n := na) (w := W) (by omega)
      have hc2 := fun W => l23Money_c (n := nb) (w := W) (by omega)
      have hc3 := fun W => l23Money_c (n := nc) (w := W) (by omega)
      have hc4 := fun W => l23Money_c (n := nd) (w := W) (by omega)
      have z1 := itoaB_len (n := na) (by omega)
      have z2 := twoD_size (n := nb) (by omega)
      have z3 := twoD_size (n := nc) (by omega)
      have z4 := twoD_size (n := nd) (by omega)
      generalize itoaB (na : Int) = D at hc1 z1 ⊢
      generalize twoD nb = G at hc2 z2 ⊢
      generalize twoD nc = T at hc3 z3 ⊢
      generalize twoD nd = M at hc4 z4 ⊢
      obtain ⟨nm, rt, tx⟩ := x
      simp only at hnm HBw HW ⊢
      have l1 : (⟨#[32]⟩ : ByteArray).size = 1 := rfl
      have l2 : (⟨#[104, 32]⟩ : ByteArray).size = 2 := rfl
      have l3 : (⟨#[32, 45, 32]⟩ : ByteArray).size = 3 := rfl
      have l4 : (⟨#[32, 61, 32]⟩ : ByteArray).size = 3 := rfl
      have g1 : ¬ 9223372036854775807 < nm.size + 1 := by omega
      have g2 : ¬ 9223372036854775807 < nm.size + 1 + D.size := by omega
      have g3 : ¬ 9223372036854775807 < nm.size + 1 + D.size + 2 := by omega
      have g4 : ¬ 9223372036854775807 < nm.size + 1 + D.size + 2 + G.size := by omega
      have g5 : ¬ 9223372036854775807 < nm.size + 1 + D.size + 2 + G.size + 3 := by omega
      have g6 : ¬ 9223372036854775807 < nm.size + 1 + D.size + 2 + G.size + 3 + T.size := by omega
      have g7 : ¬ 9223372036854775807 < nm.size + 1 + D.size + 2 + G.size + 3 + T.size + 3 := by omega
      have g8 : ¬ 9223372036854775807 < nm.size + 1 + D.size + 2 + G.size + 3 + T.size + 3 + M.size := by omega
      have Hc1 := Lib.hid hc1
      have Hc2 := Lib.hid hc2
      have Hc3 := Lib.hid hc3
      have Hc4 := Lib.hid hc4
      clear hc1 hc2 hc3 hc4 hv hq e1 e2 l1 l2 l3 l4 a
      go_enter Tryd.func6, Tryd.ntmps6
      go_wp2_with fail
      rw [← HW.out]
      with_reducible refine Hone.out.mono ?_
      rintro e w1 ⟨rfl, rfl⟩
      go_wp2_with fail
      with_reducible refine Hpl.out.mono ?_
      rintro e w1 ⟨rfl, m, rfl⟩
      have hB2 := HBw.out.drewN m
      have hP2 := HBp.out.drewN m
      have Hb2 := Lib.hid (Hb0.out.drewNy m)
      generalize W.drewN m = W2 at hB2 hP2 Hb2 ⊢
      have f0 := cell_regrown (hB2.cell 0 _ rfl)
      have p0 := cell_regrown (hP2.cell 0 _ rfl)
      have p1 := cell_regrown (hP2.cell 1 _ rfl)
      have p2 := cell_regrown (hP2.cell 2 _ rfl)
      have p3 := cell_regrown (hP2.cell 3 _ rfl)
      clear hB2 hP2
      go_wp2
      refine wp_region_quiet_below (by kernel_rfl) (by kernel_rfl) ?_
      repeat ((with_reducible refine wpQuiet_step (fun K hK => ?_)); go_simp; first | ((with_reducible refine hK _ ?_); clear hK K) | (apply Exists.intro; refine ⟨fun _ => ?_, hK _ ?_⟩; ((first | (go_at_call 27; with_reducible exact qb_below (Hc1.out _)) | (go_at_call 28; first | with_reducible exact qb_below (Hc2.out _) | with_reducible exact qb_below (Hc3.out _) | with_reducible exact qb_below (Hc4.out _)))); clear hK K))
      refine wpQuiet_nil ?_
      intro _ hw'
      obtain ⟨⟨dq, osq⟩, hw''⟩ := hw'
      subst hw''
      have hbq := below_regrown W2 dq osq
      generalize grow (redrawn W2 dq) osq = wq at hbq ⊢
      have Hb1 := Lib.hid (Hb2.out.trans (hbq.mono Hb2.out.size))
      clear hbq f0 p0 p1 p2 p3
      go_wp2
      go_ret2
      exact ⟨rfl, Hb1.out⟩
end Go.Proofs.YtfhlmkeklmaedaaDoor
