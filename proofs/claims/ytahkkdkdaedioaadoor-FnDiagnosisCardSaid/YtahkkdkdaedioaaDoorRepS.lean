/- Reports of amounts: the reference's. No condition. -/
import Derived.Test.YtahkkdkdaedioaaDoorRep
namespace Go.Proofs.YtahkkdkdaedioaaDoor
open Go.ChangeShapes Go.WideShapes Go.ChangeAt Go.RowKit
set_option linter.unusedVariables false
set_option maxRecDepth 100000
set_option maxHeartbeats 1000000 in
theorem l19Report_c {xs : List Int} {v : Value} {w : World} {A : Nat} (ha : RdI A w v xs) (hx : ∀ n ∈ xs, 0 ≤ n ∧ n ≤ 9999) (hl : xs.length ≤ 24) :
    Calls Tryd.prog 41 #[v] w fun e w' => e = .returned (vReport (repOf xs)) ∧ Below w.heap.size w w' := by
  have ha0 := ha
  obtain ⟨ao, cap, rfl, ho⟩ := ha.open
  obtain ⟨n, hn⟩ : ∃ n, n = xs.length := ⟨_, rfl⟩
  have hbd := rep_bd hx hl
  rw [← hn] at ho hl ha0 ⊢
  have Ha := Lib.hid ha0
  have Ho := Lib.hid ho
  have Hx := Lib.hid hx
  have Hn := Lib.hid hn
  have Hbd := Lib.hid hbd
  clear ha ha0 ho hx hn hbd
  have hb0 : Below w.heap.size w (w.alloc (.cells #[.int .i64 0, .int .i64 0, .int .i64 0] 29)) := (Below.refl _ _).alloc (Nat.le_refl _) _
  have ha1 := Ha.out.onn hb0
  have Ha1 := Lib.hid ha1
  have Hb0 := Lib.hid hb0
  clear hb0 ha1
  go_enter Tryd.func41, Tryd.ntmps41
  obtain ⟨k1, k2, k3⟩ := repStart w (n : Int) 29 29
  go_wp2
  go_loopw [4] (fun i wr => ∃ k : Nat, k ≤ n ∧ i = .int .i64 k ∧ Box wr (w.heap.size + 1) [.int .i64 (n : Int), .int .i64 (sumI (xs.take k)), .int .i64 (sumI ((xs.take k).map dsum))] ∧ Box wr w.heap.size [.int .i64 0, .int .i64 0, .int .i64 0] ∧ Below w.heap.size w wr) (fun i _ => n - (intOf i).toNat)
  case atStart => exact ⟨0, Nat.zero_le _, rfl, k1, k2, k3⟩
  case round =>
    obtain ⟨k, hk, rfl, hB, hR, hb⟩ := hrel
    clear k1 k2 k3 Ha1 Hb0
    by_cases hkn : k < n
    · obtain ⟨b, off, rfl, hlt, hc⟩ := Ho.out (by omega)
      obtain ⟨x, hxk, hcx, _⟩ := hc k hkn
      have hxb := Hx.out x (List.mem_of_getElem? hxk)
      have hsn := rep_snoc hxk
      have hbk := Hbd.out k
      have hbk1 := Hbd.out (k + 1)
      rw [hsn.1, hsn.2] at hbk1
      obtain ⟨s, hs⟩ : ∃ s, s = sumI (xs.take k) := ⟨_, rfl⟩
      obtain ⟨d, hd⟩ : ∃ d, d = sumI ((xs.take k).map dsum) := ⟨_, rfl⟩
      rw [← hs] at hsn hbk hbk1 hB
      rw [← hd] at hsn hbk hbk1 hB
      have c0 := (hb.cell (p := ⟨b, off + k, none⟩) hlt.2).trans hcx
      have e0 := hB.cell 0 _ rfl
      have e1 := hB.cell 1 _ rfl
      have e2 := hB.cell 2 _ rfl
      have f1 := hB.free 1
      have f2 := hB.free 2
      obtain ⟨x0, x1⟩ := hxb
      obtain ⟨⟨s0, s1⟩, d0, d1⟩ := hbk
      obtain ⟨⟨s2, s3⟩, d2, d3⟩ := hbk1
      have Hb := Lib.hid hb
      have HB := Lib.hid hB
      have HR := Lib.hid hR
      have Hsn := Lib.hid hsn
      have hcl := World.block_lt_of_cell? wr _ c0
      generalize hdx : dsum x = dx at d2 d3 Hsn
      have Hdx := Lib.hid hdx
      clear hB hR hb hsn hs hd hc hxk hcx e0 hdx
      go_wp2
      go_still_tail 7, (by kernel_rfl)
      change wpList _ _ _ _ _ wr.drew
      have hBd := HB.out.drew1
      have hRd := HR.out.drew1
      have hbd2 : Below w.heap.size w wr.drew := Hb.out.drew1
      have c0' : wr.drew.cell? ⟨b, off + k, none⟩ = some (.int .i64 x) := c0
      have hcl' : b < wr.drew.heap.size := hcl
      clear c0 e1 e2 f1 f2 hcl HB HR Hb
      generalize wr.drew = wd at hBd hRd hbd2 c0' hcl' ⊢
      have e1 := hBd.cell 1 _ rfl
      have f1 := hBd.free 1
      have hB2 := hBd.set1 (j := 1) (by simp) (.int .i64 (s + x))
      have hR2 := hRd.other (p := ⟨w.heap.size + 1, 1, none⟩) (by show w.heap.size + 1 ≠ w.heap.size; omega) (.int .i64 (s + x))
      have hb2 := hbd2.setCell (p := ⟨w.heap.size + 1, 1, none⟩) (by show w.heap.size ≤ w.heap.size + 1; omega) (.int .i64 (s + x))
      have hbne : w.heap.size + 1 ≠ b := by have := hlt.2; omega
      obtain ⟨W2, hW2⟩ : ∃ W2, W2 = wd.setCell ⟨w.heap.size + 1, 1, none⟩ (.int .i64 (s + x)) := ⟨_, rfl⟩
      have g0 : W2.cell? ⟨b, off + k, none⟩ = some (.int .i64 x) := by rw [hW2]; exact (World.cell?_of_block (w := wd) (a := ⟨b, off + k, none⟩) ((grown_setW wd ⟨w.heap.size + 1, 1, none⟩ (.int .i64 (s + x))).block b hcl' (fun h => by have h2 := Option.some.inj h; simp only at h2; omega))).trans c0'
      rw [← hW2] at hB2 hR2 hb2
      have HW2 := Lib.hid hW2
      have HB2 := Lib.hid hB2
      have HR2 := Lib.hid hR2
      have Hb2 := Lib.hid hb2
      have e2' := hB2.cell 2 _ rfl
      have f2' := hB2.free 2
      clear hBd hRd hbd2 hB2 hR2 hb2 hW2
      go_wp2
      rw [← HW2.out]
      clear c0' e1 f1 hcl'
      have hcon := l19Digits_c (n := x) (w := W2.drew) ⟨x0, x1⟩
      rw [Hdx.out] at hcon
      have Hcon := Lib.hid hcon
      clear hcon
      go_region_with (go_at_call 67; (with_reducible refine Hcon.out.mono ?_); rintro e w7 ⟨rfl, rfl⟩)
      all_goals
        have hz : IntKind.i64.wrap (d + dx) = d + dx := IntWalk.i64_in _ (by omega)
        try rw [hz]
        have hbb : Below W2.heap.size W2 W2.drew := (Below.refl W2.heap.size W2).drew1
        have HB8 := Lib.hid ((HB2.out.drew1).set1 (j := 2) (by simp) (.int .i64 (d + dx)))
        have HR8 := Lib.hid ((HR2.out.drew1).other (p := ⟨w.heap.size + 1, 2, none⟩) (by show w.heap.size + 1 ≠ w.heap.size; omega) (.int .i64 (d + dx)))
        have Hb8 := Lib.hid ((Hb2.out.drew1).setCell (p := ⟨w.heap.size + 1, 2, none⟩) (by show w.heap.size ≤ w.heap.size + 1; omega) (.int .i64 (d + dx)))
        clear hz hbb g0 e2' f2'
        go_wp2
        go_roundw
        case rel => exact ⟨k + 1, by omega, by go_num, by rw [Hsn.out.1, Hsn.out.2]; exact HB8.out, HR8.out, Hb8.out⟩
        case measure => simp [intOf]; omega
    · obtain rfl : k = n := by omega
      rw [List.take_of_length_le (by have := Hn.out; omega)] at hB
      have hrep : repOf xs = ⟨(k : Int), sumI xs, sumI (xs.map dsum)⟩ := by unfold repOf; rw [← Hn.out]
      have e0 := hB.cell 0 _ rfl
      have e1 := hB.cell 1 _ rfl
      have e2 := hB.cell 2 _ rfl
      have r0 := hR.cell 0 _ rfl
      have r1 := hR.cell 1 _ rfl
      have r2 := hR.cell 2 _ rfl
      have q0 := hR.free 0
      have q1 := hR.free 1
      have q2 := hR.free 2
      have Hb := Lib.hid hb
      have Hrep := Lib.hid hrep
      clear hB hR hb hrep
      generalize sumI xs = S at e1 Hrep
      generalize sumI (xs.map dsum) = D at e2 Hrep
      go_wp2
      rw [Hrep.out]
      exact bodyPost_ret (v := vReport ⟨(k : Int), S, D⟩) (by simp [results, Tryd.results41, go_sem, r0, r1, r2]) rfl ⟨rfl, Hb.out.run (g := w.heap.size) (by omega) [_, _, _]⟩
end Go.Proofs.YtahkkdkdaedioaaDoor
