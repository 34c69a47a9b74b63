/- Reports of amounts: the program's and the reference's. The condition: the library's table of powers of ten lies as its text lays it. -/
import Derived.Test.YtahkkdkdaedioaaDoorDig
namespace Go.Proofs.YtahkkdkdaedioaaDoor
open Go.ChangeShapes Go.WideShapes Go.ChangeAt Go.RowKit
set_option linter.unusedVariables false
set_option maxRecDepth 100000
def repC (n : Int) (xs : List Int) : List Value := [.int .i64 n, .int .i64 (sumI xs), .int .i64 (sumI (xs.map dsum))]
theorem rep_snoc {xs : List Int} {k : Nat} {x : Int} (hx : xs[k]? = some x) : sumI (xs.take (k + 1)) = sumI (xs.take k) + x ∧ sumI ((xs.take (k + 1)).map dsum) = sumI ((xs.take k).map dsum) + dsum x := by
  rw [take_snoc hx, List.map_append, sumI_append, sumI_append]
  simp [sumI]
theorem rep_bd {xs : List Int} (h : ∀ n ∈ xs, 0 ≤ n ∧ n ≤ 9999) (hl : xs.length ≤ 24) (k : Nat) : (0 ≤ sumI (xs.take k) ∧ sumI (xs.take k) ≤ 239976) ∧ (0 ≤ sumI ((xs.take k).map dsum) ∧ sumI ((xs.take k).map dsum) ≤ 864) := by
  have hlt : (xs.take k).length ≤ 24 := by rw [List.length_take]; omega
  have h' : ∀ n ∈ xs.take k, 0 ≤ n ∧ n ≤ 9999 := fun n hn => h n (List.mem_of_mem_take hn)
  refine ⟨⟨sumI_nonneg fun x hx => (h' x hx).1, ?_⟩, ⟨sumI_nonneg fun x hx => ?_, ?_⟩⟩
  · have := sumI_le (xs := xs.take k) (M := 9999) (by omega) fun x hx => (h' x hx).2
    omega
  · obtain ⟨n, _, rfl⟩ := List.mem_map.1 hx
    exact (dsum_bound n).1
  · have := sumI_le (xs := (xs.take k).map dsum) (M := 36) (by omega) fun x hx => by obtain ⟨n, _, rfl⟩ := List.mem_map.1 hx; exact (dsum_bound n).2
    rw [List.length_map] at this
    omega
theorem repStart (W : World) (n : Int) (t u : TypeId) : let X := (W.alloc (.cells #[.int .i64 0, .int .i64 0, .int .i64 0] t)).alloc (.cells #[.int .i64 n, .int .i64 0, .int .i64 0] u)
    Box X (W.heap.size + 1) [.int .i64 n, .int .i64 0, .int .i64 0] ∧ Box X W.heap.size [.int .i64 0, .int .i64 0, .int .i64 0] ∧ Below W.heap.size W X := by
  intro X
  have e2 : (W.alloc (.cells #[.int .i64 0, .int .i64 0, .int .i64 0] t)).heap.size = W.heap.size + 1 := by simp
  have h1 := Box.new (W.alloc (.cells #[.int .i64 0, .int .i64 0, .int .i64 0] t)) [.int .i64 n, .int .i64 0, .int .i64 0] u
  have h2 := (Box.new W [.int .i64 0, .int .i64 0, .int .i64 0] t).alloc (.cells #[.int .i64 n, .int .i64 0, .int .i64 0] u)
  rw [e2] at h1
  exact ⟨h1, h2, ((Below.refl _ _).alloc (Nat.le_refl _) _).alloc (by rw [e2]; omega) _⟩
set_option maxHeartbeats 1000000 in
theorem reportOf_c {xs : List Int} {v : Value} {w : World} {A : Nat} (ha : RdI A w v xs) (hx : ∀ n ∈ xs, 0 ≤ n ∧ n ≤ 9999) (hl : xs.length ≤ 24) (ht : PowAt w) :
    Calls Tryd.prog 32 #[v] w fun e w' => e = .returned (vReport (repOf xs)) ∧ Below w.heap.size w w' := by
  have ha0 := ha
  obtain ⟨ao, cap, rfl, ho⟩ := ha.open
  obtain ⟨n, hn⟩ : ∃ n, n = xs.length := ⟨_, rfl⟩
  have hbd := rep_bd hx hl
  rw [← hn] at ho hl ha0 ⊢
  have Ha := Lib.hid ha0
  have Ho := Lib.hid ho
  have Hx := Lib.hid hx
  have Hn := Lib.hid hn
  have Ht := Lib.hid ht
  have Hbd := Lib.hid hbd
  clear ha ha0 ho hx hn ht hbd
  have hb0 : Below w.heap.size w (w.alloc (.cells #[.int .i64 0, .int .i64 0, .int .i64 0] 29)) := (Below.refl _ _).alloc (Nat.le_refl _) _
  have ha1 := Ha.out.onn hb0
  have Ha1 := Lib.hid ha1
  have Hb0 := Lib.hid hb0
  clear hb0 ha1
  go_enter Tryd.func32, Tryd.ntmps32
  go_wp2_with fail
  with_reducible refine (size_any Ha1.out).mono ?_
  rintro e w' ⟨rfl, rfl⟩
  obtain ⟨k1, k2, k3⟩ := repStart w (xs.length : Int) 29 29
  go_wp2
  go_loopw [11] (fun i wr => ∃ k : Nat, k ≤ n ∧ i = .int .i64 k ∧ Box wr (w.heap.size + 1) [.int .i64 (xs.length : Int), .int .i64 (sumI (xs.take k)), .int .i64 (sumI ((xs.take k).map dsum))] ∧ Box wr w.heap.size [.int .i64 0, .int .i64 0, .int .i64 0] ∧ Below w.heap.size w wr) (fun i _ => n - (intOf i).toNat)
  case atStart => exact ⟨0, Nat.zero_le _, rfl, k1, k2, k3⟩
  case round =>
    obtain ⟨k, hk, rfl, hB, hR, hb⟩ := hrel
    clear k1 k2 k3 Ha1 Hb0
    by_cases hkn : k < n
    · obtain ⟨b, off, rfl, hlt, hc⟩ := Ho.out (by omega)
      obtain ⟨x, hxk, hcx, _⟩ := hc k hkn
      have hxb := Hx.out x (List.mem_of_getElem? hxk)
      have hsn := rep_snoc hxk
      have hbk := Hbd.out k
      have hbk1 := Hbd.out (k + 1)
      rw [hsn.1, hsn.2] at hbk1
      obtain ⟨s, hs⟩ : ∃ s, s = sumI (xs.take k) := ⟨_, rfl⟩
      obtain ⟨d, hd⟩ : ∃ d, d = sumI ((xs.take k).map dsum) := ⟨_, rfl⟩
      rw [← hs] at hsn hbk hbk1 hB
      rw [← hd] at hsn hbk hbk1 hB
      have c0 := (hb.cell (p := ⟨b, off + k, none⟩) hlt.2).trans hcx
      have e0 := hB.cell 0 _ rfl
      have e1 := hB.cell 1 _ rfl
      have e2 := hB.cell 2 _ rfl
      have f1 := hB.free 1
      have f2 := hB.free 2
      obtain ⟨L, hL⟩ : ∃ L, L = (xs.length : Int) := ⟨_, rfl⟩
      rw [← hL] at hB e0
      have hB2 := hB.set1 (j := 1) (by simp) (.int .i64 (s + x))
      have hR2 := hR.other (p := ⟨w.heap.size + 1, 1, none⟩) (by show w.heap.size + 1 ≠ w.heap.size; omega) (.int .i64 (s + x))
      have hb2 := hb.setCell (p := ⟨w.heap.size + 1, 1, none⟩) (by show w.heap.size ≤ w.heap.size + 1; omega) (.int .i64 (s + x))
      obtain ⟨W2, hW2⟩ : ∃ W2, W2 = wr.setCell ⟨w.heap.size + 1, 1, none⟩ (.int .i64 (s + x)) := ⟨_, rfl⟩
      rw [← hW2] at hB2 hR2 hb2
      have hcon := digitSum_c (w := W2.drew) hxb ((Ht.out.below hb2).below (Below.refl _ _).drew1)
      have Hcon := Lib.hid hcon
      have HW2 := Lib.hid hW2
      have HB2 := Lib.hid hB2
      have HR2 := Lib.hid hR2
      have Hb2 := Lib.hid hb2
      have Hsn := Lib.hid hsn
      have HL := Lib.hid hL
      obtain ⟨⟨s0, s1⟩, d0, d1⟩ := hbk
      obtain ⟨⟨s2, s3⟩, d2, d3⟩ := hbk1
      obtain ⟨x0, x1⟩ := hxb
      have e2' := hB2.cell 2 _ rfl
      have f2' := hB2.free 2
      generalize hdx : dsum x = dx at d2 d3 Hcon Hsn
      clear hcon hW2 hB2 hR2 hb2 hB hR hb hsn hs hd hc hxk hcx e0 e2 f2 hL hdx
      go_wp2_with fail
      rw [← HW2.out]
      clear c0 e1 f1
      go_region_with (go_at_call 54; (with_reducible refine Hcon.out.mono ?_); rintro e w7 ⟨rfl, hb7⟩; have HB7 := Lib.hid (HB2.out.drew1.on hb7); have g2 := HB7.out.cell 2 _ rfl; have j2 := HB7.out.free 2)
      all_goals
        have hz : IntKind.i64.wrap (d + dx) = d + dx := IntWalk.i64_in _ (by omega)
        rw [hz]
        have hbb := ((Below.refl W2.heap.size W2).drew1).trans hb7
        have HB8 := Lib.hid (HB7.out.set1 (j := 2) (by simp) (.int .i64 (d + dx)))
        have HR8 := Lib.hid ((HR2.out.on hbb).other (p := ⟨w.heap.size + 1, 2, none⟩) (by show w.heap.size + 1 ≠ w.heap.size; omega) (.int .i64 (d + dx)))
        have Hb8 := Lib.hid ((Hb2.out.trans (hbb.mono Hb2.out.size)).setCell (p := ⟨w.heap.size + 1, 2, none⟩) (by show w.heap.size ≤ w.heap.size + 1; omega) (.int .i64 (d + dx)))
        clear hz hbb hb7 g2 j2 HB7 e2' f2'
        go_wp2
        go_roundw
        case rel => exact ⟨k + 1, by omega, by go_num, by rw [Hsn.out.1, Hsn.out.2, ← HL.out]; exact HB8.out, HR8.out, Hb8.out⟩
        case measure => simp [intOf]; omega
    · obtain rfl : k = n := by omega
      rw [List.take_of_length_le (by have := Hn.out; omega), ← Hn.out] at hB
      have hrep : repOf xs = ⟨(k : Int), sumI xs, sumI (xs.map dsum)⟩ := by unfold repOf; rw [← Hn.out]
      have e0 := hB.cell 0 _ rfl
      have e1 := hB.cell 1 _ rfl
      have e2 := hB.cell 2 _ rfl
      have r0 := hR.cell 0 _ rfl
      have r1 := hR.cell 1 _ rfl
      have r2 := hR.cell 2 _ rfl
      have q0 := hR.free 0
      have q1 := hR.free 1
      have q2 := hR.free 2
      have Hb := Lib.hid hb
      have Hrep := Lib.hid hrep
      clear hB hR hb hrep
      generalize sumI xs = S at e1 Hrep
      generalize sumI (xs.map dsum) = D at e2 Hrep
      go_wp2
      rw [Hrep.out]
      exact bodyPost_ret (v := vReport ⟨(k : Int), S, D⟩) (by simp [results, Tryd.results32, go_sem, r0, r1, r2]) rfl ⟨rfl, Hb.out.run (g := w.heap.size) (by omega) [_, _, _]⟩
end Go.Proofs.YtahkkdkdaedioaaDoor
