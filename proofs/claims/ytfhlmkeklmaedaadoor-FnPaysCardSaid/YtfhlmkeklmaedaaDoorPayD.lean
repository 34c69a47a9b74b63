/- Workers and pays: the drawing of inputs. No condition. -/
import Derived.Test.YtfhlmkeklmaedaaDoorDrawT
import Derived.Test.YtfhlmkeklmaedaaDoorStrW
import Derived.Test.YtfhlmkeklmaedaaDoorStrP
namespace Go.Proofs.YtfhlmkeklmaedaaDoor
open Go.ChangeShapes Go.WideShapes Go.ChangeAt Go.RowKit
set_option linter.unusedVariables false
set_option maxRecDepth 100000
theorem Tryd.infoWorker : (Tryd.prog.info? 29).map (fun i => (i.zero, i.size, i.bytes)) = some (some (vWorker zWorker), 3, 32) := by kernel_rfl
theorem Tryd.infoPay : (Tryd.prog.info? 31).map (fun i => (i.zero, i.size, i.bytes)) = some (some (vPay zPay), 4, 32) := by kernel_rfl
theorem wrapb (n : Int) : -9223372036854775808 ≤ IntKind.i64.wrap n ∧ IntKind.i64.wrap n ≤ 9223372036854775807 := by rw [IntKind.wrap_i64]; omega
def DrawnW (base L : Nat) (e : Ending) (w' : World) : Prop := ∃ u xs, e = .returned u ∧ Own eWorker 29 base w' u xs ∧ xs.length ≤ L
theorem okW_of {s : ByteArray} {r t : Int} (hs : s.size ≤ 9223372036854775807) (hr : -9223372036854775808 ≤ r ∧ r ≤ 9223372036854775807) (ht : -9223372036854775808 ≤ t ∧ t ≤ 9223372036854775807) : okWorker ⟨s, r, t⟩ := by
  unfold okWorker
  simp only
  omega
theorem size_grown {w w' : World} {row : Option Nat} (h : w.grownBy w' row) : w.heap.size ≤ w'.heap.size := h.size
set_option maxHeartbeats 2000000 in
theorem l23Draw_any {w : World} {b N : Nat} (hs : Src w b N) (hN : N ≤ 1000000) :
    Calls Tryd.prog 58 #[.pointer (some ⟨b, 0, none⟩)] w fun e w' => DrawnW w.heap.size 4 e w' ∧ Src w' b (N + 100) ∧ w.grownBy w' (some b) := by
  obtain ⟨i0, hi, hy0, hy1, hy2⟩ := info_parts Tryd.infoWorker
  have hbl := hs.lt
  obtain ⟨W1, hW1⟩ : ∃ W1, W1 = w.alloc (.cells #[.string ⟨#[97, 98]⟩, .string ⟨#[98, 97]⟩, .string ⟨#[98]⟩, .string ⟨#[122, 111, 101]⟩] 9) := ⟨_, rfl⟩
  have hs1 : W1.heap.size = w.heap.size + 1 := by rw [hW1]; simp
  have hst0 : StrAt (W1.alloc (.cells #[] 29)) w.heap.size 4 := by
    have h := StrAt.new (w := w) (cs := #[.string ⟨#[97, 98]⟩, .string ⟨#[98, 97]⟩, .string ⟨#[98]⟩, .string ⟨#[122, 111, 101]⟩]) (T := 9) (n := 4) (fun k hk => by
      obtain rfl | rfl | rfl | rfl : k = 0 ∨ k = 1 ∨ k = 2 ∨ k = 3 := by omega
      all_goals exact ⟨_, rfl, by decide⟩)
    rw [← hW1] at h
    exact h.grown (World.grownBy_alloc _ _ none) (by simp)
  have ho0 : Own eWorker 29 (w.heap.size + 1) (W1.alloc (.cells #[] 29)) (.slice (some ⟨W1.heap.size, 0, none⟩) 0 0) [] := Own.lit (E := eWorker) (xs := []) (cs := #[]) (by omega) rfl rfl (by decide) (fun x hx => by cases hx)
  have hsr0 : Src (W1.alloc (.cells #[] 29)) b N := by rw [hW1]; exact (hs.alloc _).alloc _
  have hg0 : w.grownBy (W1.alloc (.cells #[] 29)) (some b) := by rw [hW1]; exact grownBy_trans (World.grownBy_alloc w _ _) (World.grownBy_alloc _ _ _)
  have Hst0 := Lib.hid hst0
  have Ho0 := Lib.hid ho0
  have Hsr0 := Lib.hid hsr0
  have Hg0 := Lib.hid hg0
  have HW1 := Lib.hid hW1
  have Hs1 := Lib.hid hs1
  clear hst0 ho0 hsr0 hg0 hW1 hs
  go_enter Tryd.func58, Tryd.ntmps58
  go_wp2
  rw [← HW1.out]
  go_loopw [5, 4] (fun k v wr => ∃ (kk : Nat) (xs : List WorkerT), kk ≤ 4 ∧ xs.length ≤ kk ∧ k = .int .i64 kk ∧ Own eWorker 29 (w.heap.size + 1) wr v xs ∧ Src wr b (N + 10 * kk) ∧ w.grownBy wr (some b) ∧ StrAt wr w.heap.size 4) (fun k _ _ => 4 - (intOf k).toNat)
  case atStart => exact ⟨0, [], by omega, by simp, rfl, by have h := Ho0.out; rw [Hs1.out] at h; exact h, Hsr0.out, Hg0.out, Hst0.out⟩
  case round =>
    obtain ⟨kk, xs, hk4, hxl, rfl, hown, hsr, hgr, hst⟩ := hrel
    clear Hst0 Ho0 Hsr0 Hg0
    have hsz1 : w.heap.size < wr.heap.size := hst.1
    by_cases hk : kk < 4
    · obtain ⟨ao, cap, rfl⟩ := hown.shape
      have hki : (kk : Int) < 4 := by omega
      go_wp2_with fail
      refine (one_any 2 hsr (by omega) (by omega)).mono ?_
      rintro e w2 ⟨⟨q, rfl⟩, hs2, hg2, hz2⟩
      have hown2 := hown.keptS hg2 (by omega)
      have hst2 := hst.grown hg2 (fun h => by have := Option.some.inj h; omega)
      have hg2' := grownBy_trans hgr hg2
      clear hown hsr hgr hst hg2
      cases q with
      | false =>
        have Hown := Lib.hid hown2
        have Hs2 := Lib.hid hs2
        have Hg2 := Lib.hid hg2'
        have Hst2 := Lib.hid hst2
        clear hown2 hs2 hg2' hst2 hz2
        go_wp2
        go_roundw
        case rel => exact ⟨kk + 1, xs, by omega, by omega, by go_num, Hown.out, Hs2.out.mono (by omega), Hg2.out, Hst2.out⟩
        case measure => simp [intOf]; omega
      | true =>
        obtain ⟨s, hcs, hss⟩ := hst2.2 kk (by omega)
        have hsz2 : w.heap.size < w2.heap.size := hst2.1
        have hbl2 : b < w2.heap.size := by omega
        have Hown := Lib.hid hown2
        have Hs2 := Lib.hid hs2
        have Hg2 := Lib.hid hg2'
        have Hst2 := Lib.hid hst2
        have Hss := Lib.hid hss
        clear hown2 hs2 hg2' hst2 hz2 hss
        have hx4 : xs.length ≤ 4 := by omega
        go_wp2
        have hcN : w.heap.size ≠ b := by omega
        have hokA : ∀ (r1 r2 : Int), 0 ≤ r2 → r2 < 40 → okWorker ⟨s, IntKind.i64.wrap (100 + r1), r2⟩ := fun r1 r2 h0 h1 => okW_of (by have := Hss.out; omega) (wrapb _) (by omega)
        go_region_law (first
          | (refine step_appS (E := eWorker) rfl _ _ 64 (by rfl) Tryd.underlying64 hi hy0 hy1 hy2 rfl (by decide) (by rfl) (by rfl) (o5.alloc _) (rds_one (E := eWorker) (x := ⟨s, IntKind.i64.wrap (100 + r1), r2⟩) (hokA r1 r2 hr20 (by omega)) rfl) (by unfold maxLen; simp; omega) (by simp; omega) (by have := gg5.size; simp; omega) ?_; intro v3 w3 hO3 hg3)
          | (go_simp; go_at_call 36; with_reducible refine (pick_any 1500 Hs2.out.drew (by omega) (by omega)).mono ?_; rintro e w4 ⟨⟨r1, rfl, hr10, hr11, _⟩, hs4, hg4, hz4⟩; have hr12 := hr11 (by omega); have gg4 := grownBy_trans (grownBy_drew w2 (some b)) hg4; have o4 := Hown.out.keptS gg4 (by omega); have hcs4 := (World.cell?_of_block (w := w2) (a := ⟨w.heap.size, kk, none⟩) (gg4.block w.heap.size hsz2 (fun h => absurd (Option.some.inj h) hcN))).trans hcs; clear hr11 hz4 hg4)
          | (go_simp; go_at_call 36; with_reducible refine (pick_any 40 hs4 (by omega) (by omega)).mono ?_; rintro e w5 ⟨⟨r2, rfl, hr20, hr21, _⟩, hs5, hg5, hz5⟩; have hr22 := hr21 (by omega); have gg5 := grownBy_trans gg4 hg5; have o5 := o4.keptS hg5 (by omega); have hcs5 := (World.cell?_of_block (w := w2) (a := ⟨w.heap.size, kk, none⟩) (gg5.block w.heap.size hsz2 (fun h => absurd (Option.some.inj h) hcN))).trans hcs; clear hr21 hz5 hg5))
        all_goals
          have hg3' := hg3.alloc.1
          have hs3 := hs5.kept hg3' (fun k hk => by have := (o5.lt k hk).1; omega)
          have hgA := grownBy_trans Hg2.out gg5
          have hgB := grown_own hgA hg3' (fun k hk => by have := (o5.lt k hk).1; omega)
          have hst5 := (Hst2.out.grown gg5 (fun h => absurd (Option.some.inj h) hcN)).grown hg3' (fun h => by have := (o5.lt _ h.symm).1; omega)
          have HO3 := Lib.hid hO3
          have Hs3 := Lib.hid hs3
          have HgB := Lib.hid hgB
          have Hst5 := Lib.hid hst5
          clear hO3 hg3 hg3' hs3 hgA hgB hst5 o4 o5 gg4 gg5 hs4 hs5 hcs hcs4 hcs5
          go_wp2
          go_roundw
          case rel => exact ⟨kk + 1, _, by omega, by simp; omega, by go_num, HO3.out, Hs3.out.mono (by omega), HgB.out, Hst5.out⟩
          case measure => simp [intOf]; omega
    · have Hown := Lib.hid hown
      have Hsr := Lib.hid hsr
      have Hgr := Lib.hid hgr
      obtain ⟨ao, cap, rfl⟩ := hown.shape
      obtain rfl : kk = 4 := by omega
      clear hown hsr hgr hst
      go_wp2
      go_ret
      exact ⟨⟨_, xs, rfl, Hown.out.mono (by omega), by omega⟩, Hsr.out.mono (by omega), Hgr.out⟩
end Go.Proofs.YtfhlmkeklmaedaaDoor
