/- Pays: the drawing of a list of pays. Printed by gpayd7.py. No condition. -/
import Derived.Test.YtfhlmkeklmaedaaDoorPayD4
import Derived.Test.YtfhlmkeklmaedaaDoorPayD
namespace Go.Proofs.YtfhlmkeklmaedaaDoor
open Go.ChangeShapes Go.WideShapes Go.ChangeAt Go.RowKit
set_option linter.unusedVariables false
set_option maxRecDepth 100000
def DrawnP (base L : Nat) (e : Ending) (w' : World) : Prop := ∃ u xs, e = .returned u ∧ Own ePay 31 base w' u xs ∧ xs.length ≤ L
set_option maxHeartbeats 1000000 in
theorem DrawSumOfPays_any {w : World} {A : Nat} {v : Value} {cs : List Int} (ha : Rds eB A w v cs) (hA : A ≤ w.heap.size) :
    Calls Tryd.prog 17 #[v] w fun e w' => DrawnP w.heap.size 31 e w' ∧ Below w.heap.size w w' := by
  obtain ⟨i0, hi, hy0, hy1, hy2⟩ := info_parts Tryd.infoPay
  obtain ⟨ao, cap, hsh⟩ := ha.shape
  subst hsh
  go_enter Tryd.func17, Tryd.ntmps17
  go_wp2_with fail
  refine (l00From_any ha hA).mono ?_
  rintro e w1 ⟨rfl, hs1, hb1⟩
  have hbl := hs1.lt
  obtain ⟨b, hb⟩ : ∃ b, b = w.heap.size := ⟨_, rfl⟩
  rw [← hb] at hs1 hbl ⊢
  have hwb : w.heap.size ≤ b := by omega
  have hbw : b ≤ w.heap.size := by omega
  clear ha hb
  have hlit : Own ePay 31 w1.heap.size (w1.alloc (.cells #[] 31)) (.slice (some ⟨w1.heap.size, 0, none⟩) 0 0) [] :=
    Own.lit (E := ePay) (xs := []) (cs := #[]) (Nat.le_refl _) rfl rfl (by decide) (fun x hx => by cases hx)
  go_wp2_with fail
  refine (pick_any 5 (hs1.alloc _) (by omega) (by omega)).mono ?_
  rintro e w2 ⟨⟨r, rfl, hr0, hr1, _⟩, hs2, hg2, -⟩
  have hr2 := hr1 (by omega)
  have ho2 := hlit.keptS hg2 hbl
  have hb2 := grown_below (hb1.alloc hb1.size (.cells #[] 31)) hg2 hwb (hb1.alloc hb1.size _).size
  have hz12 : w.heap.size ≤ w1.heap.size := hb1.size
  have hz1b : w1.heap.size ≤ w2.heap.size := Nat.le_trans (by simp) hg2.size
  clear hr1 hg2 hlit hb1 hs1
  go_wp2_with fail
  go_loopw [4, 5] (fun v k wr => ∃ (kk : Int) (xs : List PayT), 0 ≤ kk ∧ kk + xs.length ≤ 4 ∧ k = .int .i64 kk ∧ w1.heap.size ≤ wr.heap.size ∧ Own ePay 31 w1.heap.size wr v xs ∧ Src wr b (2 + 20 * xs.length) ∧ Below w.heap.size w wr) (fun _ k _ => (intOf k).toNat)
  case atStart => exact ⟨r, [], by omega, by simp; omega, rfl, hz1b, ho2, hs2.mono (by simp), hb2⟩
  case round =>
    obtain ⟨kk, xs, hk0, hkj, rfl, hz1r, hown, hsr, hbr⟩ := hrel
    clear ho2 hs2 hb2
    have hszr := hbr.size
    obtain ⟨ao2, cap2, rfl⟩ := hown.shape
    by_cases hk : 0 < kk
    · go_wp2_with fail
      refine (l23DrawPay_any hsr (by omega)).mono ?_
      rintro e w3 ⟨⟨p, rfl, hp⟩, hs3, hg3⟩
      have hown3 := hown.keptS hg3 hbl
      have hb3 := grown_below hbr hg3 hwb hszr
      have hz13 : w1.heap.size ≤ w3.heap.size := Nat.le_trans hz1r hg3.size
      clear hown hg3 hbr hsr
      go_wp2_with (first | (at_builtin; refine wpList_appS (E := ePay) rfl _ _ 43 rfl Tryd.underlying43 hi hy0 hy1 hy2 rfl (by decide) rfl rfl (hown3.alloc _) (rds_one (E := ePay) (x := p) hp rfl) ?b1 ?b2 ?b3 ?_))
      case b1 => unfold maxLen; simp; omega
      case b2 => simp; omega
      case b3 => simp; omega
      intro v' w4 hown4 hg4
      have hg4' := hg4.alloc.1
      have hs4 := hs3.kept hg4' (fun k hk => by have := (hown3.lt k hk).1; omega)
      have hb4 := hb3.grown hg4' hb3.size (fun k hk => Nat.le_trans hz12 (hown3.lt k hk).1)
      have hg4s : w3.heap.size ≤ w4.heap.size := hg4'.size
      clear hg4 hg4' hb3 hs3 hown3
      go_wp2
      go_roundw
      case rel => exact ⟨kk - 1, _, by omega, by simp; omega, by go_num, Nat.le_trans hz13 (by have := hg4s; omega), hown4, hs4.mono (by simp only [List.length_append, List.length_cons, List.length_nil]; omega), hb4⟩
      case measure => simp [intOf]; omega
    · have hkk0 : kk = 0 := by omega
      subst hkk0
      have hlen : xs.length ≤ 4 := by omega
      go_wp2_with fail
      refine (one_any 20 hsr (by omega) (by omega)).mono ?_
      rintro e w3 ⟨⟨q1, rfl⟩, hs3, hg3, -⟩
      have hown3 := hown.keptS hg3 hbl
      have hb3 := grown_below hbr hg3 hwb hszr
      clear hown hg3 hbr hsr
      cases q1 with
      | false =>
        have Ho := Lib.hid (hown3.mono hz12)
        have Hb := Lib.hid hb3
        clear hown3 hb3 hs3
        go_wp2
        go_ret
        exact ⟨⟨_, xs, rfl, Ho.out, by omega⟩, Hb.out⟩
      | true =>
        go_wp2_with fail
        refine (pick_any 2 hs3 (by omega) (by omega)).mono ?_
        rintro e w4 ⟨⟨q, rfl, hq0, hq1, _⟩, hs4, hg4, -⟩
        have hq2 := hq1 (by omega)
        have hb4 := grown_below hb3 hg4 hwb hb3.size
        clear hown3 hb3 hs3 hg4 hs4 hq1
        have hq3 : q = 0 ∨ q = 1 := by omega
        rcases hq3 with hq | hq
        · subst hq
          go_wp2_with (first | (at_make; refine wpList_make_full _ rfl _ _ 43 rfl w4.heap.size 31 i0 (vPay zPay) 4 Tryd.underlying43 hi hy0 hy1 _ _ _ _ 30 rfl rfl rfl rfl ?b1 ?b2 (Nat.le_refl _) ?_))
          case b1 => first | omega | (rw [hy2]; omega)
          case b2 => unfold maxLen; omega
          intro w5 hown hgr
          have hb5 : Below w.heap.size w w5 := hb4.grown hgr hb4.size (fun k hk => by cases hk)
          have ho5 : Own ePay 31 w4.heap.size w5 (.slice (some ⟨w4.heap.size, 0, none⟩) 30 30) (List.replicate 30 zPay) := by
            refine ⟨?_, fun x hx => by rw [List.eq_of_mem_replicate hx]; exact ok_zPay⟩
            have hown2 : w5.ownsRow w4.heap.size 31 ePay.sz (.slice (some ⟨w4.heap.size, 0, none⟩) 30 30) 30 (madeCells (vPay zPay).cells (30 * ePay.sz)).toList := hown
            rw [Elt.all_made (E := ePay) (z := zPay) (zv := vPay zPay) (by decide) rfl 30] at hown2
            simpa using hown2
          have Ho := Lib.hid (ho5.mono hb4.size)
          have Hb := Lib.hid hb5
          clear hown hgr hb5 ho5 hb4
          go_wp2
          go_ret
          exact ⟨⟨_, _, rfl, Ho.out, by simp⟩, Hb.out⟩
        · subst hq
          go_wp2_with (first | (at_make; refine wpList_make_full _ rfl _ _ 43 rfl w4.heap.size 31 i0 (vPay zPay) 4 Tryd.underlying43 hi hy0 hy1 _ _ _ _ 31 rfl rfl rfl rfl ?b1 ?b2 (Nat.le_refl _) ?_))
          case b1 => first | omega | (rw [hy2]; omega)
          case b2 => unfold maxLen; omega
          intro w5 hown hgr
          have hb5 : Below w.heap.size w w5 := hb4.grown hgr hb4.size (fun k hk => by cases hk)
          have ho5 : Own ePay 31 w4.heap.size w5 (.slice (some ⟨w4.heap.size, 0, none⟩) 31 31) (List.replicate 31 zPay) := by
            refine ⟨?_, fun x hx => by rw [List.eq_of_mem_replicate hx]; exact ok_zPay⟩
            have hown2 : w5.ownsRow w4.heap.size 31 ePay.sz (.slice (some ⟨w4.heap.size, 0, none⟩) 31 31) 31 (madeCells (vPay zPay).cells (31 * ePay.sz)).toList := hown
            rw [Elt.all_made (E := ePay) (z := zPay) (zv := vPay zPay) (by decide) rfl 31] at hown2
            simpa using hown2
          have Ho := Lib.hid (ho5.mono hb4.size)
          have Hb := Lib.hid hb5
          clear hown hgr hb5 ho5 hb4
          go_wp2
          go_ret
          exact ⟨⟨_, _, rfl, Ho.out, by simp⟩, Hb.out⟩
end Go.Proofs.YtfhlmkeklmaedaaDoor
