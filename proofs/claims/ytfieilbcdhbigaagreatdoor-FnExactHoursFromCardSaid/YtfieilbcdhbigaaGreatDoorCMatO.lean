/- Cards in the laws' helpers: copied, marked, held. No condition. -/
import Derived.Test.YtfieilbcdhbigaaGreatDoorCMat
namespace Go.Proofs.YtfieilbcdhbigaaGreatDoor
open Go.ChangeShapes Go.WideShapes Go.ChangeAt Go.RowKit
set_option linter.unusedVariables false
set_option maxRecDepth 100000
theorem grown_setC (w : World) (a : Addr) (u : Value) : w.grownBy (w.setCell a u) (some a.block) :=
  ⟨rfl, rfl, rfl, by simp [World.setCell], fun k hk hne => Below.heap_setCell _ _ _ _ (fun e => hne (by rw [e]))⟩
theorem Tryz.infoCard : (Tryz.prog.info? 67).map (fun i => (i.zero, i.size, i.bytes)) = some (some (.agg #[.slice none 0 0]), 1, 24) := by kernel_rfl
theorem toCard_c {xs : List Int} {v : Value} {w : World} {A : Nat} (ha : RdI A w v xs) (hl : xs.length ≤ 1048576) :
    Calls Tryz.prog 35 #[.agg #[v]] w fun e w' => ∃ u, e = .returned (.agg #[u]) ∧ Own eI 2 w.heap.size w' u xs ∧ Below w.heap.size w w' := by
  obtain ⟨W, hW⟩ : ∃ W, W = ((w.alloc (.cells #[v] 61)).alloc (.cells #[.slice none 0 0] 67)).alloc (.cells #[.slice none 0 0] 67) := ⟨_, rfl⟩
  have hs1 : (w.alloc (.cells #[v] 61)).heap.size = w.heap.size + 1 := by simp
  have hs2 : ((w.alloc (.cells #[v] 61)).alloc (.cells #[.slice none 0 0] 67)).heap.size = w.heap.size + 1 + 1 := by simp
  have hb0 : Below w.heap.size w W := by rw [hW]; exact (((Below.refl w.heap.size w).alloc (Nat.le_refl _) _).alloc (by simp) _).alloc (by simp; omega) _
  have hB1 : Box W (w.heap.size + 1) [.slice none 0 0] := by
    have h := (Box.new (w.alloc (.cells #[v] 61)) [.slice none 0 0] 67).alloc (.cells #[.slice none 0 0] 67)
    rw [hs1] at h
    rw [hW]; exact h
  have hB2 : Box W (w.heap.size + 1 + 1) [.slice none 0 0] := by
    have h := Box.new ((w.alloc (.cells #[v] 61)).alloc (.cells #[.slice none 0 0] 67)) [.slice none 0 0] 67
    rw [hs2] at h
    rw [hW]; exact h
  have ha0 := Rds.onn ha hb0
  obtain ⟨ao, cap, rfl⟩ := ha.shape
  have Ha0 := Lib.hid ha0
  have Hb0 := Lib.hid hb0
  have HB1 := Lib.hid hB1
  have HB2 := Lib.hid hB2
  have HW := Lib.hid hW
  clear ha ha0 hb0 hB1 hB2 hW hs1 hs2
  go_enter Tryz.func35, Tryz.ntmps35
  go_wp2_with fail
  rw [← HW.out]
  with_reducible refine (toI Ha0.out hl).mono ?_
  rintro e w1 ⟨u, rfl, hu, hb1⟩
  have hx1 := HB1.out.on hb1
  have hx2 := HB2.out.on hb1
  have hl2 := HB2.out.lt
  have d1 := hx1.cell 0 _ rfl
  have f1 := hx1.free 0
  have d2 := hx2.cell 0 _ rfl
  have f2 := hx2.free 0
  obtain ⟨uo, uc, rfl⟩ := hu.shape
  have g0 := ((hx1.other (p := ⟨w.heap.size + 1 + 1, 0, none⟩) (by show w.heap.size + 1 + 1 ≠ w.heap.size + 1; omega) (.slice uo xs.length uc)).set1 (j := 0) (by simp) (.slice uo xs.length uc)).cell 0 (.slice uo xs.length uc) rfl
  have hlt := hu.lt
  have hsz := Hb0.out.size
  have hu2 := (hu.kept (grown_setC w1 ⟨w.heap.size + 1 + 1, 0, none⟩ (.slice uo xs.length uc)) (.inr (fun h => by have h9 := (hlt _ h).1; simp only at h9; omega))).kept (grown_setC _ ⟨w.heap.size + 1, 0, none⟩ (.slice uo xs.length uc)) (.inr (fun h => by have h9 := (hlt _ h).1; simp only at h9; omega))
  have Hu := Lib.hid (hu2.mono hsz)
  have hb2 := Hb0.out.trans (hb1.mono hsz)
  have Hb1 := Lib.hid ((hb2.setCell (p := ⟨w.heap.size + 1 + 1, 0, none⟩) (by show w.heap.size ≤ w.heap.size + 1 + 1; omega) (.slice uo xs.length uc)).setCell (p := ⟨w.heap.size + 1, 0, none⟩) (by show w.heap.size ≤ w.heap.size + 1; omega) (.slice uo xs.length uc))
  clear hx1 hx2 hu hb1 hlt hu2 hb2
  go_wp2
  exact bodyPost_ret (v := .agg #[.slice uo xs.length uc]) (by simp [results, Tryz.results35, go_sem, g0]) rfl ⟨_, rfl, Hu.out, Hb1.out⟩
theorem toCardS_c {w : World} {A : Nat} {xss : List (List Int)} {v : Value} (ha : RdCardS A w v xss) (hl : szCardS xss ≤ 1048576) :
    Calls Tryz.prog 10 #[v] w fun e w' => ∃ u, e = .returned u ∧ OwnCardS w.heap.size w' u xss ∧ Below w.heap.size w w' := by
  have hl2 : xss.length ≤ 1048576 := by have := szCardS_len xss; omega
  have hrow : ∀ (k : Nat) (x : List Int), xss[k]? = some x → x.length ≤ 1048576 := by
    intro k x hx
    have h4 := sumBy_snoc (fun r : List Int => (r.length : Int)) hx
    have h5 := sumBy_take_le (f := fun r : List Int => (r.length : Int)) (fun r => by omega) xss (k + 1)
    have h6 := sumBy_nonneg (f := fun r : List Int => (r.length : Int)) (fun r => by omega) (xss.take k)
    unfold szCardS szInt64SS at hl
    omega
  have ha := ha.tight
  have hle := ha.le
  obtain ⟨ao, cap, rfl, ho⟩ := ha.open
  obtain ⟨n, hn⟩ : ∃ n, n = xss.length := ⟨_, rfl⟩
  rw [← hn]
  have Hn := Lib.hid hn
  have Ho := Lib.hid ho
  have Hrow := Lib.hid hrow
  have hle' : n ≤ 1048576 := by omega
  obtain ⟨i0, hi, hz0, hz1, hz2⟩ := info_parts Tryz.infoCard
  clear ho hn hle ha hl hl2 hrow
  go_enter Tryz.func10, Tryz.ntmps10
  go_wp2_with (first | (at_make; refine wpList_make_full _ rfl _ _ 34 rfl w.heap.size 67 i0 (.agg #[.slice none 0 0]) 1 Tryz.underlying34 hi hz0 hz1 _ _ _ _ n rfl rfl rfl rfl ?b1 ?b2 (Nat.le_refl _) ?_))
  case b1 => first | omega | (rw [hz2]; omega)
  case b2 => unfold maxLen; omega
  intro w1 hown hgr
  have hb1 : Below w.heap.size w w1 := (Below.refl _ _).grown hgr (Nat.le_refl _) (fun k hk => by cases hk)
  have hown0 : OwnTM 67 w.heap.size w1.heap.size w1 (.slice (some ⟨w.heap.size, 0, none⟩) n n) (xss.take 0 ++ List.replicate (n - 0) []) := by
    have h1 : Own eS 67 w.heap.size w1 (.slice (some ⟨w.heap.size, 0, none⟩) n n) (List.replicate n ⟨none, 0, 0⟩) := by
      refine ⟨?_, fun x hx => trivial⟩
      have hown2 : w1.ownsRow w.heap.size 67 eS.sz (.slice (some ⟨w.heap.size, 0, none⟩) n n) n (madeCells (Value.agg #[.slice none 0 0]).cells (n * eS.sz)).toList := by rw [show n * eS.sz = n from Nat.mul_one n]; exact hown
      rw [Elt.all_made (E := eS) (z := ⟨none, 0, 0⟩) (zv := Value.agg #[.slice none 0 0]) (by decide) rfl n] at hown2
      simpa using hown2
    refine ⟨List.replicate n ⟨none, 0, 0⟩, h1.top, by simp, ?_, ?_, ?_⟩
    · intro i h xs e1 e2
      simp only [List.take_zero, List.nil_append, Nat.sub_zero] at e2
      rw [List.getElem?_replicate] at e1 e2
      by_cases hi : i < n
      · rw [if_pos hi] at e1 e2; cases e1; cases e2; exact ⟨Own.nil _ _ _ _, fun k hk => by cases hk⟩
      · rw [if_neg hi] at e1; cases e1
    · intro i h e1
      rw [List.getElem?_replicate] at e1
      by_cases hi : i < n
      · rw [if_pos hi] at e1; cases e1; intro g _ hg; cases hg
      · rw [if_neg hi] at e1; cases e1
    · intro i j h h' _ e1 e2
      rw [List.getElem?_replicate] at e1
      by_cases hi : i < n
      · rw [if_pos hi] at e1; cases e1; intro g hg; cases hg
      · rw [if_neg hi] at e1; cases e1
  clear hown hgr
  go_wp2
  go_loopw [4] (fun i wr => ∃ k : Nat, k ≤ n ∧ i = .int .i64 k ∧ OwnTM 67 w.heap.size wr.heap.size wr (.slice (some ⟨w.heap.size, 0, none⟩) n n) (xss.take k ++ List.replicate (n - k) []) ∧ Below w.heap.size w wr) (fun i _ => n - (intOf i).toNat)
  case atStart => exact ⟨0, Nat.zero_le _, rfl, hown0, hb1⟩
  case round =>
    obtain ⟨k, hk, rfl, hw, hb⟩ := hrel
    by_cases hkn : k < n
    · obtain ⟨b, off, rfl, hlt, hc⟩ := Ho.out (by have := Hn.out; omega)
      obtain ⟨x, ro, rc, hx, hcell, hrd⟩ := hc k (by have := Hn.out; omega)
      have hrd2 := hrd.below hb (Nat.le_refl _)
      have hl3 := Hrow.out k x hx
      have Hx := Lib.hid hx
      clear hx hc hrd hb1 hown0
      have d := (hb.cell (p := ⟨b, off + k, none⟩) hlt.2).trans hcell
      clear hcell
      have Hrd := Lib.hid hrd2
      clear hrd2
      have hb0 := hb.size
      go_wp2_with fail
      with_reducible refine (toCard_c Hrd.out hl3).mono ?_
      rintro e w2 ⟨u, rfl, hu, hb2⟩
      have hw2 := hw.below hb2 (Nat.le_refl _)
      have hb3 : Below w.heap.size w w2 := hb.trans (hb2.mono hb0)
      have hlen : n = (xss.take k ++ List.replicate (n - k) []).length := by have := Hn.out; simp; omega
      obtain ⟨uo, uc, rfl⟩ := hu.shape
      obtain ⟨⟨y, hy⟩, hf, ho, hg⟩ := hw2.put hlen hkn hu hb0 hb2.size
      have Hst := Lib.hid ho
      have Hb3 := Lib.hid hb3
      clear ho hlen hb hb2 hw hw2 hb3 d hu hg
      go_wp2
      go_roundw
      case rel => exact ⟨k + 1, by omega, by go_num, by have h := Hst.out; rw [set_take_rows Hx.out Hn.out hkn] at h; simpa using h, Hb3.out.setCell (Nat.le_refl _) _⟩
      case measure => simp [intOf]; omega
    · go_wp2
      go_ret
      refine ⟨_, rfl, ?_, hb⟩
      have := Hn.out
      rw [List.take_of_length_le (by omega), show n - k = 0 by omega] at hw
      simpa [OwnCardS] using hw
theorem markCardS_c {xss : List (List Int)} {base top : Nat} {v : Value} {w : World} (k : Int) (ha : OwnTCardS base top w v xss) (hk : 0 ≤ k) (hl : k + cntCardS xss ≤ 9223372036854775807) :
    Calls Tryz.prog 22 #[v, .int .i64 k] w fun e w' => e = .returned (.int .i64 (k + cntCardS xss)) ∧ OwnTCardS base top w' v (mkCardS k xss) ∧ Within base top w w' := by
  have hle := ha.rds.le
  obtain ⟨ao, cap, rfl⟩ := ha.shape
  obtain ⟨n, hn⟩ : ∃ n, n = xss.length := ⟨_, rfl⟩
  have hcnt : (cntCardS xss : Int) = sumBy (fun r : List Int => (r.length : Int)) xss := by unfold cntCardS cntInt64SS; have := sumBy_nonneg (f := fun r : List Int => (r.length : Int)) (fun r => by omega) xss; omega
  rw [hcnt] at hl ⊢
  rw [← hn] at ha ⊢
  have Hn := Lib.hid hn
  have Hl := Lib.hid hl
  have hle' : n ≤ 9223372036854775807 := by omega
  clear hn hle hl hcnt
  go_enter Tryz.func22, Tryz.ntmps22
  go_wp2
  go_loopw [1, 5] (fun c i wr => ∃ j : Nat, j ≤ n ∧ i = .int .i64 j ∧ ∃ s : Int, c = .int .i64 (k + s) ∧ s = sumBy (fun r : List Int => (r.length : Int)) (xss.take j) ∧ 0 ≤ s ∧ OwnTM 67 base top wr (.slice ao n cap) (mkRows k (xss.take j) ++ xss.drop j) ∧ Within base top w wr) (fun _ i _ => n - (intOf i).toNat)
  case atStart => exact ⟨0, Nat.zero_le _, rfl, 0, by simp, by simp [sumBy], by omega, by simpa [mkRows] using ha, Within.refl _ _ _⟩
  case round =>
    obtain ⟨j, hj, rfl, s, rfl, hs, hs0, hw, hwi⟩ := hrel
    clear ha
    by_cases hjn : j < n
    · have hlen : (mkRows k (xss.take j) ++ xss.drop j).length = n := by have := Hn.out; rw [List.length_append, mkRows_length]; simp; omega
      obtain ⟨g, cp, hv, hg1, hg2, hg3⟩ := hw.addr (by omega)
      obtain ⟨hv1, hv2, hv3⟩ := Value.slice.inj hv
      subst hv1; subst hv3
      clear hv2
      have hx : xss[j]? = some (xss[j]'(by have := Hn.out; omega)) := List.getElem?_eq_getElem _
      generalize xss[j]'(by have := Hn.out; omega) = x at hx
      have hx2 : (mkRows k (xss.take j) ++ xss.drop j)[j]? = some x := by
        have h0 : (mkRows k (xss.take j)).length = j := by rw [mkRows_length]; have := Hn.out; simp; omega
        rw [List.getElem?_append_right (by omega), h0, Nat.sub_self, List.getElem?_drop, Nat.add_zero]; exact hx
      obtain ⟨ro, rc, hcell, hown, hback⟩ := hw.row hx2
      have h4 := sumBy_snoc (fun r : List Int => (r.length : Int)) hx
      have h5 := sumBy_take_le (f := fun r : List Int => (r.length : Int)) (fun r => by omega) xss (j + 1)
      have hl2 : (k + s) + x.length ≤ 9223372036854775807 := by have := Hl.out; omega
      have Hx := Lib.hid hx
      have ho1 := hown.1
      have ho2 := hown.2
      have Ho1 := Lib.hid ho1
      have Ho2 := Lib.hid ho2
      have Hback := Lib.hid hback
      have Hs := Lib.hid hs
      have Hwi := Lib.hid hwi
      clear hx hx2 hown ho1 ho2 hback hs hw hv hwi h4 h5 hlen
      go_wp2_with fail
      with_reducible refine (markI (k + s) Ho1.out (by omega) hl2).mono ?_
      rintro e w2 ⟨rfl, ho, hg, hz⟩
      have ht := Hback.out w2 _ ⟨ho, Ho2.out⟩ hg
      rw [Hs.out, mkRows_set Hx.out] at ht
      have Ht := Lib.hid ht
      have hwi2 : Within base top w w2 := Hwi.out.trans (Within.of_grown hg fun q hq => ⟨(Ho1.out.lt q hq).1, Ho2.out q hq⟩)
      have Hwi2 := Lib.hid hwi2
      clear ho hg ht hwi2 hz
      go_wp2
      go_roundw
      case rel => exact ⟨j + 1, by omega, by go_num, s + x.length, by go_num, by rw [sumBy_snoc (fun r : List Int => (r.length : Int)) Hx.out, ← Hs.out], by omega, Ht.out, Hwi2.out⟩
      case measure => simp [intOf]; omega
    · go_wp2
      go_ret
      have := Hn.out
      rw [List.take_of_length_le (by omega)] at hs
      rw [List.take_of_length_le (by omega), List.drop_of_length_le (by omega), List.append_nil] at hw
      exact ⟨ret_int (by rw [hs]), hw, hwi⟩
end Go.Proofs.YtfieilbcdhbigaaGreatDoor
