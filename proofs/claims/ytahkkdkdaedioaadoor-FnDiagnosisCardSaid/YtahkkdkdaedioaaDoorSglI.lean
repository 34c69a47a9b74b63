/- Single faults: the program's. The condition: the library's table of powers of ten lies as its text lays it. -/
import Derived.Test.YtahkkdkdaedioaaDoorExp1
namespace Go.Proofs.YtahkkdkdaedioaaDoor
open Go.ChangeShapes Go.WideShapes Go.ChangeAt Go.RowKit
set_option linter.unusedVariables false
set_option maxRecDepth 100000
def SFC (xs : List Int) : Int := if amtOk xs = true then 0 else 1
def SFR (xs : List Int) (r : ReportT) : List FaultT := if amtOk xs = true then sglF xs r else []
theorem sglF_len {xs : List Int} (h : amtOk xs = true) (r : ReportT) : (sglF xs r).length ≤ 504 := by
  have h1 := List.length_filter_le (fun f => missF xs r f == zReport) (allF xs)
  have h2 := allK_len xs xs.length
  have h3 := (amtOk_parts h).1
  unfold sglF
  unfold allF at h1 ⊢
  omega
theorem SFR_len (xs : List Int) (r : ReportT) : (SFR xs r).length ≤ 504 := by
  unfold SFR
  split
  · rename_i h; exact sglF_len h r
  · simp
theorem BldG.wth {α : Type} {E : Elt α} {er e : TypeId} {base rb tp lo hi : Nat} {w w' : World} {v : Value} {xss : List (List α)} (h : BldG E er e base rb tp w v xss) (hw : Within lo hi w w') (hb : hi ≤ base) (hr : hi ≤ rb) : BldG E er e base rb tp w' v xss := by
  obtain ⟨hs, h1, h2, h3, h4⟩ := h
  exact ⟨hs, h1.within hw hb, h2, fun i x xs e1 e2 => (h3 i x xs e1 e2).within hw hr, h4⟩
set_option maxHeartbeats 1000000 in
theorem SingleFaults_c {xs : List Int} {r : ReportT} {v : Value} {w : World} {A : Nat} (ha : RdI A w v xs) (hr : okReport r) (ht : PowAt w) :
    Calls Tryd.prog 12 #[v, vReport r] w fun e w' => ∃ u0, e = .returned (.tuple #[u0, .int .i64 (SFC xs)]) ∧ OwnFaultS w.heap.size w' u0 (SFR xs r) ∧ Below w.heap.size w w' := by
  have hb0 : Below w.heap.size w (w.alloc (.cells #[.int .i64 r.count, .int .i64 r.sum, .int .i64 r.digits] 29)) := (Below.refl _ _).alloc (Nat.le_refl _) _
  have ha0 := Rds.onn ha hb0
  have ht0 := ht.below hb0
  obtain ⟨ao, cap, rfl⟩ := ha.shape
  have Ha0 := Lib.hid ha0
  have Ht0 := Lib.hid ht0
  have Hb0 := Lib.hid hb0
  have Hr := Lib.hid hr
  clear ha ha0 ht ht0 hb0 hr
  cases hx : amtOk xs with
  | false =>
    have e1 : SFC xs = 1 := by unfold SFC; rw [hx]; rfl
    have e2 : SFR xs r = [] := by unfold SFR; rw [hx]; rfl
    rw [e1, e2]
    have Hx := Lib.hid hx
    clear hx e1 e2
    go_enter Tryd.func12, Tryd.ntmps12
    go_wp2_with fail
    with_reducible refine (ValidAmounts_c Ha0.out).mono ?_
    rw [Hx.out]
    rintro e w' ⟨rfl, rfl⟩
    go_wp2
    go_ret2
    exact ⟨_, rfl, Own.nil _ _ _ _, Hb0.out⟩
  | true =>
    obtain ⟨i0, hi, hz0, hz1, hz2⟩ := info_parts infoFaultN
    have e1 : SFC xs = 0 := by unfold SFC; rw [if_pos hx]
    have e2 : SFR xs r = sglF xs r := by unfold SFR; rw [if_pos hx]
    rw [e1, e2]
    obtain ⟨N, hN⟩ : ∃ N, N = w.heap.size := ⟨_, rfl⟩
    obtain ⟨W0, hW0⟩ : ∃ W0, W0 = (w.alloc (.cells #[.int .i64 r.count, .int .i64 r.sum, .int .i64 r.digits] 29)).alloc (.cells #[] 40) := ⟨_, rfl⟩
    have hs1 : (w.alloc (.cells #[.int .i64 r.count, .int .i64 r.sum, .int .i64 r.digits] 29)).heap.size = N + 1 := by rw [hN]; simp
    have hs0 : W0.heap.size = N + 1 + 1 := by rw [hW0, hN]; simp
    have hO0 : OwnFaultS N W0 (.slice (some ⟨N + 1, 0, none⟩) 0 0) [] := by
      have h := Own.lit (E := eFault) (e := 40) (base := N) (w := w.alloc (.cells #[.int .i64 r.count, .int .i64 r.sum, .int .i64 r.digits] 29)) (xs := []) (cs := #[]) (n := 0) (by omega) rfl rfl (by decide) (fun x hx => by cases hx)
      rw [hs1] at h
      rw [hW0]
      exact h
    have hb01 : Below (N + 1) (w.alloc (.cells #[.int .i64 r.count, .int .i64 r.sum, .int .i64 r.digits] 29)) W0 := by rw [hW0, ← hs1]; exact (Below.refl _ _).alloc (Nat.le_refl _) _
    have ha1 := Ha0.out.onn (show Below (w.alloc (.cells #[.int .i64 r.count, .int .i64 r.sum, .int .i64 r.digits] 29)).heap.size _ W0 by rw [hs1]; exact hb01)
    have ht1 := Ht0.out.below (show Below (w.alloc (.cells #[.int .i64 r.count, .int .i64 r.sum, .int .i64 r.digits] 29)).heap.size _ W0 by rw [hs1]; exact hb01)
    have hbN : Below N w W0 := by rw [hN] at hb01 ⊢; exact Hb0.out.trans (hb01.mono (by omega))
    have Ha1 := Lib.hid ha1
    have Ht1 := Lib.hid ht1
    have HbN := Lib.hid hbN
    have HO0 := Lib.hid hO0
    have HW0 := Lib.hid hW0
    have HN := Lib.hid hN
    have Hs0 := Lib.hid hs0
    have Hx := Lib.hid hx
    rw [← hN]
    clear hx e1 e2 hW0 hs1 hs0 hO0 hb01 ha1 ht1 hbN hN
    go_enter Tryd.func12, Tryd.ntmps12
    go_wp2_with fail
    with_reducible refine (ValidAmounts_c Ha0.out).mono ?_
    rw [Hx.out]
    rintro e w' ⟨rfl, rfl⟩
    go_wp2_with fail
    rw [← HN.out, ← HW0.out]
    with_reducible refine (explan1_c Ha1.out Hx.out Hr.out Ht1.out).mono ?_
    rintro e w1 ⟨u, rfl, hu, hb1⟩
    have hex : explF xs r 1 = (sglF xs r).map fun f => [f] := by unfold explF; rw [if_neg (by decide), if_pos rfl]
    rw [hex, Hs0.out] at hu
    have hsl := sglF_len Hx.out r
    generalize hS : sglF xs r = S at hu hsl
    have HS := Lib.hid hS
    clear hS
    obtain ⟨m, hm⟩ : ∃ m, m = S.length := ⟨_, rfl⟩
    obtain ⟨uo, uc, hue⟩ := hu.shape
    rw [List.length_map, ← hm] at hue
    subst hue
    have hO1 := HO0.out.below hb1 (Nat.le_refl _)
    have hs1 : N + 1 + 1 ≤ w1.heap.size := by have := hb1.size; have := Hs0.out; omega
    have Hu := Lib.hid hu
    have HO1 := Lib.hid hO1
    have Hb1 := Lib.hid (HbN.out.trans (hb1.mono (by have := Hs0.out; omega)))
    have Hm := Lib.hid hm
    rw [← hm] at hsl
    clear hu hO1 hb1 hm hex HO0
    go_wp2
    go_loopw [17, 6] (fun iv ov wr => ∃ k : Nat, k ≤ m ∧ iv = .int .i64 k ∧ OwnFaultS N wr ov (S.take k) ∧ Within (N + 1) (N + 1 + 1) w1 wr ∧ (∀ y, ov.ownBlock = some y → y = N + 1 ∨ w1.heap.size ≤ y)) (fun iv _ _ => m - (intOf iv).toNat)
    case atStart => exact ⟨0, Nat.zero_le _, rfl, HO1.out, Within.refl _ _ _, fun y hy => .inl (Option.some.inj hy).symm⟩
    case round =>
      obtain ⟨k, hk, rfl, hO, hw, ho⟩ := hrel
      clear HO1
      by_cases hkm : k < m
      · have hfk : S[k]? = some (S[k]'(by have := Hm.out; omega)) := List.getElem?_eq_getElem (by have := Hm.out; omega)
        generalize S[k]'(by have := Hm.out; omega) = f at hfk
        have huw := Hu.out.wth hw (Nat.le_refl _) (Nat.le_refl _)
        obtain ⟨g, off, cap2, ro, rc, hv, hcell, hrow⟩ := huw.at (k := k) (xs := [f]) (by rw [List.getElem?_map, hfk]; rfl)
        rw [List.length_map, ← Hm.out] at hv
        injection hv with h1 h2 h3
        subst h1
        clear h2 h3
        obtain ⟨fo, fcap, hsh, hfo⟩ := eFault_open hrow.1.rds
        injection hsh with h1 h2 h3
        subst h1
        clear h2 h3
        obtain ⟨fb, foff, rfl, hfl, hfc⟩ := hfo (by simp)
        obtain ⟨y, hy, ⟨c0, c1, c2, c3⟩, hyo⟩ := hfc 0 (by simp)
        obtain rfl : f = y := by simpa using hy
        simp only [Nat.zero_mul, Nat.add_zero] at c0 c1 c2 c3
        have hkmi : (k : Int) < (m : Int) := by omega
        have hlk : (S.take k).length = k := by rw [List.length_take, ← Hm.out]; omega
        have hsn := take_snoc hfk
        have hsz := hw.size
        have HO := Lib.hid hO
        have Hw := Lib.hid hw
        have Ho := Lib.hid ho
        have Hyo : Hid (okFault f) := Lib.hid hyo
        have Hlk := Lib.hid hlk
        have Hsn := Lib.hid hsn
        clear hO hw ho hyo hlk hsn hfk huw hrow hfo hfc hy
        go_wp2_with (first | (at_builtin; refine wpList_appS (E := eFault) rfl _ _ 25 rfl Tryd.underlying25 hi hz0 hz1 hz2 rfl (by decide) rfl rfl (HO.out.alloc _) (rds_one (E := eFault) (x := f) Hyo.out rfl) ?b1 ?b2 ?b3 ?_))
        case b1 => rw [Hlk.out]; unfold maxLen; (try simp) <;> omega
        case b2 => rw [Hlk.out]; (try simp) <;> omega
        case b3 => (try simp) <;> omega
        intro v6 w6 hO6 hg6
        have hg6' := hg6.alloc
        have hwx := wth_grown Hw.out hg6'.1 (fun y hy => by rcases Ho.out y hy with h | h <;> omega)
        have hox : ∀ y, v6.ownBlock = some y → y = N + 1 ∨ w1.heap.size ≤ y := by
          intro y hy
          rcases hg6'.2 with h | ⟨y', h, hl'⟩
          · rw [h] at hy; exact Ho.out y hy
          · rw [h] at hy
            have h2 := Option.some.inj hy
            right; omega
        have HO6 := Lib.hid hO6
        have Hwx := Lib.hid hwx
        have Hox := Lib.hid hox
        clear hO6 hg6 hg6' hwx hox hcell c0 c1 c2 c3
        go_wp2
        go_roundw
        case rel => exact ⟨k + 1, by omega, by go_num, by rw [Hsn.out]; exact HO6.out, Hwx.out, Hox.out⟩
        case measure => simp [intOf]; omega
      · obtain rfl : k = m := by omega
        rw [List.take_of_length_le (by have := Hm.out; omega)] at hO
        obtain ⟨oa, oc, rfl⟩ := hO.shape
        have HO := Lib.hid hO
        have Hbf := Lib.hid (Hb1.out.trans ((hw.below (show N + 1 ≤ w1.heap.size by omega)).mono (show N ≤ N + 1 by omega)))
        clear hO hw ho
        go_wp2
        go_ret2
        exact ⟨_, rfl, by rw [HS.out]; exact HO.out, Hbf.out⟩
end Go.Proofs.YtahkkdkdaedioaaDoor
