/- The text of operators: the reference's. No condition. -/
import Derived.Test.YtilgepapkigblaaDoorOpT
import Derived.Laws.BytesArg
namespace Go.Proofs.YtilgepapkigblaaDoor
open Go.ChangeShapes Go.WideShapes Go.ChangeAt Go.RowKit
set_option linter.unusedVariables false
set_option maxRecDepth 100000
theorem Tryd.infoU8t : (Tryd.prog.info? 5).map (fun i => (i.zero, i.size, i.bytes)) = some (some (.int .u8 0), 1, 1) := by kernel_rfl
theorem bytesI_app (a b : ByteArray) : bytesI (a ++ b) = bytesI a ++ bytesI b := by
  unfold bytesI
  rw [ByteArray.data_append, Array.toList_append, List.map_append]
theorem conv_own {base : Nat} {w : World} {v : Value} {T : ByteArray} (h : Own eB 5 base w v (bytesI T)) : (convert 28 9 v).run Tryd.prog w = .ok (.string T) w := by
  have hl : (bytesI T).length = T.data.toList.length := by simp [bytesI]
  rcases h.1.2 with ⟨hv, hn⟩ | ⟨g, cap, cur, hv, _⟩
  · have h0 : T.data.toList = [] := List.eq_nil_of_length_eq_zero (by omega)
    have hT : T = ⟨#[]⟩ := by
      cases T with
      | mk d => congr 1; exact Array.toList_inj.1 h0
    subst hT
    rw [hv]
    exact run_convert_bytes_nil _ 28 5 Tryd.underlying28 Tryd.underlying5 0 0 _ Tryd.underlying9
  · have hc := h.1.cells (g := g) (by rw [hv]; rfl)
    rw [hv, hl]
    refine run_convert_bytes_back w 28 9 5 ⟨g, 0, none⟩ cap T.data.toList Tryd.underlying28 Tryd.underlying5 Tryd.underlying9 (fun j hj => hc j _ ?_)
    rw [byteCells_bytesI]
    unfold byteCells
    have hj' : j < T.data.size := by simpa using hj
    simp [Array.getElem?_eq_getElem hj']
def NK (N : Nat) (W : World) : Prop := ∀ k, k < 6 → W.cell? ⟨N, k, none⟩ = some (.string (nmB k))
theorem app_keep {w wr w' : World} {s s' : Value} {N : Nat} {X : List Int} (hR : Own eB 5 w.heap.size wr s X) (hk : NK N wr) (hs : s.ownBlock ≠ some N) (hb : Below w.heap.size w wr) (hg : Grew wr w' s s') :
    NK N w' ∧ s'.ownBlock ≠ some N ∧ Below w.heap.size w w' := by
  have hN := World.block_lt_of_cell? wr _ (hk 0 (by decide))
  refine ⟨fun k h => hg.1.cell (hk k h) (fun e => hs e.symm), ?_, hg.below hb hb.size (fun q hq => (hR.lt q hq).1)⟩
  rcases hg.2 with e | ⟨k, e, hk2⟩
  · rw [e]; exact hs
  · rw [e]
    intro h
    injection h with h
    have : N < wr.heap.size := hN
    omega
set_option maxHeartbeats 1000000 in
theorem l22Text_c {xs : List OperatorT} {v : Value} {w : World} {A : Nat} (ha : RdOperatorS A w v xs) (hv : validOs xs = true) :
    Calls Tryd.prog 52 #[v] w fun e w' => e = .returned (.string (textO xs)) ∧ Below w.heap.size w w' := by
  have hle := ha.le
  obtain ⟨ao, cap, rfl, ho⟩ := eOperator_open ha.tight
  obtain ⟨hn8, hxs⟩ := validOs_parts hv
  obtain ⟨n, hnn⟩ : ∃ n, n = xs.length := ⟨_, rfl⟩
  rw [← hnn] at hn8 hle ho ⊢
  have Hxs := Lib.hid hxs
  have Ho := Lib.hid ho
  have Hnn := Lib.hid hnn
  obtain ⟨i0, hi, hz0, hz1, hz2⟩ := info_parts Tryd.infoU8t
  have HR0 : Hid (Own eB 5 w.heap.size (w.alloc (.cells #[] 5)) (.slice (some ⟨w.heap.size, 0, none⟩) 0 0) ([] : List Int)) := Lib.hid (Own.lit (E := eB) (xs := []) (cs := #[]) (Nat.le_refl _) rfl rfl (by decide) (fun x hx => by cases hx))
  clear ha ho hxs hnn hv
  go_enter Tryd.func52, Tryd.ntmps52
  go_wp2_with fail
  with_reducible refine (l22Names_c _).mono ?_
  rintro e w1 ⟨rfl, hc, hb⟩
  have HR1 := Lib.hid (HR0.out.below hb (Nat.le_refl _))
  have HB1 := Lib.hid (((Below.refl w.heap.size w).alloc (Nat.le_refl _) (.cells #[] 5)).trans (hb.mono (by simp)))
  have HK1 : Hid (NK (w.alloc (.cells #[] 5)).heap.size w1) := Lib.hid hc
  have hn1 : (Value.slice (some ⟨w.heap.size, 0, none⟩) 0 0).ownBlock ≠ some (w.alloc (.cells #[] 5)).heap.size := by simp [Value.ownBlock]
  have Hn1 := Lib.hid hn1
  obtain ⟨NB, hNB⟩ : ∃ NB, NB = (w.alloc (.cells #[] 5)).heap.size := ⟨_, rfl⟩
  rw [← hNB] at HK1 Hn1 ⊢
  clear hc hb HR0 hNB hn1
  go_wp2
  go_loopw [3, 5] (fun s i wr => ∃ k : Nat, k ≤ n ∧ i = .int .i64 k ∧ Own eB 5 w.heap.size wr s (bytesI (textO (xs.take k))) ∧ NK NB wr ∧ s.ownBlock ≠ some NB ∧ Below w.heap.size w wr) (fun _ i _ => n - (intOf i).toNat)
  case atStart => exact ⟨0, Nat.zero_le _, rfl, HR1.out, HK1.out, Hn1.out, HB1.out⟩
  case round =>
    obtain ⟨k, hk, rfl, hR, hK, hne, hb⟩ := hrel
    clear HR1 HK1 Hn1 HB1
    by_cases hkn : k < n
    · obtain ⟨b, off, rfl, lt, cc⟩ := Ho.out (by omega)
      obtain ⟨x, hx, ⟨x0, x1⟩, xb⟩ := cc k (by have := Hnn.out; omega)
      have d0 := (hb.cell (p := ⟨b, off + k * 2, none⟩) (by show b < w.heap.size; omega)).trans x0
      have Hx1 : Hid (∀ W, Below w.heap.size w W → W.cell? ⟨b, off + k * 2 + 1, none⟩ = some (.int .i64 x.skills)) := Lib.hid (fun W hW => (hW.cell (p := ⟨b, off + k * 2 + 1, none⟩) (by show b < w.heap.size; omega)).trans x1)
      have hxr := Hxs.out x (List.mem_of_getElem? hx)
      have hnm := (nameB_size hxr.1).2
      have hT := textO_size (xs := xs) (fun x hx => (nameB_size (Hxs.out x hx).1).2) k (by have := Hnn.out; omega)
      have hta := textO_take hx
      obtain ⟨T, hTe⟩ : ∃ T, T = textO (xs.take k) := ⟨_, rfl⟩
      rw [← hTe] at hT hta hR
      have Hta := Lib.hid hta
      have hTs : T.size ≤ 640 := by omega
      have h1s : (x.nm ++ (⟨#[58]⟩ : ByteArray)).size ≤ 13 := by rw [ByteArray.size_append]; have h2 : (⟨#[58]⟩ : ByteArray).size = 1 := rfl; omega
      have Hxs' := Lib.hid hxr.2
      obtain ⟨T1, hT1⟩ : ∃ T1, T1 = T ++ (x.nm ++ ⟨#[58]⟩) := ⟨_, rfl⟩
      have hT1s : T1.size ≤ 653 := by rw [hT1, ByteArray.size_append]; omega
      have Hrow : Hid (rowT T x = mT x T1 6 ++ ⟨#[10]⟩) := Lib.hid (by unfold rowT; rw [hT1])
      have HT1 : Hid (bytesI T ++ bytesI (x.nm ++ ⟨#[58]⟩) = bytesI T1) := Lib.hid (by rw [hT1]; exact (bytesI_app _ _).symm)
      have HR := Lib.hid hR
      have HK := Lib.hid hK
      have Hne := Lib.hid hne
      have HB := Lib.hid hb
      clear hx xb cc x0 x1 hta hTe hT1 hR hK hne hb
      go_wp2_with (first | (at_builtin; refine wpList_appStr rfl _ _ 28 9 rfl Tryd.underlying28 Tryd.underlying9 hi hz0 hz1 hz2 rfl rfl rfl HR.out ?b1 ?b2 ?b3 ?_))
      case b1 => rw [bytesI_length]; unfold maxLen; omega
      case b2 => rw [bytesI_length]; omega
      case b3 => exact HB.out.size
      intro s2 w2 hR2 hg
      obtain ⟨hK2, hne2, hb2⟩ := app_keep HR.out HK.out Hne.out HB.out hg
      rw [HT1.out] at hR2
      have HR2 := Lib.hid hR2
      have HK2 := Lib.hid hK2
      have Hne2 := Lib.hid hne2
      have HB2 := Lib.hid hb2
      clear hR2 hK2 hne2 hb2 hg HR HK Hne HB d0 HT1
      go_wp2
      go_loopw [3, 6] (fun s i wr => ∃ q : Nat, q ≤ 6 ∧ i = .int .i64 q ∧ Own eB 5 w.heap.size wr s (bytesI (mT x T1 q)) ∧ NK NB wr ∧ s.ownBlock ≠ some NB ∧ Below w.heap.size w wr) (fun _ i _ => 6 - (intOf i).toNat)
      case atStart => exact ⟨0, Nat.zero_le _, rfl, HR2.out, HK2.out, Hne2.out, HB2.out⟩
      case round =>
        obtain ⟨q, hq, rfl, hR, hK, hne, hb⟩ := hrel
        clear HR2 HK2 Hne2 HB2
        by_cases hq6 : q < 6
        · have hms := mT_size x T1 q
          have hmss : (mT x T1 q).size ≤ 719 := by omega
          have Hms : Hid (mT x T1 (q + 1) = if canB x.skills (q : Int) = true then mT x T1 q ++ (⟨#[32]⟩ ++ nmB q) else mT x T1 q) := Lib.hid rfl
          have hns := nmB_size q
          have hnc := hK q hq6
          have hx1 := Hx1.out _ hb
          obtain ⟨M, hM⟩ : ∃ M, M = mT x T1 q := ⟨_, rfl⟩
          obtain ⟨nb, hnb⟩ : ∃ nb, nb = nmB q := ⟨_, rfl⟩
          rw [← hM] at hmss Hms hR
          rw [← hnb] at Hms hns hnc
          have hns2 : ((⟨#[32]⟩ : ByteArray) ++ nb).size ≤ 11 := by rw [ByteArray.size_append]; have h2 : (⟨#[32]⟩ : ByteArray).size = 1 := rfl; omega
          have HR := Lib.hid hR
          have HK := Lib.hid hK
          have Hne := Lib.hid hne
          have HB := Lib.hid hb
          have hNb := World.block_lt_of_cell? wr _ hnc
          clear hR hK hne hb hM hnb hms
          go_wp2_with fail
          with_reducible refine (l22Can_c x _ _ Hxs'.out (by omega) hx1).mono ?_
          rintro e w2 ⟨rfl, rfl⟩
          cases hcan : canB x.skills (q : Int) with
          | true =>
            rw [hcan, if_pos rfl] at Hms
            go_wp2_with (first | (at_builtin; refine wpList_appStr rfl _ _ 28 9 rfl Tryd.underlying28 Tryd.underlying9 hi hz0 hz1 hz2 rfl rfl rfl HR.out ?b1 ?b2 ?b3 ?_))
            case b1 => rw [bytesI_length]; unfold maxLen; omega
            case b2 => rw [bytesI_length]; omega
            case b3 => exact HB.out.size
            intro s2 w2 hR2 hg
            obtain ⟨hK2, hne2, hb2⟩ := app_keep HR.out HK.out Hne.out HB.out hg
            rw [← bytesI_app, ← Hms.out] at hR2
            have HR2 := Lib.hid hR2
            have HK2 := Lib.hid hK2
            have Hne2 := Lib.hid hne2
            have HB2 := Lib.hid hb2
            clear hR2 hK2 hne2 hb2 hg HR HK Hne HB hx1 hnc
            go_wp2
            go_roundw
            case rel => exact ⟨q + 1, by omega, by go_num, HR2.out, HK2.out, Hne2.out, HB2.out⟩
            case measure => simp [intOf]; omega
          | false =>
            rw [hcan, if_neg (by decide)] at Hms
            go_wp2
            go_roundw
            case rel => exact ⟨q + 1, by omega, by go_num, by rw [Hms.out]; exact HR.out, HK.out, Hne.out, HB.out⟩
            case measure => simp [intOf]; omega
        · obtain rfl : q = 6 := by omega
          have hms := mT_size x T1 6
          have hmss : (mT x T1 6).size ≤ 719 := by omega
          have HR := Lib.hid hR
          have HK := Lib.hid hK
          have Hne := Lib.hid hne
          have HB := Lib.hid hb
          have Hq10 : eB.ok 10 := by show (0 : Int) ≤ 10 ∧ (10 : Int) ≤ 255; omega
          have HRw : Hid (bytesI (mT x T1 6) ++ [10] = bytesI (textO (xs.take (k + 1)))) := Lib.hid (by rw [Hta.out, Hrow.out, bytesI_app]; rfl)
          clear hR hK hne hb
          go_wp2_with (first | (at_builtin; refine wpList_appS (E := eB) rfl _ _ 28 rfl Tryd.underlying28 hi hz0 hz1 hz2 rfl (by decide) rfl rfl (HR.out.alloc _) (rds_one (E := eB) (x := 10) Hq10 rfl) ?b1 ?b2 ?b3 ?_))
          case b1 => rw [bytesI_length]; unfold maxLen; simp; omega
          case b2 => rw [bytesI_length]; simp; omega
          case b3 => have := HB.out.size; simp; omega
          intro s2 w2 hR2 hg
          have hg2 := hg.alloc
          obtain ⟨hK2, hne2, hb2⟩ := app_keep HR.out HK.out Hne.out HB.out hg2
          rw [HRw.out] at hR2
          have HR2 := Lib.hid hR2
          have HK2 := Lib.hid hK2
          have Hne2 := Lib.hid hne2
          have HB2 := Lib.hid hb2
          clear hR2 hK2 hne2 hb2 hg hg2 HR HK Hne HB
          go_wp2
          go_roundw
          case rel => exact ⟨k + 1, by omega, by go_num, HR2.out, HK2.out, Hne2.out, HB2.out⟩
          case measure => simp [intOf]; omega
    · obtain rfl : k = n := by omega
      rw [List.take_of_length_le (by have := Hnn.out; omega)] at hR
      have hcv := conv_own hR
      have HB := Lib.hid hb
      clear hR hK hne hb
      go_wp2
      go_ret
      exact ⟨rfl, HB.out⟩
theorem sOperatorsText_c {xs : List OperatorT} {v : Value} {w : World} {A : Nat} (ha : RdOperatorS A w v xs) :
    Calls Tryd.prog 24 #[v] w fun e w' => e = .returned (.string (OTV xs)) ∧ Below w.heap.size w w' := by
  obtain ⟨ao, cap, rfl⟩ := ha.shape
  have Ha := Lib.hid ha
  clear ha
  cases hv : validOs xs with
  | false =>
    have e1 : OTV xs = ⟨#[]⟩ := by unfold OTV; rw [hv]; rfl
    rw [e1]
    have Hv := Lib.hid hv
    clear hv e1
    go_enter Tryd.func24, Tryd.ntmps24
    go_wp2_with fail
    with_reducible refine (l22Ok_c Ha.out).mono ?_
    rw [Hv.out]
    rintro e w1 ⟨rfl, m, rfl⟩
    go_wp2
    go_ret
    exact ⟨rfl, (Below.refl _ _).drewNy _⟩
  | true =>
    have e1 : OTV xs = textO xs := by unfold OTV; rw [if_pos hv]
    rw [e1]
    have Hv := Lib.hid hv
    clear hv e1
    go_enter Tryd.func24, Tryd.ntmps24
    go_wp2_with fail
    with_reducible refine (l22Ok_c Ha.out).mono ?_
    rw [Hv.out]
    rintro e w1 ⟨rfl, m, rfl⟩
    go_wp2_with fail
    with_reducible refine (l22Text_c (Ha.out.drewN m) Hv.out).mono ?_
    rintro e w2 ⟨rfl, hb⟩
    go_wp2
    go_ret
    exact ⟨rfl, ((Below.refl _ _).drewNy m).trans hb⟩
end Go.Proofs.YtilgepapkigblaaDoor
