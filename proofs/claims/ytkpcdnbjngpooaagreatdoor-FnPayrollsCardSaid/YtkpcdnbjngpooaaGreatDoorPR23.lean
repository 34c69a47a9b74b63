/- Capital letters: the program's and the reference's, each by its contract. No condition. -/
import Derived.Test.YtkpcdnbjngpooaaGreatDoorPR21
import Derived.Lib.ConvBytes
namespace Go.Proofs.YtkpcdnbjngpooaaGreatDoor
open Go.ChangeShapes Go.WideShapes Go.ChangeAt Go.RowKit
set_option linter.unusedVariables false
set_option maxRecDepth 100000
/-- bytes in a block, free to be written -/
structure RowB (w : World) (g : Nat) (L : List Int) : Prop where
  lt : g < w.heap.size
  cell : ∀ (j : Nat) (c : Int), L[j]? = some c → w.cell? ⟨g, j, none⟩ = some (.int .u8 c)
  free : ∀ j : Nat, j < L.length → w.frozen? ⟨g, j, none⟩ = false
theorem RowB.set1 {w : World} {g j : Nat} {L : List Int} (h : RowB w g L) (hj : j < L.length) (c : Int) : RowB (w.setCell ⟨g, j, none⟩ (.int .u8 c)) g (L.set j c) := by
  refine ⟨by simpa using h.lt, fun i u hi => ?_, fun i hi => by rw [List.length_set] at hi; rw [← h.free i hi]; simp [go_sem]⟩
  rw [List.getElem?_set] at hi
  by_cases e : j = i
  · subst e
    rw [if_pos rfl, if_pos hj] at hi
    cases hi
    have hu := h.cell j L[j] (by simp [hj])
    simp [go_sem, hu]
  · rw [if_neg e] at hi
    have hu := h.cell i u hi
    rw [← hu]
    have hne : ¬ i = j := fun h => e h.symm
    simp [go_sem]
theorem conv_bytes (s : ByteArray) (w : World) : ∃ (W : World) (C : Nat), (convert 9 22 (.string s)).run Tryz.prog w = .ok (.slice (some ⟨w.heap.size, 0, none⟩) s.size C) W ∧ RowB W w.heap.size (bytesI s) ∧ Below w.heap.size w W := by
  refine ⟨_, _, Lib.run_convert_string_bytes w 9 22 5 s Tryz.underlying9 Tryz.underlying22 Tryz.underlying5, ⟨by rw [Lib.bytesWorld_size]; omega, fun j c hj => ?_, fun j hj => ?_⟩, ?_⟩
  · have hjl := (List.getElem?_eq_some_iff.1 hj).1
    rw [bytesI_length] at hjl
    rw [Lib.bytesWorld_cell w 5 s j hjl]
    have h2 := bytesI_at s j hjl
    rw [hj] at h2
    rw [Option.some.inj h2]
    rw [List.getD_eq_getElem?_getD, List.getElem?_eq_getElem (by simpa using hjl)]
    rfl
  · rw [bytesI_length] at hj
    have hsz : s.size ≤ (Lib.bytesCells w 5 s).size := by unfold Lib.bytesCells; simp; try omega
    unfold World.frozen?
    rw [Lib.bytesWorld_at_new]
    simp
    omega
  · refine ⟨?_, ?_, ?_, by rw [Lib.bytesWorld_size]; omega, fun i hi => Lib.bytesWorld_at_old w 5 s i hi⟩ <;> rfl
theorem conv_back {w : World} {g n cap : Nat} {L : List Int} (h : RowB w g L) (hn : L.length = n) (hb : ∀ c ∈ L, 0 ≤ c ∧ c ≤ 255) : (convert 22 9 (.slice (some ⟨g, 0, none⟩) n cap)).run Tryz.prog w = .ok (.string (toB L)) w := by
  have hl : n = (toB L).data.toList.length := by rw [← hn]; unfold toB; simp
  have hbt := bytesI_toB hb
  rw [hl]
  refine run_convert_bytes_back w 22 9 5 ⟨g, 0, none⟩ cap (toB L).data.toList Tryz.underlying22 Tryz.underlying5 Tryz.underlying9 (fun j hj => ?_)
  have hj2 : j < (toB L).size := by simpa using hj
  have h2 := bytesI_at (toB L) j hj2
  rw [hbt] at h2
  rw [show (⟨g, 0, none⟩ : Addr).add j = ⟨g, j, none⟩ by rw [Addr.add_lit, Nat.zero_add]]
  rw [h.cell j _ h2]
  rfl
def lk (l : List Int) (k : Nat) : List Int := (l.take k).map capI ++ l.drop k
theorem lk_len (l : List Int) (k : Nat) : (lk l k).length = l.length := by unfold lk; simp; omega
theorem lk_at {l : List Int} {k : Nat} {c : Int} (h : l[k]? = some c) : (lk l k)[k]? = some c := by
  have hk := at_lt h
  unfold lk
  rw [List.getElem?_append_right (by simp; omega)]
  simp only [List.length_map, List.length_take]
  rw [List.getElem?_drop, show k + (k - min k l.length) = k by omega]
  exact h
theorem lk_succ {l : List Int} {k : Nat} {c : Int} (h : l[k]? = some c) : (lk l k).set k (capI c) = lk l (k + 1) := by
  have hk := at_lt h
  unfold lk
  rw [List.set_append_right _ _ (by simp; omega), take_snoc h, List.map_append]
  have e : k - ((l.take k).map capI).length = 0 := by simp; omega
  rw [e]
  have hd : l.drop k = c :: l.drop (k + 1) := by
    rw [List.drop_eq_getElem_cons hk]
    rw [List.getElem?_eq_getElem hk] at h
    rw [Option.some.inj h]
  rw [hd]
  simp
theorem lk_same {l : List Int} {k : Nat} {c : Int} (h : l[k]? = some c) (hc : capI c = c) : lk l (k + 1) = lk l k := by
  rw [← lk_succ h, hc]
  apply List.ext_getElem?
  intro i
  rw [List.getElem?_set]
  by_cases e : k = i
  · subst e
    rw [if_pos rfl, if_pos (by rw [lk_len]; exact at_lt h), lk_at h]
  · rw [if_neg e]
theorem lk_end (l : List Int) : lk l l.length = l.map capI := by unfold lk; rw [List.take_length, List.drop_length, List.append_nil]
theorem bytesI_bd (s : ByteArray) : ∀ c ∈ bytesI s, 0 ≤ c ∧ c ≤ 255 := by
  intro c hc
  unfold bytesI at hc
  obtain ⟨b, _, rfl⟩ := List.mem_map.1 hc
  have := b.toNat_lt
  omega
theorem cap_bd {l : List Int} (h : ∀ c ∈ l, 0 ≤ c ∧ c ≤ 255) : ∀ c ∈ l.map capI, 0 ≤ c ∧ c ≤ 255 := by
  intro c hc
  obtain ⟨d, hd, rfl⟩ := List.mem_map.1 hc
  have := h d hd
  unfold capI
  split <;> omega
theorem capital_c (s : ByteArray) (w : World) (hs : s.size ≤ 9223372036854775807) : Calls Tryz.prog 36 #[.string s] w fun e w' => e = .returned (.string (capB s)) ∧ Below w.heap.size w w' := by
  obtain ⟨W1, C, hcv, hrow, hbel⟩ := conv_bytes s w
  obtain ⟨l, hl⟩ : ∃ l, l = bytesI s := ⟨_, rfl⟩
  have hlen : l.length = s.size := by rw [hl]; exact bytesI_length s
  have hbd : ∀ c ∈ l, 0 ≤ c ∧ c ≤ 255 := by rw [hl]; exact bytesI_bd s
  rw [← hl] at hrow
  have hfin : toB (l.map capI) = capB s := by rw [hl]; rfl
  have HR0 : Hid (RowB W1 w.heap.size (lk l 0)) := Lib.hid (by unfold lk; simpa using hrow)
  have HB0 := Lib.hid hbel
  have Hlen := Lib.hid hlen
  have Hbd := Lib.hid hbd
  have Hfin := Lib.hid hfin
  clear hrow hbel hl hlen hbd hfin
  go_enter Tryz.func36, Tryz.ntmps36
  go_wp2_with fail
  clear hcv
  go_loopw [10] (fun i wr => ∃ k : Nat, k ≤ s.size ∧ i = .int .i64 k ∧ RowB wr w.heap.size (lk l k) ∧ Below w.heap.size w wr) (fun i _ => s.size - (intOf i).toNat)
  case atStart => exact ⟨0, Nat.zero_le _, rfl, HR0.out, HB0.out⟩
  case round =>
    obtain ⟨k, hk, rfl, hR, hb⟩ := hrel
    clear HR0 HB0
    by_cases hkn : k < s.size
    · obtain ⟨c, hc⟩ : ∃ c, l[k]? = some c := ⟨l[k]'(by have := Hlen.out; omega), by simp⟩
      have hcb := Hbd.out c (List.mem_of_getElem? hc)
      obtain ⟨hcb1, hcb2⟩ := hcb
      have d0 := hR.cell k c (lk_at hc)
      have f0 := hR.free k (by rw [lk_len]; have := Hlen.out; omega)
      have hlt := hR.lt
      by_cases h1 : 97 ≤ c ∧ c ≤ 122
      · have H1 := Lib.hid h1
        have hst := hR.set1 (j := k) (by rw [lk_len]; have := Hlen.out; omega) (c - 97 + 65)
        rw [show c - 97 + 65 = capI c by unfold capI; rw [if_pos h1]; try omega, lk_succ hc, show capI c = c - 97 + 65 by unfold capI; rw [if_pos h1]; try omega] at hst
        have Hst := Lib.hid hst
        have Hb2 := Lib.hid (hb.setCell (p := ⟨w.heap.size, k, none⟩) (Nat.le_refl _) (.int .u8 (c - 97 + 65)))
        obtain ⟨h2, h3⟩ := h1
        clear hst hR hb hc
        go_wp2_with (go_at_call 68; refine (isSmall_yes _ _ H1.out).mono ?_; rintro e w' ⟨rfl, rfl⟩)
        go_roundw
        case rel => exact ⟨k + 1, by omega, by go_num, Hst.out, Hb2.out⟩
        case measure => simp [intOf]; omega
      · have H1 := Lib.hid h1
        have Hst : Hid (RowB wr w.heap.size (lk l (k + 1))) := Lib.hid (by rw [lk_same hc (show capI c = c by unfold capI; rw [if_neg h1])]; exact hR)
        have Hb2 := Lib.hid hb
        clear h1 hR hb hc
        go_wp2_with (go_at_call 68; refine (isSmall_no _ _ H1.out).mono ?_; rintro e w' ⟨rfl, rfl⟩)
        go_roundw
        case rel => exact ⟨k + 1, by omega, by go_num, Hst.out, Hb2.out⟩
        case measure => simp [intOf]; omega
    · obtain rfl : k = s.size := by omega
      have hR2 := hR
      rw [← Hlen.out, lk_end] at hR2
      have hcv := fun cap => conv_back (cap := cap) hR2 (n := s.size) (by rw [List.length_map]; exact Hlen.out) (cap_bd Hbd.out)
      rw [Hfin.out] at hcv
      have HB := Lib.hid hb
      clear hR hR2 hb
      go_wp2
      go_ret
      exact ⟨rfl, HB.out⟩
theorem l23Upper_c (s : ByteArray) (w : World) (hs : s.size ≤ 9223372036854775807) : Calls Tryz.prog 38 #[.string s] w fun e w' => e = .returned (.string (capB s)) ∧ Below w.heap.size w w' := by
  obtain ⟨W1, C, hcv, hrow, hbel⟩ := conv_bytes s w
  obtain ⟨l, hl⟩ : ∃ l, l = bytesI s := ⟨_, rfl⟩
  have hlen : l.length = s.size := by rw [hl]; exact bytesI_length s
  have hbd : ∀ c ∈ l, 0 ≤ c ∧ c ≤ 255 := by rw [hl]; exact bytesI_bd s
  rw [← hl] at hrow
  have hfin : toB (l.map capI) = capB s := by rw [hl]; rfl
  have HR0 : Hid (RowB W1 w.heap.size (lk l 0)) := Lib.hid (by unfold lk; simpa using hrow)
  have HB0 := Lib.hid hbel
  have Hlen := Lib.hid hlen
  have Hbd := Lib.hid hbd
  have Hfin := Lib.hid hfin
  clear hrow hbel hl hlen hbd hfin
  go_enter Tryz.func38, Tryz.ntmps38
  go_wp2_with fail
  clear hcv
  go_loopw [4] (fun i wr => ∃ k : Nat, k ≤ s.size ∧ i = .int .i64 k ∧ RowB wr w.heap.size (lk l k) ∧ Below w.heap.size w wr) (fun i _ => s.size - (intOf i).toNat)
  case atStart => exact ⟨0, Nat.zero_le _, rfl, HR0.out, HB0.out⟩
  case round =>
    obtain ⟨k, hk, rfl, hR, hb⟩ := hrel
    clear HR0 HB0
    by_cases hkn : k < s.size
    · obtain ⟨c, hc⟩ : ∃ c, l[k]? = some c := ⟨l[k]'(by have := Hlen.out; omega), by simp⟩
      have hcb := Hbd.out c (List.mem_of_getElem? hc)
      obtain ⟨hcb1, hcb2⟩ := hcb
      have d0 := hR.cell k c (lk_at hc)
      have f0 := hR.free k (by rw [lk_len]; have := Hlen.out; omega)
      have hlt := hR.lt
      by_cases h1 : 97 ≤ c ∧ c ≤ 122
      · have H1 := Lib.hid h1
        have hst := hR.set1 (j := k) (by rw [lk_len]; have := Hlen.out; omega) (c - 32)
        rw [show c - 32 = capI c by unfold capI; rw [if_pos h1]; try omega, lk_succ hc, show capI c = c - 32 by unfold capI; rw [if_pos h1]; try omega] at hst
        have Hst := Lib.hid hst
        have Hb2 := Lib.hid (hb.setCell (p := ⟨w.heap.size, k, none⟩) (Nat.le_refl _) (.int .u8 (c - 32)))
        obtain ⟨h2, h3⟩ := h1
        clear hst hR hb hc
        go_wp2_with (go_at_call 71; refine (l01Small_yes _ _ H1.out).mono ?_; rintro e w' ⟨rfl, rfl⟩)
        go_roundw
        case rel => exact ⟨k + 1, by omega, by go_num, Hst.out, Hb2.out⟩
        case measure => simp [intOf]; omega
      · have H1 := Lib.hid h1
        have Hst : Hid (RowB wr w.heap.size (lk l (k + 1))) := Lib.hid (by rw [lk_same hc (show capI c = c by unfold capI; rw [if_neg h1])]; exact hR)
        have Hb2 := Lib.hid hb
        clear h1 hR hb hc
        go_wp2_with (go_at_call 71; refine (l01Small_no _ _ H1.out).mono ?_; rintro e w' ⟨rfl, rfl⟩)
        go_roundw
        case rel => exact ⟨k + 1, by omega, by go_num, Hst.out, Hb2.out⟩
        case measure => simp [intOf]; omega
    · obtain rfl : k = s.size := by omega
      have hR2 := hR
      rw [← Hlen.out, lk_end] at hR2
      have hcv := fun cap => conv_back (cap := cap) hR2 (n := s.size) (by rw [List.length_map]; exact Hlen.out) (cap_bd Hbd.out)
      rw [Hfin.out] at hcv
      have HB := Lib.hid hb
      clear hR hR2 hb
      go_wp2
      go_ret
      exact ⟨rfl, HB.out⟩
end Go.Proofs.YtkpcdnbjngpooaaGreatDoor
