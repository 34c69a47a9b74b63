/- Lists of texts; a text cut at a byte: the reference's. No condition. -/
import Derived.Test.YtilgepapkigblaaDoorRdP
namespace Go.Proofs.YtilgepapkigblaaDoor
open Go.ChangeShapes Go.WideShapes Go.ChangeAt Go.RowKit
set_option linter.unusedVariables false
set_option maxRecDepth 100000
/-- texts -/
def eT : Elt ByteArray := { sz := 1, cells := fun x => [.string x], ok := fun x => x.size ≤ 9223372036854775807, len := fun _ => rfl, one := fun x u hu => by simp at hu; subst hu; rfl }
theorem RdT.open {w : World} {B : Nat} {v : Value} {xs : List ByteArray} (h : Rds eT B w v xs) : ∃ ao cap, v = .slice ao xs.length cap ∧
    (0 < xs.length → ∃ b off, ao = some ⟨b, off, none⟩ ∧ (b < B ∧ b < w.heap.size) ∧ ∀ k, k < xs.length → ∃ x, xs[k]? = some x ∧ w.cell? ⟨b, off + k, none⟩ = some (.string x) ∧ x.size ≤ 9223372036854775807) := by
  rcases h.cases with ⟨rfl, ao, cap, rfl, _⟩ | ⟨b, off, cap, rfl, hlt, hc⟩
  · exact ⟨ao, cap, rfl, fun h => absurd h (by simp)⟩
  · refine ⟨_, cap, rfl, fun _ => ⟨b, off, rfl, hlt, fun k hk => ?_⟩⟩
    obtain ⟨h1, h2⟩ := hc k xs[k] (by simp [hk])
    refine ⟨xs[k], by simp [hk], ?_, h1⟩
    have := h2 0 (by decide)
    simpa [eT] using this
theorem Tryd.infoString : (Tryd.prog.info? 9).map (fun i => (i.zero, i.size, i.bytes)) = some (some (.string ⟨#[]⟩), 1, 16) := by kernel_rfl
def mkT (p : List UInt8) : ByteArray := ⟨p.toArray⟩
theorem mkT_data (p : List UInt8) : (mkT p).data.toList = p := by simp [mkT]
theorem mkT_size (p : List UInt8) : (mkT p).size = p.length := by simp [mkT, ByteArray.size]
theorem mkT_self (s : ByteArray) : mkT s.data.toList = s := by simp [mkT]
/-- the parts of a text, as texts -/
def partsT (c : UInt8) (s : ByteArray) : List ByteArray := (parts c s.data.toList).map mkT
theorem extract_mk (s : ByteArray) (a b : Nat) : s.extract a b = mkT ((s.data.toList.drop a).take (b - a)) := by
  rw [← mkT_self (s.extract a b), Lib.extract_data]
theorem parts_len (c : UInt8) : ∀ l : List UInt8, (parts c l).length ≤ l.length + 1
  | [] => by simp [parts]
  | b :: l => by
    have ih := parts_len c l
    by_cases h : b = c
    · subst h; rw [parts_hit]; simp; omega
    · rw [parts_miss l h]
      have h2 : (parts c l).length = (parts c l).tail.length + 1 := by rw [parts_cons c l]; simp
      simp only [List.length_cons]
      omega
theorem parts_sub (c : UInt8) : ∀ (l : List UInt8) (p : List UInt8), p ∈ parts c l → p.length ≤ l.length
  | [], p, h => by simp [parts] at h; rw [h]; simp
  | b :: l, p, h => by
    have ih := parts_sub c l
    by_cases e : b = c
    · subst e
      rw [parts_hit] at h
      rcases List.mem_cons.1 h with rfl | h
      · simp
      · have := ih p h; simp; omega
    · rw [parts_miss l e] at h
      have h2 : (parts c l).headD [] ∈ parts c l := by rw [parts_cons c l]; simp
      have h3 : ∀ q ∈ (parts c l).tail, q ∈ parts c l := fun q hq => List.mem_of_mem_tail hq
      rcases List.mem_cons.1 h with rfl | h
      · have := ih _ h2; simp only [List.length_cons]; omega
      · have := ih p (h3 p h); simp only [List.length_cons]; omega
theorem drop_split {l : List UInt8} {j i : Nat} {c : UInt8} (hji : j ≤ i) (hi : l[i]? = some c) : l.drop j = (l.drop j).take (i - j) ++ c :: l.drop (i + 1) := by
  have h1 := (List.take_append_drop (i - j) (l.drop j)).symm
  rw [List.drop_drop, show j + (i - j) = i by omega] at h1
  obtain ⟨hl, he⟩ := List.getElem?_eq_some_iff.1 hi
  rw [List.drop_eq_getElem_cons hl, he] at h1
  exact h1
set_option maxHeartbeats 1000000 in
theorem l01Split_c (s : ByteArray) (c : UInt8) {cv : Int} (hcv : cv = (c.toNat : Int)) {w : World} (hs : s.size ≤ 1048576) :
    Calls Tryd.prog 30 #[.string s, .int .u8 cv] w fun e w' => ∃ u, e = .returned u ∧ Own eT 9 w.heap.size w' u (partsT c s) ∧ Below w.heap.size w w' := by
  obtain ⟨i0, hi, hz0, hz1, hz2⟩ := info_parts Tryd.infoString
  have hlit : Own eT 9 w.heap.size (w.alloc (.cells #[] 9)) (.slice (some ⟨w.heap.size, 0, none⟩) 0 0) [] :=
    Own.lit (E := eT) (xs := []) (cs := #[]) (Nat.le_refl _) rfl rfl (by decide) (fun x hx => by cases hx)
  have hb0 : Below w.heap.size w (w.alloc (.cells #[] 9)) := (Below.refl _ _).alloc (Nat.le_refl _) _
  have Hlit := Lib.hid hlit
  have Hb0 := Lib.hid hb0
  have Hcv := Lib.hid hcv
  have hcb : 0 ≤ cv ∧ cv ≤ 255 := by have := c.toNat_lt; omega
  obtain ⟨hc0, hc1⟩ := hcb
  obtain ⟨L, hL⟩ : ∃ L, L = s.data.toList := ⟨_, rfl⟩
  have hLs : L.length = s.size := by rw [hL]; exact Array.length_toList
  have HL := Lib.hid hL
  have HLs := Lib.hid hLs
  clear hlit hb0 hcv hL hLs
  go_enter Tryd.func30, Tryd.ntmps30
  go_wp2
  go_loopw [5, 6, 7] (fun v fv iv wr => ∃ (i j : Nat) (done : List (List UInt8)), j ≤ i ∧ i ≤ s.size ∧ iv = .int .i64 i ∧ fv = .int .i64 j ∧ done.length ≤ i ∧ Hid (parts c L = done ++ parts c (L.drop j)) ∧ Hid (∀ b ∈ (L.drop j).take (i - j), b ≠ c) ∧ Own eT 9 w.heap.size wr v (done.map mkT) ∧ Below w.heap.size w wr) (fun _ _ iv _ => s.size - (intOf iv).toNat)
  case atStart => exact ⟨0, 0, [], Nat.le_refl _, Nat.zero_le _, rfl, rfl, by simp, Lib.hid rfl, Lib.hid (fun b hb => by simp at hb), Hlit.out, Hb0.out⟩
  case round =>
    obtain ⟨i, j, done, hji, his, rfl, rfl, hdl, hp, hf, hown, hb⟩ := hrel
    clear Hlit Hb0
    have hsz := hb.size
    have hdl2 : (done.map mkT).length ≤ 1048576 := by rw [List.length_map]; omega
    by_cases hlt : i < s.size
    · have hat : L[i]? = some s[i] := by rw [HL.out]; exact Lib.data_getElem? s i hlt
      have Hown := Lib.hid hown
      have Hb := Lib.hid hb
      by_cases hc : s[i] = c
      · have hq : ((s[i].toNat : Int) == cv) = true := by rw [hc, Hcv.out]; simp
        have hsp := drop_split hji (by rw [hat, hc])
        have hpp : parts c (L.drop j) = (L.drop j).take (i - j) :: parts c (L.drop (i + 1)) := by
          conv => lhs; rw [hsp]
          exact parts_app hf.out
        have hex : s.extract j i = mkT ((L.drop j).take (i - j)) := by rw [HL.out]; exact extract_mk s j i
        have Hnew : Hid (parts c L = (done ++ [(L.drop j).take (i - j)]) ++ parts c (L.drop (i + 1))) := Lib.hid (by rw [hp.out, hpp]; simp)
        have hes : (s.extract j i).size ≤ 1048576 := by rw [ByteArray.size_extract]; omega
        have Hex := Lib.hid hex
        have Hdl := Lib.hid hdl2
        clear hat hc hsp hpp hex hown hb hp hf hdl2
        go_wp2_with (first | (at_builtin; refine wpList_appS (E := eT) rfl _ _ 47 rfl Tryd.underlying47 hi hz0 hz1 hz2 rfl (by decide) rfl rfl (Hown.out.alloc _) (rds_one (E := eT) (x := s.extract j i) (by show (s.extract j i).size ≤ 9223372036854775807; omega) rfl) ?b1 ?b2 ?b3 ?_))
        case b1 => have := Hdl.out; unfold maxLen; simp only [List.length_cons, List.length_nil]; omega
        case b2 => have := Hdl.out; simp only [List.length_cons, List.length_nil]; omega
        case b3 => first | (simp; omega) | omega
        intro v' w4 hown4 hg4
        have hb4 := hg4.alloc.below Hb.out hsz (fun z hz => (Hown.out.lt z hz).1)
        rw [Hex.out] at hown4
        have Hown4 := Lib.hid hown4
        have Hb4 := Lib.hid hb4
        clear hg4 hown4 hb4 hq
        go_wp2
        go_roundw
        case rel => exact ⟨i + 1, i + 1, done ++ [(L.drop j).take (i - j)], Nat.le_refl _, by omega, by go_num, by go_num, by simp; omega, Hnew, Lib.hid (fun b hb => by simp at hb), by rw [List.map_append]; exact Hown4.out, Hb4.out⟩
        case measure => simp [intOf]; omega
      · have hq : ((s[i].toNat : Int) == cv) = false := by
          rw [Hcv.out, beq_eq_false_iff_ne]
          intro h
          exact hc (UInt8.toNat_inj.1 (by omega))
        have Hf2 : Hid (∀ b ∈ (L.drop j).take (i + 1 - j), b ≠ c) := Lib.hid (fun b hb => by
          have e : (L.drop j)[i - j]? = some s[i] := by rw [List.getElem?_drop, show j + (i - j) = i by omega]; exact hat
          rw [show i + 1 - j = (i - j) + 1 by omega, take_snoc e] at hb
          rcases List.mem_append.1 hb with hb | hb
          · exact hf.out b hb
          · rw [List.mem_singleton] at hb; rw [hb]; exact hc)
        clear hat hc hown hb hf hdl2
        go_wp2
        go_roundw
        case rel => exact ⟨i + 1, j, done, by omega, by omega, by go_num, by first | rfl | go_num, by omega, hp, Hf2, Hown.out, Hb.out⟩
        case measure => simp [intOf]; omega
    · obtain rfl : i = s.size := by omega
      have hall : (L.drop j).take (s.size - j) = L.drop j := List.take_of_length_le (by rw [List.length_drop]; have := HLs.out; omega)
      have hfr := hf.out
      rw [hall] at hfr
      have Hp2 : Hid (partsT c s = done.map mkT ++ [s.extract j s.size]) := Lib.hid (by
        unfold partsT
        rw [← HL.out, hp.out, parts_end hfr, List.map_append, extract_mk s j s.size, ← HL.out, hall]
        rfl)
      have hes : (s.extract j s.size).size ≤ 1048576 := by rw [ByteArray.size_extract]; omega
      have Hown := Lib.hid hown
      have Hb := Lib.hid hb
      have Hdl := Lib.hid hdl2
      clear hall hfr hown hb hp hf hdl2
      go_wp2_with (first | (at_builtin; refine wpList_appS (E := eT) rfl _ _ 47 rfl Tryd.underlying47 hi hz0 hz1 hz2 rfl (by decide) rfl rfl (Hown.out.alloc _) (rds_one (E := eT) (x := s.extract j s.size) (by show (s.extract j s.size).size ≤ 9223372036854775807; omega) rfl) ?c1 ?c2 ?c3 ?_))
      case c1 => have := Hdl.out; unfold maxLen; simp only [List.length_cons, List.length_nil]; omega
      case c2 => have := Hdl.out; simp only [List.length_cons, List.length_nil]; omega
      case c3 => first | (simp; omega) | omega
      intro v' w4 hown4 hg4
      have hb4 := hg4.alloc.below Hb.out hsz (fun z hz => (Hown.out.lt z hz).1)
      rw [← Hp2.out] at hown4
      have Hown4 := Lib.hid hown4
      have Hb4 := Lib.hid hb4
      clear hg4 hown4 hb4
      go_wp2
      go_ret
      exact ⟨_, rfl, Hown4.out, Hb4.out⟩
end Go.Proofs.YtilgepapkigblaaDoor
