/- What columns say: the reference's characters and texts, each by its contract. No condition. -/
import Derived.Test.YtfieilbcdhbigaaGreatDoorTxt
import Derived.Test.YtfieilbcdhbigaaGreatDoorQB
namespace Go.Proofs.YtfieilbcdhbigaaGreatDoor
open Go.ChangeShapes Go.WideShapes Go.ChangeAt Go.RowKit Go.Sort
set_option linter.unusedVariables false
set_option maxRecDepth 100000
theorem l03Order_c (w : World) : Calls Tryz.prog 130 #[] w fun e w' => e = .returned (.string charsB) ∧ w = w' := by
  go_enter Tryz.func130, Tryz.ntmps130
  go_wp2
  go_ret
  exact ⟨rfl, rfl⟩
theorem l03Char_c (m : Int) (w : World) : Calls Tryz.prog 105 #[.int .i64 m] w fun e w' => e = .returned (.tuple #[.int .u8 (if rkI m < 0 then 0 else chrI m), .bool (!noCh m)]) ∧ w = w' := by
  obtain ⟨S, hS⟩ : ∃ S, S = charsB := ⟨_, rfl⟩
  have hsz : S.size = 40 := by rw [hS]; decide +kernel
  have hix0 : ∀ (k : Nat), k < 40 → ∀ w, (Instr.index 9 (.string S) (.int .i64 (k : Int))).run Tryz.prog w = .ok (.int .u8 (chA k)) w := by intro k hk w; rw [hS]; exact chars_run hk w
  have Hix := Lib.hid hix0
  have ho := l03Order_c w
  rw [← hS] at ho
  have Ho := Lib.hid ho
  obtain ⟨r, hr⟩ : ∃ r, r = (if rkI m < 0 then 0 else chrI m) := ⟨_, rfl⟩
  obtain ⟨t, ht⟩ : ∃ t, t = !noCh m := ⟨_, rfl⟩
  rw [← hr, ← ht]
  have Hr := Lib.hid hr
  have Ht := Lib.hid ht
  clear ho hS hix0 hr ht
  go_enter Tryz.func105, Tryz.ntmps105
  go_wp2_with fail
  with_reducible refine Ho.out.mono ?_
  rintro e w' ⟨rfl, rfl⟩
  go_wp2
  go_loop [5] (fun i => ∃ k : Nat, k ≤ 40 ∧ i = .int .i64 k ∧ Hid (∀ j, j < k → codeI (chA j) ≠ m)) (fun i => 40 - (intOf i).toNat)
  case atStart => exact ⟨0, by decide, rfl, fun j hj => absurd hj (Nat.not_lt_zero _)⟩
  case round =>
    obtain ⟨k, hk, rfl, hp⟩ := hrel
    by_cases hkn : k < 40
    · have hix := Hix.out k hkn
      have hcb := chA_bd ⟨k, hkn⟩
      have Hcb := Lib.hid hcb
      obtain ⟨c, hc⟩ : ∃ c, c = chA k := ⟨_, rfl⟩
      rw [← hc] at hix
      have Hc := Lib.hid hc
      have hc0 : 0 ≤ c ∧ c ≤ 255 := by rw [hc]; exact ⟨hcb.1, hcb.2.1⟩
      have Hc0 := Lib.hid hc0
      have hki : (k : Int) < 40 := by omega
      clear hcb hc hc0
      cases hq : (codeI c == m) with
      | true =>
        have Hq := Lib.hid (beq_iff_eq.1 hq)
        go_wp2_with fail
        with_reducible refine (l03Code_c c _ Hc0.out).mono ?_
        rintro e w' ⟨rfl, rfl⟩
        go_wp2
        go_ret2
        have hr := rk_found hkn (by rw [← Hc.out]; exact Hq.out) hp.out
        have hn : noCh m = false := by unfold noCh; rw [hr]; exact decide_eq_false (by omega)
        have hch : chrI m = c := by unfold chrI; rw [hr, Int.toNat_natCast, Hc.out]
        have e1 : r = c := by rw [Hr.out, if_neg (by rw [hr]; omega), hch]
        have e2 : t = true := by rw [Ht.out, hn]; rfl
        rw [e1, e2]
        exact ⟨rfl, rfl⟩
      | false =>
        have Hq : Hid (codeI c ≠ m) := Lib.hid (by simpa using hq)
        go_wp2_with fail
        with_reducible refine (l03Code_c c _ Hc0.out).mono ?_
        rintro e w' ⟨rfl, rfl⟩
        clear hix
        go_wp2
        go_round
        case rel => exact ⟨k + 1, by omega, by go_num, fun j hj => by rcases Nat.lt_succ_iff_lt_or_eq.1 hj with hj | rfl; exact hp.out j hj; rw [← Hc.out]; exact Hq.out⟩
        case measure => simp [intOf]; omega
    · obtain rfl : k = 40 := by omega
      go_wp2
      go_ret2
      have hr := rk_none hp.out
      have hn : noCh m = true := by unfold noCh; rw [hr]; rfl
      have e1 : r = 0 := by rw [Hr.out, hr]; rfl
      have e2 : t = false := by rw [Ht.out, hn]; rfl
      rw [e1, e2]
      exact ⟨rfl, rfl⟩
/-- the text of columns; empty if one has no character -/
def txV (h : List Int) : ByteArray := if okTx h = true then toB (txI h) else ⟨#[]⟩
theorem l03Text_c {h : List Int} {v : Value} {w : World} {A : Nat} (hl : h.length ≤ 1000) (ha : RdI A w v h) :
    Calls Tryz.prog 76 #[v] w fun e w' => e = .returned (.tuple #[.string (txV h), .bool (okTx h)]) ∧ Below w.heap.size w w' := by
  obtain ⟨i0, hi, hz0, hz1, hz2⟩ := info_parts Tryz.infoU8t
  have HR0 : Hid (Own eB 5 w.heap.size (w.alloc (.cells #[] 5)) (.slice (some ⟨w.heap.size, 0, none⟩) 0 0) ([] : List Int)) := Lib.hid (Own.lit (E := eB) (xs := []) (cs := #[]) (Nat.le_refl _) rfl rfl (by decide) (fun x hx => by cases hx))
  have HB0 : Hid (Below w.heap.size w (w.alloc (.cells #[] 5))) := Lib.hid ((Below.refl _ _).alloc (Nat.le_refl _) _)
  obtain ⟨ao, cap, rfl, hop⟩ := RdI.open ha
  obtain ⟨n, hn⟩ : ∃ n, n = h.length := ⟨_, rfl⟩
  rw [← hn] at hl hop ⊢
  have Hn := Lib.hid hn
  have Ho := Lib.hid hop
  clear hop hn ha
  go_enter Tryz.func76, Tryz.ntmps76
  go_wp2
  go_loopw [4, 5] (fun ov i wr => ∃ k : Nat, k ≤ n ∧ i = .int .i64 k ∧ Hid (okTx (h.take k) = true) ∧ Own eB 5 w.heap.size wr ov (txI (h.take k)) ∧ Below w.heap.size w wr) (fun _ i _ => n - (intOf i).toNat)
  case atStart => exact ⟨0, Nat.zero_le _, rfl, rfl, HR0.out, HB0.out⟩
  case round =>
    obtain ⟨k, hk, rfl, hok, hR, hb⟩ := hrel
    clear HR0 HB0
    by_cases hkn : k < n
    · obtain ⟨b, off, rfl, hlt, hc⟩ := Ho.out (by omega)
      obtain ⟨m, hm, hcm, bm⟩ := hc k hkn
      have d1 := (hb.cell (p := ⟨b, off + k, none⟩) hlt.2).trans hcm
      obtain ⟨ro, rc, hro⟩ := hR.shape
      subst hro
      by_cases hnc : rkI m < 0
      · have hnm : noCh m = true := decide_eq_true hnc
        have E : Hid (okTx h = false) := Lib.hid (by
          unfold okTx
          have : h.any noCh = true := List.any_eq_true.2 ⟨m, List.mem_of_getElem? hm, hnm⟩
          rw [this]; rfl)
        have Hnm := Lib.hid hnm
        have HB := Lib.hid hb
        have Hneg := Lib.hid hnc
        clear hR hb hc hm hcm hnm hnc
        go_wp2_with fail
        with_reducible refine (l03Char_c m _).mono ?_
        rw [Hnm.out, if_pos (by have := Hneg.out; omega)]
        rintro e w2 ⟨rfl, rfl⟩
        clear d1
        go_wp2
        go_ret2
        unfold txV
        rw [E.out]
        exact ⟨rfl, HB.out⟩
      · obtain ⟨q, hq, hrk, hch⟩ := rk_neg hnc
        have hnm : noCh m = false := decide_eq_false hnc
        have htx : txI (h.take (k + 1)) = txI (h.take k) ++ [chrI m] := by unfold txI; rw [take_snoc hm, List.map_append]; rfl
        have hok2 : okTx (h.take (k + 1)) = true := by
          have h1 := hok.out
          unfold okTx at h1 ⊢
          rw [take_snoc hm, List.any_append]
          have h2 : (h.take k).any noCh = false := by simpa using h1
          rw [h2]
          simp [hnm]
        have hlk : (txI (h.take k)).length ≤ k := by unfold txI; rw [List.length_map]; exact List.length_take_le _ _
        have Hdg : Hid (eB.ok (chrI m)) := Lib.hid (by rw [hch]; have := chA_bd ⟨q, hq⟩; show 0 ≤ chA q ∧ chA q ≤ 255; exact ⟨this.1, this.2.1⟩)
        have HR := Lib.hid hR
        have HB := Lib.hid hb
        have Htx := Lib.hid htx
        have Hok2 := Lib.hid hok2
        have Hnm := Lib.hid hnm
        have Hnc := Lib.hid hnc
        clear hR hb hc hm hcm hnc hrk hch htx hok2 hnm
        go_wp2_with fail
        with_reducible refine (l03Char_c m _).mono ?_
        rw [Hnm.out, if_neg (by have := Hnc.out; omega)]
        rintro e w2 ⟨rfl, rfl⟩
        clear d1
        go_wp2_with (first | (at_builtin; refine wpList_appS (E := eB) rfl _ _ 123 rfl Tryz.underlying123 hi hz0 hz1 hz2 rfl (by decide) rfl rfl (HR.out.alloc _) (rds_one (E := eB) (x := chrI m) Hdg.out rfl) ?b1 ?b2 ?b3 ?_))
        case b1 => unfold maxLen; (try simp) <;> omega
        case b2 => (try simp) <;> omega
        case b3 => have := HB.out.size; (try simp) <;> omega
        intro s2 w2 hR2 hg
        have hb2 : Below w.heap.size w w2 := hg.alloc.below HB.out HB.out.size (fun j hj => (HR.out.lt j hj).1)
        have HR2 := Lib.hid hR2
        have HB2 := Lib.hid hb2
        clear hR2 hg hb2 HR HB
        go_wp2
        go_roundw
        case rel => exact ⟨k + 1, by omega, by go_num, Hok2, by rw [Htx.out]; exact HR2.out, HB2.out⟩
        case measure => simp [intOf]; omega
    · obtain rfl : k = n := by omega
      rw [List.take_of_length_le (by have := Hn.out; omega)] at hok hR
      have hbt := bytesI_toB (txI_bd hok.out)
      rw [← hbt] at hR
      have hcv := conv_own hR
      obtain ⟨ro, rc, hrv⟩ := hR.shape
      have HB := Lib.hid hb
      have E : Hid (txV h = toB (txI h)) := Lib.hid (if_pos hok.out)
      subst hrv
      clear hR hb hbt
      go_wp2
      go_ret2
      rw [E.out, hok.out]
      exact ⟨rfl, HB.out⟩
theorem l02Part_c {b off cb co n cap : Nat} {w : World} (x y : Int) (hx : 0 ≤ x) (hxy : x < y) (hy : y ≤ n) (hnc : n ≤ cap) (hcap : cap ≤ 9223372036854775807) (hcell : w.cell? ⟨b, off, none⟩ = some (.slice (some ⟨cb, co, none⟩) n cap)) (hb : b < w.heap.size) :
    Calls Tryz.prog 66 #[.pointer (some ⟨b, off, none⟩), .agg #[.int .i64 x, .int .i64 y]] w fun e w' => e = .returned (.slice (some ⟨cb, co + x.toNat, none⟩) (y.toNat - x.toNat) (cap - x.toNat)) ∧ Below w.heap.size w w' := by
  obtain ⟨lo, rfl⟩ := Int.eq_ofNat_of_zero_le hx
  obtain ⟨hi, rfl⟩ := Int.eq_ofNat_of_zero_le (show 0 ≤ y by omega)
  simp only [Int.toNat_natCast]
  obtain ⟨W, hW⟩ : ∃ W, W = w.alloc (.cells #[.int .i64 (lo : Int), .int .i64 (hi : Int)] 70) := ⟨_, rfl⟩
  have hb0 : Below w.heap.size w W := by rw [hW]; exact (Below.refl _ _).alloc (Nat.le_refl _) _
  have hF : Box W w.heap.size [.int .i64 (lo : Int), .int .i64 (hi : Int)] := by rw [hW]; exact Box.new w [.int .i64 (lo : Int), .int .i64 (hi : Int)] 70
  have HW := Lib.hid hW
  have Hb0 := Lib.hid hb0
  have f0 := cell_regrown ((hb0.cell (p := ⟨b, off, none⟩) hb).trans hcell)
  have f1 := cell_regrown (hF.cell 0 _ rfl)
  have f2 := cell_regrown (hF.cell 1 _ rfl)
  have h1 : lo < hi := by omega
  have h2 : hi ≤ n := by omega
  have h3 : hi ≤ cap := by omega
  have h4 : ¬ cap = lo := by omega
  have h5 : lo ≤ hi := by omega
  clear hW hb0 hF hcell hx hxy hy
  go_enter Tryz.func66, Tryz.ntmps66
  go_upto_region 1 with fail
  rw [← HW.out]
  refine wp_region_quiet_below (by kernel_rfl) (by kernel_rfl) ?_
  repeat ((with_reducible refine wpQuiet_step (fun K hK => ?_)); go_simp; first | ((with_reducible refine hK _ ?_); clear hK K) | (apply Exists.intro; refine ⟨fun _ => ?_, hK _ ?_⟩; ((fail)); clear hK K))
  refine wpQuiet_nil ?_
  intro _ hw'
  obtain ⟨⟨dq, osq⟩, hw''⟩ := hw'
  subst hw''
  have hbq := below_regrown W dq osq
  generalize grow (redrawn W dq) osq = wq at hbq ⊢
  have hb := Hb0.out.trans (hbq.mono Hb0.out.size)
  clear hbq f0 f1 f2
  go_wp2
  go_ret
  exact ⟨rfl, hb⟩
end Go.Proofs.YtfieilbcdhbigaaGreatDoor
