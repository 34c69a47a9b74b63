/- The texts of columns: the program's, each by its contract. No condition. -/
import Derived.Test.YtfieilbcdhbigaaGreatDoorRolP
import Derived.Test.YtfieilbcdhbigaaGreatDoorCopy
import Derived.Test.YtfieilbcdhbigaaGreatDoorHrsP
namespace Go.Proofs.YtfieilbcdhbigaaGreatDoor
open Go.ChangeShapes Go.WideShapes Go.ChangeAt Go.RowKit
set_option linter.unusedVariables false
set_option maxRecDepth 100000
/-- the columns of a field, in memory -/
theorem Rds.part {w : World} {B b off n cap : Nat} {c : List Int} {x y : Int} (h : RdI B w (.slice (some ⟨b, off, none⟩) n cap) c) (hx : 0 ≤ x) (hxy : x < y) (hy : y ≤ n) :
    RdI B w (.slice (some ⟨b, off + x.toNat, none⟩) (y.toNat - x.toNat) (cap - x.toNat)) (partC c x y) := by
  have hc := Rds.cap h
  have hcap := hc.2.2 (by omega)
  have h1 := Rds.sub (lo := x.toNat) (hi := y.toNat) (cap' := cap - x.toNat) h (by omega) (by omega) ⟨by omega, by omega⟩
  rw [show x.toNat * eI.sz = x.toNat from Nat.mul_one _] at h1
  exact h1
theorem clo_noCh (x : Int) (w : World) (_h : okInt64 x) : Calls Tryz.prog 134 #[.int .i64 x] w fun e w' => e = .returned (.bool (noCh x)) ∧ w = w' := by
  go_enter Tryz.func134, Tryz.ntmps134
  go_wp2_with fail
  refine (rankOf_c x _).mono ?_
  rintro e w' ⟨rfl, rfl⟩
  go_wp2
  go_ret
  exact ⟨ret_bool (by unfold noCh; simp), rfl⟩
theorem indexFunc_noCh {xs : List Int} {v : Value} {w : World} {A : Nat} (ha : RdI A w v xs) :
    Calls Tryz.prog 128 #[v, .func (.func 134) #[] #[]] w fun e w' => (∃ r : Int, e = .returned (.int .i64 r) ∧ -1 ≤ r ∧ (0 ≤ r ↔ xs.any noCh = true)) ∧ w = w' := by
  have hle := ha.le
  obtain ⟨ao, cap, rfl, ho⟩ := ha.open
  obtain ⟨l, hl⟩ : ∃ l, l = xs.length := ⟨_, rfl⟩
  rw [← hl]
  have Hl := Lib.hid hl
  have Ho := Lib.hid ho
  have hl' : l ≤ 9223372036854775807 := by omega
  clear ho hl hle ha
  go_enter Tryz.func128, Tryz.ntmps128
  go_wp2
  go_loop [8] (fun i => ∃ k : Nat, k ≤ l ∧ i = .int .i64 k ∧ Hid ((xs.take k).any noCh = false)) (fun i => l - (intOf i).toNat)
  case atStart => exact ⟨0, Nat.zero_le _, rfl, rfl⟩
  case round =>
    obtain ⟨k, hk, rfl, hp⟩ := hrel
    by_cases hkn : k < l
    · obtain ⟨b, off, rfl, hlt, hc⟩ := Ho.out (by have := Hl.out; omega)
      obtain ⟨x, hx, hcx, bx⟩ := hc k (by have := Hl.out; omega)
      have Hx := Lib.hid hx
      have Hb := Lib.hid bx
      clear hx hc bx
      cases hq : noCh x with
      | true =>
        have Hq := Lib.hid hq
        clear hq
        go_wp2_with (go_at_call 134; refine (clo_noCh x _ Hb.out).mono ?_; rw [Hq.out]; rintro e w' ⟨rfl, rfl⟩)
        go_ret
        refine ⟨⟨_, rfl, by omega, ?_⟩, rfl⟩
        have : xs.any noCh = true := List.any_eq_true.2 ⟨x, List.mem_of_getElem? Hx.out, Hq.out⟩
        simp [this]
      | false =>
        have Hq := Lib.hid hq
        clear hq
        go_wp2_with (go_at_call 134; refine (clo_noCh x _ Hb.out).mono ?_; rw [Hq.out]; rintro e w' ⟨rfl, rfl⟩)
        go_round
        case rel => exact ⟨k + 1, by omega, by go_num, by show _ = false; rw [take_snoc Hx.out, List.any_append, hp.out]; simp [Hq.out]⟩
        case measure => simp [intOf]; omega
    · go_wp2
      go_ret
      refine ⟨⟨_, rfl, by omega, ?_⟩, rfl⟩
      have hq := hp.out
      rw [List.take_of_length_le (by have := Hl.out; omega)] at hq
      exact any_end hq
theorem any_noCh {xs : List Int} {v : Value} {w : World} {A : Nat} (ha : RdI A w v xs) :
    Calls Tryz.prog 99 #[v, .func (.func 134) #[] #[]] w fun e w' => e = .returned (.bool (xs.any noCh)) ∧ w = w' := by
  have Ha := Lib.hid ha
  obtain ⟨ao, cap, rfl⟩ := ha.shape
  clear ha
  go_enter Tryz.func99, Tryz.ntmps99
  go_wp2_with fail
  refine (indexFunc_noCh Ha.out).mono ?_
  rintro e w' ⟨⟨r, rfl, hr, hi⟩, rfl⟩
  have Hi := Lib.hid hi
  clear hi
  go_wp2
  go_ret
  refine ⟨ret_bool ?_, rfl⟩
  rw [Bool.eq_iff_iff, decide_eq_true_iff]
  exact Hi.out
theorem hasCharacters_c {h : List Int} {v : Value} {w : World} {A : Nat} (ha : RdI A w v h) :
    Calls Tryz.prog 109 #[v] w fun e w' => e = .returned (.bool (okTx h)) ∧ w = w' := by
  have Ha := Lib.hid ha
  obtain ⟨ao, cap, rfl⟩ := ha.shape
  clear ha
  go_enter Tryz.func109, Tryz.ntmps109
  go_wp2_with fail
  refine (any_noCh Ha.out).mono ?_
  rintro e w' ⟨rfl, rfl⟩
  go_wp2
  go_ret
  exact ⟨ret_bool (by unfold okTx; simp), rfl⟩
theorem textOf_c {h : List Int} {v : Value} {w : World} {A : Nat} (ho : okTx h = true) (hl : h.length ≤ 1000) (ha : RdI A w v h) :
    Calls Tryz.prog 83 #[v] w fun e w' => e = .returned (.string (toB (txI h))) ∧ Below w.heap.size w w' := by
  obtain ⟨i0, hi, hz0, hz1, hz2⟩ := info_parts Tryz.infoU8t
  have HR0 : Hid (Own eB 5 w.heap.size (w.alloc (.cells #[] 5)) (.slice (some ⟨w.heap.size, 0, none⟩) 0 0) ([] : List Int)) := Lib.hid (Own.lit (E := eB) (xs := []) (cs := #[]) (Nat.le_refl _) rfl rfl (by decide) (fun x hx => by cases hx))
  have HB0 : Hid (Below w.heap.size w (w.alloc (.cells #[] 5))) := Lib.hid ((Below.refl _ _).alloc (Nat.le_refl _) _)
  obtain ⟨ao, cap, rfl, hop⟩ := RdI.open ha
  obtain ⟨n, hn⟩ : ∃ n, n = h.length := ⟨_, rfl⟩
  rw [← hn] at hl hop ⊢
  have Hn := Lib.hid hn
  have Ho := Lib.hid hop
  have Hok := Lib.hid ho
  have hbt := bytesI_toB (txI_bd ho)
  have Hbt := Lib.hid hbt
  clear hop hn ha ho hbt
  go_enter Tryz.func83, Tryz.ntmps83
  go_wp2
  go_loopw [3, 9] (fun ov i wr => ∃ k : Nat, k ≤ n ∧ i = .int .i64 k ∧ Own eB 5 w.heap.size wr ov ((txI h).take k) ∧ Below w.heap.size w wr) (fun _ i _ => n - (intOf i).toNat)
  case atStart => exact ⟨0, Nat.zero_le _, rfl, HR0.out, HB0.out⟩
  case round =>
    obtain ⟨k, hk, rfl, hR, hb⟩ := hrel
    clear HR0 HB0
    by_cases hkn : k < n
    · obtain ⟨b, off, rfl, hlt, hc⟩ := Ho.out (by omega)
      obtain ⟨m, hm, hcm, bm⟩ := hc k hkn
      have d1 := (hb.cell (p := ⟨b, off + k, none⟩) hlt.2).trans hcm
      have hnc : ¬ rkI m < 0 := by
        have h1 := Hok.out
        unfold okTx at h1
        have h2 : h.any noCh = false := by simpa using h1
        have h3 := List.any_eq_false.1 h2 m (List.mem_of_getElem? hm)
        unfold noCh at h3
        simpa using h3
      obtain ⟨q, hq, hrk, hch⟩ := rk_neg hnc
      have htx : (txI h)[k]? = some (chA q) := by unfold txI; rw [List.getElem?_map, hm, ← hch]; rfl
      have hsn := take_snoc htx
      have hlk : ((txI h).take k).length ≤ k := List.length_take_le _ _
      have Hdg : Hid (eB.ok (chA q)) := Lib.hid (by have := chA_bd ⟨q, hq⟩; show 0 ≤ chA q ∧ chA q ≤ 255; exact ⟨this.1, this.2.1⟩)
      have HR := Lib.hid hR
      have HB := Lib.hid hb
      have Hsn := Lib.hid hsn
      have Hrk := Lib.hid hrk
      have hqi : (q : Int) < 40 := by omega
      clear hR hb hc hm hcm hnc hrk hch htx hsn
      go_wp2_with fail
      with_reducible refine (rankOf_c m _).mono ?_
      rw [Hrk.out]
      rintro e w2 ⟨rfl, rfl⟩
      have hix := fun w => chars_run hq w
      go_wp2_with (first | (at_builtin; refine wpList_appS (E := eB) rfl _ _ 123 rfl Tryz.underlying123 hi hz0 hz1 hz2 rfl (by decide) rfl rfl (HR.out.alloc _) (rds_one (E := eB) (x := chA q) Hdg.out rfl) ?b1 ?b2 ?b3 ?_))
      case b1 => unfold maxLen; (try simp) <;> omega
      case b2 => (try simp) <;> omega
      case b3 => have := HB.out.size; (try simp) <;> omega
      intro s2 w2 hR2 hg
      have hb2 : Below w.heap.size w w2 := hg.alloc.below HB.out HB.out.size (fun j hj => (HR.out.lt j hj).1)
      have HR2 := Lib.hid hR2
      have HB2 := Lib.hid hb2
      clear hR2 hg hb2 HR HB d1 hix
      go_wp2
      go_roundw
      case rel => exact ⟨k + 1, by omega, by go_num, by rw [Hsn.out]; exact HR2.out, HB2.out⟩
      case measure => simp [intOf]; omega
    · obtain rfl : k = n := by omega
      rw [List.take_of_length_le (by unfold txI; rw [List.length_map]; have := Hn.out; omega), ← Hbt.out] at hR
      have hcv := conv_own hR
      obtain ⟨ro, rc, hrv⟩ := hR.shape
      have HB := Lib.hid hb
      subst hrv
      clear hR hb
      go_wp2
      go_ret
      exact ⟨rfl, HB.out⟩
end Go.Proofs.YtfieilbcdhbigaaGreatDoor
