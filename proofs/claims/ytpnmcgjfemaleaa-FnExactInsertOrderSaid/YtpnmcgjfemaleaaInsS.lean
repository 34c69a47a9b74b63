/- Inserting jobs: the reference's, one job into an order. No condition. -/
import Derived.Test.YtpnmcgjfemaleaaInsI
import Derived.Test.YtpnmcgjfemaleaaJohT
namespace Go.Proofs.Ytpnmcgjfemaleaa
open Go.ChangeShapes Go.WideShapes Go.ChangeAt Go.RowKit Go.Sort
set_option linter.unusedVariables false
set_option maxRecDepth 100000
theorem rdI_none {B c : Nat} {w : World} {a : Addr} : RdI B w (.slice (some a) 0 c) [] := ⟨⟨by simp [Elt.all], by simp, .inl ⟨rfl, _, _, rfl, fun h => by cases h⟩⟩, fun x hx => by cases hx⟩
set_option maxHeartbeats 2000000 in
theorem l21Insert_c {xss : List (List Int)} {o : List Int} {y : Int} {v : Value} {g off m cap : Nat} {w : World} {A B : Nat} (hA : A ≤ w.heap.size) (hB : B ≤ w.heap.size) (ha : RdInt64SS A w v xss)
    (ho : RdI B w (.slice (some ⟨g, off, none⟩) m cap) o) (hv : validJ xss = true) (hr : ∀ i ∈ o, 0 ≤ i ∧ i < (xss.length : Int)) (hl : m < 8) (hy : 0 ≤ y ∧ y < (xss.length : Int)) :
    Calls Try.prog 70 #[v, .slice (some ⟨g, off, none⟩) m cap, .int .i64 y] w fun e w' => ∃ g5 cap5, e = .returned (.slice (some ⟨g5, 0, none⟩) (m + 1) cap5) ∧ OwnInt64S w.heap.size w' (.slice (some ⟨g5, 0, none⟩) (m + 1) cap5) (insB xss o y (m + 1)) ∧ Below w.heap.size w w' := by
  obtain ⟨i0, hi, hz0, hz1, hz2⟩ := info_parts Try.infoInt64
  have hn8 := (validJ_parts hv).1
  have hcp := Rds.cap ho
  have hm : o.length = m := hcp.2.1.symm
  have hcap : m ≤ cap := hcp.1
  have hok : eI.ok y := by show -9223372036854775808 ≤ y ∧ y ≤ 9223372036854775807; omega
  have h0 : OwnInt64S w.heap.size (w.alloc (.cells #[] 2)) (.slice (some ⟨w.heap.size, 0, none⟩) 0 0) ([] : List Int) := Own.lit (E := eI) (xs := []) (cs := #[]) (Nat.le_refl _) rfl rfl (by decide) (fun x hx => by cases hx)
  have hb0 : Below w.heap.size w (w.alloc (.cells #[] 2)) := (Below.refl _ _).alloc (Nat.le_refl _) _
  have Ha := Lib.hid ha
  have Ho := Lib.hid ho
  have Hr := Lib.hid hr
  have Hm := Lib.hid hm
  have Hok := Lib.hid hok
  have Hy := Lib.hid hy
  have Hv := Lib.hid hv
  have Hn8 := Lib.hid hn8
  have HA := Lib.hid hA
  have HB := Lib.hid hB
  have H0 := Lib.hid h0
  have Hb0 := Lib.hid hb0
  clear ha ho hr hm hok hy hv hn8 hA hB h0 hb0 hcp
  go_enter Try.func70, Try.ntmps70
  go_wp2_with fail
  go_loopw [7, 8] (fun bv i wr => ∃ (k : Nat), k ≤ m + 1 ∧ i = .int .i64 k ∧ OwnInt64S w.heap.size wr bv (insB xss o y k) ∧ Below w.heap.size w wr) (fun _ i _ => m + 1 - (intOf i).toNat)
  case atStart => exact ⟨0, Nat.zero_le _, rfl, H0.out, Hb0.out⟩
  case round =>
    obtain ⟨k, hk, rfl, hB1, hb1⟩ := hrel
    clear H0 Hb0
    by_cases hkm : k ≤ m
    · have hkc : (k : Int) ≤ (cap : Int) := by omega
      have hkm1 : (k : Int) ≤ (m : Int) := by omega
      have hor := Ho.out.below hb1 HB.out
      have hr1 := hor.takeN (k := k) hkm
      have Hor := Lib.hid hor
      have Hr1 := Lib.hid hr1
      have HB1 := Lib.hid hB1
      have Hb1 := Lib.hid hb1
      clear hor hr1 hB1 hb1
      go_wp2_with fail
      with_reducible refine (l00Own_c Hr1.out (by have := Hm.out; rw [List.length_take]; omega)).mono ?_
      rintro e w3 ⟨u3, rfl, hu3, hb3⟩
      have hs2 := Hb1.out.size
      have hs3 := hb3.size
      have hlt : (o.take k).length = k := by have := Hm.out; rw [List.length_take]; omega
      have hld : (o.drop k).length = m - k := by have := Hm.out; rw [List.length_drop]; omega
      have Hu3 := Lib.hid hu3
      have Hb3 := Lib.hid hb3
      clear hu3 hb3
      go_wp2_with (first | (at_builtin; refine wpList_appS (E := eI) rfl _ _ 29 rfl Try.underlying29 hi hz0 hz1 hz2 rfl (by decide) rfl rfl (Hu3.out.alloc _) (rds_one (E := eI) (x := y) Hok.out rfl) ?b1 ?b2 ?b3 ?_))
      case b1 => rw [hlt]; unfold maxLen; (try simp) <;> omega
      case b2 => rw [hlt]; (try simp) <;> omega
      case b3 => (try simp) <;> omega
      intro v4 w4 hR4 hg4
      have hu3l := Hu3.out.lt
      have hb4 := hg4.alloc.below Hb3.out (by omega) (fun q hq => (hu3l q hq).1)
      have hor4 := Hor.out.below hb4 (show B ≤ wr.heap.size from Nat.le_trans HB.out hs2)
      have hs4 := hb4.size
      have HR4 := Lib.hid hR4
      have Hb4 := Lib.hid hb4
      have Hor4 := Lib.hid hor4
      clear hR4 hg4 hu3l hb4 hor4 Hu3 Hb3
      by_cases hq : cap = k
      case' pos =>
        obtain rfl : k = cap := hq.symm
        have Hr2 : Hid (RdI B w4 (.slice (some ⟨g, off, none⟩) (m - k) 0) (o.drop k)) := Lib.hid (Rds.drop0 Hor4.out (by omega))
        rw [show m - k = 0 by omega] at Hr2
      case' neg =>
        have Hr2 : Hid (RdI B w4 (.slice (some ⟨g, off + k, none⟩) (m - k) (cap - k)) (o.drop k)) := by
          rcases Nat.eq_zero_or_pos m with h0 | h0
          · have hk0 : k = 0 := by omega
            have ho0 : o = [] := List.eq_nil_of_length_eq_zero (by have := Hm.out; omega)
            subst hk0; subst h0; subst ho0
            exact Lib.hid rdI_none
          · exact Lib.hid (Rds.dropI Hor4.out (by omega) (by omega))
      all_goals
        go_wp2_with (first | (at_builtin; refine wpList_appS (E := eI) rfl _ _ 29 rfl Try.underlying29 hi hz0 hz1 hz2 rfl (by decide) rfl rfl HR4.out Hr2.out ?b1 ?b2 ?b3 ?_))
        case b1 => (try rw [List.length_append]); (try rw [hlt]); (try rw [hld]); unfold maxLen; (try simp) <;> omega
        case b2 => (try rw [List.length_append]); (try rw [hlt]); (try rw [hld]); (try simp) <;> omega
        try (case b3 => omega)
        intro v5 w5 hR5 hg5
        have hb5 := hg5.below Hb4.out hs4 (fun q hq => (HR4.out.lt q hq).1)
        have hbb := Hb1.out.trans (hb5.mono hs2)
        have hB5 := HB1.out.below hb5 (Nat.le_refl _)
        have hj5 := Ha.out.below hbb HA.out
        have hs5 : w.heap.size ≤ w5.heap.size := hbb.size
        have hpf := putAt_facts (q := k) Hr.out Hy.out
        have hiu := insB_succ xss o y k
        have hbf := fun h => insB_facts (xss := xss) (q := k) Hr.out Hy.out h
        have hbz : k = 0 → insB xss o y k = [] := fun h => by rw [h]; rfl
        have hu5 : OwnInt64S w.heap.size w5 v5 (putAt o y k) := hR5.mono hs2
        generalize hP : putAt o y k = P at hu5 hpf hiu
        generalize hBS : insB xss o y k = bs at hB5 hbf hiu hbz
        rw [Hm.out] at hpf hbf
        obtain ⟨nb, hnb⟩ : ∃ nb, nb = bs.length := ⟨_, rfl⟩
        obtain ⟨ba, bc, hbe⟩ := hB5.shape
        rw [← hnb] at hbe
        subst hbe
        obtain ⟨g5, cap5, hue, _⟩ := Own.addr hu5 (by have := hpf.1; omega)
        rw [hpf.1] at hue
        subst hue
        have Hnb := Lib.hid hnb
        have HU := Lib.hid hu5
        have HBs := Lib.hid hB5
        have Hbb := Lib.hid hbb
        have Hpf := Lib.hid hpf
        have Hbf := Lib.hid hbf
        have Hbz := Lib.hid hbz
        have Hiu := Lib.hid hiu
        have hcon1 := l21Span_c (w := w5) (A := A) (B := w5.heap.size) (o := P) (Nat.le_trans HA.out hs5) (Nat.le_refl _) hj5 HU.out.rds Hv.out (fun i hi => Hpf.out.2 i hi) (by have := Hpf.out.1; omega)
        generalize hsp : spanJ xss P = sp at hcon1
        have Hsp := Lib.hid hsp
        have Hcon1 := Lib.hid hcon1
        have hns : nb ≤ 8 := by
          rcases Nat.eq_zero_or_pos k with h0 | h0
          · have := hbz h0; rw [hnb, this]; decide
          · have := (hbf h0).1; omega
        clear hR5 hg5 hb5 hbb hB5 hpf hiu hbf hbz hu5 hnb hcon1 hsp hP hBS Hr2 HR4 Hor4 Hb4 HB1 Hr1
        by_cases h0 : nb = 0
        · have t0 : ((nb : Int) == 0) = true := by simp; omega
          have Hbs : Hid (bStep xss bs P = P) := Lib.hid (by unfold bStep; rw [if_pos (.inl (List.eq_nil_of_length_eq_zero (by have := Hnb.out; omega)))])
          clear h0
          have HU2 := HU
          have Hb5 := Hbb
          clear hj5
          go_wp2
          go_roundw
          case rel => exact ⟨k + 1, by omega, by go_num, by rw [Hiu.out, Hbs.out]; exact HU2.out, Hb5.out⟩
          case measure => simp [intOf]; omega
        · have t0 : ((nb : Int) == 0) = false := by simp; omega
          have hne : bs ≠ [] := fun h => h0 (by have := Hnb.out; rw [h] at this; exact this)
          have hq0 : 0 < k := Nat.pos_of_ne_zero fun h => hne (Hbz.out h)
          have hbi := Hbf.out hq0
          have hcon2 := fun (w6 : World) (hb6 : Below w5.heap.size w5 w6) => l21Span_c (w := w6) (A := A) (B := w5.heap.size) (o := bs) (Nat.le_trans (Nat.le_trans HA.out hs5) hb6.size) hb6.size (hj5.below hb6 (Nat.le_trans HA.out hs5)) (HBs.out.rds.below hb6 (Nat.le_refl _)) Hv.out (fun i hi => hbi.2 i hi) (by have := Hnb.out; omega)
          generalize hsb : spanJ xss bs = sb at hcon2
          have Hsb := Lib.hid hsb
          have Hcon2 := Lib.hid hcon2
          have Hne := Lib.hid hne
          clear hcon2 hsb hbi h0 hne
          by_cases h1 : sp < sb
          · have Hbs : Hid (bStep xss bs P = P) := Lib.hid (by unfold bStep; rw [if_pos (.inr (by rw [Hsp.out, Hsb.out]; exact h1))])
            have t2 : decide (sp < sb) = true := decide_eq_true h1
            go_wp2_with fail
            with_reducible refine Hcon1.out.mono ?_
            rintro e w6 ⟨rfl, hb6⟩
            go_wp2_with fail
            with_reducible refine (Hcon2.out w6 hb6).mono ?_
            rintro e w7 ⟨rfl, hb7⟩
            have hbq := hb6.trans (hb7.mono hb6.size)
            have HU2 := Lib.hid (HU.out.below hbq (Nat.le_refl _))
            have Hb5 := Lib.hid (Hbb.out.trans (hbq.mono hs5))
            clear hbq hj5 hb6 hb7
            go_wp2
            go_roundw
            case rel => exact ⟨k + 1, by omega, by go_num, by rw [Hiu.out, Hbs.out]; exact HU2.out, Hb5.out⟩
            case measure => simp [intOf]; omega
          · have Hbs : Hid (bStep xss bs P = bs) := Lib.hid (by unfold bStep; rw [if_neg (by rw [Hsp.out, Hsb.out]; exact fun h => h.elim (fun h => Hne.out h) h1)])
            have t2 : decide (sp < sb) = false := decide_eq_false h1
            clear h1
            go_wp2_with fail
            with_reducible refine Hcon1.out.mono ?_
            rintro e w6 ⟨rfl, hb6⟩
            go_wp2_with fail
            with_reducible refine (Hcon2.out w6 hb6).mono ?_
            rintro e w7 ⟨rfl, hb7⟩
            have hbq := hb6.trans (hb7.mono hb6.size)
            have HU2 := Lib.hid (HBs.out.below hbq (Nat.le_refl _))
            have Hb5 := Lib.hid (Hbb.out.trans (hbq.mono hs5))
            clear hbq hj5 hb6 hb7
            go_wp2
            go_roundw
            case rel => exact ⟨k + 1, by omega, by go_num, by rw [Hiu.out, Hbs.out]; exact HU2.out, Hb5.out⟩
            case measure => simp [intOf]; omega
    · obtain rfl : k = m + 1 := by omega
      have hf := insB_facts (xss := xss) (q := m + 1) Hr.out Hy.out (by omega)
      rw [Hm.out] at hf
      obtain ⟨g5, cap5, hue, _⟩ := Own.addr hB1 (by have := hf.1; omega)
      rw [hf.1] at hue
      subst hue
      have HB1 := Lib.hid hB1
      have Hb1 := Lib.hid hb1
      clear hB1 hb1 hf
      go_wp2
      go_ret
      exact ⟨_, _, rfl, HB1.out, Hb1.out⟩
end Go.Proofs.Ytpnmcgjfemaleaa
