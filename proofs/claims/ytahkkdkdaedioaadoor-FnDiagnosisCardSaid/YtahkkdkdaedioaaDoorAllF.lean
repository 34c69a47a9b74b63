/- All faults of numbers, in their order: the program's. No condition. -/
import Derived.Test.YtahkkdkdaedioaaDoorDig
namespace Go.Proofs.YtahkkdkdaedioaaDoor
open Go.ChangeShapes Go.WideShapes Go.ChangeAt Go.RowKit
set_option linter.unusedVariables false
set_option maxRecDepth 100000
theorem infoFaultN : (Tryd.prog.info? 40).map (fun i => (i.zero, i.size, i.bytes)) = some (some (vFault zFault), 4, 32) := by kernel_rfl
theorem okF {a b c d : Int} (h1 : 0 ≤ a ∧ a ≤ 100) (h2 : 0 ≤ b ∧ b ≤ 100) (h3 : 0 ≤ c ∧ c ≤ 100) (h4 : 0 ≤ d ∧ d ≤ 100) : okFault ⟨a, b, c, d⟩ := by unfold okFault; simp only; omega
def twoF (c : Int) : List FaultT := [⟨1, c, 0, 0⟩, ⟨2, c, 0, 0⟩]
theorem two_faults {w : World} {c : Int} (hc : 0 ≤ c ∧ c ≤ 100) : RdFaultS (w.heap.size + 1) (w.alloc (.cells #[.int .i64 1, .int .i64 c, .int .i64 0, .int .i64 0, .int .i64 2, .int .i64 c, .int .i64 0, .int .i64 0] 40)) (.slice (some ⟨w.heap.size, 0, none⟩) 2 2) (twoF c) := by
  have h := (Own.lit (E := eFault) (e := 40) (base := 0) (w := w) (xs := twoF c) (cs := #[.int .i64 1, .int .i64 c, .int .i64 0, .int .i64 0, .int .i64 2, .int .i64 c, .int .i64 0, .int .i64 0]) (n := 2) (Nat.zero_le _) rfl rfl (by decide) (fun z hz => by
    simp [twoF] at hz
    rcases hz with rfl | rfl
    · exact okF (by omega) hc (by omega) (by omega)
    · exact okF (by omega) hc (by omega) (by omega))).rds
  simpa using h
set_option maxHeartbeats 1000000 in
theorem allFaults_c {xs : List Int} {v : Value} {w : World} {A : Nat} (ha : RdI A w v xs) (hx : amtOk xs = true) :
    Calls Tryd.prog 62 #[v] w fun e w' => ∃ z, e = .returned z ∧ OwnFaultS w.heap.size w' z (allF xs) ∧ Below w.heap.size w w' := by
  obtain ⟨i0, hi, hz0, hz1, hz2⟩ := info_parts infoFaultN
  obtain ⟨hl, hxx⟩ := amtOk_parts hx
  obtain ⟨ao, cap, rfl, ho⟩ := ha.open
  obtain ⟨n, hn⟩ : ∃ n, n = xs.length := ⟨_, rfl⟩
  have e1 : allF xs = allK xs n := by rw [hn]; rfl
  rw [e1]
  rw [← hn] at ho hl ⊢
  have h0 : OwnFaultS w.heap.size (w.alloc (.cells #[] 40)) (.slice (some ⟨w.heap.size, 0, none⟩) 0 0) ([] : List FaultT) := Own.lit (E := eFault) (xs := []) (cs := #[]) (Nat.le_refl _) rfl rfl (by decide) (fun x hx => by cases hx)
  have hb0 : Below w.heap.size w (w.alloc (.cells #[] 40)) := (Below.refl _ _).alloc (Nat.le_refl _) _
  have Ho := Lib.hid ho
  have Hx := Lib.hid hxx
  have Hn := Lib.hid hn
  have H0 := Lib.hid h0
  have Hb0 := Lib.hid hb0
  clear ha ho hx hxx hn h0 hb0 e1
  go_enter Tryd.func62, Tryd.ntmps62
  go_wp2
  go_loopw [12, 3] (fun iv zv wr => ∃ k : Nat, k ≤ n ∧ iv = .int .i64 k ∧ OwnFaultS w.heap.size wr zv (allK xs k) ∧ Below w.heap.size w wr) (fun iv _ _ => n - (intOf iv).toNat)
  case atStart => exact ⟨0, Nat.zero_le _, rfl, H0.out, Hb0.out⟩
  case round =>
    obtain ⟨k, hk, rfl, hZ, hb⟩ := hrel
    clear H0 Hb0
    by_cases hkn : k < n
    · obtain ⟨b, off, rfl, hlt, hc⟩ := Ho.out (by omega)
      obtain ⟨x, hxk, hcx, hxo⟩ := hc k hkn
      have hxb := Hx.out x (List.mem_of_getElem? hxk)
      have hgd : xs.getD k 0 = x := by rw [List.getD_eq_getElem?_getD, hxk]; rfl
      have hsu := allK_succ xs k
      have hal := allK_len xs k
      rw [hgd] at hsu
      have c0 := (hb.cell (p := ⟨b, off + k, none⟩) hlt.2).trans hcx
      have hsz := hb.size
      have HZ := Lib.hid hZ
      have Hb := Lib.hid hb
      have Hsu := Lib.hid hsu
      have Hal := Lib.hid hal
      have Hxb := Lib.hid hxb
      have hk12 : k ≤ 12 := by omega
      clear hZ hb hsu hal hxk hcx hxo hgd hc hxb
      generalize hK : allK xs k = L0 at HZ Hsu Hal
      clear hK
      go_wp2_with (first | (at_builtin; refine wpList_appS (E := eFault) rfl _ _ 25 rfl Tryd.underlying25 hi hz0 hz1 hz2 rfl (by decide) rfl rfl (HZ.out.alloc _) (two_faults (w := wr) (c := (k : Int)) (by omega)) ?b1 ?b2 ?b3 ?_))
      case b1 => have := Hal.out; have h2 : (twoF (k : Int)).length = 2 := rfl; unfold maxLen; omega
      case b2 => have := Hal.out; have h2 : (twoF (k : Int)).length = 2 := rfl; omega
      case b3 => (try simp) <;> omega
      intro v5 w5 hO5 hg5
      have hb5 := hg5.alloc.below Hb.out hsz (fun z hz => (HZ.out.lt z hz).1)
      have HO5 := Lib.hid hO5
      have Hb5 := Lib.hid hb5
      clear hO5 hg5 hb5 c0
      go_wp2
      go_loopw [25, 3] (fun pv zv wr => ∃ p : Nat, p ≤ 4 ∧ pv = .int .i64 p ∧ OwnFaultS w.heap.size wr zv (L0 ++ (twoF (k : Int) ++ digP (k : Int) x p)) ∧ Below w.heap.size w wr) (fun pv _ _ => 4 - (intOf pv).toNat)
      case atStart => exact ⟨0, Nat.zero_le _, rfl, by simpa [digP] using HO5.out, Hb5.out⟩
      case round =>
        obtain ⟨p, hp, rfl, hZp, hbp⟩ := hrel
        clear HO5 Hb5
        by_cases hp4 : p < 4
        · have hp4i : (p : Int) < 4 := by omega
          have hps := digP_succ (k : Int) x p
          have hpl := digP_len (k : Int) x p
          have HZp := Lib.hid hZp
          have Hbp := Lib.hid hbp
          have Hps := Lib.hid hps
          have Hpl := Lib.hid hpl
          clear hZp hbp hps hpl
          go_wp2
          go_loopw [28, 3] (fun dv zv wr => ∃ d : Nat, d ≤ 10 ∧ dv = .int .i64 d ∧ OwnFaultS w.heap.size wr zv (L0 ++ (twoF (k : Int) ++ (digP (k : Int) x p ++ digD (k : Int) x (p : Int) d))) ∧ Below w.heap.size w wr) (fun dv _ _ => 10 - (intOf dv).toNat)
          case atStart => exact ⟨0, Nat.zero_le _, rfl, by simpa [digD] using HZp.out, Hbp.out⟩
          case round =>
            obtain ⟨d, hd, rfl, hZd, hbd⟩ := hrel
            clear HZp Hbp
            by_cases hd10 : d < 10
            · have hd10i : (d : Int) < 10 := by omega
              have hds := digD_succ (k : Int) x (p : Int) d
              have hdl := digD_len (k : Int) x (p : Int) d
              have hszd := hbd.size
              have hcon := digitAt_c (w := wr) Hxb.out hp4
              generalize hG : digA x (p : Int) = G at hds hcon
              have hlen : (L0 ++ (twoF (k : Int) ++ (digP (k : Int) x p ++ digD (k : Int) x (p : Int) d))).length ≤ 1000 := by
                have h1 := Hal.out
                have h2 := Hpl.out
                simp only [List.length_append, show (twoF (k : Int)).length = 2 from rfl]
                omega
              have HZd := Lib.hid hZd
              have Hbd := Lib.hid hbd
              have Hcon := Lib.hid hcon
              have Hlen := Lib.hid hlen
              clear hZd hbd hcon hG hdl hlen
              go_wp2_with fail
              with_reducible refine Hcon.out.mono ?_
              rintro e w6 ⟨rfl, hb6⟩
              have HZ6 := Lib.hid (HZd.out.below hb6 (Nat.le_refl _))
              have hb6x := Hbd.out.trans (hb6.mono hszd)
              have Hb6 := Lib.hid hb6x
              have hs6 : w.heap.size ≤ w6.heap.size := hb6x.size
              clear hb6 hb6x HZd Hbd Hcon
              by_cases hGd : G = (d : Int)
              · rw [if_pos hGd, List.append_nil] at hds
                have Hds := Lib.hid hds
                subst hGd
                clear hds
                go_wp2
                go_roundw
                case rel => exact ⟨d + 1, by omega, by go_num, by rw [Hds.out]; exact HZ6.out, Hb6.out⟩
                case measure => simp [intOf]; omega
              · rw [if_neg hGd] at hds
                have Hds := Lib.hid hds
                have t1 : (G != (d : Int)) = true := by simpa using hGd
                have hfo := okF (a := 3) (b := (k : Int)) (c := (p : Int)) (d := (d : Int)) (by omega) (by omega) (by omega) (by omega)
                have Hfo := Lib.hid hfo
                clear hds hfo hGd
                go_wp2_with (first | (at_builtin; refine wpList_appS (E := eFault) rfl _ _ 25 rfl Tryd.underlying25 hi hz0 hz1 hz2 rfl (by decide) rfl rfl (HZ6.out.alloc _) (rds_one (E := eFault) (x := ⟨3, (k : Int), (p : Int), (d : Int)⟩) Hfo.out rfl) ?b1 ?b2 ?b3 ?_))
                case b1 => have := Hlen.out; unfold maxLen; simp only [List.length_cons, List.length_nil]; omega
                case b2 => have := Hlen.out; simp only [List.length_cons, List.length_nil]; omega
                case b3 => (try simp) <;> omega
                intro v7 w7 hO7 hg7
                have hb7 := hg7.alloc.below Hb6.out hs6 (fun z hz => (HZ6.out.lt z hz).1)
                have HO7 := Lib.hid hO7
                have Hb7 := Lib.hid hb7
                clear hO7 hg7 hb7
                go_wp2
                go_roundw
                case rel => exact ⟨d + 1, by omega, by go_num, by rw [Hds.out]; first | exact HO7.out | (have h := HO7.out; simp only [List.append_assoc] at h ⊢; exact h) | (have h := HO7.out; simpa using h), Hb7.out⟩
                case measure => simp [intOf]; omega
            · obtain rfl : d = 10 := by omega
              have HZ6 := Lib.hid hZd
              have Hb6 := Lib.hid hbd
              clear hZd hbd
              go_wp2
              go_roundw
              case rel => exact ⟨p + 1, by omega, by go_num, by rw [Hps.out]; exact HZ6.out, Hb6.out⟩
              case measure => simp [intOf]; omega
        · obtain rfl : p = 4 := by omega
          have HZ6 := Lib.hid hZp
          have Hb6 := Lib.hid hbp
          clear hZp hbp
          go_wp2
          go_roundw
          case rel => exact ⟨k + 1, by omega, by go_num, by rw [Hsu.out]; exact HZ6.out, Hb6.out⟩
          case measure => simp [intOf]; omega
    · obtain rfl : k = n := by omega
      have HZ := Lib.hid hZ
      have Hb := Lib.hid hb
      clear hZ hb
      go_wp2
      go_ret
      exact ⟨_, rfl, HZ.out, Hb.out⟩
end Go.Proofs.YtahkkdkdaedioaaDoor
