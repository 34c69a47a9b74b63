/- SumOfPays: the reference's. No condition. -/
import Derived.Test.YtfhlmkeklmaedaaDoorSum2
namespace Go.Proofs.YtfhlmkeklmaedaaDoor
open Go.ChangeShapes Go.WideShapes Go.ChangeAt Go.RowKit
set_option linter.unusedVariables false
set_option maxRecDepth 100000
set_option maxHeartbeats 2000000 in
theorem sSumOfPays_c {xs : List PayT} {v : Value} {w : World} {A : Nat} (ha : RdPayS A w v xs) :
    Calls Tryd.prog 19 #[v] w fun e w' => e = .returned (.tuple #[vPay (SumR xs), .int .i64 (SumC xs)]) ∧ Below w.heap.size w w' := by
  have hle := ha.le
  obtain ⟨ao, cap, rfl, ho⟩ := ePay_open ha
  obtain ⟨n, hn⟩ : ∃ n, n = xs.length := ⟨_, rfl⟩
  rw [← hn]
  have Hn := Lib.hid hn
  have Ho := Lib.hid ho
  have hle' : n ≤ 9223372036854775807 := by omega
  have hB0 : Box (w.alloc (.cells #[.int .i64 0, .int .i64 0, .int .i64 0, .int .i64 0] 31)) w.heap.size (cellsP zPay) := Box.new w (cellsP zPay) _
  have hb0 : Below w.heap.size w (w.alloc (.cells #[.int .i64 0, .int .i64 0, .int .i64 0, .int .i64 0] 31)) := (Below.refl _ _).alloc (Nat.le_refl _) _
  obtain ⟨cc, hcc⟩ : ∃ cc, SumC xs = cc := ⟨_, rfl⟩
  obtain ⟨rr, hrr⟩ : ∃ rr, SumR xs = rr := ⟨_, rfl⟩
  rw [hcc, hrr]
  have Hcc := Lib.hid hcc
  have Hrr := Lib.hid hrr
  have Hb0 := Lib.hid hb0
  have HB0 := Lib.hid hB0
  clear ho hn hle ha hb0 hB0 hcc hrr
  go_enter Tryd.func19, Tryd.ntmps19
  go_wp2_with fail
  generalize hw : w.alloc (.cells #[.int .i64 0, .int .i64 0, .int .i64 0, .int .i64 0] 31) = w0 at Hb0 HB0 ⊢
  have Hw := Lib.hid hw
  clear hw
  go_loopw [4] (fun i wr => ∃ k : Nat, k ≤ n ∧ i = .int .i64 k ∧ Hid ((xs.take k).any notPlain = false) ∧ ∃ m, wr = w0.drewN m) (fun i _ => n - (intOf i).toNat)
  case atStart => exact ⟨0, Nat.zero_le _, rfl, rfl, 0, rfl⟩
  case round =>
    obtain ⟨k, hk, rfl, hp, m, rfl⟩ := hrel
    by_cases hkn : k < n
    · obtain ⟨b, off, rfl, hlt, hc⟩ := Ho.out (by have := Hn.out; omega)
      obtain ⟨x, hx, ⟨d0, d1, d2, d3⟩, bx⟩ := hc k (by have := Hn.out; omega)
      have Hx := Lib.hid hx
      have hlt0 := hlt.2
      replace d0 := (Hb0.out.cell (p := ⟨b, off + k * 4, none⟩) hlt0).trans d0
      replace d1 := (Hb0.out.cell (p := ⟨b, off + k * 4 + 1, none⟩) hlt0).trans d1
      replace d2 := (Hb0.out.cell (p := ⟨b, off + k * 4 + 2, none⟩) hlt0).trans d2
      replace d3 := (Hb0.out.cell (p := ⟨b, off + k * 4 + 3, none⟩) hlt0).trans d3
      have D0 := Lib.hid d0
      have D1 := Lib.hid d1
      have D2 := Lib.hid d2
      have D3 := Lib.hid d3
      clear hx hc bx d0 d1 d2 d3
      go_wp2_with fail
      have hone := l23Plain_c x (w0.drewN m) (b := b) (off := off + k * 4) D0.out D1.out D2.out D3.out
      with_reducible refine hone.mono ?_
      clear hone
      cases hps : plainB x with
      | true =>
        have Hps := Lib.hid hps
        clear hps
        rintro e w1 ⟨rfl, m2, rfl⟩
        go_wp2
        go_roundw
        case rel => exact ⟨k + 1, by omega, by go_num, by show _ = false; rw [take_snoc Hx.out, List.any_append, hp.out]; simp [notPlain, Hps.out], _, rfl⟩
        case measure => simp [intOf]; omega
      | false =>
        have e1 : SumC xs = 1 := by
          unfold SumC
          rw [if_pos (List.any_eq_true.2 ⟨x, List.mem_of_getElem? Hx.out, by unfold notPlain; rw [hps]; rfl⟩)]
        have e2 : SumR xs = zPay := by unfold SumR; rw [e1]; rfl
        rw [Hcc.out] at e1
        rw [Hrr.out] at e2
        subst e1
        subst e2
        clear hps
        rintro e w1 ⟨rfl, m2, rfl⟩
        obtain ⟨hlt, hc, hf⟩ := HB0.out
        have c0 := hc 0 _ rfl
        have c1 := hc 1 _ rfl
        have c2 := hc 2 _ rfl
        have c3 := hc 3 _ rfl
        clear hc
        go_wp2
        exact bodyPost_ret (v := .tuple #[vPay zPay, .int .i64 1]) (by simp [results, Tryd.results19, go_sem, zPay, c0, c1, c2, c3]) rfl ⟨rfl, (Hb0.out.drewNy _).run (g := w.heap.size) (by omega) [_, _, _, _]⟩
    · obtain rfl : k = n := by omega
      have hall := all_plain (xs := xs) (by have := hp.out; rwa [List.take_of_length_le (by have := Hn.out; omega)] at this)
      have Hall := Lib.hid hall
      by_cases h30 : 30 < k
      · have e1 : SumC xs = 2 := by unfold SumC; rw [if_neg (by have := hp.out; rw [List.take_of_length_le (by have := Hn.out; omega)] at this; rw [this]; decide), if_pos (by have := Hn.out; omega)]
        have e2 : SumR xs = zPay := by unfold SumR; rw [e1]; rfl
        rw [Hcc.out] at e1
        rw [Hrr.out] at e2
        subst e1
        subst e2
        obtain ⟨hlt, hc, hf⟩ := HB0.out
        have c0 := hc 0 _ rfl
        have c1 := hc 1 _ rfl
        have c2 := hc 2 _ rfl
        have c3 := hc 3 _ rfl
        clear hc hall
        go_wp2
        exact bodyPost_ret (v := .tuple #[vPay zPay, .int .i64 2]) (by simp [results, Tryd.results19, go_sem, zPay, c0, c1, c2, c3]) rfl ⟨rfl, (Hb0.out.drewNy _).run (g := w.heap.size) (by omega) [_, _, _, _]⟩
      · have e1 : SumC xs = if plainB (sumP xs) = true then 0 else 5 := by unfold SumC; rw [if_neg (by have := hp.out; rw [List.take_of_length_le (by have := Hn.out; omega)] at this; rw [this]; decide), if_neg (by have := Hn.out; omega)]
        have E1 := Lib.hid e1
        have HB1 := Lib.hid (HB0.out.drewN m)
        have Hb1 := Lib.hid (Hb0.out.drewNy m)
        have hsz1 : w.heap.size < (w0.drewN m).heap.size := HB0.out.lt
        have Hsz1 := Lib.hid hsz1
        clear hall e1 hsz1
        generalize w0.drewN m = w2 at HB1 Hb1 Hsz1 ⊢
        go_wp2_with fail
        go_loopw [6] (fun i wr => ∃ q : Nat, q ≤ k ∧ i = .int .i64 q ∧ Box wr w.heap.size (cellsP zPay) ∧ Box wr w2.heap.size (cellsP (sumP (xs.take q))) ∧ Below w.heap.size w wr) (fun i _ => k - (intOf i).toNat)
        case atStart =>
          refine ⟨0, Nat.zero_le _, rfl, ?_, ?_, ?_⟩
          · exact HB1.out.alloc _
          · exact Box.new w2 (cellsP zPay) _
          · exact Hb1.out.alloc Hb1.out.size _
        case round =>
          obtain ⟨q, hq, rfl, hR, hO, hbb⟩ := hrel
          have hne : w2.heap.size ≠ w.heap.size := by have := Hsz1.out; omega
          have Hne := Lib.hid hne
          clear hne
          by_cases hqk : q < k
          · obtain ⟨b, off, rfl, hlt, hc⟩ := Ho.out (by have := Hn.out; omega)
            obtain ⟨x, hx, ⟨d0, d1, d2, d3⟩, bx⟩ := hc q (by have := Hn.out; omega)
            have Hx := Lib.hid hx
            have hs := sumP_small Hall.out q (by have := Hn.out; omega)
            have hpl := plainB_parts (Hall.out x (List.mem_of_getElem? Hx.out))
            have hsn := sumP_snoc (xs.take q) x
            rw [← take_snoc Hx.out] at hsn
            have Hsn := Lib.hid hsn
            generalize sumP (xs.take q) = s at hs hO Hsn ⊢
            unfold smallP at hs
            obtain ⟨⟨s1, s2⟩, ⟨s3, s4⟩, ⟨s5, s6⟩, s7, s8⟩ := hs
            obtain ⟨⟨p1, p2⟩, ⟨p3, p4⟩, ⟨p5, p6⟩, p7⟩ := hpl
            have z0 : IntKind.i64.wrap (s.hours + x.hours) = s.hours + x.hours := IntWalk.i64_in _ (by omega)
            have z1 : IntKind.i64.wrap (s.gross + x.gross) = s.gross + x.gross := IntWalk.i64_in _ (by omega)
            have z2 : IntKind.i64.wrap (s.tax + x.tax) = s.tax + x.tax := IntWalk.i64_in _ (by omega)
            have z3 : IntKind.i64.wrap (s.net + x.net) = s.net + x.net := IntWalk.i64_in _ (by omega)
            have hbo : b ≠ w2.heap.size := by have := Hsz1.out; have := hlt.2; omega
            have D0 := Lib.hid d0
            have D1 := Lib.hid d1
            have D2 := Lib.hid d2
            have D3 := Lib.hid d3
            have HO0 := Lib.hid hO
            have HR0 := Lib.hid hR
            have Hbb0 := Lib.hid hbb
            have Hle := Lib.hid (Nat.le_of_lt Hsz1.out)
            have hbl : b < w.heap.size := hlt.2
            clear hx hc bx hsn hO hR hbb p7 s1 s2 s3 s4 s5 s6 s7 s8 p1 p2 p3 p4 p5 p6 d0 d1 d2 d3
            have hd0 := (Hbb0.out.cell (p := ⟨b, off + q * 4, none⟩) hlt.2).trans D0.out
            have ho0 := HO0.out.cell 0 _ rfl
            have hf0 := HO0.out.free 0
            go_wp2_with fail
            go_still_tail 9, (by kernel_rfl)
            go_wp2_with fail
            clear hd0 ho0 hf0
            have HO1 : Hid (Box ((wr.setCell ⟨w2.heap.size, 0, none⟩ (.int .i64 (s.hours + x.hours))).drew) w2.heap.size [.int .i64 (s.hours + x.hours), .int .i64 s.gross, .int .i64 s.tax, .int .i64 s.net]) := (HO0.out.set1 (j := 0) (by simp [cellsP]) _).drew1
            have HR1 : Hid (Box ((wr.setCell ⟨w2.heap.size, 0, none⟩ (.int .i64 (s.hours + x.hours))).drew) w.heap.size (cellsP zPay)) := (HR0.out.other (p := ⟨w2.heap.size, 0, none⟩) Hne.out _).drew1
            have Hbb1 : Hid (Below w.heap.size w ((wr.setCell ⟨w2.heap.size, 0, none⟩ (.int .i64 (s.hours + x.hours))).drew)) := (Hbb0.out.setCell (p := ⟨w2.heap.size, 0, none⟩) Hle.out _).drew1
            clear HO0 HR0 Hbb0
            generalize (wr.setCell ⟨w2.heap.size, 0, none⟩ (.int .i64 (s.hours + x.hours))).drew = wq1 at HO1 HR1 Hbb1 ⊢
            have hd1 := (Hbb1.out.cell (p := ⟨b, off + q * 4 + 1, none⟩) hlt.2).trans D1.out
            have ho1 := HO1.out.cell 1 _ rfl
            have hf1 := HO1.out.free 1
            go_wp2_with fail
            go_still_tail 9, (by kernel_rfl)
            go_wp2_with fail
            clear hd1 ho1 hf1
            have HO2 : Hid (Box ((wq1.setCell ⟨w2.heap.size, 1, none⟩ (.int .i64 (s.gross + x.gross))).drew) w2.heap.size [.int .i64 (s.hours + x.hours), .int .i64 (s.gross + x.gross), .int .i64 s.tax, .int .i64 s.net]) := (HO1.out.set1 (j := 1) (by simp [cellsP]) _).drew1
            have HR2 : Hid (Box ((wq1.setCell ⟨w2.heap.size, 1, none⟩ (.int .i64 (s.gross + x.gross))).drew) w.heap.size (cellsP zPay)) := (HR1.out.other (p := ⟨w2.heap.size, 1, none⟩) Hne.out _).drew1
            have Hbb2 : Hid (Below w.heap.size w ((wq1.setCell ⟨w2.heap.size, 1, none⟩ (.int .i64 (s.gross + x.gross))).drew)) := (Hbb1.out.setCell (p := ⟨w2.heap.size, 1, none⟩) Hle.out _).drew1
            clear HO1 HR1 Hbb1
            generalize (wq1.setCell ⟨w2.heap.size, 1, none⟩ (.int .i64 (s.gross + x.gross))).drew = wq2 at HO2 HR2 Hbb2 ⊢
            have hd2 := (Hbb2.out.cell (p := ⟨b, off + q * 4 + 2, none⟩) hlt.2).trans D2.out
            have ho2 := HO2.out.cell 2 _ rfl
            have hf2 := HO2.out.free 2
            go_wp2_with fail
            go_still_tail 9, (by kernel_rfl)
            go_wp2_with fail
            clear hd2 ho2 hf2
            have HO3 : Hid (Box ((wq2.setCell ⟨w2.heap.size, 2, none⟩ (.int .i64 (s.tax + x.tax))).drew) w2.heap.size [.int .i64 (s.hours + x.hours), .int .i64 (s.gross + x.gross), .int .i64 (s.tax + x.tax), .int .i64 s.net]) := (HO2.out.set1 (j := 2) (by simp [cellsP]) _).drew1
            have HR3 : Hid (Box ((wq2.setCell ⟨w2.heap.size, 2, none⟩ (.int .i64 (s.tax + x.tax))).drew) w.heap.size (cellsP zPay)) := (HR2.out.other (p := ⟨w2.heap.size, 2, none⟩) Hne.out _).drew1
            have Hbb3 : Hid (Below w.heap.size w ((wq2.setCell ⟨w2.heap.size, 2, none⟩ (.int .i64 (s.tax + x.tax))).drew)) := (Hbb2.out.setCell (p := ⟨w2.heap.size, 2, none⟩) Hle.out _).drew1
            clear HO2 HR2 Hbb2
            generalize (wq2.setCell ⟨w2.heap.size, 2, none⟩ (.int .i64 (s.tax + x.tax))).drew = wq3 at HO3 HR3 Hbb3 ⊢
            have hd3 := (Hbb3.out.cell (p := ⟨b, off + q * 4 + 3, none⟩) hlt.2).trans D3.out
            have ho3 := HO3.out.cell 3 _ rfl
            have hf3 := HO3.out.free 3
            go_wp2_with fail
            go_still_tail 9, (by kernel_rfl)
            go_wp2
            clear hd3 ho3 hf3
            have HO4 : Hid (Box ((wq3.setCell ⟨w2.heap.size, 3, none⟩ (.int .i64 (s.net + x.net))).drew) w2.heap.size [.int .i64 (s.hours + x.hours), .int .i64 (s.gross + x.gross), .int .i64 (s.tax + x.tax), .int .i64 (s.net + x.net)]) := (HO3.out.set1 (j := 3) (by simp [cellsP]) _).drew1
            have HR4 : Hid (Box ((wq3.setCell ⟨w2.heap.size, 3, none⟩ (.int .i64 (s.net + x.net))).drew) w.heap.size (cellsP zPay)) := (HR3.out.other (p := ⟨w2.heap.size, 3, none⟩) Hne.out _).drew1
            have Hbb4 : Hid (Below w.heap.size w ((wq3.setCell ⟨w2.heap.size, 3, none⟩ (.int .i64 (s.net + x.net))).drew)) := (Hbb3.out.setCell (p := ⟨w2.heap.size, 3, none⟩) Hle.out _).drew1
            clear HO3 HR3 Hbb3
            generalize (wq3.setCell ⟨w2.heap.size, 3, none⟩ (.int .i64 (s.net + x.net))).drew = wq4 at HO4 HR4 Hbb4 ⊢
            go_roundw
            case rel => exact ⟨q + 1, by omega, by go_num, HR4.out, by rw [Hsn.out]; exact HO4.out, Hbb4.out⟩
            case measure => simp [intOf]; omega
          · obtain rfl : q = k := by omega
            rw [List.take_of_length_le (by have := Hn.out; omega)] at hO
            have hS : SumR xs = if plainB (sumP xs) = true then sumP xs else zPay := by unfold SumR; rw [E1.out]; by_cases h : plainB (sumP xs) = true <;> simp [h]
            have e1' := E1.out
            rw [Hcc.out] at e1'
            rw [Hrr.out] at hS
            generalize sumP xs = s at hO hS e1' ⊢
            have HS := Lib.hid hS
            have E1' := Lib.hid e1'
            have hcall := l23Plain_c s wr (b := w2.heap.size) (off := 0) (hO.cell 0 _ rfl) (hO.cell 1 _ rfl) (hO.cell 2 _ rfl) (hO.cell 3 _ rfl)
            have HO := Lib.hid hO
            have HR := Lib.hid hR
            have Hbb := Lib.hid hbb
            clear hS e1' hO hR hbb E1
            have Hcall := Lib.hid hcall
            clear hcall
            go_wp2_with fail
            with_reducible refine Hcall.out.mono ?_
            clear Hcall
            cases hps : plainB s with
            | true =>
              have e2 : rr = s := by have := HS.out; rw [hps] at this; exact this
              have e3 : cc = 0 := by have := E1'.out; rw [hps] at this; exact this
              subst e2
              subst e3
              clear hps
              rintro e w3 ⟨rfl, m3, rfl⟩
              obtain ⟨hlt3, hc3, hf3⟩ := HR.out
              obtain ⟨hlt4, hc4, hf4⟩ := HO.out
              have c0 := hc3 0 _ rfl
              have c1 := hc3 1 _ rfl
              have c2 := hc3 2 _ rfl
              have c3 := hc3 3 _ rfl
              have o0 := hc4 0 _ rfl
              have o1 := hc4 1 _ rfl
              have o2 := hc4 2 _ rfl
              have o3 := hc4 3 _ rfl
              clear hc3 hc4
              go_wp2
              exact bodyPost_ret (v := .tuple #[vPay rr, .int .i64 0]) (by simp [results, Tryd.results19, go_sem, c0, c1, c2, c3]) rfl ⟨rfl, (Hbb.out.drewNy _).run (g := w.heap.size) (by omega) [_, _, _, _]⟩
            | false =>
              have e2 : rr = zPay := by have := HS.out; rw [hps] at this; exact this
              have e3 : cc = 5 := by have := E1'.out; rw [hps] at this; exact this
              subst e2
              subst e3
              clear hps
              rintro e w3 ⟨rfl, m3, rfl⟩
              obtain ⟨hlt3, hc3, hf3⟩ := HR.out
              have c0 := hc3 0 _ rfl
              have c1 := hc3 1 _ rfl
              have c2 := hc3 2 _ rfl
              have c3 := hc3 3 _ rfl
              clear hc3
              go_wp2
              exact bodyPost_ret (v := .tuple #[vPay zPay, .int .i64 5]) (by simp [results, Tryd.results19, go_sem, zPay, c0, c1, c2, c3]) rfl ⟨rfl, (Hbb.out.drewNy _).run (g := w.heap.size) (by omega) [_, _, _, _]⟩
end Go.Proofs.YtfhlmkeklmaedaaDoor
