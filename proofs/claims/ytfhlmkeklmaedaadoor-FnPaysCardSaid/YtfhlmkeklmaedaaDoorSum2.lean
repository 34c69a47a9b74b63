/- SumOfPays: the walks. No condition. -/
import Derived.Test.YtfhlmkeklmaedaaDoorSum
namespace Go.Proofs.YtfhlmkeklmaedaaDoor
open Go.ChangeShapes Go.WideShapes Go.ChangeAt Go.RowKit
set_option linter.unusedVariables false
set_option maxRecDepth 100000
def SumC (xs : List PayT) : Int := if xs.any notPlain = true then 1 else if 30 < xs.length then 2 else if plainB (sumP xs) = true then 0 else 5
def SumR (xs : List PayT) : PayT := if SumC xs = 0 then sumP xs else zPay
def cellsP (p : PayT) : List Value := [.int .i64 p.hours, .int .i64 p.gross, .int .i64 p.tax, .int .i64 p.net]
theorem all_plain {xs : List PayT} (h : xs.any notPlain = false) : ∀ x ∈ xs, plainB x = true := by
  intro x hx
  cases hp : plainB x with
  | true => rfl
  | false =>
    have : xs.any notPlain = true := List.any_eq_true.2 ⟨x, hx, by unfold notPlain; rw [hp]; rfl⟩
    rw [h] at this; cases this
set_option maxHeartbeats 2000000 in
theorem SumOfPays_c {xs : List PayT} {v : Value} {w : World} {A : Nat} (ha : RdPayS A w v xs) :
    Calls Tryd.prog 18 #[v] w fun e w' => e = .returned (.tuple #[vPay (SumR xs), .int .i64 (SumC xs)]) ∧ Below w.heap.size w w' := by
  have hle := ha.le
  have Ha := Lib.hid ha
  obtain ⟨ao, cap, rfl, ho⟩ := ePay_open ha
  obtain ⟨n, hn⟩ : ∃ n, n = xs.length := ⟨_, rfl⟩
  rw [← hn] at Ha ⊢
  have Hn := Lib.hid hn
  have Ho := Lib.hid ho
  have hle' : n ≤ 9223372036854775807 := by omega
  have hB0 : Box (w.alloc (.cells #[.int .i64 0, .int .i64 0, .int .i64 0, .int .i64 0] 31)) w.heap.size (cellsP zPay) := Box.new w (cellsP zPay) _
  have hb0 : Below w.heap.size w (w.alloc (.cells #[.int .i64 0, .int .i64 0, .int .i64 0, .int .i64 0] 31)) := (Below.refl _ _).alloc (Nat.le_refl _) _
  have Hb0 := Lib.hid hb0
  have HB0 := Lib.hid hB0
  have Ha2 := Lib.hid (Ha.out.tight.below hb0 (Nat.le_refl _))
  clear ho hn hle ha Ha hb0 hB0
  cases hp : xs.any notPlain with
  | true =>
    have e1 : SumC xs = 1 := by unfold SumC; rw [if_pos hp]
    have e2 : SumR xs = zPay := by unfold SumR; rw [e1]; rfl
    rw [e1, e2]
    have Hp := Lib.hid hp
    clear hp e1 e2
    go_enter Tryd.func18, Tryd.ntmps18
    go_wp2_with fail
    with_reducible refine (containsPay_c Ha2.out).mono ?_
    rw [Hp.out]
    rintro e w1 ⟨rfl, hb⟩
    have hB1 := HB0.out.on hb
    have Hb1 := Lib.hid (Hb0.out.trans (hb.mono Hb0.out.size))
    obtain ⟨hlt, hc, hf⟩ := hB1
    have c0 := hc 0 _ rfl
    have c1 := hc 1 _ rfl
    have c2 := hc 2 _ rfl
    have c3 := hc 3 _ rfl
    clear hc hb
    go_wp2
    exact bodyPost_ret (v := .tuple #[vPay zPay, .int .i64 1]) (by simp [results, Tryd.results18, go_sem, zPay, c0, c1, c2, c3]) rfl ⟨rfl, Hb1.out.run (g := w.heap.size) (by omega) [_, _, _, _]⟩
  | false =>
    have hall := all_plain hp
    have Hp := Lib.hid hp
    by_cases h30 : 30 < n
    · have e1 : SumC xs = 2 := by unfold SumC; rw [if_neg (by rw [hp]; decide), if_pos (by have := Hn.out; omega)]
      have e2 : SumR xs = zPay := by unfold SumR; rw [e1]; rfl
      rw [e1, e2]
      clear hp e1 e2 hall
      go_enter Tryd.func18, Tryd.ntmps18
      go_wp2_with fail
      with_reducible refine (containsPay_c Ha2.out).mono ?_
      rw [Hp.out]
      rintro e w1 ⟨rfl, hb⟩
      have hB1 := HB0.out.on hb
      have Hb1 := Lib.hid (Hb0.out.trans (hb.mono Hb0.out.size))
      obtain ⟨hlt, hc, hf⟩ := hB1
      have c0 := hc 0 _ rfl
      have c1 := hc 1 _ rfl
      have c2 := hc 2 _ rfl
      have c3 := hc 3 _ rfl
      clear hc hb
      go_wp2
      exact bodyPost_ret (v := .tuple #[vPay zPay, .int .i64 2]) (by simp [results, Tryd.results18, go_sem, zPay, c0, c1, c2, c3]) rfl ⟨rfl, Hb1.out.run (g := w.heap.size) (by omega) [_, _, _, _]⟩
    · have e1 : SumC xs = if plainB (sumP xs) = true then 0 else 5 := by unfold SumC; rw [if_neg (by rw [hp]; decide), if_neg (by have := Hn.out; omega)]
      have E1 := Lib.hid e1
      have Hall := Lib.hid hall
      obtain ⟨cc, hcc⟩ : ∃ cc, SumC xs = cc := ⟨_, rfl⟩
      obtain ⟨rr, hrr⟩ : ∃ rr, SumR xs = rr := ⟨_, rfl⟩
      rw [hcc, hrr]
      have Hcc := Lib.hid hcc
      have Hrr := Lib.hid hrr
      clear hp e1 hall hcc hrr
      go_enter Tryd.func18, Tryd.ntmps18
      go_wp2_with fail
      with_reducible refine (containsPay_c Ha2.out).mono ?_
      rw [Hp.out]
      rintro e w1 ⟨rfl, hb⟩
      have hB1 := HB0.out.on hb
      have Hb1 := Lib.hid (Hb0.out.trans (hb.mono Hb0.out.size))
      obtain ⟨hlt, hc, hf⟩ := id hB1
      have c0 := hc 0 _ rfl
      have c1 := hc 1 _ rfl
      have c2 := hc 2 _ rfl
      have c3 := hc 3 _ rfl
      have HB1 := Lib.hid hB1
      clear hc hb hB1
      go_wp2
      go_loopw [19] (fun i wr => ∃ k : Nat, k ≤ n ∧ i = .int .i64 k ∧ Box wr w.heap.size (cellsP zPay) ∧ Box wr w1.heap.size (cellsP (sumP (xs.take k))) ∧ Below w.heap.size w wr) (fun i _ => n - (intOf i).toNat)
      case atStart =>
        refine ⟨0, Nat.zero_le _, rfl, ?_, ?_, ?_⟩
        · exact HB1.out.alloc _
        · exact Box.new _ (cellsP zPay) _
        · exact Hb1.out.alloc Hb1.out.size _
      case round =>
        obtain ⟨k, hk, rfl, hR, hO, hbb⟩ := hrel
        by_cases hkn : k < n
        · obtain ⟨b, off, rfl, hlt, hc⟩ := Ho.out (by have := Hn.out; omega)
          obtain ⟨x, hx, ⟨d0, d1, d2, d3⟩, bx⟩ := hc k (by have := Hn.out; omega)
          have Hx := Lib.hid hx
          have hs := sumP_small Hall.out k (by have := Hn.out; omega)
          have hpl := plainB_parts (Hall.out x (List.mem_of_getElem? Hx.out))
          have hsn := sumP_snoc (xs.take k) x
          rw [← take_snoc Hx.out] at hsn
          have Hsn := Lib.hid hsn
          generalize sumP (xs.take k) = s at hs hO Hsn ⊢
          unfold smallP at hs
          obtain ⟨⟨s1, s2⟩, ⟨s3, s4⟩, ⟨s5, s6⟩, s7, s8⟩ := hs
          obtain ⟨⟨p1, p2⟩, ⟨p3, p4⟩, ⟨p5, p6⟩, p7⟩ := hpl
          have p8 : 0 ≤ x.net ∧ x.net ≤ 100000000 := by omega
          obtain ⟨p8, p9⟩ := p8
          replace d0 := (hbb.cell (p := ⟨b, off + k * 4, none⟩) hlt.2).trans d0
          replace d1 := (hbb.cell (p := ⟨b, off + k * 4 + 1, none⟩) hlt.2).trans d1
          replace d2 := (hbb.cell (p := ⟨b, off + k * 4 + 2, none⟩) hlt.2).trans d2
          replace d3 := (hbb.cell (p := ⟨b, off + k * 4 + 3, none⟩) hlt.2).trans d3
          obtain ⟨hol, hoc, hof⟩ := id hO
          have o0 := hoc 0 _ rfl
          have o1 := hoc 1 _ rfl
          have o2 := hoc 2 _ rfl
          have o3 := hoc 3 _ rfl
          have HO := Lib.hid hO
          have HR := Lib.hid hR
          have Hbb := Lib.hid hbb
          have P7 := Lib.hid p7
          clear hx hc bx hsn hoc hO hR hbb p7
          have hne : w1.heap.size ≠ w.heap.size := by omega
          have Hne := Lib.hid hne
          clear hne
          go_wp2
          go_roundw
          case rel =>
            have hsz := Hbb.out.size
            refine ⟨k + 1, by omega, by go_num, ?_, ?_, ?_⟩
            · exact ((((HR.out.other (p := ⟨w1.heap.size, 0, none⟩) Hne.out _).other (p := ⟨w1.heap.size, 1, none⟩) Hne.out _).other (p := ⟨w1.heap.size, 2, none⟩) Hne.out _).other (p := ⟨w1.heap.size, 3, none⟩) Hne.out _).alloc _
            · rw [Hsn.out]
              exact ((((HO.out.set1 (j := 0) (by simp [cellsP]) _).set1 (j := 1) (by simp [cellsP]) _).set1 (j := 2) (by simp [cellsP]) _).set1 (j := 3) (by simp [cellsP]) _).alloc _
            · exact ((((Hbb.out.setCell (p := ⟨w1.heap.size, 0, none⟩) (by show w.heap.size ≤ w1.heap.size; omega) _).setCell (p := ⟨w1.heap.size, 1, none⟩) (by show w.heap.size ≤ w1.heap.size; omega) _).setCell (p := ⟨w1.heap.size, 2, none⟩) (by show w.heap.size ≤ w1.heap.size; omega) _).setCell (p := ⟨w1.heap.size, 3, none⟩) (by show w.heap.size ≤ w1.heap.size; omega) _).alloc (by simpa using hsz) _
          case measure => simp [intOf]; omega
        · rw [List.take_of_length_le (by have := Hn.out; omega)] at hO
          have hS : SumR xs = if plainB (sumP xs) = true then sumP xs else zPay := by unfold SumR; rw [E1.out]; by_cases h : plainB (sumP xs) = true <;> simp [h]
          have e1' := E1.out
          rw [Hcc.out] at e1'
          rw [Hrr.out] at hS
          generalize sumP xs = s at hO hS e1' ⊢
          have HS := Lib.hid hS
          have E1' := Lib.hid e1'
          obtain ⟨hol, hoc, hof⟩ := id hO
          have o0 := hoc 0 _ rfl
          have o1 := hoc 1 _ rfl
          have o2 := hoc 2 _ rfl
          have o3 := hoc 3 _ rfl
          have HO := Lib.hid hO
          have HR := Lib.hid hR
          have Hbb := Lib.hid hbb
          clear hS e1' hoc hO hR hbb c0 c1 c2 c3 hf E1
          go_wp2_with fail
          with_reducible refine (isPlainPay_c s _).mono ?_
          cases hps : plainB s with
          | true =>
            have e2 : rr = s := by have := HS.out; rw [hps] at this; exact this
            have e3 : cc = 0 := by have := E1'.out; rw [hps] at this; exact this
            subst e2
            subst e3
            clear hps
            rintro e w2 ⟨rfl, hb⟩
            have hB3 := HR.out.on hb
            have hO3 := HO.out.on hb
            have Hb3 := Lib.hid (Hbb.out.trans (hb.mono Hbb.out.size))
            obtain ⟨hlt3, hc3, hf3⟩ := hB3
            obtain ⟨hlt4, hc4, hf4⟩ := hO3
            have c0 := hc3 0 _ rfl
            have c1 := hc3 1 _ rfl
            have c2 := hc3 2 _ rfl
            have c3 := hc3 3 _ rfl
            replace o0 := hc4 0 _ rfl
            replace o1 := hc4 1 _ rfl
            replace o2 := hc4 2 _ rfl
            replace o3 := hc4 3 _ rfl
            clear hc3 hc4 hb hof
            go_wp2
            exact bodyPost_ret (v := .tuple #[vPay rr, .int .i64 0]) (by simp [results, Tryd.results18, go_sem, c0, c1, c2, c3]) rfl ⟨rfl, Hb3.out.run (g := w.heap.size) (by omega) [_, _, _, _]⟩
          | false =>
            have e2 : rr = zPay := by have := HS.out; rw [hps] at this; exact this
            have e3 : cc = 5 := by have := E1'.out; rw [hps] at this; exact this
            subst e2
            subst e3
            clear hps
            rintro e w2 ⟨rfl, hb⟩
            have hB3 := HR.out.on hb
            have Hb3 := Lib.hid (Hbb.out.trans (hb.mono Hbb.out.size))
            obtain ⟨hlt3, hc3, hf3⟩ := hB3
            have c0 := hc3 0 _ rfl
            have c1 := hc3 1 _ rfl
            have c2 := hc3 2 _ rfl
            have c3 := hc3 3 _ rfl
            clear hc3 hb hof o0 o1 o2 o3
            go_wp2
            exact bodyPost_ret (v := .tuple #[vPay zPay, .int .i64 5]) (by simp [results, Tryd.results18, go_sem, zPay, c0, c1, c2, c3]) rfl ⟨rfl, Hb3.out.run (g := w.heap.size) (by omega) [_, _, _, _]⟩
end Go.Proofs.YtfhlmkeklmaedaaDoor
