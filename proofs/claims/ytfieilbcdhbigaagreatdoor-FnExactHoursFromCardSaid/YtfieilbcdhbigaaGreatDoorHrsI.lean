/- The sum of hours on cards: the program's by its contract. No condition. -/
import Derived.Test.YtfieilbcdhbigaaGreatDoorPayU
import Derived.Test.YtfieilbcdhbigaaGreatDoorVal
import Derived.Test.YtfieilbcdhbigaaGreatDoorCap
import Derived.Test.YtfieilbcdhbigaaGreatDoorNum
namespace Go.Proofs.YtfieilbcdhbigaaGreatDoor
open Go.ChangeShapes Go.WideShapes Go.ChangeAt Go.RowKit Go.Sort
set_option linter.unusedVariables false
set_option maxRecDepth 100000
structure HrOk (x y : ItemT) (d : List (List Int)) : Prop where
  kx : x.kd = 1
  rx : 0 ≤ x.ff ∧ x.ff < x.ft
  ry : 0 ≤ y.ff ∧ y.ff < y.ft ∧ y.ft - y.ff ≤ 12
  cards : ∀ c ∈ d, x.ft ≤ c.length ∧ y.ft ≤ c.length ∧ c.length ≤ 20 ∧ ∀ m ∈ c, 0 ≤ m ∧ m ≤ 4095
  len : d.length ≤ 40
def hrV (o : Option Int) : Int := o.getD 0
def hrC (o : Option Int) : Int := match o with
  | some _ => 0
  | none => 8
/-- a card that is not empty lies somewhere -/
theorem RdI.full {w : World} {B : Nat} {ro : Option Addr} {n rc : Nat} {c : List Int} (h : RdI B w (.slice ro n rc) c) (hc : 0 < c.length) : ∃ b off, ro = some ⟨b, off, none⟩ := by
  rcases Rds.cases h with ⟨h0, _⟩ | ⟨b, off, cap, hv, _⟩
  · rw [h0] at hc; cases hc
  · injection hv with h1 _ _; exact ⟨b, off, h1⟩
set_option maxHeartbeats 2000000 in
theorem hoursFrom_c {x y : ItemT} {u : Value} {w : World} {B : Nat} {d : List (List Int)} (nm : ByteArray) (hn : nm.size ≤ 9223372036854775807) (hok : HrOk x y d) (hd : RdInt64SS B w u d) :
    Calls Tryz.prog 37 #[vItem x, vItem y, u, .string nm] w fun e w' => e = .returned (.tuple #[.int .i64 (hrV (hrF x y nm d)), .int .i64 (hrC (hrF x y nm d))]) ∧ Below w.heap.size w w' := by
  have hle := hok.len
  obtain ⟨W, hW⟩ : ∃ W, W = (w.alloc (.cells #[.string x.nm, .int .i64 x.kd, .int .i64 x.ff, .int .i64 x.ft] 72)).alloc (.cells #[.string y.nm, .int .i64 y.kd, .int .i64 y.ff, .int .i64 y.ft] 72) := ⟨_, rfl⟩
  have hb0 : Below w.heap.size w W := by rw [hW]; exact ((Below.refl _ _).alloc (Nat.le_refl _) _).alloc (by simp) _
  have hX : Box W w.heap.size [.string x.nm, .int .i64 x.kd, .int .i64 x.ff, .int .i64 x.ft] := by rw [hW]; exact (Box.new w [.string x.nm, .int .i64 x.kd, .int .i64 x.ff, .int .i64 x.ft] 72).alloc _
  have hY : Box W (w.heap.size + 1) [.string y.nm, .int .i64 y.kd, .int .i64 y.ff, .int .i64 y.ft] := by
    have h := Box.new (w.alloc (.cells #[.string x.nm, .int .i64 x.kd, .int .i64 x.ff, .int .i64 x.ft] 72)) [.string y.nm, .int .i64 y.kd, .int .i64 y.ff, .int .i64 y.ft] 72
    rw [hW]; simpa using h
  obtain ⟨ao, cap, rfl, ho⟩ := RdInt64SS.open (hd.onn hb0)
  obtain ⟨n, hnd⟩ : ∃ n, n = d.length := ⟨_, rfl⟩
  rw [← hnd] at ho hle ⊢
  have Hnd := Lib.hid hnd
  have Ho := Lib.hid ho
  have HW := Lib.hid hW
  have HX := Lib.hid hX
  have HY := Lib.hid hY
  have Hb0 := Lib.hid hb0
  have Hok := Lib.hid hok
  clear hnd ho hW hX hY hb0 hd hok
  go_enter Tryz.func37, Tryz.ntmps37
  go_wp2
  rw [← HW.out]
  go_loopw [10, 18] (fun sv i wr => ∃ (k : Nat) (s : Int), k ≤ n ∧ i = .int .i64 k ∧ sv = .int .i64 s ∧ Hid (hrF x y nm (d.take k) = some s) ∧ Below W.heap.size W wr) (fun _ i _ => n - (intOf i).toNat)
  case atStart => exact ⟨0, 0, Nat.zero_le _, rfl, rfl, rfl, Below.refl _ _⟩
  case round =>
    obtain ⟨k, s, hk, rfl, rfl, hst, hbb⟩ := hrel
    by_cases hkn : k < n
    · obtain ⟨b, off, rfl, hlt, hc⟩ := Ho.out (by have := Hnd.out; omega)
      obtain ⟨c, ro, rc, hck, hcell, hrd⟩ := hc k (by have := Hnd.out; omega)
      have hcm := Hok.out.cards c (List.mem_of_getElem? hck)
      have hrx := Hok.out.rx
      have hry := Hok.out.ry
      have hcl : 0 < c.length := by omega
      obtain ⟨cb, co, rfl⟩ := hrd.full hcl
      obtain ⟨q, hq⟩ : ∃ q, q = c.length := ⟨_, rfl⟩
      rw [← hq] at hcell hrd hcm
      have d0 := (hbb.cell (p := ⟨b, off + k, none⟩) hlt.2).trans hcell
      have HXr := Lib.hid (HX.out.on hbb)
      have HYr := Lib.hid (HY.out.on hbb)
      have x0 := HXr.out.cell 0 _ rfl
      have x1 := HXr.out.cell 1 _ rfl
      have x2 := HXr.out.cell 2 _ rfl
      have x3 := HXr.out.cell 3 _ rfl
      have hlx := HXr.out.lt
      obtain ⟨W2, hW2⟩ : ∃ W2, W2 = wr.alloc (.cells #[.slice (some ⟨cb, co, none⟩) q rc] 67) := ⟨_, rfl⟩
      have hb2 : Below wr.heap.size wr W2 := by rw [hW2]; exact (Below.refl _ _).alloc (Nat.le_refl _) _
      have hC2 : Box W2 wr.heap.size [.slice (some ⟨cb, co, none⟩) q rc] := by rw [hW2]; exact Box.new wr [.slice (some ⟨cb, co, none⟩) q rc] 67
      have Hrd2 := Lib.hid ((hrd.onn hbb).onn hb2)
      have HC2 := Lib.hid hC2
      have HX2 := Lib.hid (HXr.out.on hb2)
      have HY2 := Lib.hid (HYr.out.on hb2)
      have HW2 := Lib.hid hW2
      have Hb2 := Lib.hid (hbb.trans (hb2.mono hbb.size))
      have Hcm := Lib.hid hcm
      have Hrx := Lib.hid hrx
      have Hry := Lib.hid hry
      have Hck := Lib.hid hck
      have Hst := Lib.hid (show hrF x y nm (d.take (k + 1)) = hrS x y nm (some s) c by rw [hrF_snoc hck, hst.out])
      have hbd := hrF_bd (x := x) (y := y) (nm := nm) (d := d.take k) (s := s) (fun z hz => by
        have h9 := Hok.out.cards z (List.mem_of_mem_take hz)
        unfold partC; rw [List.length_drop, List.length_take]; omega) hst.out
      have hbn := numR_bd (partC c y.ff y.ft) (by unfold partC; rw [List.length_drop, List.length_take]; omega)
      have hlk : (d.take k).length ≤ 40 := by rw [List.length_take]; omega
      have hs1 : -40000000000000 ≤ s := by omega
      have hs2 : s ≤ 40000000000000 := by omega
      clear hc hcell hrd hcm hrx hry hcl hq hck hW2 hb2 hC2 hbd hlk
      go_wp2_with fail
      rw [← HW2.out]
      with_reducible refine (itemValue_c x Hok.out.kx Hrx.out.1 Hrx.out.2 (show x.ft ≤ (q : Int) from Hcm.out.1) Hcm.out.2.2.1 Hrd2.out).mono ?_
      cases ho : okTx (partC c x.ff x.ft) with
      | false =>
        have E : Hid (hrF x y nm d = none) := Lib.hid (hrF_none (k := k + 1) (by rw [Hst.out]; show (if okTx (partC c x.ff x.ft) = true then _ else none) = none; rw [if_neg (by rw [ho]; decide)]))
        clear ho
        rintro e w3 ⟨rfl, hb3⟩
        have Hb3 := Lib.hid (Hb0.out.trans ((Hb2.out.trans (hb3.mono Hb2.out.size)).mono Hb0.out.size))
        clear hb3 hbb hbn
        go_wp2
        go_ret2
        rw [E.out]
        exact ⟨rfl, Hb3.out⟩
      | true =>
        have Ho1 := Lib.hid ho
        clear ho
        rintro e w3 ⟨rfl, hb3⟩
        have Hb3 := Lib.hid (Hb2.out.trans (hb3.mono Hb2.out.size))
        have HC3 := Lib.hid (HC2.out.on hb3)
        have HX3 := Lib.hid (HX2.out.on hb3)
        have HY3 := Lib.hid (HY2.out.on hb3)
        have Hrd3 := Lib.hid (Rds.onn Hrd2.out hb3)
        clear hb3 hbb
        obtain ⟨T, hT⟩ : ∃ T, T = whoV (partC c x.ff x.ft) := ⟨_, rfl⟩
        rw [← hT]
        have HT := Lib.hid hT
        clear hT
        go_wp2_with fail
        with_reducible refine (capital_c nm _ hn).mono ?_
        obtain ⟨U, hU⟩ : ∃ U, U = capB nm := ⟨_, rfl⟩
        rw [← hU]
        have HU := Lib.hid hU
        clear hU
        rintro e w4 ⟨rfl, hb4⟩
        have Hb4 := Lib.hid (Hb3.out.trans (hb4.mono Hb3.out.size))
        have HC4 := Lib.hid (HC3.out.on hb4)
        have HX4 := Lib.hid (HX3.out.on hb4)
        have HY4 := Lib.hid (HY3.out.on hb4)
        have Hrd4 := Lib.hid (Rds.onn Hrd3.out hb4)
        clear hb4
        by_cases hw : T = U
        · have q1 : (T.toList == U.toList) = true := by rw [hw]; exact beq_self_eq_true _
          have Hw := Lib.hid (show whoV (partC c x.ff x.ft) = capB nm by rw [← HT.out, ← HU.out]; exact hw)
          clear hw
          have c0 := HC4.out.cell 0 _ rfl
          have y2 := HY4.out.cell 2 _ rfl
          have y3 := HY4.out.cell 3 _ rfl
          go_wp2_with fail
          with_reducible refine (numberIn_c y.ff y.ft Hry.out.1 Hry.out.2.1 (show y.ft ≤ (q : Int) from Hcm.out.2.1) Hry.out.2.2 Hcm.out.2.2.2 Hrd4.out).mono ?_
          obtain ⟨z, hz⟩ : ∃ z, z = (numR (partC c y.ff y.ft)).1 := ⟨_, rfl⟩
          rw [← hz] at hbn ⊢
          have Hz := Lib.hid hz
          clear hz
          obtain ⟨hz1, hz2⟩ := hbn
          cases hb : (numR (partC c y.ff y.ft)).2 with
          | false =>
            have E : Hid (hrF x y nm d = none) := Lib.hid (hrF_none (k := k + 1) (by rw [Hst.out]; show (if okTx (partC c x.ff x.ft) = true then (if whoV (partC c x.ff x.ft) = capB nm then (if (numR (partC c y.ff y.ft)).2 = true then _ else none) else _) else none) = none; rw [if_pos Ho1.out, if_pos Hw.out, if_neg (by rw [hb]; decide)]))
            clear hb
            rintro e w5 ⟨rfl, hb5⟩
            have Hb5 := Lib.hid (Hb0.out.trans ((Hb4.out.trans (hb5.mono Hb4.out.size)).mono Hb0.out.size))
            clear hb5
            go_wp2
            go_ret2
            rw [E.out]
            exact ⟨rfl, Hb5.out⟩
          | true =>
            have E : Hid (hrF x y nm (d.take (k + 1)) = some (s + z)) := Lib.hid (by rw [Hst.out]; show (if okTx (partC c x.ff x.ft) = true then (if whoV (partC c x.ff x.ft) = capB nm then (if (numR (partC c y.ff y.ft)).2 = true then some (s + (numR (partC c y.ff y.ft)).1) else none) else _) else none) = _; rw [if_pos Ho1.out, if_pos Hw.out, if_pos hb, ← Hz.out])
            clear hb
            rintro e w5 ⟨rfl, hb5⟩
            have Hb5 := Lib.hid (Hb4.out.trans (hb5.mono Hb4.out.size))
            clear hb5 d0 x0 x1 x2 x3 c0 y2 y3
            go_wp2
            go_roundw
            case rel => exact ⟨k + 1, s + z, by omega, by go_num, by go_num, E.out, Hb5.out⟩
            case measure => simp [intOf]; omega
        · have q1 : (T.toList == U.toList) = false := by rw [beq_eq_false_iff_ne]; exact fun h => hw (toList_inj.1 h)
          have E : Hid (hrF x y nm (d.take (k + 1)) = some s) := Lib.hid (by rw [Hst.out]; show (if okTx (partC c x.ff x.ft) = true then (if whoV (partC c x.ff x.ft) = capB nm then _ else some s) else none) = _; rw [if_pos Ho1.out, if_neg (by rw [← HT.out, ← HU.out]; exact hw)])
          clear hw d0 x0 x1 x2 x3
          go_wp2
          go_roundw
          case rel => exact ⟨k + 1, s, by omega, by go_num, rfl, E.out, Hb4.out⟩
          case measure => simp [intOf]; omega
    · have hq := hst.out
      rw [List.take_of_length_le (by have := Hnd.out; omega)] at hq
      have Hq := Lib.hid hq
      have Hbf := Lib.hid (Hb0.out.trans (hbb.mono Hb0.out.size))
      clear hq hst hbb
      go_wp2
      go_ret2
      rw [Hq.out]
      exact ⟨rfl, Hbf.out⟩
end Go.Proofs.YtfieilbcdhbigaaGreatDoor
