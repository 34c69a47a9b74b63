/- The sum of hours on cards: the program's by its contract. HoursFrom: the program's by its contract. Strange cards: the program's functions within, each by its contract. The sum of hours on cards: the reference's by its contract; HoursFrom. No condition. -/
import Derived.Test.YtkpcdnbjngpooaaGreatDoorPR25
import Derived.Test.YtkpcdnbjngpooaaGreatDoorPR24
import Derived.Test.YtkpcdnbjngpooaaGreatDoorPR23
import Derived.Test.YtkpcdnbjngpooaaGreatDoorPR12
namespace Go.Proofs.YtkpcdnbjngpooaaGreatDoor
open Go.ChangeShapes Go.WideShapes Go.ChangeAt Go.RowKit Go.Sort
set_option linter.unusedVariables false
set_option maxRecDepth 100000
structure HrOk (x y : ItemT) (d : List (List Int)) : Prop where
  kx : x.kd = 1
  rx : 0 ≤ x.ff ∧ x.ff < x.ft
  ry : 0 ≤ y.ff ∧ y.ff < y.ft ∧ y.ft - y.ff ≤ 12
  cards : ∀ c ∈ d, x.ft ≤ c.length ∧ y.ft ≤ c.length ∧ c.length ≤ 20 ∧ ∀ m ∈ c, 0 ≤ m ∧ m ≤ 4095
  len : d.length ≤ 40
def hrV (o : Option Int) : Int := o.getD 0
def hrC (o : Option Int) : Int := match o with
  | some _ => 0
  | none => 8
/-- a card that is not empty lies somewhere -/
theorem RdI.full {w : World} {B : Nat} {ro : Option Addr} {n rc : Nat} {c : List Int} (h : RdI B w (.slice ro n rc) c) (hc : 0 < c.length) : ∃ b off, ro = some ⟨b, off, none⟩ := by
  rcases Rds.cases h with ⟨h0, _⟩ | ⟨b, off, cap, hv, _⟩
  · rw [h0] at hc; cases hc
  · injection hv with h1 _ _; exact ⟨b, off, h1⟩
set_option maxHeartbeats 2000000 in
theorem hoursFrom_c {x y : ItemT} {u : Value} {w : World} {B : Nat} {d : List (List Int)} (nm : ByteArray) (hn : nm.size ≤ 9223372036854775807) (hok : HrOk x y d) (hd : RdInt64SS B w u d) :
    Calls Tryz.prog 22 #[vItem x, vItem y, u, .string nm] w fun e w' => e = .returned (.tuple #[.int .i64 (hrV (hrF x y nm d)), .int .i64 (hrC (hrF x y nm d))]) ∧ Below w.heap.size w w' := by
  have hle := hok.len
  obtain ⟨W, hW⟩ : ∃ W, W = (w.alloc (.cells #[.string x.nm, .int .i64 x.kd, .int .i64 x.ff, .int .i64 x.ft] 55)).alloc (.cells #[.string y.nm, .int .i64 y.kd, .int .i64 y.ff, .int .i64 y.ft] 55) := ⟨_, rfl⟩
  have hb0 : Below w.heap.size w W := by rw [hW]; exact ((Below.refl _ _).alloc (Nat.le_refl _) _).alloc (by simp) _
  have hX : Box W w.heap.size [.string x.nm, .int .i64 x.kd, .int .i64 x.ff, .int .i64 x.ft] := by rw [hW]; exact (Box.new w [.string x.nm, .int .i64 x.kd, .int .i64 x.ff, .int .i64 x.ft] 55).alloc _
  have hY : Box W (w.heap.size + 1) [.string y.nm, .int .i64 y.kd, .int .i64 y.ff, .int .i64 y.ft] := by
    have h := Box.new (w.alloc (.cells #[.string x.nm, .int .i64 x.kd, .int .i64 x.ff, .int .i64 x.ft] 55)) [.string y.nm, .int .i64 y.kd, .int .i64 y.ff, .int .i64 y.ft] 55
    rw [hW]; simpa using h
  obtain ⟨ao, cap, rfl, ho⟩ := RdInt64SS.open (hd.onn hb0)
  obtain ⟨n, hnd⟩ : ∃ n, n = d.length := ⟨_, rfl⟩
  rw [← hnd] at ho hle ⊢
  have Hnd := Lib.hid hnd
  have Ho := Lib.hid ho
  have HW := Lib.hid hW
  have HX := Lib.hid hX
  have HY := Lib.hid hY
  have Hb0 := Lib.hid hb0
  have Hok := Lib.hid hok
  clear hnd ho hW hX hY hb0 hd hok
  go_enter Tryz.func22, Tryz.ntmps22
  go_wp2
  rw [← HW.out]
  go_loopw [10, 18] (fun sv i wr => ∃ (k : Nat) (s : Int), k ≤ n ∧ i = .int .i64 k ∧ sv = .int .i64 s ∧ Hid (hrF x y nm (d.take k) = some s) ∧ Below W.heap.size W wr) (fun _ i _ => n - (intOf i).toNat)
  case atStart => exact ⟨0, 0, Nat.zero_le _, rfl, rfl, rfl, Below.refl _ _⟩
  case round =>
    obtain ⟨k, s, hk, rfl, rfl, hst, hbb⟩ := hrel
    by_cases hkn : k < n
    · obtain ⟨b, off, rfl, hlt, hc⟩ := Ho.out (by have := Hnd.out; omega)
      obtain ⟨c, ro, rc, hck, hcell, hrd⟩ := hc k (by have := Hnd.out; omega)
      have hcm := Hok.out.cards c (List.mem_of_getElem? hck)
      have hrx := Hok.out.rx
      have hry := Hok.out.ry
      have hcl : 0 < c.length := by omega
      obtain ⟨cb, co, rfl⟩ := hrd.full hcl
      obtain ⟨q, hq⟩ : ∃ q, q = c.length := ⟨_, rfl⟩
      rw [← hq] at hcell hrd hcm
      have d0 := (hbb.cell (p := ⟨b, off + k, none⟩) hlt.2).trans hcell
      have HXr := Lib.hid (HX.out.on hbb)
      have HYr := Lib.hid (HY.out.on hbb)
      have x0 := HXr.out.cell 0 _ rfl
      have x1 := HXr.out.cell 1 _ rfl
      have x2 := HXr.out.cell 2 _ rfl
      have x3 := HXr.out.cell 3 _ rfl
      have hlx := HXr.out.lt
      obtain ⟨W2, hW2⟩ : ∃ W2, W2 = wr.alloc (.cells #[.slice (some ⟨cb, co, none⟩) q rc] 70) := ⟨_, rfl⟩
      have hb2 : Below wr.heap.size wr W2 := by rw [hW2]; exact (Below.refl _ _).alloc (Nat.le_refl _) _
      have hC2 : Box W2 wr.heap.size [.slice (some ⟨cb, co, none⟩) q rc] := by rw [hW2]; exact Box.new wr [.slice (some ⟨cb, co, none⟩) q rc] 70
      have Hrd2 := Lib.hid ((hrd.onn hbb).onn hb2)
      have HC2 := Lib.hid hC2
      have HX2 := Lib.hid (HXr.out.on hb2)
      have HY2 := Lib.hid (HYr.out.on hb2)
      have HW2 := Lib.hid hW2
      have Hb2 := Lib.hid (hbb.trans (hb2.mono hbb.size))
      have Hcm := Lib.hid hcm
      have Hrx := Lib.hid hrx
      have Hry := Lib.hid hry
      have Hck := Lib.hid hck
      have Hst := Lib.hid (show hrF x y nm (d.take (k + 1)) = hrS x y nm (some s) c by rw [hrF_snoc hck, hst.out])
      have hbd := hrF_bd (x := x) (y := y) (nm := nm) (d := d.take k) (s := s) (fun z hz => by
        have h9 := Hok.out.cards z (List.mem_of_mem_take hz)
        unfold partC; rw [List.length_drop, List.length_take]; omega) hst.out
      have hbn := numR_bd (partC c y.ff y.ft) (by unfold partC; rw [List.length_drop, List.length_take]; omega)
      have hlk : (d.take k).length ≤ 40 := by rw [List.length_take]; omega
      have hs1 : -40000000000000 ≤ s := by omega
      have hs2 : s ≤ 40000000000000 := by omega
      clear hc hcell hrd hcm hrx hry hcl hq hck hW2 hb2 hC2 hbd hlk
      go_wp2_with fail
      rw [← HW2.out]
      with_reducible refine (itemValue_c x Hok.out.kx Hrx.out.1 Hrx.out.2 (show x.ft ≤ (q : Int) from Hcm.out.1) Hcm.out.2.2.1 Hrd2.out).mono ?_
      cases ho : okTx (partC c x.ff x.ft) with
      | false =>
        have E : Hid (hrF x y nm d = none) := Lib.hid (hrF_none (k := k + 1) (by rw [Hst.out]; show (if okTx (partC c x.ff x.ft) = true then _ else none) = none; rw [if_neg (by rw [ho]; decide)]))
        clear ho
        rintro e w3 ⟨rfl, hb3⟩
        have Hb3 := Lib.hid (Hb0.out.trans ((Hb2.out.trans (hb3.mono Hb2.out.size)).mono Hb0.out.size))
        clear hb3 hbb hbn
        go_wp2
        go_ret2
        rw [E.out]
        exact ⟨rfl, Hb3.out⟩
      | true =>
        have Ho1 := Lib.hid ho
        clear ho
        rintro e w3 ⟨rfl, hb3⟩
        have Hb3 := Lib.hid (Hb2.out.trans (hb3.mono Hb2.out.size))
        have HC3 := Lib.hid (HC2.out.on hb3)
        have HX3 := Lib.hid (HX2.out.on hb3)
        have HY3 := Lib.hid (HY2.out.on hb3)
        have Hrd3 := Lib.hid (Rds.onn Hrd2.out hb3)
        clear hb3 hbb
        obtain ⟨T, hT⟩ : ∃ T, T = whoV (partC c x.ff x.ft) := ⟨_, rfl⟩
        rw [← hT]
        have HT := Lib.hid hT
        clear hT
        go_wp2_with fail
        with_reducible refine (capital_c nm _ hn).mono ?_
        obtain ⟨U, hU⟩ : ∃ U, U = capB nm := ⟨_, rfl⟩
        rw [← hU]
        have HU := Lib.hid hU
        clear hU
        rintro e w4 ⟨rfl, hb4⟩
        have Hb4 := Lib.hid (Hb3.out.trans (hb4.mono Hb3.out.size))
        have HC4 := Lib.hid (HC3.out.on hb4)
        have HX4 := Lib.hid (HX3.out.on hb4)
        have HY4 := Lib.hid (HY3.out.on hb4)
        have Hrd4 := Lib.hid (Rds.onn Hrd3.out hb4)
        clear hb4
        by_cases hw : T = U
        · have q1 : (T.toList == U.toList) = true := by rw [hw]; exact beq_self_eq_true _
          have Hw := Lib.hid (show whoV (partC c x.ff x.ft) = capB nm by rw [← HT.out, ← HU.out]; exact hw)
          clear hw
          have c0 := HC4.out.cell 0 _ rfl
          have y2 := HY4.out.cell 2 _ rfl
          have y3 := HY4.out.cell 3 _ rfl
          go_wp2_with fail
          with_reducible refine (numberIn_c y.ff y.ft Hry.out.1 Hry.out.2.1 (show y.ft ≤ (q : Int) from Hcm.out.2.1) Hry.out.2.2 Hcm.out.2.2.2 Hrd4.out).mono ?_
          obtain ⟨z, hz⟩ : ∃ z, z = (numR (partC c y.ff y.ft)).1 := ⟨_, rfl⟩
          rw [← hz] at hbn ⊢
          have Hz := Lib.hid hz
          clear hz
          obtain ⟨hz1, hz2⟩ := hbn
          cases hb : (numR (partC c y.ff y.ft)).2 with
          | false =>
            have E : Hid (hrF x y nm d = none) := Lib.hid (hrF_none (k := k + 1) (by rw [Hst.out]; show (if okTx (partC c x.ff x.ft) = true then (if whoV (partC c x.ff x.ft) = capB nm then (if (numR (partC c y.ff y.ft)).2 = true then _ else none) else _) else none) = none; rw [if_pos Ho1.out, if_pos Hw.out, if_neg (by rw [hb]; decide)]))
            clear hb
            rintro e w5 ⟨rfl, hb5⟩
            have Hb5 := Lib.hid (Hb0.out.trans ((Hb4.out.trans (hb5.mono Hb4.out.size)).mono Hb0.out.size))
            clear hb5
            go_wp2
            go_ret2
            rw [E.out]
            exact ⟨rfl, Hb5.out⟩
          | true =>
            have E : Hid (hrF x y nm (d.take (k + 1)) = some (s + z)) := Lib.hid (by rw [Hst.out]; show (if okTx (partC c x.ff x.ft) = true then (if whoV (partC c x.ff x.ft) = capB nm then (if (numR (partC c y.ff y.ft)).2 = true then some (s + (numR (partC c y.ff y.ft)).1) else none) else _) else none) = _; rw [if_pos Ho1.out, if_pos Hw.out, if_pos hb, ← Hz.out])
            clear hb
            rintro e w5 ⟨rfl, hb5⟩
            have Hb5 := Lib.hid (Hb4.out.trans (hb5.mono Hb4.out.size))
            clear hb5 d0 x0 x1 x2 x3 c0 y2 y3
            go_wp2
            go_roundw
            case rel => exact ⟨k + 1, s + z, by omega, by go_num, by go_num, E.out, Hb5.out⟩
            case measure => simp [intOf]; omega
        · have q1 : (T.toList == U.toList) = false := by rw [beq_eq_false_iff_ne]; exact fun h => hw (toList_inj.1 h)
          have E : Hid (hrF x y nm (d.take (k + 1)) = some s) := Lib.hid (by rw [Hst.out]; show (if okTx (partC c x.ff x.ft) = true then (if whoV (partC c x.ff x.ft) = capB nm then _ else some s) else none) = _; rw [if_pos Ho1.out, if_neg (by rw [← HT.out, ← HU.out]; exact hw)])
          clear hw d0 x0 x1 x2 x3
          go_wp2
          go_roundw
          case rel => exact ⟨k + 1, s, by omega, by go_num, rfl, E.out, Hb4.out⟩
          case measure => simp [intOf]; omega
    · have hq := hst.out
      rw [List.take_of_length_le (by have := Hnd.out; omega)] at hq
      have Hq := Lib.hid hq
      have Hbf := Lib.hid (Hb0.out.trans (hbb.mono Hb0.out.size))
      clear hq hst hbb
      go_wp2
      go_ret2
      rw [Hq.out]
      exact ⟨rfl, Hbf.out⟩
end Go.Proofs.YtkpcdnbjngpooaaGreatDoor
namespace Go.Proofs.YtkpcdnbjngpooaaGreatDoor
open Go.ChangeShapes Go.WideShapes Go.ChangeAt Go.RowKit Go.Sort
set_option linter.unusedVariables false
set_option maxRecDepth 100000
theorem hrOk_of {ok : Bool} {wd : Int} {xs : List ItemT} {d : List (List Int)} (h : PayOk ok wd xs d) : HrOk (itAt xs whoT) (itAt xs hrsT) d := by
  obtain ⟨_, _, hit⟩ := layB_parts h.lay
  obtain ⟨k1, a, hk1, hka⟩ := idx_at h.who
  obtain ⟨k2, b, hk2, hkb⟩ := idx_at h.hrs
  have e1 := itAt_of hk1 hka
  have e2 := itAt_of hk2 hkb
  have oa := hit a (List.mem_of_getElem? hka)
  have ob := hit b (List.mem_of_getElem? hkb)
  have kw := h.kw
  have kh := h.kh
  rw [e1] at kw ⊢
  rw [e2] at kh ⊢
  obtain ⟨hl, hc⟩ := deckB_parts h.deck
  obtain ⟨a1, a2, a3⟩ := oa.ff
  obtain ⟨b1, b2, b3⟩ := ob.ff
  refine ⟨kw, ⟨a1, a2⟩, ⟨b1, b2, ?_⟩, fun c hcm => ?_, hl⟩
  · rcases ob.kd with h1 | h1
    · omega
    · exact h1.2
  · obtain ⟨h1, h2⟩ := hc c hcm
    have hd0 : ¬ d.length = 0 := fun e => by rw [List.eq_nil_of_length_eq_zero e] at hcm; cases hcm
    have hw := h.wid.resolve_left hd0
    have h3 := card_len h1
    exact ⟨by omega, by omega, h3.2, card_masks h1⟩
def hoursC (wd : Int) (xs : List ItemT) (d : List (List Int)) (nm : ByteArray) : Int := if payC true wd xs d = 0 then hrC (hrF (itAt xs whoT) (itAt xs hrsT) nm d) else payC true wd xs d
def hoursV (wd : Int) (xs : List ItemT) (d : List (List Int)) (nm : ByteArray) : Int := if payC true wd xs d = 0 then hrV (hrF (itAt xs whoT) (itAt xs hrsT) nm d) else 0
set_option maxHeartbeats 1000000 in
theorem HoursFrom_c {xs : List ItemT} {v u : Value} {w : World} {A B : Nat} {d : List (List Int)} (wd : Int) (nm : ByteArray) (hn : nm.size ≤ 9223372036854775807) (ha : RdItemS A w v xs) (hd : RdInt64SS B w u d) :
    Calls Tryz.prog 11 #[.agg #[.int .i64 wd, v], u, .string nm] w fun e w' => e = .returned (.tuple #[.int .i64 (hoursV wd xs d nm), .int .i64 (hoursC wd xs d nm)]) ∧ Below w.heap.size w w' := by
  have hb0 : Below w.heap.size w (w.alloc (.cells #[.int .i64 wd, v] 27)) := (Below.refl _ _).alloc (Nat.le_refl _) _
  have Ha := Lib.hid (Rds.onn ha hb0)
  have Hd := Lib.hid (RdInt64SS.onn hd hb0)
  have Hb0 := Lib.hid hb0
  obtain ⟨ao, cap, rfl⟩ := ha.shape
  clear ha hd hb0
  go_enter Tryz.func11, Tryz.ntmps11
  go_wp2_with fail
  with_reducible refine (payItems_c wd true Ha.out Hd.out).mono ?_
  obtain ⟨c, hc⟩ : ∃ c, payC true wd xs d = c := ⟨_, rfl⟩
  obtain ⟨a, hia⟩ : ∃ a, payX true wd xs d whoT = a := ⟨_, rfl⟩
  obtain ⟨b, hib⟩ : ∃ b, payX true wd xs d hrsT = b := ⟨_, rfl⟩
  rw [hc, hia, hib]
  have Hc := Lib.hid hc
  have Hia := Lib.hid hia
  have Hib := Lib.hid hib
  clear hc hia hib
  rintro e w1 ⟨rfl, hb1⟩
  have Hb1 := Lib.hid (Hb0.out.trans (hb1.mono Hb0.out.size))
  have Hd1 := Lib.hid (RdInt64SS.onn Hd.out hb1)
  clear hb1
  by_cases hc0 : c = 0
  · subst hc0
    have hp := payC_ok Hc.out
    have ha0 : itAt xs whoT = a := by rw [← Hia.out]; unfold payX; rw [if_pos Hc.out]
    have hb0 : itAt xs hrsT = b := by rw [← Hib.out]; unfold payX; rw [if_pos Hc.out]
    have hok := hrOk_of hp
    rw [ha0, hb0] at hok
    have Hok := Lib.hid hok
    have E1 : Hid (hoursV wd xs d nm = hrV (hrF a b nm d)) := Lib.hid (by unfold hoursV; rw [if_pos Hc.out, ha0, hb0])
    have E2 : Hid (hoursC wd xs d nm = hrC (hrF a b nm d)) := Lib.hid (by unfold hoursC; rw [if_pos Hc.out, ha0, hb0])
    clear hp ha0 hb0 hok
    have hb2 : Below w1.heap.size w1 ((w1.alloc (.cells #[.string a.nm, .int .i64 a.kd, .int .i64 a.ff, .int .i64 a.ft] 55)).alloc (.cells #[.string b.nm, .int .i64 b.kd, .int .i64 b.ff, .int .i64 b.ft] 55)) := ((Below.refl _ _).alloc (Nat.le_refl _) _).alloc (by simp) _
    have Hd2 := Lib.hid (RdInt64SS.onn Hd1.out hb2)
    have Hb2 := Lib.hid (Hb1.out.trans (hb2.mono Hb1.out.size))
    clear hb2
    go_wp2_with fail
    with_reducible refine (hoursFrom_c nm hn Hok.out Hd2.out).mono ?_
    rintro e w2 ⟨rfl, hb3⟩
    have Hb3 := Lib.hid (Hb2.out.trans (hb3.mono Hb2.out.size))
    clear hb3
    go_wp2
    go_ret2
    rw [E1.out, E2.out]
    exact ⟨rfl, Hb3.out⟩
  · have q1 : (c != 0) = true := by simpa using hc0
    have E1 : Hid (hoursV wd xs d nm = 0) := Lib.hid (by unfold hoursV; rw [Hc.out, if_neg hc0])
    have E2 : Hid (hoursC wd xs d nm = c) := Lib.hid (by unfold hoursC; rw [Hc.out, if_neg hc0])
    clear hc0
    go_wp2
    go_ret2
    rw [E1.out, E2.out]
    exact ⟨rfl, (Hb1.out.alloc Hb1.out.size _).alloc (by have := Hb1.out.size; simp; omega) _⟩
end Go.Proofs.YtkpcdnbjngpooaaGreatDoor
namespace Go.Proofs.YtkpcdnbjngpooaaGreatDoor
open Go.ChangeShapes Go.WideShapes Go.ChangeAt Go.RowKit Go.Sort
set_option linter.unusedVariables false
set_option maxRecDepth 100000
def capEq (nm : ByteArray) (y : WorkerT) : Bool := (capB y.nm).toList == nm.toList
theorem clo_Strange (nm : ByteArray) (y : WorkerT) (w : World) (hy : okWorker y) {c : Nat} (hcc : w.cell? ⟨c, 0, none⟩ = some (.string nm)) (hlt : c < w.heap.size) :
    Calls Tryz.prog 35 #[vWorker y, .pointer (some ⟨c, 0, none⟩)] w fun e w' => e = .returned (.bool (capEq nm y)) ∧ Below w.heap.size w w' := by
  obtain ⟨W, hW⟩ : ∃ W, W = w.alloc (.cells #[.string y.nm, .int .i64 y.rate, .int .i64 y.tax] 49) := ⟨_, rfl⟩
  have hb0 : Below w.heap.size w W := by rw [hW]; exact (Below.refl _ _).alloc (Nat.le_refl _) _
  have hX : Box W w.heap.size [.string y.nm, .int .i64 y.rate, .int .i64 y.tax] := by rw [hW]; exact Box.new w [.string y.nm, .int .i64 y.rate, .int .i64 y.tax] 49
  have f0 := cell_regrown (hX.cell 0 _ rfl)
  have f1 := cell_regrown ((hb0.cell (p := ⟨c, 0, none⟩) hlt).trans hcc)
  have hs : y.nm.size ≤ 9223372036854775807 := hy.1
  have HW := Lib.hid hW
  have Hb0 := Lib.hid hb0
  have Hcap := Lib.hid (fun q os => capital_c y.nm (grow (redrawn W q) os) hs)
  obtain ⟨U, hU⟩ : ∃ U, U = capB y.nm := ⟨_, rfl⟩
  have E : Hid (capEq nm y = (U.toList == nm.toList)) := Lib.hid (by rw [hU]; rfl)
  rw [← hU] at Hcap
  clear hW hb0 hX hcc hlt hy hU
  go_enter Tryz.func35, Tryz.ntmps35
  go_upto_region 1 with fail
  rw [← HW.out]
  refine wp_region_quiet_below (by kernel_rfl) (by kernel_rfl) ?_
  repeat ((with_reducible refine wpQuiet_step (fun K hK => ?_)); go_simp; first | ((with_reducible refine hK _ ?_); clear hK K) | (apply Exists.intro; refine ⟨fun _ => ?_, hK _ ?_⟩; ((first | (go_at_call 36; with_reducible exact qb_below (Hcap.out _ _)))); clear hK K))
  refine wpQuiet_nil ?_
  intro _ hw'
  obtain ⟨⟨dq, osq⟩, hw''⟩ := hw'
  subst hw''
  have hbq := below_regrown W dq osq
  generalize grow (redrawn W dq) osq = wq at hbq ⊢
  have hb := Hb0.out.trans (hbq.mono Hb0.out.size)
  clear hbq f0 f1
  go_wp2
  go_ret
  rw [E.out]
  exact ⟨rfl, hb⟩
theorem indexStrange_c {xs : List WorkerT} {v : Value} {w : World} {A : Nat} (nm : ByteArray) {c : Nat} (hcc : w.cell? ⟨c, 0, none⟩ = some (.string nm)) (hlc : c < w.heap.size) (ha : RdWorkerS A w v xs) :
    Calls Tryz.prog 67 #[v, .func (.func 35) #[] #[.pointer (some ⟨c, 0, none⟩)]] w fun e w' => (∃ r : Int, e = .returned (.int .i64 r) ∧ -1 ≤ r ∧ (0 ≤ r ↔ xs.any (capEq nm) = true)) ∧ Below w.heap.size w w' := by
  have hle := ha.le
  obtain ⟨ao, cap, rfl, ho⟩ := eWorker_open ha
  obtain ⟨n, hn⟩ : ∃ n, n = xs.length := ⟨_, rfl⟩
  rw [← hn]
  have Hn := Lib.hid hn
  have Ho := Lib.hid ho
  have Hcc := Lib.hid hcc
  clear hcc
  have hle' : n ≤ 9223372036854775807 := by omega
  clear ho hn hle ha
  go_enter Tryz.func67, Tryz.ntmps67
  go_wp2
  go_loopw [8] (fun i wr => ∃ k : Nat, k ≤ n ∧ i = .int .i64 k ∧ Hid ((xs.take k).any (capEq nm) = false) ∧ Below w.heap.size w wr) (fun i _ => n - (intOf i).toNat)
  case atStart => exact ⟨0, Nat.zero_le _, rfl, rfl, Below.refl _ _⟩
  case round =>
    obtain ⟨k, hk, rfl, hp, hbb⟩ := hrel
    by_cases hkn : k < n
    · obtain ⟨b, off, rfl, hlt, hc⟩ := Ho.out (by have := Hn.out; omega)
      obtain ⟨y, hy, ⟨c0, c1, c2⟩, bx⟩ := hc k (by have := Hn.out; omega)
      have Hy := Lib.hid hy
      have Hbx := Lib.hid bx
      have d0 := (hbb.cell (p := ⟨b, off + k * 3, none⟩) hlt.2).trans c0
      have d1 := (hbb.cell (p := ⟨b, off + k * 3 + 1, none⟩) hlt.2).trans c1
      have d2 := (hbb.cell (p := ⟨b, off + k * 3 + 2, none⟩) hlt.2).trans c2
      have hcw := (hbb.cell (p := ⟨c, 0, none⟩) hlc).trans Hcc.out
      have hlw : c < wr.heap.size := by have := hbb.size; omega
      have Hcw := Lib.hid hcw
      clear hcw
      clear hy hc bx c0 c1 c2
      go_wp2_with fail
      with_reducible refine (clo_Strange nm y wr Hbx.out Hcw.out hlw).mono ?_
      cases hq : (capEq nm) y with
      | true =>
        have Hq := Lib.hid hq
        clear hq
        rintro e w1 ⟨rfl, hb1⟩
        have hb2 := hbb.trans (hb1.mono hbb.size)
        go_wp2
        go_ret
        refine ⟨⟨_, rfl, by omega, ?_⟩, hb2⟩
        have : xs.any (capEq nm) = true := List.any_eq_true.2 ⟨y, List.mem_of_getElem? Hy.out, Hq.out⟩
        simp [this]
      | false =>
        have Hq := Lib.hid hq
        clear hq
        rintro e w1 ⟨rfl, hb1⟩
        have hb2 := hbb.trans (hb1.mono hbb.size)
        clear d0 d1 d2 hb1 hbb
        go_wp2
        go_roundw
        case rel => exact ⟨k + 1, by omega, by go_num, by show _ = false; rw [take_snoc Hy.out, List.any_append, hp.out]; simp [Hq.out], hb2⟩
        case measure => simp [intOf]; omega
    · go_wp2
      go_ret
      refine ⟨⟨_, rfl, by omega, ?_⟩, hbb⟩
      have hq := hp.out
      rw [List.take_of_length_le (by have := Hn.out; omega)] at hq
      exact any_endT hq
theorem containsStrange_c {xs : List WorkerT} {v : Value} {w : World} {A : Nat} (nm : ByteArray) {c : Nat} (hcc : w.cell? ⟨c, 0, none⟩ = some (.string nm)) (hlc : c < w.heap.size) (ha : RdWorkerS A w v xs) :
    Calls Tryz.prog 34 #[v, .func (.func 35) #[] #[.pointer (some ⟨c, 0, none⟩)]] w fun e w' => e = .returned (.bool (xs.any (capEq nm))) ∧ Below w.heap.size w w' := by
  have Ha := Lib.hid ha
  have Hcc := Lib.hid hcc
  clear hcc
  obtain ⟨ao, cap, rfl⟩ := ha.shape
  clear ha
  go_enter Tryz.func34, Tryz.ntmps34
  go_wp2_with fail
  with_reducible refine (indexStrange_c nm Hcc.out hlc Ha.out).mono ?_
  rintro e w' ⟨⟨r, rfl, hr, hi⟩, hb⟩
  have Hi := Lib.hid hi
  clear hi
  go_wp2
  go_ret
  refine ⟨ret_bool ?_, hb⟩
  rw [Bool.eq_iff_iff, decide_eq_true_iff]
  exact Hi.out

def whereL (p : Nat → Bool) (n : Nat) : List Int := ((List.range n).filter p).map fun k : Nat => (k : Int)
theorem whereL_succ (p : Nat → Bool) (n : Nat) : whereL p (n + 1) = if p n = true then whereL p n ++ [(n : Int)] else whereL p n := by
  unfold whereL
  rw [List.range_succ, List.filter_append, List.map_append]
  by_cases h : p n = true
  · rw [if_pos h]; simp [h]
  · rw [if_neg h]; simp [h]
theorem whereL_len (p : Nat → Bool) (n : Nat) : (whereL p n).length ≤ n := by
  unfold whereL
  rw [List.length_map]
  exact Nat.le_trans (List.length_filter_le _ _) (by simp)
theorem columnsWhere_c {p : Nat → Bool} {pa pb pc : Option Addr} {w : World} (n : Nat) (hn : n ≤ 1000000)
    (hcl : ∀ (k : Nat) (wx : World), k < n → Below w.heap.size w wx → Calls Tryz.prog 32 #[.int .i64 (k : Int), .pointer pa, .pointer pb, .pointer pc] wx fun e w' => e = .returned (.bool (p k)) ∧ Below wx.heap.size wx w') :
    Calls Tryz.prog 30 #[.int .i64 (n : Int), .func (.func 32) #[] #[.pointer pa, .pointer pb, .pointer pc]] w fun e w' => ∃ u, e = .returned u ∧ OwnInt64S w.heap.size w' u (whereL p n) ∧ Below w.heap.size w w' := by
  obtain ⟨i0, hi, hz0, hz1, hz2⟩ := info_parts Tryz.infoInt64
  have HR0 : Hid (OwnInt64S w.heap.size (w.alloc (.cells #[] 2)) (.slice (some ⟨w.heap.size, 0, none⟩) 0 0) []) := Lib.hid (Own.lit (E := eI) (xs := []) (cs := #[]) (Nat.le_refl _) rfl rfl (by decide) (fun x hx => by cases hx))
  have HB0 : Hid (Below w.heap.size w (w.alloc (.cells #[] 2))) := Lib.hid ((Below.refl _ _).alloc (Nat.le_refl _) _)
  have Hcl := Lib.hid hcl
  clear hcl
  go_enter Tryz.func30, Tryz.ntmps30
  go_wp2
  go_loopw [5, 9] (fun ov i wr => ∃ k : Nat, k ≤ n ∧ i = .int .i64 k ∧ OwnInt64S w.heap.size wr ov (whereL p k) ∧ Below w.heap.size w wr) (fun _ i _ => n - (intOf i).toNat)
  case atStart => exact ⟨0, Nat.zero_le _, rfl, HR0.out, HB0.out⟩
  case round =>
    obtain ⟨k, hk, rfl, hR, hb⟩ := hrel
    clear HR0 HB0
    by_cases hkn : k < n
    · have hc := Hcl.out k wr hkn hb
      have HR := Lib.hid hR
      have HB := Lib.hid hb
      obtain ⟨ro, rc, hro⟩ := hR.shape
      subst hro
      have Hl := Lib.hid (whereL_len p k)
      have Hsu := Lib.hid (whereL_succ p k)
      have Hkb : Hid (eI.ok (k : Int)) := Lib.hid (by show -9223372036854775808 ≤ (k : Int) ∧ (k : Int) ≤ 9223372036854775807; omega)
      cases hp : p k with
      | true =>
        rw [hp] at hc Hsu
        have Hc := Lib.hid hc
        clear hc hR hb hp
        go_wp2_with fail
        with_reducible refine Hc.out.mono ?_
        rintro e w1 ⟨rfl, hb1⟩
        have HR1 := Lib.hid (Own.below HR.out hb1 (Nat.le_refl _))
        have HB1 := Lib.hid (HB.out.trans (hb1.mono HB.out.size))
        clear hb1
        go_wp2_with (first | (at_builtin; refine wpList_appS (E := eI) rfl _ _ 34 rfl Tryz.underlying34 hi hz0 hz1 hz2 rfl (by decide) rfl rfl (HR1.out.alloc _) (rds_one (E := eI) (x := (k : Int)) Hkb.out rfl) ?b1 ?b2 ?b3 ?_))
        case b1 => have := Hl.out; unfold maxLen; (try simp) <;> omega
        case b2 => have := Hl.out; (try simp) <;> omega
        case b3 => have := HB1.out.size; (try simp) <;> omega
        intro v2 w2 hR2 hg
        have hb2 : Below w.heap.size w w2 := hg.alloc.below HB1.out HB1.out.size (fun j hj => (HR1.out.lt j hj).1)
        have HR2 := Lib.hid hR2
        have HB2 := Lib.hid hb2
        clear hR2 hg hb2
        go_wp2
        go_roundw
        case rel => exact ⟨k + 1, by omega, by go_num, by rw [Hsu.out, if_pos trivial]; exact HR2.out, HB2.out⟩
        case measure => simp [intOf]; omega
      | false =>
        rw [hp] at hc Hsu
        have Hc := Lib.hid hc
        clear hc hR hb hp
        go_wp2_with fail
        with_reducible refine Hc.out.mono ?_
        rintro e w1 ⟨rfl, hb1⟩
        have HR1 := Lib.hid (Own.below HR.out hb1 (Nat.le_refl _))
        have HB1 := Lib.hid (HB.out.trans (hb1.mono HB.out.size))
        clear hb1
        go_wp2
        go_roundw
        case rel => exact ⟨k + 1, by omega, by go_num, by rw [Hsu.out, if_neg (by decide)]; exact HR1.out, HB1.out⟩
        case measure => simp [intOf]; omega
    · obtain rfl : k = n := by omega
      obtain ⟨ro, rc, hro⟩ := hR.shape
      have HR := Lib.hid hR
      have HB := Lib.hid hb
      clear hR hb
      go_wp2
      go_ret
      exact ⟨_, rfl, HR.out, HB.out⟩
def strB (x : ItemT) (L : List WorkerT) (c : List Int) : Bool := !okTx (partC c x.ff x.ft) || !(L.any (capEq (whoV (partC c x.ff x.ft))))
set_option maxHeartbeats 2000000 in
theorem clo_Str {x y : ItemT} {L : List WorkerT} {d : List (List Int)} {u v : Value} {w : World} {A B X U V : Nat} {k : Nat} {c : List Int} (hok : HrOk x y d) (hL : RdWorkerS A w v L) (hd : RdInt64SS B w u d)
    (hX : Box w X [.string x.nm, .int .i64 x.kd, .int .i64 x.ff, .int .i64 x.ft]) (hU : Box w U [u]) (hV : Box w V [v]) (hc : d[k]? = some c) :
    Calls Tryz.prog 32 #[.int .i64 (k : Int), .pointer (some ⟨X, 0, none⟩), .pointer (some ⟨U, 0, none⟩), .pointer (some ⟨V, 0, none⟩)] w fun e w' => e = .returned (.bool (strB x L c)) ∧ Below w.heap.size w w' := by
  have hkl := at_lt hc
  have hdl := hok.len
  obtain ⟨ao, cap, rfl, ho⟩ := hd.open
  obtain ⟨b, off, rfl, hlt, hcs⟩ := ho (by omega)
  obtain ⟨c', ro, rc, hck, hcell, hrd⟩ := hcs k hkl
  obtain rfl : c' = c := by rw [hc] at hck; exact (Option.some.inj hck).symm
  have hcm := hok.cards c' (List.mem_of_getElem? hc)
  have hrx := hok.rx
  have hcl : 0 < c'.length := by omega
  obtain ⟨cb, co, rfl⟩ := hrd.full hcl
  obtain ⟨q, hq⟩ : ∃ q, q = c'.length := ⟨_, rfl⟩
  rw [← hq] at hcell hrd hcm
  obtain ⟨n, hn⟩ : ∃ n, n = d.length := ⟨_, rfl⟩
  rw [← hn] at hkl hdl hU
  obtain ⟨lo, lcap, rfl⟩ := hL.shape
  have x0 := hX.cell 0 _ rfl
  have x1 := hX.cell 1 _ rfl
  have x2 := hX.cell 2 _ rfl
  have x3 := hX.cell 3 _ rfl
  have u0 := hU.cell 0 _ rfl
  have nx : X < w.heap.size := hX.lt
  have nu : U < w.heap.size := hU.lt
  have nb : b < w.heap.size := hlt.2
  have Hiv := Lib.hid (fun wx (hw : Below w.heap.size w wx) => itemValue_c (w := wx) x hok.kx hrx.1 hrx.2 (show x.ft ≤ (q : Int) from hcm.1) hcm.2.2.1 (Rds.onn hrd hw))
  have HV := Lib.hid hV
  have HL := Lib.hid hL
  obtain ⟨T, hT⟩ : ∃ T, T = whoV (partC c' x.ff x.ft) := ⟨_, rfl⟩
  obtain ⟨o, hoo⟩ : ∃ o, o = okTx (partC c' x.ff x.ft) := ⟨_, rfl⟩
  have E : Hid (strB x L c' = (!o || !(L.any (capEq T)))) := Lib.hid (by rw [hT, hoo]; rfl)
  rw [← hT, ← hoo] at Hiv
  clear hok hL hd hX hU hV hc ho hcs hck hrd hcm hrx hcl hq hn hlt hT hoo
  go_enter Tryz.func32, Tryz.ntmps32
  go_upto_region 1 with fail
  go_cut [6, 7] (fun pv ov wx => ∃ Z, pv = .pointer (some ⟨Z, 0, none⟩) ∧ ov = .bool o ∧ Box wx Z [.string T] ∧ Below w.heap.size w wx)
  case first =>
    have hwd : Below w.heap.size w w.drew := (Below.refl _ _).drew1
    have HZ0 : Hid (Box (w.drew.alloc (.cells #[.string ⟨#[]⟩] 9)) w.heap.size [.string ⟨#[]⟩]) := Lib.hid (Box.new w.drew [.string ⟨#[]⟩] 9)
    go_region_law (go_simp; go_at_call 33; (with_reducible refine (Hiv.out _ (by first | exact hwd | exact hwd.alloc (Nat.le_refl _) _ | exact ((Below.refl _ _).alloc (Nat.le_refl _) _).drew1)).mono ?_); rintro e w8 ⟨rfl, hb8⟩; have h8 : Below w.heap.size w w8 := (by first | exact hwd.trans hb8 | exact (hwd.alloc (Nat.le_refl _) _).trans (hb8.mono (by simp))); (try (have HZ8 := HZ0.out.on hb8; have z0 := HZ8.cell 0 _ rfl; have z1 := HZ8.free 0; have z2 := HZ8.lt)))
    all_goals
      go_wp2_with fail
      go_meet
      first
        | exact ⟨_, rfl, rfl, Box.new w8 [.string T] _, h8.alloc h8.size _⟩
        | exact ⟨_, rfl, rfl, HZ8.set1 (j := 0) (by simp) _, h8.setCell (p := ⟨w.heap.size, 0, none⟩) (Nat.le_refl _) _⟩
  case rest =>
    obtain ⟨Z, rfl, rfl, hZ, hb⟩ := hcut
    have Hb := Lib.hid hb
    have HVc := Lib.hid (HV.out.on hb)
    have HLc := Lib.hid (Rds.onn HL.out hb)
    have HZ := Lib.hid hZ
    have v0 := HVc.out.cell 0 _ rfl
    clear hb hZ x0 x1 x2 x3 u0
    cases o with
    | false =>
      have E2 : Hid (strB x L c' = true) := Lib.hid (by rw [E.out]; rfl)
      go_wp2
      go_ret
      rw [E2.out]
      exact ⟨rfl, Hb.out⟩
    | true =>
      have E2 : Hid (strB x L c' = !(L.any (capEq T))) := Lib.hid (by rw [E.out]; rfl)
      go_wp2_with fail
      with_reducible refine (containsStrange_c T (HZ.out.cell 0 _ rfl) HZ.out.lt HLc.out).mono ?_
      rintro e w9 ⟨rfl, hb9⟩
      have Hb9 := Lib.hid (Hb.out.trans (hb9.mono Hb.out.size))
      clear hb9
      go_wp2
      go_ret
      rw [E2.out]
      exact ⟨rfl, Hb9.out⟩
end Go.Proofs.YtkpcdnbjngpooaaGreatDoor
namespace Go.Proofs.YtkpcdnbjngpooaaGreatDoor
open Go.ChangeShapes Go.WideShapes Go.ChangeAt Go.RowKit Go.Sort
set_option linter.unusedVariables false
set_option maxRecDepth 100000
set_option maxHeartbeats 2000000 in
theorem l23Sum_c {xs : List ItemT} {x y : ItemT} {v u : Value} {w : World} {A B P k1 k2 : Nat} {d : List (List Int)} (wd : Int) (nm : ByteArray) (hn : nm.size ≤ 9223372036854775807) (hP : Box w P [.int .i64 wd, v]) (ha : RdItemS A w v xs)
    (hka : xs[k1]? = some x) (hkb : xs[k2]? = some y) (hok : HrOk x y d) (hd : RdInt64SS B w u d) :
    Calls Tryz.prog 27 #[.pointer (some ⟨P, 0, none⟩), u, .int .i64 (k1 : Int), .int .i64 (k2 : Int), .string nm] w fun e w' => e = .returned (.tuple #[.int .i64 (hrV (hrF x y nm d)), .int .i64 (hrC (hrF x y nm d))]) ∧ Below w.heap.size w w' := by
  have hle := hok.len
  have hxl := ha.le
  obtain ⟨iao, icap, rfl, hio⟩ := eItem_open ha
  obtain ⟨ib, io, rfl, hilt, hic⟩ := hio (by have := at_lt hka; omega)
  obtain ⟨x', hx', ⟨_, i1, i2, i3⟩, _⟩ := hic k1 (at_lt hka)
  obtain rfl : x' = x := by rw [hka] at hx'; exact (Option.some.inj hx').symm
  obtain ⟨y', hy', ⟨_, j1, j2, j3⟩, _⟩ := hic k2 (at_lt hkb)
  obtain rfl : y' = y := by rw [hkb] at hy'; exact (Option.some.inj hy').symm
  obtain ⟨m, hm⟩ : ∃ m, m = xs.length := ⟨_, rfl⟩
  have hl1 : k1 < m := by rw [hm]; exact at_lt hka
  have hl2 : k2 < m := by rw [hm]; exact at_lt hkb
  rw [← hm] at hP hxl
  have hib : ib < w.heap.size := hilt.2
  obtain ⟨ao, cap, rfl, ho⟩ := RdInt64SS.open hd
  obtain ⟨n, hnd⟩ : ∃ n, n = d.length := ⟨_, rfl⟩
  rw [← hnd] at ho hle ⊢
  have Hnd := Lib.hid hnd
  have Ho := Lib.hid ho
  have Hok := Lib.hid hok
  have HP := Lib.hid hP
  have I1 := Lib.hid i1
  have I2 := Lib.hid i2
  have I3 := Lib.hid i3
  have J2 := Lib.hid j2
  have J3 := Lib.hid j3
  clear hnd ho hd hok hm hic hio hx' hy' i1 i2 i3 j1 j2 j3 hka hkb ha hilt hP
  go_enter Tryz.func27, Tryz.ntmps27
  go_wp2
  go_loopw [12, 13] (fun sv i wr => ∃ (k : Nat) (s : Int), k ≤ n ∧ i = .int .i64 k ∧ sv = .int .i64 s ∧ Hid (hrF x' y' nm (d.take k) = some s) ∧ Below w.heap.size w wr) (fun _ i _ => n - (intOf i).toNat)
  case atStart => exact ⟨0, 0, Nat.zero_le _, rfl, rfl, rfl, Below.refl _ _⟩
  case round =>
    obtain ⟨k, s, hk, rfl, rfl, hst, hbb⟩ := hrel
    by_cases hkn : k < n
    · obtain ⟨b, off, rfl, hlt, hc⟩ := Ho.out (by have := Hnd.out; omega)
      obtain ⟨c, ro, rc, hck, hcell, hrd⟩ := hc k (by have := Hnd.out; omega)
      have hcm := Hok.out.cards c (List.mem_of_getElem? hck)
      have hrx := Hok.out.rx
      have hry := Hok.out.ry
      have hkx := Hok.out.kx
      have hcl : 0 < c.length := by omega
      obtain ⟨cb, co, rfl⟩ := hrd.full hcl
      obtain ⟨q, hq⟩ : ∃ q, q = c.length := ⟨_, rfl⟩
      rw [← hq] at hcell hrd hcm
      have d0 := (hbb.cell (p := ⟨b, off + k, none⟩) hlt.2).trans hcell
      have e1 := (hbb.cell (p := ⟨ib, io + k1 * 4 + 1, none⟩) hib).trans I1.out
      have e2 := (hbb.cell (p := ⟨ib, io + k1 * 4 + 2, none⟩) hib).trans I2.out
      have e3 := (hbb.cell (p := ⟨ib, io + k1 * 4 + 3, none⟩) hib).trans I3.out
      have hbw : b < wr.heap.size := by have := hbb.size; have := hlt.2; omega
      have hiw : ib < wr.heap.size := by have := hbb.size; omega
      have hrd2 := Rds.onn hrd hbb
      have Hlv := Lib.hid (fun q os => l04Value_c (w := grow (redrawn wr q) os) x' hkx hrx.1 hrx.2 (show x'.ft ≤ _ from hcm.1) hcm.2.2.1 (cell_regrown e1 q os) (cell_regrown e2 q os) (cell_regrown e3 q os) (Nat.lt_of_lt_of_le hiw (below_regrown wr q os).size) (cell_regrown d0 q os) (Nat.lt_of_lt_of_le hbw (below_regrown wr q os).size) (Rds.regrown hrd2 (Nat.le_refl _) q os))
      have f1 := cell_regrown ((HP.out.on hbb).cell 1 _ rfl)
      have Hcm := Lib.hid hcm
      have Hrx := Lib.hid hrx
      have Hry := Lib.hid hry
      have Hck := Lib.hid hck
      have Hrd := Lib.hid hrd2
      have Hst := Lib.hid (show hrF x' y' nm (d.take (k + 1)) = hrS x' y' nm (some s) c by rw [hrF_snoc hck, hst.out])
      have hbd := hrF_bd (x := x') (y := y') (nm := nm) (d := d.take k) (s := s) (fun z hz => by
        have h9 := Hok.out.cards z (List.mem_of_mem_take hz)
        unfold partC; rw [List.length_drop, List.length_take]; omega) hst.out
      have hpl : (partC c y'.ff y'.ft).length ≤ 12 ∧ 0 < (partC c y'.ff y'.ft).length := by
        constructor
        · unfold partC; rw [List.length_drop, List.length_take]; omega
        · unfold partC; rw [List.length_drop, List.length_take]; omega
      have Hpl := Lib.hid hpl
      have hbn := numR_bd (partC c y'.ff y'.ft) hpl.1
      have hlk : (d.take k).length ≤ 40 := by rw [List.length_take]; omega
      have hs1 : -40000000000000 ≤ s := by omega
      have hs2 : s ≤ 40000000000000 := by omega
      have Hbb := Lib.hid hbb
      have Hd0 := Lib.hid d0
      have Hbw := Lib.hid hbw
      clear hc hcell hrd hcm hrx hry hcl hq hck hbd hlk hkx e1 e2 e3 hiw hrd2 hbb hpl hst
      obtain ⟨T, hT⟩ : ∃ T, T = whoV (partC c x'.ff x'.ft) := ⟨_, rfl⟩
      obtain ⟨o, hoo⟩ : ∃ o, o = okTx (partC c x'.ff x'.ft) := ⟨_, rfl⟩
      rw [← hT, ← hoo] at Hlv
      have HT := Lib.hid hT
      have Hoo := Lib.hid hoo
      clear hT hoo
      go_upto_region 5 with fail
      refine wp_region_quiet_below (by kernel_rfl) (by kernel_rfl) ?_
      repeat ((with_reducible refine wpQuiet_step (fun K hK => ?_)); go_simp; first | ((with_reducible refine hK _ ?_); clear hK K) | (apply Exists.intro; refine ⟨fun _ => ?_, hK _ ?_⟩; ((first | (go_at_call 37; with_reducible exact qb_below (Hlv.out _ _)))); clear hK K))
      refine wpQuiet_nil ?_
      intro _ hw'
      obtain ⟨⟨dq, osq⟩, hw''⟩ := hw'
      subst hw''
      have hbq := below_regrown wr dq osq
      generalize grow (redrawn wr dq) osq = wq at hbq ⊢
      have Hbq := Lib.hid hbq
      have Hb2 := Lib.hid (Hbb.out.trans (hbq.mono Hbb.out.size))
      clear hbq f1 d0
      cases o with
      | false =>
        have E : Hid (hrF x' y' nm d = none) := Lib.hid (hrF_none (k := k + 1) (by rw [Hst.out]; show (if okTx (partC c x'.ff x'.ft) = true then _ else none) = none; rw [if_neg (by rw [← Hoo.out]; decide)]))
        go_wp2
        go_ret2
        rw [E.out]
        exact ⟨rfl, Hb2.out⟩
      | true =>
        go_wp2_with fail
        with_reducible refine (l23Upper_c nm _ hn).mono ?_
        obtain ⟨U, hU⟩ : ∃ U, U = capB nm := ⟨_, rfl⟩
        rw [← hU]
        have HU := Lib.hid hU
        clear hU
        rintro e w4 ⟨rfl, hb4⟩
        have Hb4 := Lib.hid (Hb2.out.trans (hb4.mono Hb2.out.size))
        have Hb04 := Lib.hid (Hbq.out.trans (hb4.mono Hbq.out.size))
        clear hb4
        by_cases hw : T = U
        · have q1 : (T.toList == U.toList) = true := by rw [hw]; exact beq_self_eq_true _
          have Hw := Lib.hid (show whoV (partC c x'.ff x'.ft) = capB nm by rw [← HT.out, ← HU.out]; exact hw)
          clear hw
          have d0 := (Hb04.out.cell (p := ⟨b, off + k, none⟩) Hbw.out).trans Hd0.out
          have hrd4 := Rds.onn Hrd.out Hb04.out
          have hc9 := Rds.cap hrd4
          have hcap9 := hc9.2.2 (by have := Hcm.out; have := Hrx.out; omega)
          have g2 := (Hb4.out.cell (p := ⟨ib, io + k2 * 4 + 2, none⟩) hib).trans J2.out
          have g3 := (Hb4.out.cell (p := ⟨ib, io + k2 * 4 + 3, none⟩) hib).trans J3.out
          have p1 := (HP.out.on Hb4.out).cell 1 _ rfl
          have f1 := cell_regrown p1
          have f2 := cell_regrown g2
          have f3 := cell_regrown g3
          have hb44 : b < w4.heap.size := by have := Hb04.out.size; have := Hbw.out; omega
          have Hlp := Lib.hid (fun q os => l02Part_c (w := grow (redrawn w4 q) os) y'.ff y'.ft Hry.out.1 Hry.out.2.1 (show y'.ft ≤ _ from Hcm.out.2.1) hc9.1 hcap9 (cell_regrown d0 q os) (Nat.lt_of_lt_of_le hb44 (below_regrown w4 q os).size))
          have Hln := Lib.hid (fun q os => l03Number_c (w := grow (redrawn w4 q) os) Hpl.out.2 Hpl.out.1 (fun m hm => Hcm.out.2.2.2 m (partC_mem hm)) (Rds.part (Rds.regrown hrd4 (Nat.le_refl _) q os) Hry.out.1 Hry.out.2.1 (show y'.ft ≤ _ from Hcm.out.2.1)))
          clear d0 hrd4 hc9 hcap9 g2 g3 p1 hb44
          obtain ⟨z, hz⟩ : ∃ z, z = (numR (partC c y'.ff y'.ft)).1 := ⟨_, rfl⟩
          obtain ⟨g, hg⟩ : ∃ g, g = (numR (partC c y'.ff y'.ft)).2 := ⟨_, rfl⟩
          rw [← hz] at hbn Hln
          rw [← hg] at Hln
          have Hz := Lib.hid hz
          have Hg := Lib.hid hg
          clear hz hg
          obtain ⟨hz1, hz2⟩ := hbn
          go_upto_region 9 with fail
          refine wp_region_quiet_below (by kernel_rfl) (by kernel_rfl) ?_
          repeat ((with_reducible refine wpQuiet_step (fun K hK => ?_)); go_simp; first | ((with_reducible refine hK _ ?_); clear hK K) | (apply Exists.intro; refine ⟨fun _ => ?_, hK _ ?_⟩; ((first | (go_at_call 60; with_reducible exact qb_below (Hlp.out _ _)) | (go_at_call 59; with_reducible exact qb_same (Hln.out _ _)))); clear hK K))
          refine wpQuiet_nil ?_
          intro _ hw'
          obtain ⟨⟨dq, osq⟩, hw''⟩ := hw'
          subst hw''
          have hbq := below_regrown w4 dq osq
          generalize grow (redrawn w4 dq) osq = wq at hbq ⊢
          have Hb5 := Lib.hid (Hb4.out.trans (hbq.mono Hb4.out.size))
          clear hbq f1 f2 f3
          cases g with
          | false =>
            have E : Hid (hrF x' y' nm d = none) := Lib.hid (hrF_none (k := k + 1) (by rw [Hst.out]; show (if okTx (partC c x'.ff x'.ft) = true then (if whoV (partC c x'.ff x'.ft) = capB nm then (if (numR (partC c y'.ff y'.ft)).2 = true then _ else none) else _) else none) = none; rw [if_pos Hoo.out.symm, if_pos Hw.out, if_neg (by rw [← Hg.out]; decide)]))
            go_wp2
            go_ret2
            rw [E.out]
            exact ⟨rfl, Hb5.out⟩
          | true =>
            have E : Hid (hrF x' y' nm (d.take (k + 1)) = some (s + z)) := Lib.hid (by rw [Hst.out]; show (if okTx (partC c x'.ff x'.ft) = true then (if whoV (partC c x'.ff x'.ft) = capB nm then (if (numR (partC c y'.ff y'.ft)).2 = true then some (s + (numR (partC c y'.ff y'.ft)).1) else none) else _) else none) = _; rw [if_pos Hoo.out.symm, if_pos Hw.out, if_pos Hg.out.symm, ← Hz.out])
            go_wp2
            go_roundw
            case rel => exact ⟨k + 1, s + z, by omega, by go_num, by go_num, E.out, Hb5.out⟩
            case measure => simp [intOf]; omega
        · have q1 : (T.toList == U.toList) = false := by rw [beq_eq_false_iff_ne]; exact fun h => hw (toList_inj.1 h)
          have E : Hid (hrF x' y' nm (d.take (k + 1)) = some s) := Lib.hid (by rw [Hst.out]; show (if okTx (partC c x'.ff x'.ft) = true then (if whoV (partC c x'.ff x'.ft) = capB nm then _ else some s) else none) = _; rw [if_pos Hoo.out.symm, if_neg (by rw [← HT.out, ← HU.out]; exact hw)])
          clear hw
          go_wp2
          go_roundw
          case rel => exact ⟨k + 1, s, by omega, by go_num, rfl, E.out, Hb4.out⟩
          case measure => simp [intOf]; omega
    · have hq := hst.out
      rw [List.take_of_length_le (by have := Hnd.out; omega)] at hq
      have Hq := Lib.hid hq
      have Hbf := Lib.hid hbb
      clear hq hst hbb
      go_wp2
      go_ret2
      rw [Hq.out]
      exact ⟨rfl, Hbf.out⟩
/-- where the items are, once the code is 0 -/
theorem it_places {wd : Int} {xs : List ItemT} {d : List (List Int)} (h : payC true wd xs d = 0) : ∃ (k1 k2 : Nat) (x y : ItemT), itV wd xs d whoT = k1 ∧ itV wd xs d hrsT = k2 ∧ xs[k1]? = some x ∧ xs[k2]? = some y ∧ itAt xs whoT = x ∧ itAt xs hrsT = y ∧ HrOk x y d := by
  have hp := payC_ok h
  obtain ⟨k1, x, hk1, hx⟩ := idx_at hp.who
  obtain ⟨k2, y, hk2, hy⟩ := idx_at hp.hrs
  have e1 := itAt_of hk1 hx
  have e2 := itAt_of hk2 hy
  have hok := hrOk_of hp
  rw [e1, e2] at hok
  exact ⟨k1, k2, x, y, by unfold itV; rw [if_pos h, hk1], by unfold itV; rw [if_pos h, hk2], hx, hy, e1, e2, hok⟩
theorem sHoursFrom_c {xs : List ItemT} {v u : Value} {w : World} {A B : Nat} {d : List (List Int)} (wd : Int) (nm : ByteArray) (hn : nm.size ≤ 9223372036854775807) (ha : RdItemS A w v xs) (hd : RdInt64SS B w u d) :
    Calls Tryz.prog 12 #[.agg #[.int .i64 wd, v], u, .string nm] w fun e w' => e = .returned (.tuple #[.int .i64 (hoursV wd xs d nm), .int .i64 (hoursC wd xs d nm)]) ∧ Below w.heap.size w w' := by
  obtain ⟨W, hW⟩ : ∃ W, W = w.alloc (.cells #[.int .i64 wd, v] 27) := ⟨_, rfl⟩
  have hb0 : Below w.heap.size w W := by rw [hW]; exact (Below.refl _ _).alloc (Nat.le_refl _) _
  have hP : Box W w.heap.size [.int .i64 wd, v] := by rw [hW]; exact Box.new w [.int .i64 wd, v] 27
  have Ha := Lib.hid (Rds.onn ha hb0)
  have Hd := Lib.hid (RdInt64SS.onn hd hb0)
  have Hb0 := Lib.hid hb0
  have HW := Lib.hid hW
  have HP := Lib.hid hP
  obtain ⟨ao, cap, rfl⟩ := ha.shape
  clear ha hd hb0 hW hP
  go_enter Tryz.func12, Tryz.ntmps12
  go_wp2_with fail
  rw [← HW.out]
  with_reducible refine (l23Items_c wd HP.out Ha.out Hd.out).mono ?_
  by_cases hc : payC true wd xs d = 0
  · obtain ⟨k1, k2, x, y, h1, h2, hx, hy, e1, e2, hok⟩ := it_places hc
    rw [hc, h1, h2]
    have E1 : Hid (hoursV wd xs d nm = hrV (hrF x y nm d)) := Lib.hid (by unfold hoursV; rw [if_pos hc, e1, e2])
    have E2 : Hid (hoursC wd xs d nm = hrC (hrF x y nm d)) := Lib.hid (by unfold hoursC; rw [if_pos hc, e1, e2])
    have Hx := Lib.hid hx
    have Hy := Lib.hid hy
    have Hok := Lib.hid hok
    clear hc h1 h2 hx hy e1 e2 hok
    rintro e w1 ⟨rfl, hb1⟩
    have Hb1 := Lib.hid (Hb0.out.trans (hb1.mono Hb0.out.size))
    have Hd1 := Lib.hid (RdInt64SS.onn Hd.out hb1)
    have Ha1 := Lib.hid (Rds.onn Ha.out hb1)
    have HP1 := Lib.hid (HP.out.on hb1)
    clear hb1
    go_wp2_with fail
    with_reducible refine (l23Sum_c wd nm hn HP1.out Ha1.out Hx.out Hy.out Hok.out Hd1.out).mono ?_
    rintro e w2 ⟨rfl, hb2⟩
    have Hb2 := Lib.hid (Hb1.out.trans (hb2.mono Hb1.out.size))
    clear hb2
    go_wp2
    go_ret2
    rw [E1.out, E2.out]
    exact ⟨rfl, Hb2.out⟩
  · obtain ⟨c, hcc⟩ : ∃ c, payC true wd xs d = c := ⟨_, rfl⟩
    rw [hcc] at hc ⊢
    have E0 := it_bad hcc hc
    rw [E0, E0]
    have q1 : (c != 0) = true := by simpa using hc
    have E1 : Hid (hoursV wd xs d nm = 0) := Lib.hid (by unfold hoursV; rw [hcc, if_neg hc])
    have E2 : Hid (hoursC wd xs d nm = c) := Lib.hid (by unfold hoursC; rw [hcc, if_neg hc])
    clear hc hcc E0
    rintro e w1 ⟨rfl, hb1⟩
    have Hb1 := Lib.hid (Hb0.out.trans (hb1.mono Hb0.out.size))
    clear hb1
    go_wp2
    go_ret2
    rw [E1.out, E2.out]
    exact ⟨rfl, Hb1.out⟩
end Go.Proofs.YtkpcdnbjngpooaaGreatDoor
