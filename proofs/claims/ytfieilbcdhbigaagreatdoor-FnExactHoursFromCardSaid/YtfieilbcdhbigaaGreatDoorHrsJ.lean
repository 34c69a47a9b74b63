/- HoursFrom: the program's by its contract. No condition. -/
import Derived.Test.YtfieilbcdhbigaaGreatDoorHrsI
namespace Go.Proofs.YtfieilbcdhbigaaGreatDoor
open Go.ChangeShapes Go.WideShapes Go.ChangeAt Go.RowKit Go.Sort
set_option linter.unusedVariables false
set_option maxRecDepth 100000
theorem hrOk_of {ok : Bool} {wd : Int} {xs : List ItemT} {d : List (List Int)} (h : PayOk ok wd xs d) : HrOk (itAt xs whoT) (itAt xs hrsT) d := by
  obtain ⟨_, _, hit⟩ := layB_parts h.lay
  obtain ⟨k1, a, hk1, hka⟩ := idx_at h.who
  obtain ⟨k2, b, hk2, hkb⟩ := idx_at h.hrs
  have e1 := itAt_of hk1 hka
  have e2 := itAt_of hk2 hkb
  have oa := hit a (List.mem_of_getElem? hka)
  have ob := hit b (List.mem_of_getElem? hkb)
  have kw := h.kw
  have kh := h.kh
  rw [e1] at kw ⊢
  rw [e2] at kh ⊢
  obtain ⟨hl, hc⟩ := deckB_parts h.deck
  obtain ⟨a1, a2, a3⟩ := oa.ff
  obtain ⟨b1, b2, b3⟩ := ob.ff
  refine ⟨kw, ⟨a1, a2⟩, ⟨b1, b2, ?_⟩, fun c hcm => ?_, hl⟩
  · rcases ob.kd with h1 | h1
    · omega
    · exact h1.2
  · obtain ⟨h1, h2⟩ := hc c hcm
    have hd0 : ¬ d.length = 0 := fun e => by rw [List.eq_nil_of_length_eq_zero e] at hcm; cases hcm
    have hw := h.wid.resolve_left hd0
    have h3 := card_len h1
    exact ⟨by omega, by omega, h3.2, card_masks h1⟩
def hoursC (wd : Int) (xs : List ItemT) (d : List (List Int)) (nm : ByteArray) : Int := if payC true wd xs d = 0 then hrC (hrF (itAt xs whoT) (itAt xs hrsT) nm d) else payC true wd xs d
def hoursV (wd : Int) (xs : List ItemT) (d : List (List Int)) (nm : ByteArray) : Int := if payC true wd xs d = 0 then hrV (hrF (itAt xs whoT) (itAt xs hrsT) nm d) else 0
set_option maxHeartbeats 1000000 in
theorem HoursFrom_c {xs : List ItemT} {v u : Value} {w : World} {A B : Nat} {d : List (List Int)} (wd : Int) (nm : ByteArray) (hn : nm.size ≤ 9223372036854775807) (ha : RdItemS A w v xs) (hd : RdInt64SS B w u d) :
    Calls Tryz.prog 11 #[.agg #[.int .i64 wd, v], u, .string nm] w fun e w' => e = .returned (.tuple #[.int .i64 (hoursV wd xs d nm), .int .i64 (hoursC wd xs d nm)]) ∧ Below w.heap.size w w' := by
  have hb0 : Below w.heap.size w (w.alloc (.cells #[.int .i64 wd, v] 32)) := (Below.refl _ _).alloc (Nat.le_refl _) _
  have Ha := Lib.hid (Rds.onn ha hb0)
  have Hd := Lib.hid (RdInt64SS.onn hd hb0)
  have Hb0 := Lib.hid hb0
  obtain ⟨ao, cap, rfl⟩ := ha.shape
  clear ha hd hb0
  go_enter Tryz.func11, Tryz.ntmps11
  go_wp2_with fail
  with_reducible refine (payItems_c wd true Ha.out Hd.out).mono ?_
  obtain ⟨c, hc⟩ : ∃ c, payC true wd xs d = c := ⟨_, rfl⟩
  obtain ⟨a, hia⟩ : ∃ a, payX true wd xs d whoT = a := ⟨_, rfl⟩
  obtain ⟨b, hib⟩ : ∃ b, payX true wd xs d hrsT = b := ⟨_, rfl⟩
  rw [hc, hia, hib]
  have Hc := Lib.hid hc
  have Hia := Lib.hid hia
  have Hib := Lib.hid hib
  clear hc hia hib
  rintro e w1 ⟨rfl, hb1⟩
  have Hb1 := Lib.hid (Hb0.out.trans (hb1.mono Hb0.out.size))
  have Hd1 := Lib.hid (RdInt64SS.onn Hd.out hb1)
  clear hb1
  by_cases hc0 : c = 0
  · subst hc0
    have hp := payC_ok Hc.out
    have ha0 : itAt xs whoT = a := by rw [← Hia.out]; unfold payX; rw [if_pos Hc.out]
    have hb0 : itAt xs hrsT = b := by rw [← Hib.out]; unfold payX; rw [if_pos Hc.out]
    have hok := hrOk_of hp
    rw [ha0, hb0] at hok
    have Hok := Lib.hid hok
    have E1 : Hid (hoursV wd xs d nm = hrV (hrF a b nm d)) := Lib.hid (by unfold hoursV; rw [if_pos Hc.out, ha0, hb0])
    have E2 : Hid (hoursC wd xs d nm = hrC (hrF a b nm d)) := Lib.hid (by unfold hoursC; rw [if_pos Hc.out, ha0, hb0])
    clear hp ha0 hb0 hok
    have hb2 : Below w1.heap.size w1 ((w1.alloc (.cells #[.string a.nm, .int .i64 a.kd, .int .i64 a.ff, .int .i64 a.ft] 72)).alloc (.cells #[.string b.nm, .int .i64 b.kd, .int .i64 b.ff, .int .i64 b.ft] 72)) := ((Below.refl _ _).alloc (Nat.le_refl _) _).alloc (by simp) _
    have Hd2 := Lib.hid (RdInt64SS.onn Hd1.out hb2)
    have Hb2 := Lib.hid (Hb1.out.trans (hb2.mono Hb1.out.size))
    clear hb2
    go_wp2_with fail
    with_reducible refine (hoursFrom_c nm hn Hok.out Hd2.out).mono ?_
    rintro e w2 ⟨rfl, hb3⟩
    have Hb3 := Lib.hid (Hb2.out.trans (hb3.mono Hb2.out.size))
    clear hb3
    go_wp2
    go_ret2
    rw [E1.out, E2.out]
    exact ⟨rfl, Hb3.out⟩
  · have q1 : (c != 0) = true := by simpa using hc0
    have E1 : Hid (hoursV wd xs d nm = 0) := Lib.hid (by unfold hoursV; rw [Hc.out, if_neg hc0])
    have E2 : Hid (hoursC wd xs d nm = c) := Lib.hid (by unfold hoursC; rw [Hc.out, if_neg hc0])
    clear hc0
    go_wp2
    go_ret2
    rw [E1.out, E2.out]
    exact ⟨rfl, (Hb1.out.alloc Hb1.out.size _).alloc (by have := Hb1.out.size; simp; omega) _⟩
end Go.Proofs.YtfieilbcdhbigaaGreatDoor
