/- Operators read back: the reference's. No condition. -/
import Derived.Test.YtilgepapkigblaaDoorRdL
import Derived.Test.YtilgepapkigblaaDoorTeach
namespace Go.Proofs.YtilgepapkigblaaDoor
open Go.ChangeShapes Go.WideShapes Go.ChangeAt Go.RowKit
set_option linter.unusedVariables false
set_option maxRecDepth 100000
def readL (s : ByteArray) : List OperatorT := (refO s.data.toList).getD []
def readB (s : ByteArray) : Bool := (refO s.data.toList).isSome
def ReadR (s : ByteArray) (base : Nat) (e : Ending) (w' : World) : Prop := ∃ u, e = .returned (.tuple #[u, .bool (readB s)]) ∧ OwnOperatorS base w' u (readL s)
theorem readR_none {s : ByteArray} {base : Nat} {w' : World} (h : refO s.data.toList = none) : ReadR s base (.returned (.tuple #[.slice none 0 0, .bool false])) w' := by
  refine ⟨.slice none 0 0, ?_, ?_⟩
  · unfold readB; rw [h]; rfl
  · unfold readL; rw [h]; exact Own.nil _ _ _ _
theorem readR_some {s : ByteArray} {base : Nat} {w' : World} {u : Value} {xs : List OperatorT} (h : refO s.data.toList = some xs) (hu : OwnOperatorS base w' u xs) : ReadR s base (.returned (.tuple #[u, .bool true])) w' := by
  refine ⟨u, ?_, ?_⟩
  · unfold readB; rw [h]; rfl
  · unfold readL; rw [h]; exact hu
theorem refO_last {l : List UInt8} (h : (parts 10 l).getLast? ≠ some []) : refO l = none := by unfold refO; exact if_pos (.inl h)
theorem refO_many {l : List UInt8} (h : 9 < (parts 10 l).length) : refO l = none := by unfold refO; exact if_pos (.inr h)
theorem refO_lines {l : List UInt8} (h1 : (parts 10 l).getLast? = some []) (h2 : (parts 10 l).length ≤ 9) : refO l = match allM refL (parts 10 l).dropLast with | none => none | some xs => if validOs xs = true then some xs else none := by
  unfold refO
  exact if_neg (fun h => by rcases h with h | h; exact h h1; omega)
theorem refL_ok {l : ByteArray} (hl : l.size ≤ 1048576) {x : OperatorT} (h : refL l.data.toList = some x) : okOperator x := by
  obtain ⟨h1, h2⟩ := refL_some h
  have h3 := congrArg List.length h1
  have h4 : l.data.toList.length = l.size := Array.length_toList
  have h5 : x.nm.data.toList.length = x.nm.size := Array.length_toList
  unfold lineQ at h3
  rw [List.length_append, h4, h5] at h3
  unfold okOperator
  omega
set_option maxHeartbeats 2000000 in
theorem sReadOperators_c (s : ByteArray) {w : World} (hs : s.size ≤ 1048576) :
    Calls Tryd.prog 5 #[.string s] w fun e w' => ReadR s w.heap.size e w' ∧ Below w.heap.size w w' := by
  obtain ⟨i0, hi, hz0, hz1, hz2⟩ := info_parts Tryd.infoOperator
  have hcon := fun W => l01Split_c s 10 (cv := 10) rfl (w := W) hs
  obtain ⟨ps, hps⟩ : ∃ ps, ps = parts 10 s.data.toList := ⟨_, rfl⟩
  obtain ⟨wt, hwt⟩ : ∃ wt, wt = ps.map mkT := ⟨_, rfl⟩
  have hpt : partsT 10 s = wt := by unfold partsT; rw [hwt, hps]
  rw [hpt] at hcon
  have hlen : s.data.toList.length = s.size := Array.length_toList
  have hpl : ps.length ≤ s.size + 1 := by rw [hps, ← hlen]; exact parts_len 10 _
  have hp1 : 1 ≤ ps.length := by rw [hps, parts_cons]; simp
  have hwl : wt.length = ps.length := by rw [hwt, List.length_map]
  have hpsz : ∀ p ∈ ps, p.length ≤ 1048576 := by
    intro p hp
    have h1 := parts_sub 10 s.data.toList p (by rw [← hps]; exact hp)
    omega
  obtain ⟨N, hN⟩ : ∃ N, N = ps.length := ⟨_, rfl⟩
  have Hcon := Lib.hid hcon
  have Hps := Lib.hid hps
  have Hwt := Lib.hid hwt
  have Hwl := Lib.hid hwl
  have HN := Lib.hid hN
  have Hpsz := Lib.hid hpsz
  have hN1 : 1 ≤ N := by omega
  have hN2 : N ≤ 1048577 := by omega
  clear hcon hps hwt hpt hlen hpl hp1 hwl hN hpsz
  go_enter Tryd.func5, Tryd.ntmps5
  go_wp2_with fail
  with_reducible refine (Hcon.out _).mono ?_
  rintro e w1 ⟨u, rfl, hu, hb1⟩
  obtain ⟨ao, cap, hsh, hof⟩ := RdT.open hu.rds
  rw [Hwl.out, ← HN.out] at hsh hof
  obtain ⟨lb, lo, hao, hlt, hc⟩ := hof (by omega)
  subst hao
  subst hsh
  have hcell : ∀ j, j < N → ∃ p, ps[j]? = some p ∧ w1.cell? ⟨lb, lo + j, none⟩ = some (.string (mkT p)) := by
    intro j hj
    obtain ⟨x, hx, hcx, _⟩ := hc j hj
    rw [Hwt.out, List.getElem?_map] at hx
    cases hp : ps[j]? with
    | none => rw [hp] at hx; cases hx
    | some p => rw [hp] at hx; have := Option.some.inj hx; exact ⟨p, rfl, by rw [this]; exact hcx⟩
  have Hcell := Lib.hid hcell
  have Hb1 := Lib.hid hb1
  have hlt2 := hlt.2
  have hlit : Own eOperator 50 w1.heap.size (w1.alloc (.cells #[] 50)) (.slice (some ⟨w1.heap.size, 0, none⟩) 0 0) [] :=
    Own.lit (E := eOperator) (xs := []) (cs := #[]) (Nat.le_refl _) rfl rfl (by decide) (fun x hx => by cases hx)
  have hb2 : Below w1.heap.size w1 (w1.alloc (.cells #[] 50)) := (Below.refl _ _).alloc (Nat.le_refl _) _
  have Hlit := Lib.hid hlit
  have Hb2 := Lib.hid hb2
  obtain ⟨q, hq⟩ : ∃ q, N = q + 1 := ⟨N - 1, by omega⟩
  obtain ⟨pl, hpl, hcl⟩ := hcell q (by omega)
  subst hq
  have hlast : ps.getLast? = some pl := by rw [List.getLast?_eq_getElem?, ← HN.out]; exact hpl
  have Hlast := Lib.hid hlast
  have hs1 : IntKind.i64.wrap ((q : Int) + 1 - 1) = (q : Int) := by rw [show (q : Int) + 1 - 1 = (q : Int) by omega]; exact IntWalk.i64_in _ (by omega)
  clear hu hof hc hcell hb1 hlit hb2 hpl hlast
  by_cases hpe : pl = []
  · subst hpe
    have hem : (mkT []).toList.isEmpty = true := by rw [toList_mk]; rfl
    by_cases h9 : 9 < q + 1
    · have hno : refO s.data.toList = none := refO_many (by rw [← Hps.out, ← HN.out]; exact h9)
      have h9i : (9 : Int) < (q : Int) + 1 := by omega
      have Hno := Lib.hid hno
      clear hno
      go_wp2
      go_ret2
      exact ⟨readR_none Hno.out, Hb1.out.trans (Hb2.out.mono Hb1.out.size)⟩
    · have h9i : ¬ (9 : Int) < (q : Int) + 1 := by omega
      have hro := refO_lines (l := s.data.toList) (by rw [← Hps.out, Hlast.out]) (by rw [← Hps.out, ← HN.out]; omega)
      rw [← Hps.out] at hro
      have Hro := Lib.hid hro
      clear hro
      go_wp2
      go_loopw [5, 6] (fun v iv wr => ∃ (i : Nat) (xs : List OperatorT), i ≤ q ∧ iv = .int .i64 i ∧ xs.length ≤ i ∧ OwnOperatorS w1.heap.size wr v xs ∧ Hid (allM refL (ps.dropLast.take i) = some xs) ∧ Below w1.heap.size w1 wr) (fun _ iv _ => q - (intOf iv).toNat)
      case atStart => exact ⟨0, [], Nat.zero_le _, rfl, Nat.le_refl _, Hlit.out, Lib.hid rfl, Hb2.out⟩
      case round =>
        obtain ⟨i, xs, hiq, rfl, hxl, hown, hall, hb⟩ := hrel
        clear Hlit Hb2 hcl
        have hsz := hb.size
        obtain ⟨vo, vcap, hsh⟩ := hown.shape
        subst hsh
        by_cases hiq2 : i < q
        · obtain ⟨p, hp, hcp⟩ := Hcell.out i (by omega)
          have hpd : ps.dropLast[i]? = some p := by rw [List.getElem?_dropLast, if_pos (by have := HN.out; omega)]; exact hp
          have hpsz := Hpsz.out p (List.mem_of_getElem? hp)
          have htk := take_snoc hpd
          have hcw : wr.cell? ⟨lb, lo + i, none⟩ = some (.string (mkT p)) := by
            exact (hb.cell (p := ⟨lb, lo + i, none⟩) hlt2).trans hcp
          have hline := fun W => l22Line_c (mkT p) (w := W) (by rw [mkT_size]; exact hpsz)
          have hok := fun x (h : refL (mkT p).data.toList = some x) => refL_ok (by rw [mkT_size]; exact hpsz) h
          rw [mkT_data] at hok
          have hii : (i : Int) < (q : Int) := by omega
          have hii2 : (i : Int) < (q : Int) + 1 := by omega
          have Hline := Lib.hid hline
          have Hok := Lib.hid hok
          have Htk := Lib.hid htk
          have Hpd := Lib.hid hpd
          have Hown := Lib.hid hown
          have Hb := Lib.hid hb
          clear hp hcp hpd hpsz htk hline hok hown hb
          go_wp2_with fail
          with_reducible refine (Hline.out _).mono ?_
          rintro e w2 ⟨he, hb2⟩
          unfold LineR at he
          rw [mkT_data] at he
          have Hown2 := Lib.hid (Hown.out.below hb2 (Nat.le_refl _))
          have Hb2 := Lib.hid (Hb.out.trans (hb2.mono Hb.out.size))
          have hsz2 : w1.heap.size ≤ w2.heap.size := Hb2.out.size
          clear hb2 hcw
          cases hr : refL p with
          | none =>
            rw [hr] at he
            subst he
            have hno : refO s.data.toList = none := by
              rw [Hro.out, allM_none (List.mem_of_getElem? Hpd.out) hr]
            have Hno := Lib.hid hno
            clear hno hr
            go_wp2
            go_ret2
            exact ⟨readR_none Hno.out, Hb1.out.trans ((Hb2.out.alloc hsz2 _).mono Hb1.out.size)⟩
          | some x =>
            rw [hr] at he
            subst he
            have hokx := Hok.out x hr
            have Hnew : Hid (allM refL (ps.dropLast.take (i + 1)) = some (xs ++ [x])) := Lib.hid (by rw [Htk.out, allM_snoc, hall.out, hr])
            have hone : RdOperatorS (w2.heap.size + 1 + 1) ((w2.alloc (.cells #[.string x.nm, .int .i64 x.skills] 50)).alloc (.cells #[.string x.nm, .int .i64 x.skills] 50)) (.slice (some ⟨w2.heap.size + 1, 0, none⟩) 1 1) [x] := by
              have h := rds_one (E := eOperator) (e := 50) (w := w2.alloc (.cells #[.string x.nm, .int .i64 x.skills] 50)) (x := x) (cs := #[.string x.nm, .int .i64 x.skills]) hokx rfl
              rw [show (w2.alloc (.cells #[.string x.nm, .int .i64 x.skills] 50)).heap.size = w2.heap.size + 1 from by simp] at h
              exact h
            have Hone := Lib.hid hone
            clear hokx hr hone
            go_wp2_with (first | (at_builtin; refine wpList_appS (E := eOperator) rfl _ _ 22 rfl Tryd.underlying22 hi hz0 hz1 hz2 rfl (by decide) rfl rfl ((Hown2.out.alloc _).alloc _) Hone.out ?b1 ?b2 ?b3 ?_))
            case b1 => unfold maxLen; simp only [List.length_cons, List.length_nil]; omega
            case b2 => simp only [List.length_cons, List.length_nil]; omega
            case b3 => first | (simp; omega) | omega
            intro v' w4 hown4 hg4
            have hb4 := hg4.alloc.alloc.below Hb2.out hsz2 (fun z hz => (Hown2.out.lt z hz).1)
            have Hown4 := Lib.hid hown4
            have Hb4 := Lib.hid hb4
            clear hg4 hown4 hb4
            go_wp2
            go_roundw
            case rel => exact ⟨i + 1, xs ++ [x], by omega, by go_num, by simp; omega, Hown4.out, Hnew, Hb4.out⟩
            case measure => simp [intOf]; omega
        · obtain rfl : i = q := by omega
          have hfull : ps.dropLast.take i = ps.dropLast := List.take_of_length_le (by rw [List.length_dropLast]; have := HN.out; omega)
          have hal := hall.out
          rw [hfull] at hal
          have hro := Hro.out
          rw [hal] at hro
          have hro2 : refO s.data.toList = if validOs xs = true then some xs else none := hro
          have Hro2 := Lib.hid hro2
          have Hown := Lib.hid hown
          have Hb := Lib.hid hb
          clear hfull hal hro hro2 hown hb
          go_wp2_with fail
          with_reducible refine (l22Ok_c Hown.out.rds).mono ?_
          rintro e w2 ⟨rfl, m, rfl⟩
          cases hv : validOs xs with
          | true =>
            have hr := Hro2.out
            rw [if_pos hv] at hr
            have Hr := Lib.hid hr
            clear hr hv
            go_wp2
            go_ret2
            exact ⟨readR_some Hr.out ((Hown.out.drewN m).mono Hb1.out.size), Hb1.out.trans ((show Below w1.heap.size w1 (wr.drewN m) from ⟨Hb.out.os, Hb.out.tape, Hb.out.output, Hb.out.size, Hb.out.block⟩).mono Hb1.out.size)⟩
          | false =>
            have hr := Hro2.out
            rw [if_neg (by rw [hv]; decide)] at hr
            have Hr := Lib.hid hr
            clear hr hv
            go_wp2
            go_ret2
            exact ⟨readR_none Hr.out, Hb1.out.trans ((show Below w1.heap.size w1 (wr.drewN m) from ⟨Hb.out.os, Hb.out.tape, Hb.out.output, Hb.out.size, Hb.out.block⟩).mono Hb1.out.size)⟩
  · have hno : refO s.data.toList = none := refO_last (by rw [← Hps.out, Hlast.out]; intro h; exact hpe (Option.some.inj h))
    have hne : (mkT pl).toList.isEmpty = false := by rw [toList_mk]; cases pl with | nil => exact absurd rfl hpe | cons a b => rfl
    have Hno := Lib.hid hno
    clear hno hpe
    go_wp2
    go_ret2
    exact ⟨readR_none Hno.out, Hb1.out.trans (Hb2.out.mono Hb1.out.size)⟩
end Go.Proofs.YtilgepapkigblaaDoor
