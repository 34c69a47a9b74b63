/- Operators read back: the program's. The conditions: the machines' names lie as the program's text lays them; the library's own number lies. -/
import Derived.Test.YtilgepapkigblaaDoorRdR
import Derived.Test.YtilgepapkigblaaDoorShAll
namespace Go.Proofs.YtilgepapkigblaaDoor
open Go.ChangeShapes Go.WideShapes Go.ChangeAt Go.RowKit
set_option linter.unusedVariables false
set_option maxRecDepth 100000
/-- the library's own number lies in its block -/
def MaxAt (W : World) : Prop := ∃ m, W.cell? ⟨1, 0, none⟩ = some (.int .i64 m)
theorem MaxAt.below {W W' : World} (h : MaxAt W) (hb : Below W.heap.size W W') : MaxAt W' := by
  obtain ⟨m, hm⟩ := h
  exact ⟨m, (hb.cell (p := ⟨1, 0, none⟩) (World.block_lt_of_cell? W _ hm)).trans hm⟩
theorem split_parts (s : ByteArray) (c : UInt8) : Lib.splitB ⟨#[c]⟩ 0 (Lib.countB s ⟨#[c]⟩) s = partsT c s := by
  have h1 := Lib.splitB_data ⟨#[c]⟩ 0 (Lib.countB s ⟨#[c]⟩) s
  have h2 := parts_split c s.data.toList
  unfold partsT
  rw [← h2]
  have h3 : Lib.countB s ⟨#[c]⟩ = Lib.count s.data.toList [c] := rfl
  rw [h3] at h1 ⊢
  have h4 : (⟨#[c]⟩ : ByteArray).data.toList = [c] := rfl
  rw [h4] at h1
  rw [← h1, List.map_map]
  have h5 : (mkT ∘ fun x : ByteArray => x.data.toList) = id := by funext x; exact mkT_self x
  rw [h5, List.map_id]
theorem Split_c (s : ByteArray) (c : UInt8) {w : World} (hs : s.size ≤ 1048576) (hm : MaxAt w) :
    Calls Tryd.prog 33 #[.string s, .string ⟨#[c]⟩] w fun e w' => ∃ u, e = .returned u ∧ Own eT 9 w.heap.size w' u (partsT c s) ∧ Below w.heap.size w w' := by
  obtain ⟨m, hm⟩ := hm
  refine (Tryd.strings_Split s ⟨#[c]⟩ m w (by omega) hm (by show 1 ≤ 1; omega)).mono ?_
  rintro e w' ⟨rfl, rfl⟩
  rw [split_parts]
  have hn : (partsT c s).length = Lib.countB s ⟨#[c]⟩ + 1 := by
    rw [← split_parts]
    exact Lib.splitB_all _ (by show 1 ≤ 1; omega) 0 _ s rfl
  have hcl : Lib.countB s ⟨#[c]⟩ ≤ s.size := Lib.countB_le _ (by show 1 ≤ 1; omega) s.size s (Nat.le_refl _)
  refine ⟨_, rfl, ?_, (Below.refl _ _).alloc (Nat.le_refl _) _⟩
  rw [← hn]
  refine Own.lit (E := eT) (xs := partsT c s) (Nat.le_refl _) ?_ rfl (by unfold maxLen; omega) ?_
  · congr 1
    unfold Elt.all
    rw [List.map_eq_flatMap]
    rfl
  · intro x hx
    unfold partsT at hx
    obtain ⟨p, hp, rfl⟩ := List.mem_map.1 hx
    have h1 := parts_sub c s.data.toList p hp
    have h2 : s.data.toList.length = s.size := Array.length_toList
    show (mkT p).size ≤ 9223372036854775807
    rw [mkT_size]
    omega
/-- a list of texts stays where it lies, beside a slice that grows -/
def CellsAt (ao : Option Addr) (ps : List (List UInt8)) (N : Nat) (W : World) : Prop := ∀ j, j < N → ∃ p lb lo, ao = some ⟨lb, lo, none⟩ ∧ ps[j]? = some p ∧ W.cell? ⟨lb, lo + j, none⟩ = some (.string (mkT p))
def NotOwn (v : Value) (ao : Option Addr) : Prop := ∀ b, ao = some b → v.ownBlock ≠ some b.block
theorem CellsAt.below {ao : Option Addr} {ps : List (List UInt8)} {N : Nat} {W W' : World} (h : CellsAt ao ps N W) (hb : Below W.heap.size W W') : CellsAt ao ps N W' := by
  intro j hj
  obtain ⟨p, lb, lo, h1, h2, h3⟩ := h j hj
  exact ⟨p, lb, lo, h1, h2, (hb.cell (p := ⟨lb, lo + j, none⟩) (World.block_lt_of_cell? W _ h3)).trans h3⟩
theorem cells_grew {ao : Option Addr} {ps : List (List UInt8)} {N : Nat} {W W' : World} {v v' : Value} (hN : 0 < N) (h : CellsAt ao ps N W) (hn : NotOwn v ao) (hg : Grew W W' v v') : CellsAt ao ps N W' ∧ NotOwn v' ao := by
  constructor
  · intro j hj
    obtain ⟨p, lb, lo, h1, h2, h3⟩ := h j hj
    exact ⟨p, lb, lo, h1, h2, hg.1.cell h3 (fun e => hn _ h1 e.symm)⟩
  · intro b hb
    rcases hg.2 with e | ⟨k, e, hk⟩
    · rw [e]; exact hn b hb
    · rw [e]
      intro he
      obtain ⟨p, lb, lo, h1, _, h3⟩ := h 0 hN
      have := World.block_lt_of_cell? W _ h3
      rw [h1] at hb
      have hbb := Option.some.inj hb
      subst hbb
      injection he with he
      simp only at he this
      omega
def wordsT (s : ByteArray) : List ByteArray := (wordsF s.data.toList).map mkT
set_option maxHeartbeats 1000000 in
theorem SplitWords_c (s : ByteArray) {w : World} (hs : s.size ≤ 1048576) (hm : MaxAt w) :
    Calls Tryd.prog 35 #[.string s] w fun e w' => ∃ u, e = .returned u ∧ Own eT 9 w.heap.size w' u (wordsT s) ∧ Below w.heap.size w w' := by
  obtain ⟨i0, hi, hz0, hz1, hz2⟩ := info_parts Tryd.infoString
  have hb0 : Below w.heap.size w (w.alloc (.cells #[] 9)) := (Below.refl _ _).alloc (Nat.le_refl _) _
  have hcon := Split_c s 32 (w := w.alloc (.cells #[] 9)) hs (hm.below hb0)
  have hlit : Own eT 9 w.heap.size (w.alloc (.cells #[] 9)) (.slice (some ⟨w.heap.size, 0, none⟩) 0 0) [] :=
    Own.lit (E := eT) (xs := []) (cs := #[]) (Nat.le_refl _) rfl rfl (by decide) (fun x hx => by cases hx)
  obtain ⟨ps, hps⟩ : ∃ ps, ps = parts 32 s.data.toList := ⟨_, rfl⟩
  obtain ⟨wt, hwt⟩ : ∃ wt, wt = ps.map mkT := ⟨_, rfl⟩
  have hpt : partsT 32 s = wt := by unfold partsT; rw [hwt, hps]
  rw [hpt] at hcon
  have hlen : s.data.toList.length = s.size := Array.length_toList
  have hpl : ps.length ≤ s.size + 1 := by rw [hps, ← hlen]; exact parts_len 32 _
  have hwl : wt.length = ps.length := by rw [hwt, List.length_map]
  have hpsz : ∀ p ∈ ps, p.length ≤ 1048576 := by
    intro p hp
    have h1 := parts_sub 32 s.data.toList p (by rw [← hps]; exact hp)
    omega
  obtain ⟨N, hN⟩ : ∃ N, N = ps.length := ⟨_, rfl⟩
  have hfin : wordsT s = ((ps.take N).filter fun p => !p.isEmpty).map mkT := by unfold wordsT wordsF; rw [← hps, hN, List.take_length]
  have hN2 : N ≤ 1048577 := by omega
  have Hcon := Lib.hid hcon
  have Hwt := Lib.hid hwt
  have Hwl := Lib.hid hwl
  have HN := Lib.hid hN
  have Hpsz := Lib.hid hpsz
  have Hlit := Lib.hid hlit
  have Hb0 := Lib.hid hb0
  have Hfin := Lib.hid hfin
  clear hcon hwt hwl hN hpsz hlit hb0 hpt hlen hpl hfin hps hm
  go_enter Tryd.func35, Tryd.ntmps35
  go_wp2_with fail
  with_reducible refine Hcon.out.mono ?_
  rintro e w1 ⟨u, rfl, hu, hb1⟩
  obtain ⟨ao, cap, hsh, hof⟩ := RdT.open hu.rds
  rw [Hwl.out, ← HN.out] at hsh hof
  subst hsh
  have hcell : CellsAt ao ps N w1 := by
    intro j hj
    obtain ⟨lb, lo, hao, hlt, hc⟩ := hof (by omega)
    obtain ⟨x, hx, hcx, _⟩ := hc j hj
    rw [Hwt.out, List.getElem?_map] at hx
    cases hp : ps[j]? with
    | none => rw [hp] at hx; cases hx
    | some p => rw [hp] at hx; have := Option.some.inj hx; exact ⟨p, lb, lo, hao, rfl, by rw [this]; exact hcx⟩
  have hno : NotOwn (.slice (some ⟨w.heap.size, 0, none⟩) 0 0) ao := by
    intro b hb
    subst hb
    have h1 := (hu.lt b.block rfl).1
    simp at h1
    simp [Value.ownBlock]
    omega
  have Hcell := Lib.hid hcell
  have Hno := Lib.hid hno
  have Hlit1 := Lib.hid (Hlit.out.below hb1 (Nat.le_refl _))
  have Hb1 := Lib.hid (Hb0.out.trans (hb1.mono Hb0.out.size))
  clear hu hof hcell hno hb1 Hlit Hb0 Hcon
  go_wp2
  go_loopw [3, 10] (fun v iv wr => ∃ (i : Nat) (xs : List (List UInt8)), i ≤ N ∧ iv = .int .i64 i ∧ xs.length ≤ i ∧ Hid (xs = (ps.take i).filter fun p => !p.isEmpty) ∧ Own eT 9 w.heap.size wr v (xs.map mkT) ∧ NotOwn v ao ∧ CellsAt ao ps N wr ∧ Below w.heap.size w wr) (fun _ iv _ => N - (intOf iv).toNat)
  case atStart => exact ⟨0, [], Nat.zero_le _, rfl, Nat.le_refl _, Lib.hid rfl, Hlit1.out, Hno.out, Hcell.out, Hb1.out⟩
  case round =>
    obtain ⟨i, xs, hiN, rfl, hxl, hxs, hown, hno, hcell, hb⟩ := hrel
    clear Hlit1 Hb1 Hno Hcell
    by_cases hlt : i < N
    · obtain ⟨p, lb, lo, hao, hp, hcp⟩ := hcell i hlt
      subst hao
      have htk := take_snoc hp
      have hpsz := Hpsz.out p (List.mem_of_getElem? hp)
      have hli : (i : Int) < (N : Int) := by omega
      have hxl2 : (xs.map mkT).length ≤ 1048577 := by rw [List.length_map]; omega
      have hok : (mkT p).size ≤ 9223372036854775807 := by rw [mkT_size]; omega
      cases hpe : p with
      | nil =>
        have hem : (mkT p).toList.isEmpty = true := by rw [toList_mk, hpe]; rfl
        have Hx2 : Hid (xs = (ps.take (i + 1)).filter fun p => !p.isEmpty) := Lib.hid (by rw [htk, List.filter_append, ← hxs.out, hpe]; simp)
        have Hown := Lib.hid hown
        have Hno := Lib.hid hno
        have Hcell := Lib.hid hcell
        have Hb := Lib.hid hb
        clear hp htk hpsz hpe hown hno hcell hb hxs hxl2 hok
        go_wp2
        go_roundw
        case rel => exact ⟨i + 1, xs, by omega, by go_num, by omega, Hx2, Hown.out, Hno.out, Hcell.out, Hb.out⟩
        case measure => simp [intOf]; omega
      | cons a l =>
        have hem : (mkT p).toList.isEmpty = false := by rw [toList_mk, hpe]; rfl
        have Hx2 : Hid (xs ++ [p] = (ps.take (i + 1)).filter fun p => !p.isEmpty) := Lib.hid (by rw [htk, List.filter_append, ← hxs.out, hpe]; simp)
        have Hown := Lib.hid hown
        have Hno := Lib.hid hno
        have Hcell := Lib.hid hcell
        have Hb := Lib.hid hb
        have Hok := Lib.hid hok
        have Hxl := Lib.hid hxl2
        have hsz := hb.size
        clear hp htk hpsz hpe hown hno hcell hb hxs hok hxl2
        go_wp2_with (first | (at_builtin; refine wpList_appS (E := eT) rfl _ _ 47 rfl Tryd.underlying47 hi hz0 hz1 hz2 rfl (by decide) rfl rfl (Hown.out.alloc _) (rds_one (E := eT) (x := mkT p) Hok.out rfl) ?b1 ?b2 ?b3 ?_))
        case b1 => have := Hxl.out; unfold maxLen; simp only [List.length_cons, List.length_nil]; omega
        case b2 => have := Hxl.out; simp only [List.length_cons, List.length_nil]; omega
        case b3 => first | (simp; omega) | omega
        intro v' w4 hown4 hg4
        have hb4 := hg4.alloc.below Hb.out hsz (fun z hz => (Hown.out.lt z hz).1)
        obtain ⟨hc4, hn4⟩ := cells_grew (by omega) Hcell.out Hno.out hg4.alloc
        have Hown4 := Lib.hid hown4
        have Hb4 := Lib.hid hb4
        have Hc4 := Lib.hid hc4
        have Hn4 := Lib.hid hn4
        clear hg4 hown4 hb4 hc4 hn4 hcp
        go_wp2
        go_roundw
        case rel => exact ⟨i + 1, xs ++ [p], by omega, by go_num, by simp; omega, Hx2, by rw [List.map_append]; exact Hown4.out, Hn4.out, Hc4.out, Hb4.out⟩
        case measure => simp [intOf]; omega
    · obtain rfl : i = N := by omega
      have Hown := Lib.hid hown
      have Hb := Lib.hid hb
      clear hown hb hno hcell
      go_wp2
      go_ret
      exact ⟨_, rfl, by rw [Hfin.out, ← hxs.out]; exact Hown.out, Hb.out⟩
/-- where a name stands among the machines' names -/
def idxO (p : List UInt8) : Int := if nextW p 0 < 6 then (nextW p 0 : Nat) else -1
theorem Index_c (x : ByteArray) {g : Nat} {w : World} (hn : ∀ k, k < 6 → w.cell? ⟨g, k, none⟩ = some (.string (nmB k))) :
    Calls Tryd.prog 36 #[.slice (some ⟨g, 0, none⟩) 6 6, .string x] w fun e w' => e = .returned (.int .i64 (idxO x.data.toList)) ∧ w = w' := by
  obtain ⟨px, hpx⟩ : ∃ px, px = x.data.toList := ⟨_, rfl⟩
  have hpx2 : x.toList = px := by rw [ByteArray.toList_eq, hpx]
  rw [← hpx]
  have Hpx := Lib.hid hpx2
  have Hn := Lib.hid hn
  clear hpx hpx2 hn
  go_enter Tryd.func36, Tryd.ntmps36
  go_wp2
  go_loop [8] (fun iv => ∃ n : Nat, n ≤ 6 ∧ iv = .int .i64 n ∧ Hid (nextW px 0 = nextW px n)) (fun iv => 6 - (intOf iv).toNat)
  case atStart => exact ⟨0, by omega, rfl, Lib.hid rfl⟩
  case round =>
    obtain ⟨n, hn6, rfl, hnx⟩ := hrel
    by_cases hlt : n < 6
    · have hcn := Hn.out n hlt
      obtain ⟨nb, hnb⟩ : ∃ nb, nb = nmB n := ⟨_, rfl⟩
      rw [← hnb] at hcn
      have hnbl : nb.toList = nmQ n := by rw [hnb]; exact nm_toList n
      have hlti : (n : Int) < 6 := by omega
      have Hnbl := Lib.hid hnbl
      clear hnbl hnb
      by_cases he : nmQ n = px
      · have h1 : (x.toList == nb.toList) = true := by rw [Hnbl.out, Hpx.out, he]; simp
        have hw := nextW_hit hlt he
        have Hw : Hid (nextW px 0 = n) := Lib.hid (hnx.out.trans hw)
        clear he hw
        go_wp2
        go_ret
        exact ⟨ret_int (by unfold idxO; rw [Hw.out, if_pos hlt]), rfl⟩
      · have h1 : (x.toList == nb.toList) = false := by rw [Hnbl.out, Hpx.out]; simpa using fun h => he h.symm
        have hw := nextW_miss hlt he
        have Hw : Hid (nextW px 0 = nextW px (n + 1)) := Lib.hid (hnx.out.trans hw)
        clear he hw
        go_wp2
        go_round
        case rel => exact ⟨n + 1, by omega, by go_num, Hw⟩
        case measure => simp [intOf]; omega
    · have hlti : decide ((n : Int) < 6) = false := by simp; omega
      have Hw : Hid (nextW px 0 = 6) := Lib.hid (hnx.out.trans (nextW_end hlt))
      go_wp2
      go_ret
      exact ⟨ret_int (by unfold idxO; rw [Hw.out]; rfl), rfl⟩
end Go.Proofs.YtilgepapkigblaaDoor
