/- Cards in the laws' helpers: their size, equality, a copy, marks. Cards in the laws' helpers: copied, marked, held. Items and layouts in the laws' helpers. Valid layouts: in plain words, and the program's test by its contract. Valid layouts: the program's test by its contract. Cards and decks: which are valid, which are the same; the program's and the reference's. Valid layouts and the places of items: the reference's, each by its contract. Cards and decks: which are valid, which are the same; the reference's. No condition. -/
import Derived.Test.YtkpcdnbjngpooaaGreatDoorPR13
import Derived.Test.YtkpcdnbjngpooaaGreatDoorPR3
import Derived.Test.YtkpcdnbjngpooaaGreatDoorPR12
import Derived.Test.YtkpcdnbjngpooaaGreatDoorPR2
namespace Go.Proofs.YtkpcdnbjngpooaaGreatDoor
open Go.ChangeShapes Go.WideShapes Go.ChangeAt Go.RowKit Go.Sort
set_option linter.unusedVariables false
set_option maxRecDepth 100000
/-- A []Card that reads as lists of holes. -/
abbrev RdCardS (B : Nat) (w : World) (v : Value) (xss : List (List Int)) : Prop := RdInt64SS B w v xss
abbrev szCardS (x : List (List Int)) : Int := szInt64SS x
abbrev cntCardS (x : List (List Int)) : Nat := cntInt64SS x
abbrev mkCardS (k : Int) (x : List (List Int)) : List (List Int) := mkInt64SS k x
theorem cntCardS_le (x : List (List Int)) : (cntCardS x : Int) ≤ 16 * szCardS x := cntInt64SS_le x
theorem szCardS_nonneg (x : List (List Int)) : 0 ≤ szCardS x := szInt64SS_nonneg x
theorem szCardS_len (x : List (List Int)) : (x.length : Int) ≤ szCardS x := szInt64SS_len x
abbrev OwnTCardS (base tp : Nat) (w : World) (v : Value) (xss : List (List Int)) : Prop := OwnTM 70 base tp w v xss
def OwnCardS (base : Nat) (w : World) (v : Value) (xss : List (List Int)) : Prop := OwnTM 70 base w.heap.size w v xss
theorem OwnCardS.top {base : Nat} {w : World} {v : Value} {x : List (List Int)} (h : OwnCardS base w v x) : OwnTCardS base w.heap.size w v x := h
theorem OwnCardS.rds {base : Nat} {w : World} {v : Value} {x : List (List Int)} (h : OwnCardS base w v x) : RdCardS w.heap.size w v x := OwnTM.rds h
end Go.Proofs.YtkpcdnbjngpooaaGreatDoor
namespace Go.Proofs.YtkpcdnbjngpooaaGreatDoor
open Go.ChangeShapes Go.WideShapes Go.ChangeAt Go.RowKit
set_option linter.unusedVariables false
set_option maxRecDepth 100000
theorem grown_setC (w : World) (a : Addr) (u : Value) : w.grownBy (w.setCell a u) (some a.block) :=
  ⟨rfl, rfl, rfl, by simp [World.setCell], fun k hk hne => Below.heap_setCell _ _ _ _ (fun e => hne (by rw [e]))⟩
theorem Tryz.infoCard : (Tryz.prog.info? 70).map (fun i => (i.zero, i.size, i.bytes)) = some (some (.agg #[.slice none 0 0]), 1, 24) := by kernel_rfl
end Go.Proofs.YtkpcdnbjngpooaaGreatDoor
namespace Go.Proofs.YtkpcdnbjngpooaaGreatDoor
open Go.ChangeShapes Go.WideShapes Go.ChangeAt Go.RowKit
set_option linter.unusedVariables false
set_option maxRecDepth 100000
structure FieldT where
  ff : Int
  ft : Int
abbrev vField (x : FieldT) : Value := .agg #[.int .i64 x.ff, .int .i64 x.ft]
abbrev lField (x : FieldT) : Value := .agg #[.int .i64 x.ff, .int .i64 x.ft]
def okField (x : FieldT) : Prop := (-9223372036854775808 ≤ x.ff ∧ x.ff ≤ 9223372036854775807) ∧ (-9223372036854775808 ≤ x.ft ∧ x.ft ≤ 9223372036854775807)
def eField : Elt FieldT := { sz := 2, cells := fun x => [.int .i64 x.ff, .int .i64 x.ft], ok := okField, len := fun _ => rfl, one := fun x u hu => by simp at hu; rcases hu with rfl | rfl <;> rfl }
def zField : FieldT := ⟨0, 0⟩
theorem ok_zField : okField zField := by unfold okField zField; exact ⟨⟨by decide, by decide⟩, ⟨by decide, by decide⟩⟩
abbrev RdFieldS (B : Nat) (w : World) (v : Value) (x : List FieldT) : Prop := Rds eField B w v x
abbrev OwnFieldS (base : Nat) (w : World) (v : Value) (x : List FieldT) : Prop := Own eField 53 base w v x
abbrev OwnTFieldS (base top : Nat) (w : World) (v : Value) (x : List FieldT) : Prop := OwnT eField 53 base top w v x
def szField (x : FieldT) : Int := 0
theorem szField_nonneg (x : FieldT) : 0 ≤ szField x := by unfold szField; omega
def szFieldS (x : List FieldT) : Int := x.length + sumBy szField x
theorem szFieldS_nonneg (x : List FieldT) : 0 ≤ szFieldS x := by unfold szFieldS; have := sumBy_nonneg szField_nonneg x; omega
def cntFieldS (x : List FieldT) : Nat := 2 * x.length
theorem cntFieldS_le (x : List FieldT) : (cntFieldS x : Int) ≤ 16 * szFieldS x := by unfold szFieldS cntFieldS; have := sumBy_nonneg szField_nonneg x; omega
theorem szFieldS_len (x : List FieldT) : (x.length : Int) ≤ szFieldS x := by unfold szFieldS; have := sumBy_nonneg szField_nonneg x; omega
theorem eField_open {w : World} {B : Nat} {v : Value} {xs : List FieldT} (h : Rds eField B w v xs) : ∃ ao cap, v = .slice ao xs.length cap ∧
    (0 < xs.length → ∃ b off, ao = some ⟨b, off, none⟩ ∧ (b < B ∧ b < w.heap.size) ∧ ∀ k, k < xs.length → ∃ x, xs[k]? = some x ∧ (w.cell? ⟨b, off + k * 2, none⟩ = some (.int .i64 x.ff) ∧ w.cell? ⟨b, off + k * 2 + 1, none⟩ = some (.int .i64 x.ft)) ∧ okField x) := by
  rcases Rds.cases h with ⟨rfl, ao, cap, rfl, _⟩ | ⟨b, off, cap, rfl, hlt, hc⟩
  · exact ⟨ao, cap, rfl, fun h => absurd h (by simp)⟩
  · refine ⟨_, cap, rfl, fun _ => ⟨b, off, rfl, hlt, fun k hk => ?_⟩⟩
    obtain ⟨h1, h2⟩ := hc k xs[k] (by simp [hk])
    refine ⟨xs[k], by simp [hk], ⟨?_, ?_⟩, h1⟩
    · exact h2 0 (by decide)
    · have := h2 1 (by decide); rw [← Nat.add_assoc] at this; exact this
structure ItemT where
  nm : ByteArray
  kd : Int
  ff : Int
  ft : Int
abbrev vItem (x : ItemT) : Value := .agg #[.string x.nm, .int .i64 x.kd, .int .i64 x.ff, .int .i64 x.ft]
abbrev lItem (x : ItemT) : Value := .agg #[.string x.nm, .int .i64 x.kd, .int .i64 x.ff, .int .i64 x.ft]
def okItem (x : ItemT) : Prop := x.nm.size ≤ 9223372036854775807 ∧ (-9223372036854775808 ≤ x.kd ∧ x.kd ≤ 9223372036854775807) ∧ (-9223372036854775808 ≤ x.ff ∧ x.ff ≤ 9223372036854775807) ∧ (-9223372036854775808 ≤ x.ft ∧ x.ft ≤ 9223372036854775807)
def eItem : Elt ItemT := { sz := 4, cells := fun x => [.string x.nm, .int .i64 x.kd, .int .i64 x.ff, .int .i64 x.ft], ok := okItem, len := fun _ => rfl, one := fun x u hu => by simp at hu; rcases hu with rfl | rfl | rfl | rfl <;> rfl }
def zItem : ItemT := ⟨⟨#[]⟩, 0, 0, 0⟩
theorem ok_zItem : okItem zItem := by unfold okItem zItem; exact ⟨Nat.zero_le _, ⟨by decide, by decide⟩, ⟨by decide, by decide⟩, ⟨by decide, by decide⟩⟩
abbrev RdItemS (B : Nat) (w : World) (v : Value) (x : List ItemT) : Prop := Rds eItem B w v x
abbrev OwnItemS (base : Nat) (w : World) (v : Value) (x : List ItemT) : Prop := Own eItem 55 base w v x
abbrev OwnTItemS (base top : Nat) (w : World) (v : Value) (x : List ItemT) : Prop := OwnT eItem 55 base top w v x
def szItem (x : ItemT) : Int := (x.nm.size : Int)
theorem szItem_nonneg (x : ItemT) : 0 ≤ szItem x := by unfold szItem; omega
def szItemS (x : List ItemT) : Int := x.length + sumBy szItem x
theorem szItemS_nonneg (x : List ItemT) : 0 ≤ szItemS x := by unfold szItemS; have := sumBy_nonneg szItem_nonneg x; omega
def cntItemS (x : List ItemT) : Nat := 4 * x.length
theorem cntItemS_le (x : List ItemT) : (cntItemS x : Int) ≤ 16 * szItemS x := by unfold szItemS cntItemS; have := sumBy_nonneg szItem_nonneg x; omega
theorem szItemS_len (x : List ItemT) : (x.length : Int) ≤ szItemS x := by unfold szItemS; have := sumBy_nonneg szItem_nonneg x; omega
theorem eItem_open {w : World} {B : Nat} {v : Value} {xs : List ItemT} (h : Rds eItem B w v xs) : ∃ ao cap, v = .slice ao xs.length cap ∧
    (0 < xs.length → ∃ b off, ao = some ⟨b, off, none⟩ ∧ (b < B ∧ b < w.heap.size) ∧ ∀ k, k < xs.length → ∃ x, xs[k]? = some x ∧ (w.cell? ⟨b, off + k * 4, none⟩ = some (.string x.nm) ∧ w.cell? ⟨b, off + k * 4 + 1, none⟩ = some (.int .i64 x.kd) ∧ w.cell? ⟨b, off + k * 4 + 2, none⟩ = some (.int .i64 x.ff) ∧ w.cell? ⟨b, off + k * 4 + 3, none⟩ = some (.int .i64 x.ft)) ∧ okItem x) := by
  rcases Rds.cases h with ⟨rfl, ao, cap, rfl, _⟩ | ⟨b, off, cap, rfl, hlt, hc⟩
  · exact ⟨ao, cap, rfl, fun h => absurd h (by simp)⟩
  · refine ⟨_, cap, rfl, fun _ => ⟨b, off, rfl, hlt, fun k hk => ?_⟩⟩
    obtain ⟨h1, h2⟩ := hc k xs[k] (by simp [hk])
    refine ⟨xs[k], by simp [hk], ⟨?_, ?_, ?_, ?_⟩, h1⟩
    · exact h2 0 (by decide)
    · have := h2 1 (by decide); rw [← Nat.add_assoc] at this; exact this
    · have := h2 2 (by decide); rw [← Nat.add_assoc] at this; exact this
    · have := h2 3 (by decide); rw [← Nat.add_assoc] at this; exact this
end Go.Proofs.YtkpcdnbjngpooaaGreatDoor
namespace Go.Proofs.YtkpcdnbjngpooaaGreatDoor
open Go.ChangeShapes Go.WideShapes Go.ChangeAt Go.RowKit
set_option linter.unusedVariables false
set_option maxRecDepth 100000
structure ItOk (x : ItemT) (w : Int) : Prop where
  nm : nameB x.nm = true
  ff : fieldP x.ff x.ft w
  kd : x.kd = 1 ∨ x.kd = 2 ∧ x.ft - x.ff ≤ 12
instance (x : ItemT) (w : Int) : Decidable (ItOk x w) :=
  decidable_of_iff (nameB x.nm = true ∧ fieldP x.ff x.ft w ∧ (x.kd = 1 ∨ x.kd = 2 ∧ x.ft - x.ff ≤ 12)) ⟨fun ⟨a, b, c⟩ => ⟨a, b, c⟩, fun ⟨a, b, c⟩ => ⟨a, b, c⟩⟩
def itB (x : ItemT) (w : Int) : Bool := decide (ItOk x w)
theorem itB_no {x : ItemT} {w : Int} (h : ItOk x w → False) : itB x w = false := decide_eq_false h
theorem itB_yes {x : ItemT} {w : Int} (h : ItOk x w) : itB x w = true := decide_eq_true h
def meetP (x y : ItemT) : Prop := (if x.ff < y.ff then y.ff else x.ff) < (if x.ft < y.ft then x.ft else y.ft)
instance (x y : ItemT) : Decidable (meetP x y) := inferInstanceAs (Decidable ((_ : Int) < _))
/-- two items have a name or a column in common -/
def clI (x y : ItemT) : Bool := (x.nm.toList == y.nm.toList) || decide (meetP x y)
theorem meet_iff {x y : ItemT} {w : Int} (hx : fieldP x.ff x.ft w) (hy : fieldP y.ff y.ft w) : meetP x y ↔ y.ff < x.ft ∧ x.ff < y.ft := by
  obtain ⟨_, a, _⟩ := hx
  obtain ⟨_, b, _⟩ := hy
  unfold meetP
  split <;> split <;> omega
def layG (xs : List ItemT) (w : Int) (j : Nat) : Bool := match xs[j]? with
  | some x => itB x w && !((xs.take j).any (clI x))
  | none => true
def layB (w : Int) (xs : List ItemT) : Bool := decide (1 ≤ w ∧ w ≤ 20) && ((List.range xs.length).all (layG xs w) && decide (xs.length ≤ 12))
theorem layG_of {xs : List ItemT} {w : Int} {j : Nat} {x : ItemT} (h : xs[j]? = some x) : layG xs w j = (itB x w && !((xs.take j).any (clI x))) := by unfold layG; rw [h]
theorem layB_width {xs : List ItemT} {w : Int} (h : ¬ (1 ≤ w ∧ w ≤ 20)) : layB w xs = false := by unfold layB; rw [decide_eq_false h]; rfl
theorem layB_long {xs : List ItemT} {w : Int} (h : ¬ xs.length ≤ 12) : layB w xs = false := by unfold layB; rw [decide_eq_false h, Bool.and_false, Bool.and_false]
theorem layB_no {xs : List ItemT} {w : Int} {j : Nat} (hj : j < xs.length) (h : layG xs w j = false) : layB w xs = false := by
  unfold layB
  have : (List.range xs.length).all (layG xs w) = false := by
    rw [List.all_eq_false]; exact ⟨j, List.mem_range.2 hj, by rw [h]; decide⟩
  rw [this, Bool.false_and, Bool.and_false]
theorem layB_end {xs : List ItemT} {w : Int} (hw : 1 ≤ w ∧ w ≤ 20) (h : ∀ j, j < xs.length → layG xs w j = true) : layB w xs = decide (xs.length ≤ 12) := by
  unfold layB
  have : (List.range xs.length).all (layG xs w) = true := by
    rw [List.all_eq_true]; exact fun j hj => h j (List.mem_range.1 hj)
  rw [this, decide_eq_true hw]; rfl
theorem layB_parts {xs : List ItemT} {w : Int} (h : layB w xs = true) : (1 ≤ w ∧ w ≤ 20) ∧ xs.length ≤ 12 ∧ ∀ x ∈ xs, ItOk x w := by
  unfold layB at h
  rw [Bool.and_eq_true, Bool.and_eq_true, decide_eq_true_eq, decide_eq_true_eq, List.all_eq_true] at h
  refine ⟨h.1, h.2.2, fun x hx => ?_⟩
  obtain ⟨j, hj, rfl⟩ := List.mem_iff_getElem.1 hx
  have h1 := h.2.1 j (List.mem_range.2 hj)
  rw [layG_of (x := xs[j]) (by simp [hj]), Bool.and_eq_true] at h1
  exact of_decide_eq_true h1.1
/-- the place of an item; -1 if there is none -/
def idxN (xs : List ItemT) (nm : ByteArray) : Option Nat := xs.findIdx? (fun x => x.nm.toList == nm.toList)
def idxI (xs : List ItemT) (nm : ByteArray) : Int := match idxN xs nm with
  | some k => k
  | none => -1
theorem idx_found {xs : List ItemT} {nm : ByteArray} {k : Nat} {x : ItemT} (hx : xs[k]? = some x) (h : (x.nm.toList == nm.toList) = true) (hno : (xs.take k).any (fun x => x.nm.toList == nm.toList) = false) : idxI xs nm = k := by
  have hk := at_lt hx
  have h1 : idxN xs nm = some k := by
    unfold idxN
    rw [List.findIdx?_eq_some_iff_getElem]
    rw [List.getElem?_eq_getElem hk] at hx
    refine ⟨hk, by rw [Option.some.inj hx]; exact h, fun j hj => ?_⟩
    have h2 := List.any_eq_false.1 hno xs[j] (by rw [List.mem_take_iff_getElem]; exact ⟨j, by omega, rfl⟩)
    exact h2
  unfold idxI; rw [h1]
theorem idx_none {xs : List ItemT} {nm : ByteArray} (hno : xs.any (fun x => x.nm.toList == nm.toList) = false) : idxI xs nm = -1 := by
  have h1 : idxN xs nm = none := by
    unfold idxN
    rw [List.findIdx?_eq_none_iff]
    intro x hx
    have := List.any_eq_false.1 hno x hx
    simpa using this
  unfold idxI; rw [h1]
theorem idx_at {xs : List ItemT} {nm : ByteArray} (h : ¬ idxI xs nm < 0) : ∃ (k : Nat) (x : ItemT), idxI xs nm = k ∧ xs[k]? = some x := by
  unfold idxI at h ⊢
  cases hq : idxN xs nm with
  | none => rw [hq] at h; exact absurd (by decide) h
  | some k =>
    have h1 := (List.findIdx?_eq_some_iff_getElem.1 hq).1
    exact ⟨k, xs[k], rfl, by simp [h1]⟩
theorem idx_ge (xs : List ItemT) (nm : ByteArray) : -1 ≤ idxI xs nm := by
  unfold idxI
  cases idxN xs nm with
  | none => exact Int.le_refl _
  | some k => simp only; omega
end Go.Proofs.YtkpcdnbjngpooaaGreatDoor
namespace Go.Proofs.YtkpcdnbjngpooaaGreatDoor
open Go.ChangeShapes Go.WideShapes Go.ChangeAt Go.RowKit
set_option linter.unusedVariables false
set_option maxRecDepth 100000
theorem meet_c (x y : ItemT) (w : World) : Calls Tryz.prog 111 #[.agg #[.int .i64 x.ff, .int .i64 x.ft], .agg #[.int .i64 y.ff, .int .i64 y.ft]] w fun e w' => e = .returned (.bool (decide (meetP x y))) ∧ Below w.heap.size w w' := by
  obtain ⟨p, hp⟩ : ∃ p, p = decide (meetP x y) := ⟨_, rfl⟩
  rw [← hp]
  have Hp := Lib.hid hp
  clear hp
  have fin : ∀ (a b : Int), a = (if x.ff < y.ff then y.ff else x.ff) → b = (if x.ft < y.ft then x.ft else y.ft) → decide (a < b) = p := by
    intro a b h1 h2
    rw [Hp.out, h1, h2]; rfl
  have Fin := Lib.hid fin
  clear fin
  have hb2 : Below w.heap.size w ((w.alloc (.cells #[.int .i64 x.ff, .int .i64 x.ft] 53)).alloc (.cells #[.int .i64 y.ff, .int .i64 y.ft] 53)) := ((Below.refl _ _).alloc (Nat.le_refl _) _).alloc (by simp) _
  have Hb2 := Lib.hid hb2
  clear hb2
  by_cases h1 : x.ff < y.ff
  case pos =>
    by_cases h2 : y.ft < x.ft
    case pos =>
      have E := Lib.hid (Fin.out y.ff y.ft (by split <;> omega) (by split <;> omega))
      go_enter Tryz.func111, Tryz.ntmps111
      go_wp2
      go_ret
      exact ⟨ret_bool E.out, Hb2.out⟩
    case neg =>
      have E := Lib.hid (Fin.out y.ff x.ft (by split <;> omega) (by split <;> omega))
      go_enter Tryz.func111, Tryz.ntmps111
      go_wp2
      go_ret
      exact ⟨ret_bool E.out, Hb2.out⟩
  case neg =>
    by_cases h2 : y.ft < x.ft
    case pos =>
      have E := Lib.hid (Fin.out x.ff y.ft (by split <;> omega) (by split <;> omega))
      go_enter Tryz.func111, Tryz.ntmps111
      go_wp2
      go_ret
      exact ⟨ret_bool E.out, Hb2.out⟩
    case neg =>
      have E := Lib.hid (Fin.out x.ff x.ft (by split <;> omega) (by split <;> omega))
      go_enter Tryz.func111, Tryz.ntmps111
      go_wp2
      go_ret
      exact ⟨ret_bool E.out, Hb2.out⟩
theorem clo_Item (x y : ItemT) (w : World) {c : Nat} (hx : Box w c (eItem.cells x)) (hy : okItem y) :
    Calls Tryz.prog 110 #[vItem y, .pointer (some ⟨c, 0, none⟩)] w fun e w' => e = .returned (.bool (clI x y)) ∧ Below w.heap.size w w' := by
  have c0 := hx.cell 0 _ rfl
  have c2 := hx.cell 2 _ rfl
  have c3 := hx.cell 3 _ rfl
  have hlt := hx.lt
  have hne : c ≠ w.heap.size := by omega
  have hb0 : Below w.heap.size w (w.alloc (.cells #[.string y.nm, .int .i64 y.kd, .int .i64 y.ff, .int .i64 y.ft] 55)) := (Below.refl _ _).alloc (Nat.le_refl _) _
  have Hb0 := Lib.hid hb0
  clear hx hy hb0
  cases h1 : (x.nm.toList == y.nm.toList) with
  | true =>
    have e : clI x y = true := by unfold clI; rw [h1]; rfl
    rw [e]
    clear e
    go_enter Tryz.func110, Tryz.ntmps110
    go_wp2
    go_ret
    exact ⟨rfl, Hb0.out⟩
  | false =>
    have e : clI x y = decide (meetP x y) := by unfold clI; rw [h1]; rfl
    rw [e]
    clear e
    go_enter Tryz.func110, Tryz.ntmps110
    go_wp2_with fail
    with_reducible refine (meet_c x y _).mono ?_
    rintro e w1 ⟨rfl, hb⟩
    have hb1 := Hb0.out.trans (hb.mono Hb0.out.size)
    clear hb c0 c2 c3
    go_wp2
    go_ret
    exact ⟨rfl, hb1⟩
theorem indexItem_c {xs : List ItemT} {v : Value} {w : World} {A : Nat} (x : ItemT) {c : Nat} (hcc : Box w c (eItem.cells x)) (ha : RdItemS A w v xs) :
    Calls Tryz.prog 114 #[v, .func (.func 110) #[] #[.pointer (some ⟨c, 0, none⟩)]] w fun e w' => (∃ r : Int, e = .returned (.int .i64 r) ∧ -1 ≤ r ∧ (0 ≤ r ↔ xs.any (clI x) = true)) ∧ Below w.heap.size w w' := by
  have hle := ha.le
  obtain ⟨ao, cap, rfl, ho⟩ := eItem_open ha
  obtain ⟨n, hn⟩ : ∃ n, n = xs.length := ⟨_, rfl⟩
  rw [← hn]
  have Hn := Lib.hid hn
  have Ho := Lib.hid ho
  have Hcc := Lib.hid hcc
  clear hcc
  have hle' : n ≤ 9223372036854775807 := by omega
  clear ho hn hle ha
  go_enter Tryz.func114, Tryz.ntmps114
  go_wp2
  go_loopw [8] (fun i wr => ∃ k : Nat, k ≤ n ∧ i = .int .i64 k ∧ Hid ((xs.take k).any (clI x) = false) ∧ Below w.heap.size w wr) (fun i _ => n - (intOf i).toNat)
  case atStart => exact ⟨0, Nat.zero_le _, rfl, rfl, Below.refl _ _⟩
  case round =>
    obtain ⟨k, hk, rfl, hp, hbb⟩ := hrel
    by_cases hkn : k < n
    · obtain ⟨b, off, rfl, hlt, hc⟩ := Ho.out (by have := Hn.out; omega)
      obtain ⟨y, hy, ⟨c0, c1, c2, c3⟩, bx⟩ := hc k (by have := Hn.out; omega)
      have Hy := Lib.hid hy
      have Hbx := Lib.hid bx
      have d0 := (hbb.cell (p := ⟨b, off + k * 4, none⟩) hlt.2).trans c0
      have d1 := (hbb.cell (p := ⟨b, off + k * 4 + 1, none⟩) hlt.2).trans c1
      have d2 := (hbb.cell (p := ⟨b, off + k * 4 + 2, none⟩) hlt.2).trans c2
      have d3 := (hbb.cell (p := ⟨b, off + k * 4 + 3, none⟩) hlt.2).trans c3
      have Hcw := Lib.hid (Hcc.out.on hbb)
      clear hy hc bx c0 c1 c2 c3
      go_wp2_with fail
      with_reducible refine (clo_Item x y wr Hcw.out Hbx.out).mono ?_
      cases hq : (clI x) y with
      | true =>
        have Hq := Lib.hid hq
        clear hq
        rintro e w1 ⟨rfl, hb1⟩
        have hb2 := hbb.trans (hb1.mono hbb.size)
        go_wp2
        go_ret
        refine ⟨⟨_, rfl, by omega, ?_⟩, hb2⟩
        have : xs.any (clI x) = true := List.any_eq_true.2 ⟨y, List.mem_of_getElem? Hy.out, Hq.out⟩
        simp [this]
      | false =>
        have Hq := Lib.hid hq
        clear hq
        rintro e w1 ⟨rfl, hb1⟩
        have hb2 := hbb.trans (hb1.mono hbb.size)
        clear d0 d1 d2 d3 hb1 hbb
        go_wp2
        go_roundw
        case rel => exact ⟨k + 1, by omega, by go_num, by show _ = false; rw [take_snoc Hy.out, List.any_append, hp.out]; simp [Hq.out], hb2⟩
        case measure => simp [intOf]; omega
    · go_wp2
      go_ret
      refine ⟨⟨_, rfl, by omega, ?_⟩, hbb⟩
      have hq := hp.out
      rw [List.take_of_length_le (by have := Hn.out; omega)] at hq
      exact any_endT hq
theorem containsItem_c {xs : List ItemT} {v : Value} {w : World} {A : Nat} (x : ItemT) {c : Nat} (hcc : Box w c (eItem.cells x)) (ha : RdItemS A w v xs) :
    Calls Tryz.prog 109 #[v, .func (.func 110) #[] #[.pointer (some ⟨c, 0, none⟩)]] w fun e w' => e = .returned (.bool (xs.any (clI x))) ∧ Below w.heap.size w w' := by
  have Ha := Lib.hid ha
  have Hcc := Lib.hid hcc
  clear hcc
  obtain ⟨ao, cap, rfl⟩ := ha.shape
  clear ha
  go_enter Tryz.func109, Tryz.ntmps109
  go_wp2_with fail
  with_reducible refine (indexItem_c x Hcc.out Ha.out).mono ?_
  rintro e w' ⟨⟨r, rfl, hr, hi⟩, hb⟩
  have Hi := Lib.hid hi
  clear hi
  go_wp2
  go_ret
  refine ⟨ret_bool ?_, hb⟩
  rw [Bool.eq_iff_iff, decide_eq_true_iff]
  exact Hi.out

theorem isItem_c (x : ItemT) (c9 : Int) (w : World) (a : okItem x) (hc : 0 ≤ c9 ∧ c9 ≤ 1000) :
    Calls Tryz.prog 108 #[vItem x, .int .i64 c9] w fun e w' => e = .returned (.bool (itB x c9)) ∧ Below w.heap.size w w' := by
  have hs : x.nm.size ≤ 9223372036854775807 := a.1
  have Hc := Lib.hid hc
  have hb0 : Below w.heap.size w (w.alloc (.cells #[.string x.nm, .int .i64 x.kd, .int .i64 x.ff, .int .i64 x.ft] 55)) := (Below.refl _ _).alloc (Nat.le_refl _) _
  have Hb0 := Lib.hid hb0
  have HX := Lib.hid (Box.new w [.string x.nm, .int .i64 x.kd, .int .i64 x.ff, .int .i64 x.ft] 55)
  clear a hc hb0
  go_enter Tryz.func108, Tryz.ntmps108
  go_wp2_with fail
  with_reducible refine (IsName_c x.nm _ hs).mono ?_
  cases h1 : nameB x.nm with
  | false =>
    have H1 := Lib.hid h1
    clear h1
    rintro e w' ⟨rfl, rfl⟩
    go_wp2
    go_ret
    exact ⟨ret_bool (itB_no fun h => by have h9 := h.nm; rw [H1.out] at h9; cases h9).symm, Hb0.out⟩
  | true =>
    have H1 := Lib.hid h1
    clear h1
    rintro e w' ⟨rfl, rfl⟩
    go_wp2_with fail
    with_reducible refine (isField_c x.ff x.ft c9 _ Hc.out).mono ?_
    by_cases h2 : fieldP x.ff x.ft c9
    · have H2 := Lib.hid h2
      have h3 : 0 ≤ x.ff ∧ x.ff < x.ft ∧ x.ft ≤ 1000 := by have := Hc.out; unfold fieldP at h2; omega
      obtain ⟨h4, h5, h6⟩ := h3
      rw [decide_eq_true h2]
      clear h2
      rintro e w1 ⟨rfl, hb⟩
      have HY := Lib.hid (HX.out.on hb)
      have HbY := Lib.hid (Hb0.out.trans (hb.mono Hb0.out.size))
      clear hb HX Hb0
      have c1 := HY.out.cell 1 _ rfl
      have c2 := HY.out.cell 2 _ rfl
      have c3 := HY.out.cell 3 _ rfl
      by_cases k1 : x.kd = 1
      · have q1 : (x.kd == 1) = true := by simpa using k1
        have K1 := Lib.hid k1
        clear k1
        go_wp2
        go_ret
        exact ⟨ret_bool (itB_yes ⟨H1.out, H2.out, .inl K1.out⟩).symm, HbY.out⟩
      · have q1 : (x.kd == 1) = false := by simpa using k1
        have K1 := Lib.hid k1
        clear k1
        by_cases k2 : x.kd = 2
        · have q2 : (x.kd == 2) = true := by simpa using k2
          have K2 := Lib.hid k2
          clear k2
          go_wp2
          go_ret
          refine ⟨ret_bool ?_, HbY.out⟩
          unfold itB
          exact decide_eq_decide.2 ⟨fun q => ⟨H1.out, H2.out, .inr ⟨K2.out, q⟩⟩, fun h => h.kd.elim (fun e => absurd e K1.out) (fun e => e.2)⟩
        · have q2 : (x.kd == 2) = false := by simpa using k2
          have K2 := Lib.hid k2
          clear k2
          go_wp2
          go_ret
          exact ⟨ret_bool (itB_no fun h => h.kd.elim K1.out (fun e => K2.out e.1)).symm, HbY.out⟩
    · have H2 := Lib.hid h2
      rw [decide_eq_false h2]
      clear h2
      rintro e w1 ⟨rfl, hb⟩
      have HbY := Lib.hid (Hb0.out.trans (hb.mono Hb0.out.size))
      clear hb HX Hb0
      go_wp2
      go_ret
      exact ⟨ret_bool (itB_no fun h => H2.out h.ff).symm, HbY.out⟩
set_option maxHeartbeats 1000000 in
theorem ValidLayout_c {xs : List ItemT} {v : Value} {w : World} {A : Nat} (wd : Int) (ha : RdItemS A w v xs) :
    Calls Tryz.prog 81 #[.agg #[.int .i64 wd, v]] w fun e w' => e = .returned (.bool (layB wd xs)) ∧ Below w.heap.size w w' := by
  have hle := ha.le
  have hb0 : Below w.heap.size w (w.alloc (.cells #[.int .i64 wd, v] 27)) := (Below.refl _ _).alloc (Nat.le_refl _) _
  have Hb0 := Lib.hid hb0
  have hL := Box.new w [.int .i64 wd, v] 27
  have ha0 := Rds.onn ha hb0
  obtain ⟨ao, cap, rfl⟩ := ha.shape
  have hcap := ha0.cap
  obtain ⟨ao2, cap2, he2, ho⟩ := eItem_open ha0
  injection he2 with he3 _ he4
  subst he3; subst he4
  obtain ⟨n, hn⟩ : ∃ n, n = xs.length := ⟨_, rfl⟩
  have hcp : n ≤ cap := by omega
  rw [← hn] at hle ho ha0 hL hb0 Hb0 ⊢
  have Ha := Lib.hid ha0
  have HL := Lib.hid hL
  have Hn := Lib.hid hn
  have Ho := Lib.hid ho
  have hcp2 : 0 < n → cap ≤ 9223372036854775807 := fun h => hcap.2.2 (by omega)
  have Hcp2 := Lib.hid hcp2
  clear hn ho ha ha0 hL hb0 hcap hcp2
  by_cases hw : 1 ≤ wd ∧ wd ≤ 20
  case neg =>
    have hw2 : wd < 1 ∨ 20 < wd := by omega
    have Hw := Lib.hid hw2
    have E := Lib.hid (layB_width (xs := xs) hw)
    clear hw hw2
    go_enter Tryz.func81, Tryz.ntmps81
    go_wp2_with fail
    with_reducible refine (inside_no _ _ _ _ Hw.out).mono ?_
    rintro e w' ⟨rfl, rfl⟩
    go_wp2
    go_ret
    exact ⟨ret_bool E.out.symm, Hb0.out⟩
  case pos =>
    have Hw := Lib.hid hw
    clear hw
    by_cases h12 : n ≤ 12
    case neg =>
      have E := Lib.hid (layB_long (w := wd) (xs := xs) (by have := Hn.out; omega))
      go_enter Tryz.func81, Tryz.ntmps81
      go_wp2_with fail
      with_reducible refine (inside_yes _ _ _ _ Hw.out.1 Hw.out.2).mono ?_
      rintro e w' ⟨rfl, rfl⟩
      go_wp2
      go_ret
      exact ⟨ret_bool E.out.symm, Hb0.out⟩
    case pos =>
      go_enter Tryz.func81, Tryz.ntmps81
      go_wp2_with fail
      with_reducible refine (inside_yes _ _ _ _ Hw.out.1 Hw.out.2).mono ?_
      rintro e w' ⟨rfl, rfl⟩
      have Hb00 : Hid (Below (w.alloc (.cells #[.int .i64 wd, .slice ao n cap] 27)).heap.size (w.alloc (.cells #[.int .i64 wd, .slice ao n cap] 27)) (w.alloc (.cells #[.int .i64 wd, .slice ao n cap] 27))) := Lib.hid (Below.refl _ _)
      generalize w.alloc (.cells #[.int .i64 wd, .slice ao n cap] 27) = W at Ha HL Hb0 Ho Hb00 ⊢
      have l0 := HL.out.cell 0 _ rfl
      have l1 := HL.out.cell 1 _ rfl
      go_wp2_with fail
      clear l0 l1
      go_loopw [18] (fun i wr => ∃ k : Nat, k ≤ n ∧ i = .int .i64 k ∧ Hid (∀ j, j < k → layG xs wd j = true) ∧ Below W.heap.size W wr) (fun i _ => n - (intOf i).toNat)
      case atStart => exact ⟨0, Nat.zero_le _, rfl, fun j h => absurd h (Nat.not_lt_zero _), Hb00.out⟩
      case round =>
        obtain ⟨k, hk, rfl, hp, hbb⟩ := hrel
        by_cases hkn : k < n
        · obtain ⟨b, off, rfl, hlt, hc⟩ := Ho.out (by have := Hn.out; omega)
          obtain ⟨x, hx, ⟨c0, c1, c2, c3⟩, bx⟩ := hc k (by have := Hn.out; omega)
          have d0 := (hbb.cell (p := ⟨b, off + k * 4, none⟩) hlt.2).trans c0
          have d1 := (hbb.cell (p := ⟨b, off + k * 4 + 1, none⟩) hlt.2).trans c1
          have d2 := (hbb.cell (p := ⟨b, off + k * 4 + 2, none⟩) hlt.2).trans c2
          have d3 := (hbb.cell (p := ⟨b, off + k * 4 + 3, none⟩) hlt.2).trans c3
          have hLr := HL.out.on hbb
          have hcap := Hcp2.out (by omega)
          have hb2 : Below W.heap.size W (wr.alloc (.cells #[.string x.nm, .int .i64 x.kd, .int .i64 x.ff, .int .i64 x.ft] 55)) := hbb.alloc hbb.size _
          have hXb := Box.new wr [.string x.nm, .int .i64 x.kd, .int .i64 x.ff, .int .i64 x.ft] 55
          have hLx := hLr.alloc (.cells #[.string x.nm, .int .i64 x.kd, .int .i64 x.ff, .int .i64 x.ft] 55)
          have l1 := hLr.cell 1 _ rfl
          have hgx := layG_of (w := wd) hx
          have Hgx := Lib.hid hgx
          have Hx := Lib.hid hx
          have Hbx := Lib.hid bx
          have HXb := Lib.hid hXb
          have HLx := Lib.hid hLx
          have Hb2 := Lib.hid hb2
          have Hlw : w.heap.size < wr.heap.size := hLr.lt
          clear hx hc bx c0 c1 c2 c3 hXb hLx hb2 hLr hgx
          go_upto_region 6 with fail
          clear d0 d1 d2 d3 l1
          generalize wr.alloc (.cells #[.string x.nm, .int .i64 x.kd, .int .i64 x.ff, .int .i64 x.ft] 55) = T at HXb HLx Hb2 ⊢
          have x0 := HXb.out.cell 0 _ rfl
          have x1 := HXb.out.cell 1 _ rfl
          have x2 := HXb.out.cell 2 _ rfl
          have x3 := HXb.out.cell 3 _ rfl
          have l0 := HLx.out.cell 0 _ rfl
          go_wp2_with fail
          with_reducible refine (isItem_c x wd _ Hbx.out (by have := Hw.out; omega)).mono ?_
          cases hv : itB x wd with
          | false =>
            have Hv := Lib.hid hv
            clear hv
            rintro e w2 ⟨rfl, hb⟩
            have hb3 := Hb2.out.trans (hb.mono Hb2.out.size)
            clear hb x0 x1 x2 x3 l0
            go_wp2
            go_ret
            exact ⟨ret_bool (layB_no (j := k) (by have := Hn.out; omega) (by rw [Hgx.out, Hv.out]; rfl)).symm, Hb0.out.trans (hb3.mono Hb0.out.size)⟩
          | true =>
            have Hv := Lib.hid hv
            clear hv
            rintro e w2 ⟨rfl, hb⟩
            have hb3 := Hb2.out.trans (hb.mono Hb2.out.size)
            have HX3 := Lib.hid (HXb.out.on hb)
            have HL3 := Lib.hid (HLx.out.on hb)
            have Hb3 := Lib.hid hb3
            have Ht := Lib.hid (((Ha.out.below hb3 (Nat.le_refl _)).mono hb3.size).takeN hk)
            clear hb hb3 x0 x1 x2 x3 l0 HXb HLx
            have l1 := HL3.out.cell 1 _ rfl
            go_wp2_with fail
            with_reducible refine (containsItem_c x HX3.out Ht.out).mono ?_
            cases hq : (xs.take k).any (clI x) with
            | true =>
              have Hq := Lib.hid hq
              clear hq
              rintro e w3 ⟨rfl, hb4⟩
              have hb5 := Hb3.out.trans (hb4.mono Hb3.out.size)
              clear l1 hb4
              go_wp2
              go_ret
              exact ⟨ret_bool (layB_no (j := k) (by have := Hn.out; omega) (by rw [Hgx.out, Hv.out, Hq.out]; rfl)).symm, Hb0.out.trans (hb5.mono Hb0.out.size)⟩
            | false =>
              have Hq := Lib.hid hq
              clear hq
              rintro e w3 ⟨rfl, hb4⟩
              have hb5 := Hb3.out.trans (hb4.mono Hb3.out.size)
              clear l1 hb4
              go_wp2
              go_roundw
              case rel => exact ⟨k + 1, by omega, by go_num, fun j hj => by rcases Nat.lt_succ_iff_lt_or_eq.1 hj with hj | rfl; exact hp.out j hj; rw [Hgx.out, Hv.out, Hq.out]; rfl, hb5⟩
              case measure => simp [intOf]; omega
        · have E : layB wd xs = decide (xs.length ≤ 12) := layB_end Hw.out (fun j hj => hp.out j (by have := Hn.out; omega))
          rw [decide_eq_true (show xs.length ≤ 12 by have := Hn.out; omega)] at E
          have E1 := Lib.hid E
          clear E
          go_wp2
          go_ret
          exact ⟨ret_bool E1.out.symm, Hb0.out.trans (hbb.mono Hb0.out.size)⟩
end Go.Proofs.YtkpcdnbjngpooaaGreatDoor
namespace Go.Proofs.YtkpcdnbjngpooaaGreatDoor
open Go.ChangeShapes Go.WideShapes Go.ChangeAt Go.RowKit Go.Sort
set_option linter.unusedVariables false
set_option maxRecDepth 100000
def badHole (x : Int) : Bool := !decide (0 ≤ x ∧ x ≤ 4095)
def cardB (h : List Int) : Bool := decide (1 ≤ h.length ∧ h.length ≤ 20) && !h.any badHole
def okAt (d : List (List Int)) (c : List Int) : Bool := cardB c && decide (c.length = (d.headD []).length)
def deckB (d : List (List Int)) : Bool := d.all (okAt d) && decide (d.length ≤ 40)
theorem deckB_parts {d : List (List Int)} (h : deckB d = true) : d.length ≤ 40 ∧ ∀ c ∈ d, cardB c = true ∧ c.length = (d.headD []).length := by
  unfold deckB at h
  rw [Bool.and_eq_true, decide_eq_true_eq, List.all_eq_true] at h
  refine ⟨h.2, fun c hc => ?_⟩
  have := h.1 c hc
  unfold okAt at this
  rw [Bool.and_eq_true, decide_eq_true_eq] at this
  exact this
theorem all_take_snoc {α : Type} {d : List α} {k : Nat} {x : α} (p : α → Bool) (h : d[k]? = some x) : (d.take (k + 1)).all p = ((d.take k).all p && p x) := by
  rw [take_snoc h, List.all_append]; simp
theorem all_not {α : Type} {d : List α} {k : Nat} {x : α} {p : α → Bool} (h : d[k]? = some x) (hp : p x = false) : d.all p = false := by
  rw [List.all_eq_false]
  exact ⟨x, List.mem_of_getElem? h, by rw [hp]; decide⟩
theorem head_of {d : List (List Int)} {x : List Int} (h : d[0]? = some x) : d.headD [] = x := by
  cases d with
  | nil => cases h
  | cons a b => exact Option.some.inj h
theorem columns_c {ao : Option Addr} {n cap : Nat} {w : World} (hn : n ≤ 9223372036854775807) :
    Calls Tryz.prog 82 #[.agg #[.slice ao n cap]] w fun e w' => e = .returned (.int .i64 n) ∧ Below w.heap.size w w' := by
  go_enter Tryz.func82, Tryz.ntmps82
  go_wp2_with fail
  with_reducible refine (size_any0 hn).mono ?_
  rintro e w1 ⟨rfl, rfl⟩
  go_wp2
  go_ret
  exact ⟨rfl, (Below.refl _ _).alloc (Nat.le_refl _) _⟩
theorem clo_badHole (x : Int) (w : World) (_h : okInt64 x) : Calls Tryz.prog 113 #[.int .i64 x] w fun e w' => e = .returned (.bool (badHole x)) ∧ w = w' := by
  go_enter Tryz.func113, Tryz.ntmps113
  go_wp2_with fail
  refine (inside_any _ _ _ _).mono ?_
  rintro e w' ⟨rfl, rfl⟩
  go_wp2
  go_ret
  exact ⟨ret_bool (by unfold badHole; simp), rfl⟩
theorem indexFunc_badHole {xs : List Int} {v : Value} {w : World} {A : Nat} (ha : RdI A w v xs) :
    Calls Tryz.prog 116 #[v, .func (.func 113) #[] #[]] w fun e w' => (∃ r : Int, e = .returned (.int .i64 r) ∧ -1 ≤ r ∧ (0 ≤ r ↔ xs.any badHole = true)) ∧ w = w' := by
  have hle := ha.le
  obtain ⟨ao, cap, rfl, ho⟩ := ha.open
  obtain ⟨l, hl⟩ : ∃ l, l = xs.length := ⟨_, rfl⟩
  rw [← hl]
  have Hl := Lib.hid hl
  have Ho := Lib.hid ho
  have hl' : l ≤ 9223372036854775807 := by omega
  clear ho hl hle ha
  go_enter Tryz.func116, Tryz.ntmps116
  go_wp2
  go_loop [8] (fun i => ∃ k : Nat, k ≤ l ∧ i = .int .i64 k ∧ Hid ((xs.take k).any badHole = false)) (fun i => l - (intOf i).toNat)
  case atStart => exact ⟨0, Nat.zero_le _, rfl, rfl⟩
  case round =>
    obtain ⟨k, hk, rfl, hp⟩ := hrel
    by_cases hkn : k < l
    · obtain ⟨b, off, rfl, hlt, hc⟩ := Ho.out (by have := Hl.out; omega)
      obtain ⟨x, hx, hcx, bx⟩ := hc k (by have := Hl.out; omega)
      have Hx := Lib.hid hx
      have Hb := Lib.hid bx
      clear hx hc bx
      cases hq : badHole x with
      | true =>
        have Hq := Lib.hid hq
        clear hq
        go_wp2_with (go_at_call 113; refine (clo_badHole x _ Hb.out).mono ?_; rw [Hq.out]; rintro e w' ⟨rfl, rfl⟩)
        go_ret
        refine ⟨⟨_, rfl, by omega, ?_⟩, rfl⟩
        have : xs.any badHole = true := List.any_eq_true.2 ⟨x, List.mem_of_getElem? Hx.out, Hq.out⟩
        simp [this]
      | false =>
        have Hq := Lib.hid hq
        clear hq
        go_wp2_with (go_at_call 113; refine (clo_badHole x _ Hb.out).mono ?_; rw [Hq.out]; rintro e w' ⟨rfl, rfl⟩)
        go_round
        case rel => exact ⟨k + 1, by omega, by go_num, by show _ = false; rw [take_snoc Hx.out, List.any_append, hp.out]; simp [Hq.out]⟩
        case measure => simp [intOf]; omega
    · go_wp2
      go_ret
      refine ⟨⟨_, rfl, by omega, ?_⟩, rfl⟩
      have hq := hp.out
      rw [List.take_of_length_le (by have := Hl.out; omega)] at hq
      exact any_end hq
theorem any_badHole {xs : List Int} {v : Value} {w : World} {A : Nat} (ha : RdI A w v xs) :
    Calls Tryz.prog 86 #[v, .func (.func 113) #[] #[]] w fun e w' => e = .returned (.bool (xs.any badHole)) ∧ w = w' := by
  have Ha := Lib.hid ha
  obtain ⟨ao, cap, rfl⟩ := ha.shape
  clear ha
  go_enter Tryz.func86, Tryz.ntmps86
  go_wp2_with fail
  refine (indexFunc_badHole Ha.out).mono ?_
  rintro e w' ⟨⟨r, rfl, hr, hi⟩, rfl⟩
  have Hi := Lib.hid hi
  clear hi
  go_wp2
  go_ret
  refine ⟨ret_bool ?_, rfl⟩
  rw [Bool.eq_iff_iff, decide_eq_true_iff]
  exact Hi.out
theorem ValidCard_c {xs : List Int} {v : Value} {w : World} {A : Nat} (ha : RdI A w v xs) :
    Calls Tryz.prog 83 #[.agg #[v]] w fun e w' => e = .returned (.bool (cardB xs)) ∧ Below w.heap.size w w' := by
  have hle := ha.le
  have hb0 : Below w.heap.size w (w.alloc (.cells #[v] 70)) := (Below.refl _ _).alloc (Nat.le_refl _) _
  have hB0 : Box (w.alloc (.cells #[v] 70)) w.heap.size [v] := Box.new w [v] 70
  have ha0 := Rds.onn ha hb0
  obtain ⟨ao, cap, rfl⟩ := ha.shape
  have Ha0 := Lib.hid ha0
  have Hb0 := Lib.hid hb0
  have HB0 := Lib.hid hB0
  obtain ⟨n, hn⟩ : ∃ n, n = xs.length := ⟨_, rfl⟩
  obtain ⟨W0, hW0⟩ : ∃ W0, W0 = w.alloc (.cells #[.slice ao xs.length cap] 70) := ⟨_, rfl⟩
  rw [← hW0] at Ha0 Hb0 HB0
  unfold cardB
  rw [← hn] at Ha0 HB0 hle hW0 ⊢
  have HW0 := Lib.hid hW0
  clear ha ha0 hb0 hB0 hW0 hn
  have hcol := fun W => columns_c (ao := ao) (n := n) (cap := cap) (w := W) hle
  have Hcol := Lib.hid hcol
  clear hcol
  by_cases hc : 1 ≤ n ∧ n ≤ 20
  · rw [decide_eq_true hc, Bool.true_and]
    have hci : (1 : Int) ≤ (n : Int) ∧ (n : Int) ≤ 20 := by omega
    have Hci := Lib.hid hci
    clear hci hc
    go_enter Tryz.func83, Tryz.ntmps83
    go_wp2_with fail
    rw [← HW0.out]
    with_reducible refine (Hcol.out _).mono ?_
    rintro e w1 ⟨rfl, hb1⟩
    have hB1 := HB0.out.on hb1
    have q0 := hB1.cell 0 _ rfl
    have Ha1 := Lib.hid (Rds.onn Ha0.out hb1)
    have Hb1 := Lib.hid (Hb0.out.trans (hb1.mono Hb0.out.size))
    clear hB1 hb1
    go_wp2_with fail
    with_reducible refine (inside_any _ _ _ _).mono ?_
    rw [decide_eq_true Hci.out]
    rintro e w2 ⟨rfl, rfl⟩
    go_wp2_with fail
    with_reducible refine (any_badHole Ha1.out).mono ?_
    rintro e w3 ⟨rfl, rfl⟩
    go_wp2
    go_ret
    exact ⟨rfl, Hb1.out⟩
  · rw [decide_eq_false hc, Bool.false_and]
    have hci : ¬ ((1 : Int) ≤ (n : Int) ∧ (n : Int) ≤ 20) := by omega
    have Hci := Lib.hid hci
    clear hci hc
    go_enter Tryz.func83, Tryz.ntmps83
    go_wp2_with fail
    rw [← HW0.out]
    with_reducible refine (Hcol.out _).mono ?_
    rintro e w1 ⟨rfl, hb1⟩
    have Hb1 := Lib.hid (Hb0.out.trans (hb1.mono Hb0.out.size))
    clear hb1
    go_wp2_with fail
    with_reducible refine (inside_any _ _ _ _).mono ?_
    rw [decide_eq_false Hci.out]
    rintro e w2 ⟨rfl, rfl⟩
    go_wp2
    go_ret
    exact ⟨rfl, Hb1.out⟩
set_option maxHeartbeats 1000000 in
theorem ValidDeck_c {xss : List (List Int)} {v : Value} {w : World} {A : Nat} (ha : RdInt64SS A w v xss) :
    Calls Tryz.prog 51 #[v] w fun e w' => e = .returned (.bool (deckB xss)) ∧ Below w.heap.size w w' := by
  have hle := ha.le
  obtain ⟨ao, cap, rfl, ho⟩ := ha.open
  obtain ⟨n, hn⟩ : ∃ n, n = xss.length := ⟨_, rfl⟩
  have hdk : deckB xss = (xss.all (okAt xss) && decide (n ≤ 40)) := by unfold deckB; rw [hn]
  rw [hdk, ← hn]
  have Hn := Lib.hid hn
  have Ho := Lib.hid ho
  have hle' : n ≤ 9223372036854775807 := by omega
  clear ho hn hle ha hdk
  go_enter Tryz.func51, Tryz.ntmps51
  go_wp2
  go_loopw [7] (fun i wr => ∃ k : Nat, k ≤ n ∧ i = .int .i64 k ∧ Hid ((xss.take k).all (okAt xss) = true) ∧ Below w.heap.size w wr) (fun i _ => n - (intOf i).toNat)
  case atStart => exact ⟨0, Nat.zero_le _, rfl, Lib.hid (by simp), Below.refl _ _⟩
  case round =>
    obtain ⟨k, hk, rfl, hp, hb⟩ := hrel
    by_cases hkn : k < n
    · obtain ⟨b, off, rfl, hlt, hc⟩ := Ho.out (by have := Hn.out; omega)
      obtain ⟨x, ro, rc, hx, hcell, hrd⟩ := hc k (by have := Hn.out; omega)
      obtain ⟨y, qo, qc, hy, hcell0, hrd0⟩ := hc 0 (by have := Hn.out; omega)
      have hyl := hrd0.le
      have hxl := hrd.le
      have hh := head_of hy
      replace hcell := (hb.cell (p := ⟨b, off + k, none⟩) hlt.2).trans hcell
      replace hcell0 := (hb.cell (p := ⟨b, off + 0, none⟩) hlt.2).trans hcell0
      obtain ⟨T, hT⟩ : ∃ T, T = wr.alloc (.cells #[.slice ro x.length rc] 70) := ⟨_, rfl⟩
      have hbT : Below wr.heap.size wr T := by rw [hT]; exact (Below.refl _ _).alloc (Nat.le_refl _) _
      have hBT : Box T wr.heap.size [.slice ro x.length rc] := by rw [hT]; exact Box.new wr [.slice ro x.length rc] _
      have f0 := cell_regrown (hBT.cell 0 _ rfl)
      have hbl := World.block_lt_of_cell? wr _ hcell0
      have f1 := cell_regrown ((hbT.cell (p := ⟨b, off, none⟩) hbl).trans hcell0)
      have hkni : (k : Int) < (n : Int) := by omega
      have hn0 : 0 < n := by omega
      have hok : okAt xss x = (cardB x && decide (x.length = y.length)) := by unfold okAt; rw [hh]
      have hval := ValidCard_c (Rds.onn (Rds.onn hrd hb) hbT)
      have hvalA := fun d os => ValidCard_c (w := grow (redrawn T d) os) (A := T.heap.size) (xs := x) (Rds.regrown (Rds.onn (Rds.onn hrd hb) hbT) (Nat.le_refl _) d os)
      have hst := all_take_snoc (okAt xss) hx
      have hno := fun h => all_not (p := okAt xss) hx h
      have Hb := Lib.hid hb
      have HbT := Lib.hid hbT
      have HT := Lib.hid hT
      have HvalA := Lib.hid hvalA
      have Hok := Lib.hid hok
      have Hst := Lib.hid hst
      have Hno := Lib.hid hno
      clear hc hx hy hrd hrd0 hb hbT hBT hT hval hvalA hok hst hno hh
      cases hcb : cardB x with
      | false =>
        rw [hcb] at HvalA Hok
        rw [Bool.false_and] at Hok
        clear hcb
        go_upto_region 4 with fail
        rw [← HT.out]
        clear hcell hcell0
        refine wp_region_quiet_below (by kernel_rfl) (by kernel_rfl) ?_
        repeat ((with_reducible refine wpQuiet_step (fun K hK => ?_)); go_simp; first | ((with_reducible refine hK _ ?_); clear hK K) | (apply Exists.intro; refine ⟨fun _ => ?_, hK _ ?_⟩; ((first | (go_at_call 83; with_reducible exact qb_below (HvalA.out _ _)))); clear hK K))
        refine wpQuiet_nil ?_
        intro _ hw'
        obtain ⟨⟨dq, osq⟩, hw''⟩ := hw'
        subst hw''
        have hbq := below_regrown T dq osq
        generalize grow (redrawn T dq) osq = wq at hbq ⊢
        have Hb1 := Lib.hid (Hb.out.trans ((HbT.out.trans (hbq.mono HbT.out.size)).mono Hb.out.size))
        clear hbq f0 f1
        go_wp2
        go_ret
        exact ⟨by rw [Hno.out Hok.out]; rfl, Hb1.out⟩
      | true =>
        rw [hcb] at HvalA Hok
        rw [Bool.true_and] at Hok
        clear hcb
        by_cases hl : x.length = y.length
        · rw [decide_eq_true hl] at Hok
          obtain ⟨m, hm⟩ : ∃ m, m = y.length := ⟨_, rfl⟩
          rw [← hm] at hl f1 hcell0 hyl
          rw [hl] at f0 hcell HT HvalA
          have HT2 := Lib.hid HT.out
          have Hc1 := Lib.hid (fun d os => columns_c (ao := ro) (n := m) (cap := rc) (w := grow (redrawn T d) os) hyl)
          have Hc2 := Lib.hid (fun d os => columns_c (ao := qo) (n := m) (cap := qc) (w := grow (redrawn T d) os) hyl)
          clear hl hm hxl
          go_upto_region 4 with fail
          rw [← HT2.out]
          clear hcell hcell0
          refine wp_region_quiet_below (by kernel_rfl) (by kernel_rfl) ?_
          repeat ((with_reducible refine wpQuiet_step (fun K hK => ?_)); go_simp; first | ((with_reducible refine hK _ ?_); clear hK K) | (apply Exists.intro; refine ⟨fun _ => ?_, hK _ ?_⟩; ((first | (go_at_call 83; with_reducible exact qb_below (HvalA.out _ _)) | (go_at_call 82; first | with_reducible exact qb_below (Hc1.out _ _) | with_reducible exact qb_below (Hc2.out _ _)))); clear hK K))
          refine wpQuiet_nil ?_
          intro _ hw'
          obtain ⟨⟨dq, osq⟩, hw''⟩ := hw'
          subst hw''
          have hbq := below_regrown T dq osq
          generalize grow (redrawn T dq) osq = wq at hbq ⊢
          have Hb1 := Lib.hid (Hb.out.trans ((HbT.out.trans (hbq.mono HbT.out.size)).mono Hb.out.size))
          clear hbq f0 f1
          go_wp2
          go_roundw
          case rel => exact ⟨k + 1, by omega, by go_num, Lib.hid (by rw [Hst.out, hp.out, Hok.out]; rfl), Hb1.out⟩
          case measure => simp [intOf]; omega
        · rw [decide_eq_false hl] at Hok
          obtain ⟨m, hm⟩ : ∃ m, m = y.length := ⟨_, rfl⟩
          obtain ⟨p, hp2⟩ : ∃ p, p = x.length := ⟨_, rfl⟩
          rw [← hm] at hl f1 hcell0 hyl
          rw [← hp2] at hl f0 hcell hxl HT HvalA
          have HT2 := Lib.hid HT.out
          have hl2 : ((p : Int) != (m : Int)) = true := by simp; omega
          have hl3 : (p != m) = true := by simp; omega
          have Hc1 := Lib.hid (fun d os => columns_c (ao := ro) (n := p) (cap := rc) (w := grow (redrawn T d) os) hxl)
          have Hc2 := Lib.hid (fun d os => columns_c (ao := qo) (n := m) (cap := qc) (w := grow (redrawn T d) os) hyl)
          clear hm hp2
          go_upto_region 4 with fail
          rw [← HT2.out]
          clear hcell hcell0
          refine wp_region_quiet_below (by kernel_rfl) (by kernel_rfl) ?_
          repeat ((with_reducible refine wpQuiet_step (fun K hK => ?_)); go_simp; first | ((with_reducible refine hK _ ?_); clear hK K) | (apply Exists.intro; refine ⟨fun _ => ?_, hK _ ?_⟩; ((first | (go_at_call 83; with_reducible exact qb_below (HvalA.out _ _)) | (go_at_call 82; first | with_reducible exact qb_below (Hc1.out _ _) | with_reducible exact qb_below (Hc2.out _ _)))); clear hK K))
          refine wpQuiet_nil ?_
          intro _ hw'
          obtain ⟨⟨dq, osq⟩, hw''⟩ := hw'
          subst hw''
          have hbq := below_regrown T dq osq
          generalize grow (redrawn T dq) osq = wq at hbq ⊢
          have Hb1 := Lib.hid (Hb.out.trans ((HbT.out.trans (hbq.mono HbT.out.size)).mono Hb.out.size))
          clear hbq f0 f1
          go_wp2
          go_ret
          exact ⟨by rw [Hno.out Hok.out]; rfl, Hb1.out⟩
    · obtain rfl : k = n := by omega
      have hal := hp.out
      rw [List.take_of_length_le (by have := Hn.out; omega)] at hal
      have Hal := Lib.hid hal
      clear hal
      go_wp2
      go_ret
      exact ⟨ret_bool (by rw [Hal.out]; simp; omega), hb⟩
end Go.Proofs.YtkpcdnbjngpooaaGreatDoor
namespace Go.Proofs.YtkpcdnbjngpooaaGreatDoor
open Go.ChangeShapes Go.WideShapes Go.ChangeAt Go.RowKit Go.Sort
set_option linter.unusedVariables false
set_option maxRecDepth 100000
theorem l04Item_c (x : ItemT) (c9 : Int) (w : World) (a : okItem x) (hc : 0 ≤ c9 ∧ c9 ≤ 1000) {b off : Nat} (c0 : w.cell? ⟨b, off, none⟩ = some (.string x.nm)) (c1 : w.cell? ⟨b, off + 1, none⟩ = some (.int .i64 x.kd))
    (c2 : w.cell? ⟨b, off + 2, none⟩ = some (.int .i64 x.ff)) (c3 : w.cell? ⟨b, off + 3, none⟩ = some (.int .i64 x.ft)) (hbl : b < w.heap.size) :
    Calls Tryz.prog 118 #[.pointer (some ⟨b, off, none⟩), .int .i64 c9] w fun e w' => e = .returned (.bool (itB x c9)) ∧ Below w.heap.size w w' := by
  have hs : x.nm.size ≤ 9223372036854775807 := a.1
  have Hc := Lib.hid hc
  clear a hc
  go_enter Tryz.func118, Tryz.ntmps118
  go_wp2_with fail
  with_reducible refine (sIsName_c x.nm _ hs).mono ?_
  cases h1 : nameB x.nm with
  | false =>
    have H1 := Lib.hid h1
    clear h1
    rintro e w' ⟨rfl, rfl⟩
    go_wp2
    go_ret
    exact ⟨ret_bool (itB_no fun h => by have h9 := h.nm; rw [H1.out] at h9; cases h9).symm, Below.refl _ _⟩
  | true =>
    have H1 := Lib.hid h1
    clear h1
    rintro e w' ⟨rfl, rfl⟩
    by_cases hk : 1 ≤ x.kd ∧ x.kd ≤ 2
    · have Hk := Lib.hid hk
      clear hk
      go_wp2_with fail
      with_reducible refine (l00In_yes _ _ _ _ Hk.out.1 Hk.out.2).mono ?_
      rintro e w' ⟨rfl, rfl⟩
      go_wp2_with fail
      with_reducible refine (l02Field_c x.ff x.ft c9 _ Hc.out).mono ?_
      by_cases h2 : fieldP x.ff x.ft c9
      · have H2 := Lib.hid h2
        have h3 : 0 ≤ x.ff ∧ x.ff < x.ft ∧ x.ft ≤ 1000 := by have := Hc.out; unfold fieldP at h2; omega
        obtain ⟨h4, h5, h6⟩ := h3
        rw [decide_eq_true h2]
        clear h2
        rintro e w1 ⟨rfl, hb⟩
        have d1 := (hb.cell (p := ⟨b, off + 1, none⟩) hbl).trans c1
        have d2 := (hb.cell (p := ⟨b, off + 2, none⟩) hbl).trans c2
        have d3 := (hb.cell (p := ⟨b, off + 3, none⟩) hbl).trans c3
        clear c0 c1 c2 c3
        have Hb := Lib.hid hb
        clear hb
        by_cases hk1 : x.kd = 1
        · have e : itB x c9 = true := itB_yes ⟨H1.out, H2.out, .inl hk1⟩
          have E := Lib.hid e
          have q1 : (x.kd == 1) = true := by simpa using hk1
          clear e
          go_wp2
          go_quiet (fail)
          go_wp2
          go_ret
          rw [E.out]
          exact ⟨rfl, Hb.out.drewNy _⟩
        · have hk2 : x.kd = 2 := by have := Hk.out; omega
          have e : itB x c9 = decide (x.ft - x.ff ≤ 12) := by
            by_cases hl : x.ft - x.ff ≤ 12
            · rw [decide_eq_true hl]; exact itB_yes ⟨H1.out, H2.out, .inr ⟨hk2, hl⟩⟩
            · rw [decide_eq_false hl]; exact itB_no fun h => h.kd.elim hk1 (fun h => hl h.2)
          have E := Lib.hid e
          have q1 : (x.kd == 1) = false := by simpa using hk1
          clear e hk2
          go_wp2
          go_quiet (fail)
          go_wp2
          go_ret
          rw [E.out]
          exact ⟨rfl, Hb.out.drewNy _⟩
      · have H2 := Lib.hid h2
        rw [decide_eq_false h2]
        clear h2
        rintro e w1 ⟨rfl, hb⟩
        go_wp2
        go_ret
        exact ⟨ret_bool (itB_no fun h => H2.out h.ff).symm, hb⟩
    · have Hk := Lib.hid hk
      have hk9 : x.kd < 1 ∨ 2 < x.kd := by omega
      have Hk9 := Lib.hid hk9
      clear hk hk9
      go_wp2_with fail
      with_reducible refine (l00In_no _ _ _ _ Hk9.out).mono ?_
      rintro e w' ⟨rfl, rfl⟩
      go_wp2
      go_ret
      exact ⟨ret_bool (itB_no fun h => Hk.out (by have := h.kd; omega)).symm, Below.refl _ _⟩
theorem l04Meet_c (f1 t1 f2 t2 : Int) (w : World) : Calls Tryz.prog 119 #[.agg #[.int .i64 f1, .int .i64 t1], .agg #[.int .i64 f2, .int .i64 t2]] w fun e w' => e = .returned (.bool (decide (f1 < t2 ∧ f2 < t1))) ∧ Below w.heap.size w w' := by
  have hb2 : Below w.heap.size w ((w.alloc (.cells #[.int .i64 f1, .int .i64 t1] 53)).alloc (.cells #[.int .i64 f2, .int .i64 t2] 53)) := ((Below.refl _ _).alloc (Nat.le_refl _) _).alloc (by simp) _
  have Hb2 := Lib.hid hb2
  clear hb2
  obtain ⟨t, ht⟩ : ∃ t, t = decide (f1 < t2 ∧ f2 < t1) := ⟨_, rfl⟩
  rw [← ht]
  by_cases h1 : f1 < t2
  · have E : Hid (t = decide (f2 < t1)) := Lib.hid (by rw [ht]; simp [h1])
    clear ht
    go_enter Tryz.func119, Tryz.ntmps119
    go_wp2
    go_ret
    rw [E.out]
    exact ⟨rfl, Hb2.out⟩
  · have E : Hid (t = false) := Lib.hid (by rw [ht]; simp [h1])
    clear ht
    go_enter Tryz.func119, Tryz.ntmps119
    go_wp2
    go_ret
    rw [E.out]
    exact ⟨rfl, Hb2.out⟩
set_option maxHeartbeats 2000000 in
theorem l04Ok_c {xs : List ItemT} {v : Value} {w : World} {A B : Nat} (wd : Int) (hP : Box w B [.int .i64 wd, v]) (ha : RdItemS A w v xs) :
    Calls Tryz.prog 91 #[.pointer (some ⟨B, 0, none⟩)] w fun e w' => e = .returned (.bool (layB wd xs)) ∧ Below w.heap.size w w' := by
  have hle := ha.le
  obtain ⟨ao, cap, rfl, ho⟩ := eItem_open ha
  obtain ⟨n, hn⟩ : ∃ n, n = xs.length := ⟨_, rfl⟩
  rw [← hn] at hP ho hle
  have Hn := Lib.hid hn
  have Ho := Lib.hid ho
  have HP := Lib.hid hP
  have hle' : n ≤ 9223372036854775807 := by omega
  have p0 := HP.out.cell 0 _ rfl
  clear ho hn hle ha hP
  by_cases hw : 1 ≤ wd ∧ wd ≤ 20
  · have Hw := Lib.hid hw
    have hw0 : 0 ≤ wd ∧ wd ≤ 1000 := by omega
    have Hw0 := Lib.hid hw0
    clear hw hw0
    go_enter Tryz.func91, Tryz.ntmps91
    go_wp2_with fail
    with_reducible refine (l00In_yes _ _ _ _ Hw.out.1 Hw.out.2).mono ?_
    rintro e w' ⟨rfl, rfl⟩
    clear p0
    go_wp2
    go_loopw [3] (fun i wr => ∃ k : Nat, k ≤ n ∧ i = .int .i64 k ∧ Hid (∀ j, j < k → layG xs wd j = true) ∧ Below w.heap.size w wr) (fun i _ => n - (intOf i).toNat)
    case atStart => exact ⟨0, Nat.zero_le _, rfl, fun j h => absurd h (Nat.not_lt_zero _), Below.refl _ _⟩
    case round =>
      obtain ⟨k, hk, rfl, hp, hbb⟩ := hrel
      have HPr := Lib.hid (HP.out.on hbb)
      have p0 := HPr.out.cell 0 _ rfl
      have p1 := HPr.out.cell 1 _ rfl
      by_cases hkn : k < n
      · obtain ⟨b, off, rfl, hlt, hc⟩ := Ho.out (by have := Hn.out; omega)
        obtain ⟨x, hx, ⟨c0, c1, c2, c3⟩, bx⟩ := hc k (by have := Hn.out; omega)
        have Hc := Lib.hid hc
        have Hx := Lib.hid hx
        have Hbx := Lib.hid bx
        have hbl : b < wr.heap.size := by have := hbb.size; omega
        have c0 := (hbb.cell (p := ⟨b, off + k * 4, none⟩) hlt.2).trans c0
        have c1 := (hbb.cell (p := ⟨b, off + k * 4 + 1, none⟩) hlt.2).trans c1
        have c2 := (hbb.cell (p := ⟨b, off + k * 4 + 2, none⟩) hlt.2).trans c2
        have c3 := (hbb.cell (p := ⟨b, off + k * 4 + 3, none⟩) hlt.2).trans c3
        have C0 := Lib.hid c0
        have C1 := Lib.hid c1
        have C2 := Lib.hid c2
        have C3 := Lib.hid c3
        have hit := fun q os => l04Item_c x wd (grow (redrawn wr q) os) Hbx.out Hw0.out (cell_regrown C0.out q os) (cell_regrown C1.out q os) (cell_regrown C2.out q os) (cell_regrown C3.out q os) (Nat.lt_of_lt_of_le hbl (below_regrown wr q os).size)
        have Hit := Lib.hid hit
        have Hbb := Lib.hid hbb
        have hlb : b < w.heap.size := hlt.2
        clear hx hc bx c0 c1 c2 c3 hit hbb hlt
        cases hv : itB x wd with
        | false =>
          rw [hv] at Hit
          have Hv := Lib.hid hv
          clear hv
          have f0 := cell_regrown p0
          have f1 := cell_regrown p1
          go_upto_region 6 with fail
          refine wp_region_quiet_below (by kernel_rfl) (by kernel_rfl) ?_
          repeat ((with_reducible refine wpQuiet_step (fun K hK => ?_)); go_simp; first | ((with_reducible refine hK _ ?_); clear hK K) | (apply Exists.intro; refine ⟨fun _ => ?_, hK _ ?_⟩; ((first | (go_at_call 118; with_reducible exact qb_below (Hit.out _ _)))); clear hK K))
          refine wpQuiet_nil ?_
          intro _ hw'
          obtain ⟨⟨dq, osq⟩, hw''⟩ := hw'
          subst hw''
          have hbq := below_regrown wr dq osq
          generalize grow (redrawn wr dq) osq = wq at hbq ⊢
          have hb := Hbb.out.trans (hbq.mono Hbb.out.size)
          clear hbq f0 f1 p0 p1
          go_wp2
          go_ret
          exact ⟨ret_bool (layB_no (j := k) (by have := Hn.out; omega) (by rw [layG_of Hx.out, Hv.out]; rfl)).symm, hb⟩
        | true =>
          rw [hv] at Hit
          have Hv := Lib.hid hv
          clear hv
          have f0 := cell_regrown p0
          have f1 := cell_regrown p1
          go_upto_region 6 with fail
          refine wp_region_quiet_below (by kernel_rfl) (by kernel_rfl) ?_
          repeat ((with_reducible refine wpQuiet_step (fun K hK => ?_)); go_simp; first | ((with_reducible refine hK _ ?_); clear hK K) | (apply Exists.intro; refine ⟨fun _ => ?_, hK _ ?_⟩; ((first | (go_at_call 118; with_reducible exact qb_below (Hit.out _ _)))); clear hK K))
          refine wpQuiet_nil ?_
          intro _ hw'
          obtain ⟨⟨dq, osq⟩, hw''⟩ := hw'
          subst hw''
          have hbq := below_regrown wr dq osq
          generalize grow (redrawn wr dq) osq = wq at hbq ⊢
          have hb := Hbb.out.trans (hbq.mono Hbb.out.size)
          have Hbq := Lib.hid hb
          clear hb hbq f0 f1 p0 p1 Hit
          go_wp2
          go_loopw [4] (fun i wr => ∃ q : Nat, q ≤ k ∧ i = .int .i64 q ∧ Hid ((xs.take q).any (clI x) = false) ∧ Below w.heap.size w wr) (fun i _ => k - (intOf i).toNat)
          case atStart => exact ⟨0, Nat.zero_le _, rfl, rfl, Hbq.out⟩
          case round =>
            obtain ⟨q, hq, rfl, hpq, hbb⟩ := hrel
            by_cases hqk : q < k
            · obtain ⟨y, hy, ⟨e0, e1, e2, e3⟩, _⟩ := Hc.out q (by have := Hn.out; omega)
              obtain ⟨x', hx', ⟨c0, c1, c2, c3⟩, _⟩ := Hc.out k (by have := Hn.out; omega)
              obtain rfl : x' = x := by have := Hx.out; rw [hx'] at this; exact Option.some.inj this
              have g0 := (hbb.cell (p := ⟨b, off + q * 4, none⟩) hlb).trans e0
              have g2 := (hbb.cell (p := ⟨b, off + q * 4 + 2, none⟩) hlb).trans e2
              have g3 := (hbb.cell (p := ⟨b, off + q * 4 + 3, none⟩) hlb).trans e3
              have d0 := (hbb.cell (p := ⟨b, off + k * 4, none⟩) hlb).trans c0
              have d2 := (hbb.cell (p := ⟨b, off + k * 4 + 2, none⟩) hlb).trans c2
              have d3 := (hbb.cell (p := ⟨b, off + k * 4 + 3, none⟩) hlb).trans c3
              have p1 := (HP.out.on hbb).cell 1 _ rfl
              have Hy := Lib.hid hy
              have hgy := hp.out q hqk
              rw [layG_of hy, Bool.and_eq_true] at hgy
              have oy : ItOk y wd := of_decide_eq_true hgy.1
              have ox : ItOk x' wd := of_decide_eq_true Hv.out
              have hm := meet_iff ox.ff oy.ff
              have hqn : q < n := by omega
              have Hbb := Lib.hid hbb
              have Hm := Lib.hid hm
              clear hy hx' e0 e1 e2 e3 c0 c1 c2 c3 hgy oy ox hm hbb
              have f0 := cell_regrown g0
              have f2 := cell_regrown g2
              have f3 := cell_regrown g3
              have h0 := cell_regrown d0
              have h2 := cell_regrown d2
              have h3 := cell_regrown d3
              have r1 := cell_regrown p1
              have hmt := Lib.hid (fun q os => l04Meet_c y.ff y.ft x'.ff x'.ft (grow (redrawn wr q) os))
              cases he : (y.nm.toList == x'.nm.toList) with
              | true =>
                have hcl : clI x' y = true := by unfold clI; rw [show (x'.nm.toList == y.nm.toList) = true by rw [beq_iff_eq] at he ⊢; exact he.symm]; rfl
                have Hcl := Lib.hid hcl
                have he2 : y.nm.toList = x'.nm.toList := by simpa using he
                have He2 := Lib.hid he2
                clear hcl he2
                go_upto_region 11 with fail
                refine wp_region_quiet_below (by kernel_rfl) (by kernel_rfl) ?_
                repeat ((with_reducible refine wpQuiet_step (fun K hK => ?_)); go_simp; first | ((with_reducible refine hK _ ?_); clear hK K) | (apply Exists.intro; refine ⟨fun _ => ?_, hK _ ?_⟩; ((first | (go_at_call 119; with_reducible exact qb_below (hmt.out _ _)))); clear hK K))
                refine wpQuiet_nil ?_
                intro _ hw'
                obtain ⟨⟨dq, osq⟩, hw''⟩ := hw'
                subst hw''
                have hbq := below_regrown wr dq osq
                generalize grow (redrawn wr dq) osq = wq at hbq ⊢
                have hb := Hbb.out.trans (hbq.mono Hbb.out.size)
                clear hbq f0 f2 f3 h0 h2 h3 r1
                go_wp2
                go_ret
                refine ⟨ret_bool (layB_no (j := k) (by have := Hn.out; omega) ?_).symm, hb⟩
                rw [layG_of Hx.out, Hv.out]
                have : (xs.take k).any (clI x') = true := List.any_eq_true.2 ⟨y, List.mem_of_getElem? (i := q) (by rw [List.getElem?_take, if_pos hqk]; exact Hy.out), Hcl.out⟩
                rw [this]; rfl
              | false =>
                have hcl : clI x' y = decide (y.ff < x'.ft ∧ x'.ff < y.ft) := by
                  unfold clI
                  rw [show (x'.nm.toList == y.nm.toList) = false by rw [beq_eq_false_iff_ne] at he ⊢; exact fun h => he h.symm]
                  rw [Bool.false_or]
                  exact decide_eq_decide.2 Hm.out
                have Hcl := Lib.hid hcl
                clear hcl
                obtain ⟨t, ht⟩ : ∃ t, t = decide (y.ff < x'.ft ∧ x'.ff < y.ft) := ⟨_, rfl⟩
                rw [← ht] at Hcl hmt
                clear ht
                go_upto_region 11 with fail
                refine wp_region_quiet_below (by kernel_rfl) (by kernel_rfl) ?_
                repeat ((with_reducible refine wpQuiet_step (fun K hK => ?_)); go_simp; first | ((with_reducible refine hK _ ?_); clear hK K) | (apply Exists.intro; refine ⟨fun _ => ?_, hK _ ?_⟩; ((first | (go_at_call 119; with_reducible exact qb_below (hmt.out _ _)))); clear hK K))
                refine wpQuiet_nil ?_
                intro _ hw'
                obtain ⟨⟨dq, osq⟩, hw''⟩ := hw'
                subst hw''
                have hbq := below_regrown wr dq osq
                generalize grow (redrawn wr dq) osq = wq at hbq ⊢
                have hb := Hbb.out.trans (hbq.mono Hbb.out.size)
                have Hb := Lib.hid hb
                clear hb hbq f0 f2 f3 h0 h2 h3 r1 g0 g2 g3 d0 d2 d3 p1
                cases t with
                | true =>
                  go_wp2
                  go_ret
                  refine ⟨ret_bool (layB_no (j := k) (by have := Hn.out; omega) ?_).symm, Hb.out⟩
                  rw [layG_of Hx.out, Hv.out]
                  have : (xs.take k).any (clI x') = true := List.any_eq_true.2 ⟨y, List.mem_of_getElem? (i := q) (by rw [List.getElem?_take, if_pos hqk]; exact Hy.out), Hcl.out⟩
                  rw [this]; rfl
                | false =>
                  go_wp2
                  go_roundw
                  case rel => exact ⟨q + 1, by omega, by go_num, by show _ = false; rw [take_snoc Hy.out, List.any_append, hpq.out]; simp [Hcl.out], Hb.out⟩
                  case measure => simp [intOf]; omega
            · go_wp2
              go_roundw
              case rel =>
                refine ⟨k + 1, by omega, by go_num, ?_, hbb⟩
                intro j hj
                by_cases e : j < k
                · exact hp.out j e
                · obtain rfl : j = k := by omega
                  obtain rfl : q = j := by omega
                  rw [layG_of Hx.out, Hv.out, hpq.out]; rfl
              case measure => simp [intOf]; omega
      · go_wp2
        go_ret
        refine ⟨ret_bool ?_, hbb⟩
        rw [layB_end Hw.out (fun j hj => hp.out j (by have := Hn.out; omega)), ← Hn.out]
        exact decide_eq_decide.2 (by omega)
  · have Hw := Lib.hid hw
    have Hw9 := Lib.hid (show wd < 1 ∨ 20 < wd by omega)
    clear hw
    go_enter Tryz.func91, Tryz.ntmps91
    go_wp2_with fail
    with_reducible refine (l00In_no _ _ _ _ Hw9.out).mono ?_
    rintro e w' ⟨rfl, rfl⟩
    go_wp2
    go_ret
    exact ⟨ret_bool (layB_width Hw.out).symm, Below.refl _ _⟩
theorem l04Find_c {xs : List ItemT} {v : Value} {w : World} {A B : Nat} (wd : Int) (nm : ByteArray) (hP : Box w B [.int .i64 wd, v]) (ha : RdItemS A w v xs) :
    Calls Tryz.prog 58 #[.pointer (some ⟨B, 0, none⟩), .string nm] w fun e w' => e = .returned (.int .i64 (idxI xs nm)) ∧ w = w' := by
  have hle := ha.le
  obtain ⟨ao, cap, rfl, ho⟩ := eItem_open ha
  obtain ⟨n, hn⟩ : ∃ n, n = xs.length := ⟨_, rfl⟩
  rw [← hn] at hP ho hle
  have Hn := Lib.hid hn
  have Ho := Lib.hid ho
  have hle' : n ≤ 9223372036854775807 := by omega
  have p1 := hP.cell 1 _ rfl
  clear ho hn hle ha hP
  go_enter Tryz.func58, Tryz.ntmps58
  go_wp2
  go_loop [5] (fun i => ∃ k : Nat, k ≤ n ∧ i = .int .i64 k ∧ Hid ((xs.take k).any (fun x => x.nm.toList == nm.toList) = false)) (fun i => n - (intOf i).toNat)
  case atStart => exact ⟨0, Nat.zero_le _, rfl, rfl⟩
  case round =>
    obtain ⟨k, hk, rfl, hp⟩ := hrel
    by_cases hkn : k < n
    · obtain ⟨b, off, rfl, hlt, hc⟩ := Ho.out (by have := Hn.out; omega)
      obtain ⟨y, hy, ⟨c0, c1, c2, c3⟩, bx⟩ := hc k (by have := Hn.out; omega)
      have Hy := Lib.hid hy
      clear hy hc bx c1 c2 c3
      cases hq : (y.nm.toList == nm.toList) with
      | true =>
        have Hq := Lib.hid hq
        have hq2 : y.nm.toList = nm.toList := by simpa using hq
        go_wp2
        go_ret
        exact ⟨ret_int (idx_found Hy.out Hq.out hp.out).symm, rfl⟩
      | false =>
        have Hq := Lib.hid hq
        go_wp2
        go_round
        case rel => exact ⟨k + 1, by omega, by go_num, by show _ = false; rw [take_snoc Hy.out, List.any_append, hp.out]; simpa using Hq.out⟩
        case measure => simp [intOf]; omega
    · go_wp2
      go_ret
      have hq := hp.out
      rw [List.take_of_length_le (by have := Hn.out; omega)] at hq
      exact ⟨ret_int (idx_none hq).symm, rfl⟩
end Go.Proofs.YtkpcdnbjngpooaaGreatDoor
namespace Go.Proofs.YtkpcdnbjngpooaaGreatDoor
open Go.ChangeShapes Go.WideShapes Go.ChangeAt Go.RowKit Go.Sort
set_option linter.unusedVariables false
set_option maxRecDepth 100000
theorem any_take_snoc {α : Type} {d : List α} {k : Nat} {x : α} (p : α → Bool) (h : d[k]? = some x) : (d.take (k + 1)).any p = ((d.take k).any p || p x) := by
  rw [take_snoc h, List.any_append]; simp
theorem l02Ok_c {xs : List Int} {w : World} {A b off : Nat} {ro : Option Addr} {rc : Nat} (hcell : w.cell? ⟨b, off, none⟩ = some (.slice ro xs.length rc)) (ha : RdI A w (.slice ro xs.length rc) xs) :
    Calls Tryz.prog 120 #[.pointer (some ⟨b, off, none⟩)] w fun e w' => e = .returned (.bool (cardB xs)) ∧ w = w' := by
  have hle := ha.le
  obtain ⟨ro', cap', hs, ho⟩ := ha.open
  injection hs with h1 h2 h3
  subst h1
  subst h3
  obtain ⟨n, hn⟩ : ∃ n, n = xs.length := ⟨_, rfl⟩
  have hcb : cardB xs = (decide (1 ≤ n ∧ n ≤ 20) && !xs.any badHole) := by unfold cardB; rw [hn]
  rw [hcb]
  rw [← hn] at hcell ho hle
  have Hn := Lib.hid hn
  have Ho := Lib.hid ho
  clear ha ho hn h2 hcb
  go_enter Tryz.func120, Tryz.ntmps120
  go_wp2
  go_loop [3] (fun i => ∃ k : Nat, k ≤ n ∧ i = .int .i64 k ∧ Hid ((xs.take k).any badHole = false)) (fun i => n - (intOf i).toNat)
  case atStart => exact ⟨0, Nat.zero_le _, rfl, rfl⟩
  case round =>
    obtain ⟨k, hk, rfl, hp⟩ := hrel
    by_cases hkn : k < n
    · obtain ⟨rb, roff, rfl, hlt, hcc⟩ := Ho.out (by omega)
      obtain ⟨x, hx, hcx, bx⟩ := hcc k (by omega)
      have Hx := Lib.hid hx
      have hkni : (k : Int) < (n : Int) := by omega
      have hst := any_take_snoc badHole hx
      rw [hp.out, Bool.false_or] at hst
      have Hst := Lib.hid hst
      clear hx hcc hst bx
      by_cases hq : 0 ≤ x ∧ x ≤ 4095
      · have hbh : badHole x = false := by unfold badHole; simp [hq]
        have Hbh := Lib.hid hbh
        have Hq := Lib.hid hq
        clear hbh hq
        go_wp2_with fail
        with_reducible refine (l00In_any _ _ _ _).mono ?_
        rw [decide_eq_true Hq.out]
        rintro e w' ⟨rfl, rfl⟩
        go_wp2
        go_round
        case rel => exact ⟨k + 1, by omega, by go_num, Lib.hid (by rw [Hst.out, Hbh.out])⟩
        case measure => simp [intOf]; omega
      · have hbh : badHole x = true := by unfold badHole; simp; omega
        have Hbh := Lib.hid hbh
        have Hq := Lib.hid hq
        have hany : xs.any badHole = true := List.any_eq_true.2 ⟨x, List.mem_of_getElem? Hx.out, hbh⟩
        have Hany := Lib.hid hany
        clear hbh hq hany
        go_wp2_with fail
        with_reducible refine (l00In_any _ _ _ _).mono ?_
        rw [decide_eq_false Hq.out]
        rintro e w' ⟨rfl, rfl⟩
        go_wp2
        go_ret
        exact ⟨ret_bool (by rw [Hany.out]; simp), rfl⟩
    · obtain rfl : k = n := by omega
      have hal := hp.out
      rw [List.take_of_length_le (by have := Hn.out; omega)] at hal
      have Hal := Lib.hid hal
      clear hal
      go_wp2_with fail
      with_reducible refine (l00In_any _ _ _ _).mono ?_
      rintro e w' ⟨rfl, rfl⟩
      go_wp2
      go_ret
      exact ⟨ret_bool (by rw [Hal.out, Bool.not_false, Bool.and_true, Bool.eq_iff_iff]; simp; omega), rfl⟩
set_option maxHeartbeats 1000000 in
theorem l02Deck_c {xss : List (List Int)} {v : Value} {w : World} {A : Nat} (ha : RdInt64SS A w v xss) :
    Calls Tryz.prog 92 #[v] w fun e w' => e = .returned (.bool (deckB xss)) ∧ ∃ m, w' = w.drewN m := by
  have hle := ha.le
  obtain ⟨ao, cap, rfl, ho⟩ := ha.open
  obtain ⟨n, hn⟩ : ∃ n, n = xss.length := ⟨_, rfl⟩
  have hdk : deckB xss = (xss.all (okAt xss) && decide (n ≤ 40)) := by unfold deckB; rw [hn]
  rw [hdk, ← hn]
  have Hn := Lib.hid hn
  have Ho := Lib.hid ho
  have hle' : n ≤ 9223372036854775807 := by omega
  clear ho hn hle ha hdk
  go_enter Tryz.func92, Tryz.ntmps92
  go_wp2
  go_loopw [3] (fun i wr => ∃ k : Nat, k ≤ n ∧ i = .int .i64 k ∧ Hid ((xss.take k).all (okAt xss) = true) ∧ ∃ m, wr = w.drewN m) (fun i _ => n - (intOf i).toNat)
  case atStart => exact ⟨0, Nat.zero_le _, rfl, Lib.hid (by simp), 0, rfl⟩
  case round =>
    obtain ⟨k, hk, rfl, hp, m, rfl⟩ := hrel
    by_cases hkn : k < n
    · obtain ⟨b, off, rfl, hlt, hc⟩ := Ho.out (by have := Hn.out; omega)
      obtain ⟨x, ro, rc, hx, hcell, hrd⟩ := hc k (by have := Hn.out; omega)
      obtain ⟨y, qo, qc, hy, hcell0, hrd0⟩ := hc 0 (by have := Hn.out; omega)
      have hh := head_of hy
      have hcell0' : w.cell? ⟨b, off, none⟩ = some (.slice qo y.length qc) := hcell0
      have hkni : (k : Int) < (n : Int) := by omega
      have hn0 : 0 < n := by omega
      have hyl := hrd0.le
      have hxl := hrd.le
      have hok : okAt xss x = (cardB x && decide (x.length = y.length)) := by unfold okAt; rw [hh]
      have hcon := fun q => l02Ok_c (w := w.drewN q) (b := b) (off := off + k) (xs := x) (ro := ro) (rc := rc) hcell (hrd.drewN q)
      have hst := all_take_snoc (okAt xss) hx
      have hno := fun h => all_not (p := okAt xss) hx h
      have Hcon := Lib.hid hcon
      have Hok := Lib.hid hok
      have Hst := Lib.hid hst
      have Hno := Lib.hid hno
      clear hc hx hy hrd hrd0 hcon hok hst hno hh hcell0
      cases hcb : cardB x with
      | false =>
        rw [hcb] at Hcon Hok
        rw [Bool.false_and] at Hok
        clear hcb
        go_wp2
        go_quiet ((go_at_call 120; first | with_reducible exact quiet_at (Hcon.out _) | with_reducible exact quiet_at0 (Hcon.out _)))
        go_wp2
        go_ret
        exact ⟨by rw [Hno.out Hok.out]; rfl, _, World.drewN_drewN _ _ _⟩
      | true =>
        rw [hcb] at Hcon Hok
        rw [Bool.true_and] at Hok
        clear hcb
        by_cases hl : x.length = y.length
        · rw [decide_eq_true hl] at Hok
          obtain ⟨p, hm⟩ : ∃ p, p = y.length := ⟨_, rfl⟩
          rw [← hm] at hl hcell0' hyl
          rw [hl] at hcell
          clear hl hm hxl
          go_wp2
          go_quiet ((go_at_call 120; first | with_reducible exact quiet_at (Hcon.out _) | with_reducible exact quiet_at0 (Hcon.out _)))
          go_wp2
          go_roundw
          case rel => exact ⟨k + 1, by omega, by go_num, Lib.hid (by rw [Hst.out, hp.out, Hok.out]; rfl), _, rfl⟩
          case measure => simp [intOf]; omega
        · rw [decide_eq_false hl] at Hok
          obtain ⟨p, hm⟩ : ∃ p, p = y.length := ⟨_, rfl⟩
          obtain ⟨q, hq⟩ : ∃ q, q = x.length := ⟨_, rfl⟩
          rw [← hm] at hl hcell0' hyl
          rw [← hq] at hl hcell hxl
          have hl2 : ((q : Int) != (p : Int)) = true := by simp; omega
          have hl3 : (q != p) = true := by simp; omega
          clear hm hq
          go_wp2
          go_quiet ((go_at_call 120; first | with_reducible exact quiet_at (Hcon.out _) | with_reducible exact quiet_at0 (Hcon.out _)))
          go_wp2
          go_ret
          exact ⟨by rw [Hno.out Hok.out]; rfl, _, World.drewN_drewN _ _ _⟩
    · obtain rfl : k = n := by omega
      have hal := hp.out
      rw [List.take_of_length_le (by have := Hn.out; omega)] at hal
      have Hal := Lib.hid hal
      clear hal
      go_wp2
      go_ret
      exact ⟨ret_bool (by rw [Hal.out]; simp; omega), m, rfl⟩
end Go.Proofs.YtkpcdnbjngpooaaGreatDoor
