/- Structs of one-cell fields: slices of them that come in, that the call owns. No condition. -/
import Derived.Test.YtfieilbcdhbigaaGreatDoorRows
import Derived.Test.YtfieilbcdhbigaaGreatDoorBase
import Derived.Deep.Slices
import Derived.Deep.Fields
import Derived.ChangeSame
import Derived.Lib.SmallJoins
import Derived.StillTailTactics
import Derived.Deep.DeepCutAuto
import Derived.Laws.StructEq
namespace Go.Proofs.YtfieilbcdhbigaaGreatDoor
open Go.ChangeShapes Go.WideShapes Go.ChangeAt Go.RowKit Go.Deep Go.Joins
set_option linter.unusedVariables false
set_option maxRecDepth 100000

/-- a run of cells laid into a list -/
def setRun : List Value → Nat → List Value → List Value
  | l, _, [] => l
  | l, i, c :: cs => setRun (l.set i c) (i + 1) cs
theorem setRun_length : ∀ (cs l : List Value) (i : Nat), (setRun l i cs).length = l.length := by
  intro cs
  induction cs with
  | nil => intro l i; rfl
  | cons c cs ih => intro l i; rw [setRun, ih, List.length_set]
theorem setRun_get : ∀ (cs l : List Value) (i j : Nat), (setRun l i cs)[j]? = if i ≤ j ∧ j < i + cs.length ∧ j < l.length then cs[j - i]? else l[j]? := by
  intro cs
  induction cs with
  | nil => intro l i j; rw [setRun, if_neg (by simp; omega)]
  | cons c cs ih =>
    intro l i j
    rw [setRun, ih, List.length_set, List.getElem?_set]
    by_cases h1 : i + 1 ≤ j ∧ j < i + 1 + cs.length ∧ j < l.length
    · rw [if_pos h1, if_pos ⟨by omega, by simp; omega, h1.2.2⟩]
      have : j - i = (j - (i + 1)) + 1 := by omega
      rw [this, List.getElem?_cons_succ]
    · rw [if_neg h1]
      by_cases h2 : i = j
      · subst h2
        rw [if_pos rfl]
        by_cases h3 : i < l.length
        · rw [if_pos h3, if_pos ⟨Nat.le_refl _, by simp, h3⟩]; simp
        · rw [if_neg h3, if_neg (fun h => h3 h.2.2), List.getElem?_eq_none (by omega)]
      · rw [if_neg h2, if_neg (fun h => h1 ⟨by omega, by have := h.2.1; simp at this; omega, h.2.2⟩)]
def setRunW : World → Nat → Nat → List Value → World
  | w, _, _, [] => w
  | w, g, i, c :: cs => setRunW (w.setCell ⟨g, i, none⟩ c) g (i + 1) cs
theorem ownsRow_run {base : Nat} {e : TypeId} {size g n cap : Nat} : ∀ (new : List Value) (w : World) (i : Nat) (cs : List Value), w.ownsRow base e size (.slice (some ⟨g, 0, none⟩) n cap) n cs →
    (setRunW w g i new).ownsRow base e size (.slice (some ⟨g, 0, none⟩) n cap) n (setRun cs i new) ∧ w.grownBy (setRunW w g i new) (some g) ∧ (setRunW w g i new).heap.size = w.heap.size := by
  intro new
  induction new with
  | nil => intro w i cs h; exact ⟨h, World.grownBy.refl _ _, rfl⟩
  | cons c new ih =>
    intro w i cs h
    have h1 := h.stored i c
    have h2 := ih (w.setCell ⟨g, i, none⟩ c) (i + 1) _ h1.1
    exact ⟨h2.1, grownBy_trans h1.2 h2.2.1, by rw [show setRunW w g i (c :: new) = setRunW (w.setCell ⟨g, i, none⟩ c) g (i + 1) new from rfl, h2.2.2]; simp⟩
section
variable {α : Type} {E : Elt α}
theorem Elt.all_set (hz : 0 < E.sz) {xs : List α} {k : Nat} {x : α} (hk : k < xs.length) : setRun (E.all xs) (k * E.sz) (E.cells x) = E.all (xs.set k x) := by
  apply List.ext_getElem?
  intro j
  rw [setRun_get, E.len, E.all_length]
  have hj : j = (j / E.sz) * E.sz + j % E.sz := by have := Nat.div_add_mod j E.sz; rw [Nat.mul_comm] at this; omega
  have hm := Nat.mod_lt j hz
  by_cases h : j < xs.length * E.sz
  · have hq : j / E.sz < xs.length := Nat.div_lt_of_lt_mul (by rw [Nat.mul_comm]; exact h)
    by_cases e : k = j / E.sz
    · have hy : (xs.set k x)[j / E.sz]? = some x := by rw [← e, List.getElem?_set]; simp [hk]
      rw [if_pos ⟨by rw [e]; exact Nat.div_mul_le_self _ _, by rw [e]; omega, h⟩]
      conv => rhs; rw [hj, E.all_get hy hm]
      congr 1
      rw [e]; omega
    · have hy : (xs.set k x)[j / E.sz]? = some (xs[j / E.sz]) := by rw [List.getElem?_set, if_neg e]; simp [hq]
      have hy2 : xs[j / E.sz]? = some (xs[j / E.sz]) := by simp [hq]
      have hne : ¬ (k * E.sz ≤ j ∧ j < k * E.sz + E.sz ∧ j < xs.length * E.sz) := by
        rintro ⟨h1, h2, _⟩
        apply e
        rw [hj] at h1 h2
        rcases Nat.lt_or_gt_of_ne e with h3 | h3
        · have : (k + 1) * E.sz ≤ j / E.sz * E.sz := Nat.mul_le_mul_right _ h3
          rw [Nat.add_mul] at this; omega
        · have : (j / E.sz + 1) * E.sz ≤ k * E.sz := Nat.mul_le_mul_right _ h3
          rw [Nat.add_mul] at this; omega
      rw [if_neg hne]
      conv => lhs; rw [hj, E.all_get hy2 hm]
      conv => rhs; rw [hj, E.all_get hy hm]
  · rw [if_neg (fun hh => h hh.2.2), List.getElem?_eq_none (by rw [E.all_length]; omega), List.getElem?_eq_none (by rw [E.all_length, List.length_set]; omega)]
theorem Elt.all_made (hz : 0 < E.sz) {z : α} {zv : Value} (h : zv.cells = (E.cells z).toArray) (n : Nat) : (madeCells zv.cells (n * E.sz)).toList = E.all (List.replicate n z) := by
  apply List.ext_getElem?
  intro j
  have hj : j = (j / E.sz) * E.sz + j % E.sz := by have := Nat.div_add_mod j E.sz; rw [Nat.mul_comm] at this; omega
  have hm := Nat.mod_lt j hz
  have hs : zv.cells.size = E.sz := by rw [h, List.size_toArray, E.len]
  by_cases hlt : j < n * E.sz
  · have hq : j / E.sz < n := Nat.div_lt_of_lt_mul (by rw [Nat.mul_comm]; exact hlt)
    have hy : (List.replicate n z)[j / E.sz]? = some z := by rw [List.getElem?_replicate, if_pos hq]
    conv => rhs; rw [hj, E.all_get hy hm]
    rw [madeCells, Array.toList_map, List.getElem?_map, Array.toList_range, List.getElem?_range hlt, Option.map_some, hs, h]
    have hl : j % E.sz < (E.cells z).length := by rw [E.len]; exact hm
    simp [hl]
  · rw [List.getElem?_eq_none (by rw [Array.length_toList, size_madeCells]; omega), List.getElem?_eq_none (by rw [E.all_length, List.length_replicate]; omega)]
/-- one element laid into a slice of the call's own -/
theorem Own.storeE (hz : 0 < E.sz) {e : TypeId} {base g n cap k : Nat} {w : World} {xs : List α} {x : α} (h : Own E e base w (.slice (some ⟨g, 0, none⟩) n cap) xs) (hn : n = xs.length) (hk : k < n) (hx : E.ok x) :
    Own E e base (setRunW w g (k * E.sz) (E.cells x)) (.slice (some ⟨g, 0, none⟩) n cap) (xs.set k x) ∧ w.grownBy (setRunW w g (k * E.sz) (E.cells x)) (some g) ∧ (setRunW w g (k * E.sz) (E.cells x)).heap.size = w.heap.size := by
  subst hn
  have h1 := ownsRow_run (E.cells x) w (k * E.sz) _ h.1
  rw [E.all_set hz hk] at h1
  refine ⟨⟨by rw [List.length_set]; exact h1.1, fun y hy => ?_⟩, h1.2⟩
  rcases List.mem_or_eq_of_mem_set hy with hy | rfl
  · exact h.2 y hy
  · exact hx
/-- one cell of an element laid into a slice of the call's own -/
theorem Elt.all_set1 (hz : 0 < E.sz) {xs : List α} {k j : Nat} {x y : α} {v : Value} (hx : xs[k]? = some x) (hj : j < E.sz) (hy : (E.cells x).set j v = E.cells y) : (E.all xs).set (k * E.sz + j) v = E.all (xs.set k y) := by
  have hk := at_lt hx
  rw [← E.all_set hz hk]
  apply List.ext_getElem?
  intro i
  rw [setRun_get, List.getElem?_set, E.len, E.all_length]
  have h5 : (k + 1) * E.sz ≤ xs.length * E.sz := Nat.mul_le_mul_right _ hk
  rw [Nat.add_mul, Nat.one_mul] at h5
  by_cases e : k * E.sz + j = i
  · rw [if_pos e, if_pos (by omega), if_pos ⟨by omega, by omega, by omega⟩, ← hy, ← e, Nat.add_sub_cancel_left, List.getElem?_set, if_pos rfl, if_pos (by rw [E.len]; exact hj)]
  · rw [if_neg e]
    by_cases h : k * E.sz ≤ i ∧ i < k * E.sz + E.sz ∧ i < xs.length * E.sz
    · rw [if_pos h, ← hy, List.getElem?_set, if_neg (by omega)]
      have hi : i = k * E.sz + (i - k * E.sz) := by omega
      conv => lhs; rw [hi]
      exact E.all_get hx (by omega)
    · rw [if_neg h]
theorem Own.store1 (hz : 0 < E.sz) {e : TypeId} {base g n cap k j : Nat} {w : World} {xs : List α} {x y : α} {v : Value} (h : Own E e base w (.slice (some ⟨g, 0, none⟩) n cap) xs) (hn : n = xs.length) (hx : xs[k]? = some x) (hj : j < E.sz) (hy : (E.cells x).set j v = E.cells y) (hok : E.ok y) :
    Own E e base (w.setCell ⟨g, k * E.sz + j, none⟩ v) (.slice (some ⟨g, 0, none⟩) n cap) (xs.set k y) ∧ w.grownBy (w.setCell ⟨g, k * E.sz + j, none⟩ v) (some g) := by
  subst hn
  have h1 := h.1.stored (k * E.sz + j) v
  rw [E.all_set1 hz hx hj hy] at h1
  refine ⟨⟨by rw [List.length_set]; exact h1.1, fun z hz' => ?_⟩, h1.2⟩
  rcases List.mem_or_eq_of_mem_set hz' with hz' | rfl
  · exact h.2 z hz'
  · exact hok
/-- a cell of a slice of the call's own: there, and free -/
theorem Own.cellE {e : TypeId} {base g n cap : Nat} {w : World} {xs : List α} (h : Own E e base w (.slice (some ⟨g, 0, none⟩) n cap) xs) (hn : n = xs.length) {k j : Nat} (hk : k < n) (hj : j < E.sz) :
    (∃ u, w.cell? ⟨g, k * E.sz + j, none⟩ = some u) ∧ w.frozen? ⟨g, k * E.sz + j, none⟩ = false := by
  subst hn
  have hlt : k * E.sz + j < xs.length * E.sz := by
    have : (k + 1) * E.sz ≤ xs.length * E.sz := Nat.mul_le_mul_right _ hk
    rw [Nat.add_mul] at this; omega
  refine ⟨⟨(E.all xs)[k * E.sz + j]'(by rw [E.all_length]; exact hlt), ?_⟩, h.1.frozenAt _⟩
  rw [h.1.cellAt _ hlt]
  simp [E.all_length, hlt]
end
/-- f k, f (k + d), .. -/
def mkL {α : Type} (f : Int → α) (d : Int) : Int → Nat → List α
  | _, 0 => []
  | k, n + 1 => f k :: mkL f d (k + d) n
section
variable {α : Type} {f : Int → α} {d : Int}
theorem mkL_length (n : Nat) : ∀ k, (mkL f d k n).length = n := by
  induction n with
  | zero => intro k; rfl
  | succ n ih => intro k; simp [mkL, ih]
theorem mkL_get (n : Nat) : ∀ (k : Int) (j : Nat), (mkL f d k n)[j]? = if j < n then some (f (k + d * j)) else none := by
  induction n with
  | zero => intro k j; simp [mkL]
  | succ n ih =>
    intro k j
    cases j with
    | zero => simp [mkL]
    | succ j =>
      rw [mkL, List.getElem?_cons_succ, ih]
      by_cases h : j < n
      · rw [if_pos h, if_pos (by omega)]
        congr 2
        rw [Int.natCast_add, Int.mul_add]; omega
      · rw [if_neg h, if_neg (by omega)]
theorem mkL_mem {n : Nat} {k : Int} {x : α} (h : x ∈ mkL f d k n) : ∃ j, j < n ∧ x = f (k + d * j) := by
  obtain ⟨j, hj, rfl⟩ := List.mem_iff_getElem.1 h
  have hj' : j < n := by simpa [mkL_length] using hj
  have h2 := mkL_get (f := f) (d := d) n k j
  rw [List.getElem?_eq_getElem hj, if_pos hj'] at h2
  exact ⟨j, hj', Option.some.inj h2⟩
theorem mkL_set (xs : List α) (k : Int) (j : Nat) (hj : j < xs.length) : (mkL f d k j ++ xs.drop j).set j (f (k + d * j)) = mkL f d k (j + 1) ++ xs.drop (j + 1) := by
  apply List.ext_getElem?
  intro i
  simp only [List.getElem?_set, List.getElem?_append, List.length_append, List.length_drop, mkL_length, mkL_get, List.getElem?_drop]
  by_cases h1 : j = i
  · subst h1
    rw [if_pos rfl, if_pos (by omega), if_pos (by omega), if_pos (by omega)]
  · rw [if_neg h1]
    by_cases h2 : i < j
    · rw [if_pos h2, if_pos h2, if_pos (by omega), if_pos (by omega)]
    · rw [if_neg h2]
      by_cases h3 : i < j + 1
      · omega
      · rw [if_neg h3, show j + (i - j) = j + 1 + (i - (j + 1)) by omega]
end
def sumBy {α : Type} (f : α → Int) : List α → Int
  | [] => 0
  | x :: xs => f x + sumBy f xs
theorem sumBy_append {α : Type} (f : α → Int) (xs ys : List α) : sumBy f (xs ++ ys) = sumBy f xs + sumBy f ys := by
  induction xs with
  | nil => simp [sumBy]
  | cons x xs ih => simp only [List.cons_append, sumBy, ih]; omega
theorem sumBy_snoc {α : Type} (f : α → Int) {xs : List α} {k : Nat} {x : α} (hx : xs[k]? = some x) : sumBy f (xs.take (k + 1)) = sumBy f (xs.take k) + f x := by
  rw [take_snoc hx, sumBy_append]; simp [sumBy]
theorem sumBy_nonneg {α : Type} {f : α → Int} (h : ∀ x, 0 ≤ f x) (xs : List α) : 0 ≤ sumBy f xs := by
  induction xs with
  | nil => simp [sumBy]
  | cons x xs ih => simp only [sumBy]; have := h x; omega
theorem sumBy_take_le {α : Type} {f : α → Int} (h : ∀ x, 0 ≤ f x) (xs : List α) (k : Nat) : sumBy f (xs.take k) ≤ sumBy f xs := by
  conv => rhs; rw [← List.take_append_drop k xs]
  rw [sumBy_append]
  have := sumBy_nonneg h (xs.drop k)
  omega
theorem sumBy_zero {α : Type} {f : α → Int} (h : ∀ x, f x = 0) (xs : List α) : sumBy f xs = 0 := by
  induction xs with
  | nil => rfl
  | cons x xs ih => simp only [sumBy, ih, h]; rfl
theorem set_take_repl {α : Type} {xs : List α} {n k : Nat} {x z : α} (hx : xs[k]? = some x) (hn : n = xs.length) (hk : k < n) : (xs.take k ++ List.replicate (n - k) z).set k x = xs.take (k + 1) ++ List.replicate (n - (k + 1)) z := by
  have hl := at_lt hx
  rw [take_snoc hx]
  have e : n - k = (n - (k + 1)) + 1 := by omega
  have h0 : (xs.take k).length = k := by simp; omega
  rw [e, List.replicate_succ, List.set_append_right _ _ (by omega), h0, Nat.sub_self]
  simp
theorem list_of {α : Type} {p : Nat → α → Prop} : ∀ (n : Nat), (∀ i, i < n → ∃ x, p i x) → ∃ xs : List α, xs.length = n ∧ ∀ i x, xs[i]? = some x → p i x := by
  intro n
  induction n with
  | zero => intro _; exact ⟨[], rfl, fun i x h => by simp at h⟩
  | succ n ih =>
    intro h
    obtain ⟨xs, hl, hp⟩ := ih (fun i hi => h i (by omega))
    obtain ⟨x, hx⟩ := h n (by omega)
    refine ⟨xs ++ [x], by simp [hl], fun i y hy => ?_⟩
    by_cases hi : i < n
    · rw [List.getElem?_append_left (by omega)] at hy
      exact hp i y hy
    · have hlt := at_lt hy
      have e : i = n := by rw [List.length_append] at hlt; simp at hlt; omega
      subst e
      rw [List.getElem?_append_right (by omega), hl, Nat.sub_self] at hy
      simp at hy
      subst hy
      exact hx
section
variable {H : Type} {enc : TypeId × Value → H} {P : Program} {w : World} {base : Nat} {spare : Nat → Bool} {held : Bool}
theorem open_slice_fields {t e : TypeId} {fs : Array Field} {fuel : Nat} {cs : List Value} {x : DataW H × List MemPlace} (ht : P.underlying t = some (.slice e)) (he : P.underlying e = some (.struct fs))
    (hone : oneCellFields P fs = true) (hC : P.cellsOf e = fs.size) (h : DataW.trod enc P w base spare held fuel t cs = some x) :
    (cs = [.slice none 0 0] ∧ x = (.nil, [])) ∨
    ∃ (a : Addr) (len cap m : Nat) (D : Nat → DataW H) (Pl : Nat → List MemPlace), cs = [.slice (some a) len cap] ∧ base ≤ a.block ∧ len ≤ cap ∧ cap ≤ maxLen ∧ m = (if spare a.block then cap else len) ∧
      x = (.slice ((List.range len).map D) ((List.range (m - len)).map fun j => D (len + j)), MemPlace.row a (m * fs.size) ++ (List.range m).flatMap Pl) ∧
      ∀ i, i < m → ∃ (ys : List (DataW H × List MemPlace)) (n : Nat), D i = .agg (ys.map (·.1)) ∧ Pl i = ys.flatMap (·.2) ∧ ys.length = fs.size ∧
        ∀ (j : Nat) (f : Field), fs[j]? = some f → ∃ (v : Value) (y : DataW H × List MemPlace), w.cell? (a.add (i * fs.size + j)) = some v ∧ ys[j]? = some y ∧ DataW.trod enc P w base spare held n f.type [v] = some y := by
  rcases open_slice ht h with h0 | ⟨a, len, cap, m, n, D, Pl, hcs, hb, hl, hm, hmm, hx, hi⟩
  · exact .inl h0
  · refine .inr ⟨a, len, cap, m, D, Pl, hcs, hb, hl, hm, hmm, by rw [hC] at hx; exact hx, fun i him => ?_⟩
    obtain ⟨cs', hc, ht'⟩ := hi i him
    rw [hC] at hc
    obtain ⟨ys, n', hn', hy, hlen, hyl, hf⟩ := DataW.trod_struct he ht'
    obtain ⟨_, hcl, hat⟩ := World.cells?_some hc
    simp only [Prod.mk.injEq] at hy
    refine ⟨ys, n', hy.1, hy.2, hyl, fun j f hj => ?_⟩
    obtain ⟨ho, hk⟩ := hone_of hone j f hj
    have hjl : j < fs.size := (Array.getElem?_eq_some_iff.1 hj).1
    have hcell := hat j hjl
    have hv : cs'[j]? = some (cs'[j]'(by omega)) := List.getElem?_eq_getElem (by omega)
    have h1 := hf j f hj
    rw [ho, hk] at h1
    have hone' : (cs'.drop j).take 1 = [cs'[j]'(by omega)] := by
      rw [List.drop_eq_getElem_cons (by omega)]
      rfl
    rw [hone'] at h1
    have hys : ys[j]? = some (ys[j]'(by omega)) := List.getElem?_eq_getElem (by omega)
    refine ⟨_, _, ?_, hys, h1.trans hys⟩
    rw [← Go.Deep.add_add, hcell, hv]
/-- a slice of structs that came in -/
theorem open_rdK {α : Type} {E : Elt α} {r : Reach} {b0 : Nat} {t e : TypeId} {fs : Array Field} {v : Value} {d : DataW H} {ps : List MemPlace} (ht : P.underlying t = some (.slice e)) (he : P.underlying e = some (.struct fs))
    (hone : oneCellFields P fs = true) (hC : P.cellsOf e = fs.size) (hsz : fs.size = E.sz)
    (hin : ∀ (n : Nat) (vs : List Value), vs.length = fs.size → (∀ (j : Nat) (f : Field), fs[j]? = some f → ∃ u y, vs[j]? = some u ∧ DataW.trod enc P w 0 (fun _ => true) true n f.type [u] = some y) → ∃ x, E.cells x = vs ∧ E.ok x)
    (hz : 0 < E.sz) (hok : Value.okWide P w r b0 t v) (h : DataW.Trod enc P w 0 (fun _ => true) true t v d ps) :
    ∃ xs, Rds E w.heap.size w v xs := by
  obtain ⟨a, len, cap, rfl⟩ := okWide_slice ht hok
  obtain ⟨fuel, hf⟩ := h
  rcases open_slice_fields ht he hone hC hf with ⟨hcs, hx⟩ | ⟨a', len', cap', m, D, Pl, hcs, _, hl, hm, hmm, hx, hi⟩
  · have hcs' : Value.slice a len cap = .slice none 0 0 := by simpa [Value.cells] using hcs
    injection hcs' with h1 h2 h3
    subst h1; subst h2; subst h3
    exact ⟨[], Rds.nil _ _ _⟩
  · have hcs' : Value.slice a len cap = .slice (some a') len' cap' := by simpa [Value.cells] using hcs
    injection hcs' with h1 h2 h3
    subst h1; subst h2; subst h3
    simp only [if_true] at hmm
    subst hmm
    have key : ∀ i, i < len → ∃ x, E.ok x ∧ ∀ j, j < E.sz → w.cell? (a'.add (i * E.sz + j)) = (E.cells x)[j]? := by
      intro i hi'
      obtain ⟨ys, n, _, _, _, hj⟩ := hi i (by omega)
      have hfs : ∀ j, j < fs.size → ∃ u, w.cell? (a'.add (i * fs.size + j)) = some u ∧ ∀ f, fs[j]? = some f → ∃ y, DataW.trod enc P w 0 (fun _ => true) true n f.type [u] = some y := by
        intro j hjl
        obtain ⟨u, y, hu, _, hy⟩ := hj j fs[j] (by simp [hjl])
        exact ⟨u, hu, fun f hf => by rw [Array.getElem?_eq_getElem hjl] at hf; cases hf; exact ⟨y, hy⟩⟩
      obtain ⟨vs, hvl, hvs⟩ := list_of fs.size hfs
      obtain ⟨x, hx1, hx2⟩ := hin n vs hvl (fun j f hf => by
        have hjl : j < fs.size := (Array.getElem?_eq_some_iff.1 hf).1
        have hu : vs[j]? = some (vs[j]'(by omega)) := by simp [hvl, hjl]
        obtain ⟨y, hy⟩ := (hvs j _ hu).2 f hf
        exact ⟨_, y, hu, hy⟩)
      refine ⟨x, hx2, fun j hj' => ?_⟩
      have hu : vs[j]? = some (vs[j]'(by omega)) := List.getElem?_eq_getElem (by omega)
      rw [hx1, hu, ← hsz]
      exact (hvs j _ hu).1
    obtain ⟨xs, hxl, hxs⟩ := list_of len key
    have hmx : len ≤ 9223372036854775807 := by unfold maxLen at hm; omega
    refine ⟨xs, ⟨⟨E.all_length _, by rw [hxl]; exact hmx, ?_⟩, fun x hx' => ?_⟩⟩
    · rw [hxl]
      cases len with
      | zero => exact .inl ⟨rfl, _, _, rfl, fun h => by cases h⟩
      | succ n =>
        obtain ⟨b, off, spot⟩ := a'
        have hx0 : xs[0]? = some (xs[0]'(by omega)) := by simp [hxl]
        have h0 := (hxs 0 _ hx0).2 0 hz
        have hc0 : (E.cells (xs[0]'(by omega)))[0]? = some ((E.cells (xs[0]'(by omega)))[0]'(by rw [E.len]; exact hz)) := by simp [E.len, hz]
        rw [hc0] at h0
        have hspot : spot = none := by
          cases spot with
          | none => rfl
          | some s =>
            simp only [Addr.add, if_true, World.cell?] at h0
            split at h0 <;> simp at h0
        subst hspot
        have hb0 : b < w.heap.size := by rw [Addr.add_lit] at h0; exact World.block_lt_of_cell? w _ h0
        refine .inr ⟨b, off, _, rfl, ⟨hl, by unfold maxLen at hm; omega⟩, hb0, hb0, fun i hi' => ?_⟩
        have hq : i / E.sz < xs.length := by rw [hxl]; exact Nat.div_lt_of_lt_mul (by rw [Nat.mul_comm]; exact hi')
        have hi2 : i = (i / E.sz) * E.sz + i % E.sz := by have := Nat.div_add_mod i E.sz; rw [Nat.mul_comm] at this; omega
        have hxq : xs[i / E.sz]? = some (xs[i / E.sz]) := by simp [hq]
        have h3 := (hxs _ _ hxq).2 (i % E.sz) (Nat.mod_lt _ hz)
        rw [Addr.add_lit, ← hi2] at h3
        rw [h3]
        conv => rhs; rw [hi2, E.all_get hxq (Nat.mod_lt _ hz)]
    · obtain ⟨j, hj, rfl⟩ := List.mem_iff_getElem.1 hx'
      exact (hxs j _ (by simp [hj])).1
end
theorem any_endT {α : Type} {xs : List α} {p : α → Bool} (h : xs.any p = false) : (0 : Int) ≤ -1 ↔ xs.any p = true :=
  ⟨fun h => by omega, fun h2 => by rw [h2] at h; cases h⟩
theorem below_run {B a g : Nat} {w0 : World} (hg : B ≤ g) : ∀ (cs : List Value) (w : World) (i : Nat), Below B w0 w → Below B w0 (setRunW w g i cs) := by
  intro cs
  induction cs with
  | nil => intro w i h; exact h
  | cons c cs ih => intro w i h; exact ih _ _ (h.setCell (p := ⟨g, i, none⟩) hg c)
theorem _root_.Go.RowKit.Below.run {B : Nat} {w0 w : World} (h : Below B w0 w) {g : Nat} (hg : B ≤ g) (cs : List Value) : Below B w0 (setRunW w g 0 cs) := below_run (a := 0) hg cs w 0 h
theorem bcell {W w1 : World} (hb : Below W.heap.size W w1) : (∀ b o, b < W.heap.size → w1.cell? ⟨b, o, none⟩ = W.cell? ⟨b, o, none⟩) ∧ (∀ b o, b < W.heap.size → w1.frozen? ⟨b, o, none⟩ = W.frozen? ⟨b, o, none⟩) :=
  ⟨fun b o h => hb.cell (p := ⟨b, o, none⟩) h, fun b o h => hb.frozen (p := ⟨b, o, none⟩) h⟩
/-- a variable in memory: its cells, free to be written -/
structure Box (w : World) (b : Nat) (cs : List Value) : Prop where
  lt : b < w.heap.size
  cell : ∀ (j : Nat) (v : Value), cs[j]? = some v → w.cell? ⟨b, j, none⟩ = some v
  free : ∀ j : Nat, w.frozen? ⟨b, j, none⟩ = false
theorem Box.below {w w' : World} {b B : Nat} {cs : List Value} (h : Box w b cs) (hb : Below B w w') (hB : b < B) : Box w' b cs :=
  ⟨Nat.lt_of_lt_of_le h.lt hb.size, fun j v hj => (hb.cell (p := ⟨b, j, none⟩) hB).trans (h.cell j v hj), fun j => (hb.frozen (p := ⟨b, j, none⟩) hB).trans (h.free j)⟩
theorem Box.on {w w' : World} {b : Nat} {cs : List Value} (h : Box w b cs) (hb : Below w.heap.size w w') : Box w' b cs := h.below hb h.lt
theorem Box.alloc {w : World} {b : Nat} {cs : List Value} (h : Box w b cs) (o : Obj) : Box (w.alloc o) b cs := h.on ((Below.refl _ _).alloc (Nat.le_refl _) _)
theorem Box.drewN {w : World} {b : Nat} {cs : List Value} (h : Box w b cs) (m : Nat) : Box (w.drewN m) b cs := ⟨h.lt, h.cell, h.free⟩
theorem Box.drew1 {w : World} {b : Nat} {cs : List Value} (h : Box w b cs) : Box w.drew b cs := ⟨h.lt, h.cell, h.free⟩
theorem _root_.Go.RowKit.Below.drew1 {B : Nat} {a w : World} (h : Below B a w) : Below B a w.drew := ⟨h.os, h.tape, h.output, h.size, h.block⟩
theorem Rds.onn {α : Type} {E : Elt α} {B : Nat} {w w' : World} {v : Value} {xs : List α} (h : Rds E B w v xs) (hb : Below w.heap.size w w') : Rds E w'.heap.size w' v xs := (h.tight.below hb (Nat.le_refl _)).mono hb.size
theorem Box.new (w : World) (cs : List Value) (t : TypeId) : Box (w.alloc (.cells cs.toArray t)) w.heap.size cs :=
  ⟨by simp, fun j v hj => by simp [World.cell?_alloc_new, hj], fun j => by simp [go_sem]⟩
theorem Box.set1 {w : World} {b j : Nat} {cs : List Value} (h : Box w b cs) (hj : j < cs.length) (v : Value) : Box (w.setCell ⟨b, j, none⟩ v) b (cs.set j v) := by
  refine ⟨by simpa using h.lt, fun i u hi => ?_, fun i => by rw [← h.free i]; simp [go_sem]⟩
  rw [List.getElem?_set] at hi
  by_cases e : j = i
  · subst e
    rw [if_pos rfl, if_pos hj] at hi
    cases hi
    have hu := h.cell j cs[j] (by simp [hj])
    simp [go_sem, hu]
  · rw [if_neg e] at hi
    have hu := h.cell i u hi
    rw [← hu]
    have hne : ¬ i = j := fun h => e h.symm
    simp [go_sem, hne]
theorem Box.other {w : World} {b : Nat} {cs : List Value} (h : Box w b cs) {p : Addr} (hp : p.block ≠ b) (v : Value) : Box (w.setCell p v) b cs := by
  refine ⟨by simpa using h.lt, fun i u hi => ?_, fun i => by rw [← h.free i]; simp [go_sem]⟩
  rw [← h.cell i u hi]
  obtain ⟨pb, po, ps⟩ := p
  have hne : ¬ b = pb := fun e => hp e.symm
  simp [go_sem, hne]
theorem toList_inj {a b : ByteArray} : a.toList = b.toList ↔ a = b := by
  rw [ByteArray.toList_eq, ByteArray.toList_eq]
  obtain ⟨⟨x⟩⟩ := a
  obtain ⟨⟨y⟩⟩ := b
  simp
theorem _root_.Go.RowKit.Below.drewNy {B : Nat} {a w : World} (h : Below B a w) (m : Nat) : Below B a (w.drewN m) := ⟨h.os, h.tape, h.output, h.size, h.block⟩
theorem trodI {H : Type} {enc : TypeId × Value → H} {P : Program} {w : World} {base : Nat} {spare : Nat → Bool} {held : Bool} {t : TypeId} {n : Nat} {v : Value} {y : DataW H × List MemPlace} (ht : P.underlying t = some (.int .i64)) (h : DataW.trod enc P w base spare held n t [v] = some y) :
    ∃ x : Int, v = .int .i64 x ∧ -9223372036854775808 ≤ x ∧ x ≤ 9223372036854775807 := by
  obtain ⟨x, hx, _, hw⟩ := DataW.trod_int ht h
  simp [Lit.wf, IntKind.min, IntKind.max, IntKind.signed, IntKind.bits] at hw
  exact ⟨x, by simpa using hx, hw⟩
theorem trodS {H : Type} {enc : TypeId × Value → H} {P : Program} {w : World} {base : Nat} {spare : Nat → Bool} {held : Bool} {t : TypeId} {n : Nat} {v : Value} {y : DataW H × List MemPlace} (ht : P.underlying t = some .string) (h : DataW.trod enc P w base spare held n t [v] = some y) :
    ∃ x : ByteArray, v = .string x ∧ x.size ≤ 9223372036854775807 := by
  obtain ⟨x, hx, _, hw⟩ := DataW.trod_string ht h
  exact ⟨x, by simpa using hx, by unfold maxLen at hw; omega⟩
end Go.Proofs.YtfieilbcdhbigaaGreatDoor
