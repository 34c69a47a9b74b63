/- Structs of one-cell fields: slices of them that come in, that the call owns. Slices of structs that hold structs, as they come in. Names: IsName of the program and of the reference, each by its contract. Fields: the program's and the reference's tests, each by its contract. Lists of numbers: copies, and whether a number is among them. Workers in the laws' helpers. Valid workers: the program's and the reference's, each by its contract. Valid workers: the lists. Pays in the laws' helpers. PayFor: the program's and the reference's, each by its contract. SameWorkers: the program's and the reference's, each by its contract. No condition. -/
import Derived.Test.YtkpcdnbjngpooaaGreatDoorRows
import Derived.Test.YtkpcdnbjngpooaaGreatDoorPR1
import Derived.Deep.Slices
import Derived.Deep.Fields
import Derived.ChangeSame
import Derived.Lib.SmallJoins
import Derived.StillTailTactics
import Derived.Deep.DeepCutAuto
import Derived.Laws.StructEq
import Derived.Test.YtkpcdnbjngpooaaGreatDoorPR2
namespace Go.Proofs.YtkpcdnbjngpooaaGreatDoor
open Go.ChangeShapes Go.WideShapes Go.ChangeAt Go.RowKit Go.Deep Go.Joins
set_option linter.unusedVariables false
set_option maxRecDepth 100000

/-- a run of cells laid into a list -/
def setRun : List Value → Nat → List Value → List Value
  | l, _, [] => l
  | l, i, c :: cs => setRun (l.set i c) (i + 1) cs
theorem setRun_length : ∀ (cs l : List Value) (i : Nat), (setRun l i cs).length = l.length := by
  intro cs
  induction cs with
  | nil => intro l i; rfl
  | cons c cs ih => intro l i; rw [setRun, ih, List.length_set]
theorem setRun_get : ∀ (cs l : List Value) (i j : Nat), (setRun l i cs)[j]? = if i ≤ j ∧ j < i + cs.length ∧ j < l.length then cs[j - i]? else l[j]? := by
  intro cs
  induction cs with
  | nil => intro l i j; rw [setRun, if_neg (by simp; omega)]
  | cons c cs ih =>
    intro l i j
    rw [setRun, ih, List.length_set, List.getElem?_set]
    by_cases h1 : i + 1 ≤ j ∧ j < i + 1 + cs.length ∧ j < l.length
    · rw [if_pos h1, if_pos ⟨by omega, by simp; omega, h1.2.2⟩]
      have : j - i = (j - (i + 1)) + 1 := by omega
      rw [this, List.getElem?_cons_succ]
    · rw [if_neg h1]
      by_cases h2 : i = j
      · subst h2
        rw [if_pos rfl]
        by_cases h3 : i < l.length
        · rw [if_pos h3, if_pos ⟨Nat.le_refl _, by simp, h3⟩]; simp
        · rw [if_neg h3, if_neg (fun h => h3 h.2.2), List.getElem?_eq_none (by omega)]
      · rw [if_neg h2, if_neg (fun h => h1 ⟨by omega, by have := h.2.1; simp at this; omega, h.2.2⟩)]
def setRunW : World → Nat → Nat → List Value → World
  | w, _, _, [] => w
  | w, g, i, c :: cs => setRunW (w.setCell ⟨g, i, none⟩ c) g (i + 1) cs
theorem ownsRow_run {base : Nat} {e : TypeId} {size g n cap : Nat} : ∀ (new : List Value) (w : World) (i : Nat) (cs : List Value), w.ownsRow base e size (.slice (some ⟨g, 0, none⟩) n cap) n cs →
    (setRunW w g i new).ownsRow base e size (.slice (some ⟨g, 0, none⟩) n cap) n (setRun cs i new) ∧ w.grownBy (setRunW w g i new) (some g) ∧ (setRunW w g i new).heap.size = w.heap.size := by
  intro new
  induction new with
  | nil => intro w i cs h; exact ⟨h, World.grownBy.refl _ _, rfl⟩
  | cons c new ih =>
    intro w i cs h
    have h1 := h.stored i c
    have h2 := ih (w.setCell ⟨g, i, none⟩ c) (i + 1) _ h1.1
    exact ⟨h2.1, grownBy_trans h1.2 h2.2.1, by rw [show setRunW w g i (c :: new) = setRunW (w.setCell ⟨g, i, none⟩ c) g (i + 1) new from rfl, h2.2.2]; simp⟩
section
variable {α : Type} {E : Elt α}
theorem Elt.all_set (hz : 0 < E.sz) {xs : List α} {k : Nat} {x : α} (hk : k < xs.length) : setRun (E.all xs) (k * E.sz) (E.cells x) = E.all (xs.set k x) := by
  apply List.ext_getElem?
  intro j
  rw [setRun_get, E.len, E.all_length]
  have hj : j = (j / E.sz) * E.sz + j % E.sz := by have := Nat.div_add_mod j E.sz; rw [Nat.mul_comm] at this; omega
  have hm := Nat.mod_lt j hz
  by_cases h : j < xs.length * E.sz
  · have hq : j / E.sz < xs.length := Nat.div_lt_of_lt_mul (by rw [Nat.mul_comm]; exact h)
    by_cases e : k = j / E.sz
    · have hy : (xs.set k x)[j / E.sz]? = some x := by rw [← e, List.getElem?_set]; simp [hk]
      rw [if_pos ⟨by rw [e]; exact Nat.div_mul_le_self _ _, by rw [e]; omega, h⟩]
      conv => rhs; rw [hj, E.all_get hy hm]
      congr 1
      rw [e]; omega
    · have hy : (xs.set k x)[j / E.sz]? = some (xs[j / E.sz]) := by rw [List.getElem?_set, if_neg e]; simp [hq]
      have hy2 : xs[j / E.sz]? = some (xs[j / E.sz]) := by simp [hq]
      have hne : ¬ (k * E.sz ≤ j ∧ j < k * E.sz + E.sz ∧ j < xs.length * E.sz) := by
        rintro ⟨h1, h2, _⟩
        apply e
        rw [hj] at h1 h2
        rcases Nat.lt_or_gt_of_ne e with h3 | h3
        · have : (k + 1) * E.sz ≤ j / E.sz * E.sz := Nat.mul_le_mul_right _ h3
          rw [Nat.add_mul] at this; omega
        · have : (j / E.sz + 1) * E.sz ≤ k * E.sz := Nat.mul_le_mul_right _ h3
          rw [Nat.add_mul] at this; omega
      rw [if_neg hne]
      conv => lhs; rw [hj, E.all_get hy2 hm]
      conv => rhs; rw [hj, E.all_get hy hm]
  · rw [if_neg (fun hh => h hh.2.2), List.getElem?_eq_none (by rw [E.all_length]; omega), List.getElem?_eq_none (by rw [E.all_length, List.length_set]; omega)]
theorem Elt.all_made (hz : 0 < E.sz) {z : α} {zv : Value} (h : zv.cells = (E.cells z).toArray) (n : Nat) : (madeCells zv.cells (n * E.sz)).toList = E.all (List.replicate n z) := by
  apply List.ext_getElem?
  intro j
  have hj : j = (j / E.sz) * E.sz + j % E.sz := by have := Nat.div_add_mod j E.sz; rw [Nat.mul_comm] at this; omega
  have hm := Nat.mod_lt j hz
  have hs : zv.cells.size = E.sz := by rw [h, List.size_toArray, E.len]
  by_cases hlt : j < n * E.sz
  · have hq : j / E.sz < n := Nat.div_lt_of_lt_mul (by rw [Nat.mul_comm]; exact hlt)
    have hy : (List.replicate n z)[j / E.sz]? = some z := by rw [List.getElem?_replicate, if_pos hq]
    conv => rhs; rw [hj, E.all_get hy hm]
    rw [madeCells, Array.toList_map, List.getElem?_map, Array.toList_range, List.getElem?_range hlt, Option.map_some, hs, h]
    have hl : j % E.sz < (E.cells z).length := by rw [E.len]; exact hm
    simp [hl]
  · rw [List.getElem?_eq_none (by rw [Array.length_toList, size_madeCells]; omega), List.getElem?_eq_none (by rw [E.all_length, List.length_replicate]; omega)]
/-- one element laid into a slice of the call's own -/
theorem Own.storeE (hz : 0 < E.sz) {e : TypeId} {base g n cap k : Nat} {w : World} {xs : List α} {x : α} (h : Own E e base w (.slice (some ⟨g, 0, none⟩) n cap) xs) (hn : n = xs.length) (hk : k < n) (hx : E.ok x) :
    Own E e base (setRunW w g (k * E.sz) (E.cells x)) (.slice (some ⟨g, 0, none⟩) n cap) (xs.set k x) ∧ w.grownBy (setRunW w g (k * E.sz) (E.cells x)) (some g) ∧ (setRunW w g (k * E.sz) (E.cells x)).heap.size = w.heap.size := by
  subst hn
  have h1 := ownsRow_run (E.cells x) w (k * E.sz) _ h.1
  rw [E.all_set hz hk] at h1
  refine ⟨⟨by rw [List.length_set]; exact h1.1, fun y hy => ?_⟩, h1.2⟩
  rcases List.mem_or_eq_of_mem_set hy with hy | rfl
  · exact h.2 y hy
  · exact hx
/-- one cell of an element laid into a slice of the call's own -/
theorem Elt.all_set1 (hz : 0 < E.sz) {xs : List α} {k j : Nat} {x y : α} {v : Value} (hx : xs[k]? = some x) (hj : j < E.sz) (hy : (E.cells x).set j v = E.cells y) : (E.all xs).set (k * E.sz + j) v = E.all (xs.set k y) := by
  have hk := at_lt hx
  rw [← E.all_set hz hk]
  apply List.ext_getElem?
  intro i
  rw [setRun_get, List.getElem?_set, E.len, E.all_length]
  have h5 : (k + 1) * E.sz ≤ xs.length * E.sz := Nat.mul_le_mul_right _ hk
  rw [Nat.add_mul, Nat.one_mul] at h5
  by_cases e : k * E.sz + j = i
  · rw [if_pos e, if_pos (by omega), if_pos ⟨by omega, by omega, by omega⟩, ← hy, ← e, Nat.add_sub_cancel_left, List.getElem?_set, if_pos rfl, if_pos (by rw [E.len]; exact hj)]
  · rw [if_neg e]
    by_cases h : k * E.sz ≤ i ∧ i < k * E.sz + E.sz ∧ i < xs.length * E.sz
    · rw [if_pos h, ← hy, List.getElem?_set, if_neg (by omega)]
      have hi : i = k * E.sz + (i - k * E.sz) := by omega
      conv => lhs; rw [hi]
      exact E.all_get hx (by omega)
    · rw [if_neg h]
theorem Own.store1 (hz : 0 < E.sz) {e : TypeId} {base g n cap k j : Nat} {w : World} {xs : List α} {x y : α} {v : Value} (h : Own E e base w (.slice (some ⟨g, 0, none⟩) n cap) xs) (hn : n = xs.length) (hx : xs[k]? = some x) (hj : j < E.sz) (hy : (E.cells x).set j v = E.cells y) (hok : E.ok y) :
    Own E e base (w.setCell ⟨g, k * E.sz + j, none⟩ v) (.slice (some ⟨g, 0, none⟩) n cap) (xs.set k y) ∧ w.grownBy (w.setCell ⟨g, k * E.sz + j, none⟩ v) (some g) := by
  subst hn
  have h1 := h.1.stored (k * E.sz + j) v
  rw [E.all_set1 hz hx hj hy] at h1
  refine ⟨⟨by rw [List.length_set]; exact h1.1, fun z hz' => ?_⟩, h1.2⟩
  rcases List.mem_or_eq_of_mem_set hz' with hz' | rfl
  · exact h.2 z hz'
  · exact hok
/-- a cell of a slice of the call's own: there, and free -/
theorem Own.cellE {e : TypeId} {base g n cap : Nat} {w : World} {xs : List α} (h : Own E e base w (.slice (some ⟨g, 0, none⟩) n cap) xs) (hn : n = xs.length) {k j : Nat} (hk : k < n) (hj : j < E.sz) :
    (∃ u, w.cell? ⟨g, k * E.sz + j, none⟩ = some u) ∧ w.frozen? ⟨g, k * E.sz + j, none⟩ = false := by
  subst hn
  have hlt : k * E.sz + j < xs.length * E.sz := by
    have : (k + 1) * E.sz ≤ xs.length * E.sz := Nat.mul_le_mul_right _ hk
    rw [Nat.add_mul] at this; omega
  refine ⟨⟨(E.all xs)[k * E.sz + j]'(by rw [E.all_length]; exact hlt), ?_⟩, h.1.frozenAt _⟩
  rw [h.1.cellAt _ hlt]
  simp [E.all_length, hlt]
end
/-- f k, f (k + d), .. -/
def mkL {α : Type} (f : Int → α) (d : Int) : Int → Nat → List α
  | _, 0 => []
  | k, n + 1 => f k :: mkL f d (k + d) n
section
variable {α : Type} {f : Int → α} {d : Int}
theorem mkL_length (n : Nat) : ∀ k, (mkL f d k n).length = n := by
  induction n with
  | zero => intro k; rfl
  | succ n ih => intro k; simp [mkL, ih]
theorem mkL_get (n : Nat) : ∀ (k : Int) (j : Nat), (mkL f d k n)[j]? = if j < n then some (f (k + d * j)) else none := by
  induction n with
  | zero => intro k j; simp [mkL]
  | succ n ih =>
    intro k j
    cases j with
    | zero => simp [mkL]
    | succ j =>
      rw [mkL, List.getElem?_cons_succ, ih]
      by_cases h : j < n
      · rw [if_pos h, if_pos (by omega)]
        congr 2
        rw [Int.natCast_add, Int.mul_add]; omega
      · rw [if_neg h, if_neg (by omega)]
theorem mkL_mem {n : Nat} {k : Int} {x : α} (h : x ∈ mkL f d k n) : ∃ j, j < n ∧ x = f (k + d * j) := by
  obtain ⟨j, hj, rfl⟩ := List.mem_iff_getElem.1 h
  have hj' : j < n := by simpa [mkL_length] using hj
  have h2 := mkL_get (f := f) (d := d) n k j
  rw [List.getElem?_eq_getElem hj, if_pos hj'] at h2
  exact ⟨j, hj', Option.some.inj h2⟩
theorem mkL_set (xs : List α) (k : Int) (j : Nat) (hj : j < xs.length) : (mkL f d k j ++ xs.drop j).set j (f (k + d * j)) = mkL f d k (j + 1) ++ xs.drop (j + 1) := by
  apply List.ext_getElem?
  intro i
  simp only [List.getElem?_set, List.getElem?_append, List.length_append, List.length_drop, mkL_length, mkL_get, List.getElem?_drop]
  by_cases h1 : j = i
  · subst h1
    rw [if_pos rfl, if_pos (by omega), if_pos (by omega), if_pos (by omega)]
  · rw [if_neg h1]
    by_cases h2 : i < j
    · rw [if_pos h2, if_pos h2, if_pos (by omega), if_pos (by omega)]
    · rw [if_neg h2]
      by_cases h3 : i < j + 1
      · omega
      · rw [if_neg h3, show j + (i - j) = j + 1 + (i - (j + 1)) by omega]
end
def sumBy {α : Type} (f : α → Int) : List α → Int
  | [] => 0
  | x :: xs => f x + sumBy f xs
theorem sumBy_append {α : Type} (f : α → Int) (xs ys : List α) : sumBy f (xs ++ ys) = sumBy f xs + sumBy f ys := by
  induction xs with
  | nil => simp [sumBy]
  | cons x xs ih => simp only [List.cons_append, sumBy, ih]; omega
theorem sumBy_snoc {α : Type} (f : α → Int) {xs : List α} {k : Nat} {x : α} (hx : xs[k]? = some x) : sumBy f (xs.take (k + 1)) = sumBy f (xs.take k) + f x := by
  rw [take_snoc hx, sumBy_append]; simp [sumBy]
theorem sumBy_nonneg {α : Type} {f : α → Int} (h : ∀ x, 0 ≤ f x) (xs : List α) : 0 ≤ sumBy f xs := by
  induction xs with
  | nil => simp [sumBy]
  | cons x xs ih => simp only [sumBy]; have := h x; omega
theorem sumBy_take_le {α : Type} {f : α → Int} (h : ∀ x, 0 ≤ f x) (xs : List α) (k : Nat) : sumBy f (xs.take k) ≤ sumBy f xs := by
  conv => rhs; rw [← List.take_append_drop k xs]
  rw [sumBy_append]
  have := sumBy_nonneg h (xs.drop k)
  omega
theorem sumBy_zero {α : Type} {f : α → Int} (h : ∀ x, f x = 0) (xs : List α) : sumBy f xs = 0 := by
  induction xs with
  | nil => rfl
  | cons x xs ih => simp only [sumBy, ih, h]; rfl
theorem set_take_repl {α : Type} {xs : List α} {n k : Nat} {x z : α} (hx : xs[k]? = some x) (hn : n = xs.length) (hk : k < n) : (xs.take k ++ List.replicate (n - k) z).set k x = xs.take (k + 1) ++ List.replicate (n - (k + 1)) z := by
  have hl := at_lt hx
  rw [take_snoc hx]
  have e : n - k = (n - (k + 1)) + 1 := by omega
  have h0 : (xs.take k).length = k := by simp; omega
  rw [e, List.replicate_succ, List.set_append_right _ _ (by omega), h0, Nat.sub_self]
  simp
theorem list_of {α : Type} {p : Nat → α → Prop} : ∀ (n : Nat), (∀ i, i < n → ∃ x, p i x) → ∃ xs : List α, xs.length = n ∧ ∀ i x, xs[i]? = some x → p i x := by
  intro n
  induction n with
  | zero => intro _; exact ⟨[], rfl, fun i x h => by simp at h⟩
  | succ n ih =>
    intro h
    obtain ⟨xs, hl, hp⟩ := ih (fun i hi => h i (by omega))
    obtain ⟨x, hx⟩ := h n (by omega)
    refine ⟨xs ++ [x], by simp [hl], fun i y hy => ?_⟩
    by_cases hi : i < n
    · rw [List.getElem?_append_left (by omega)] at hy
      exact hp i y hy
    · have hlt := at_lt hy
      have e : i = n := by rw [List.length_append] at hlt; simp at hlt; omega
      subst e
      rw [List.getElem?_append_right (by omega), hl, Nat.sub_self] at hy
      simp at hy
      subst hy
      exact hx
section
variable {H : Type} {enc : TypeId × Value → H} {P : Program} {w : World} {base : Nat} {spare : Nat → Bool} {held : Bool}
theorem open_slice_fields {t e : TypeId} {fs : Array Field} {fuel : Nat} {cs : List Value} {x : DataW H × List MemPlace} (ht : P.underlying t = some (.slice e)) (he : P.underlying e = some (.struct fs))
    (hone : oneCellFields P fs = true) (hC : P.cellsOf e = fs.size) (h : DataW.trod enc P w base spare held fuel t cs = some x) :
    (cs = [.slice none 0 0] ∧ x = (.nil, [])) ∨
    ∃ (a : Addr) (len cap m : Nat) (D : Nat → DataW H) (Pl : Nat → List MemPlace), cs = [.slice (some a) len cap] ∧ base ≤ a.block ∧ len ≤ cap ∧ cap ≤ maxLen ∧ m = (if spare a.block then cap else len) ∧
      x = (.slice ((List.range len).map D) ((List.range (m - len)).map fun j => D (len + j)), MemPlace.row a (m * fs.size) ++ (List.range m).flatMap Pl) ∧
      ∀ i, i < m → ∃ (ys : List (DataW H × List MemPlace)) (n : Nat), D i = .agg (ys.map (·.1)) ∧ Pl i = ys.flatMap (·.2) ∧ ys.length = fs.size ∧
        ∀ (j : Nat) (f : Field), fs[j]? = some f → ∃ (v : Value) (y : DataW H × List MemPlace), w.cell? (a.add (i * fs.size + j)) = some v ∧ ys[j]? = some y ∧ DataW.trod enc P w base spare held n f.type [v] = some y := by
  rcases open_slice ht h with h0 | ⟨a, len, cap, m, n, D, Pl, hcs, hb, hl, hm, hmm, hx, hi⟩
  · exact .inl h0
  · refine .inr ⟨a, len, cap, m, D, Pl, hcs, hb, hl, hm, hmm, by rw [hC] at hx; exact hx, fun i him => ?_⟩
    obtain ⟨cs', hc, ht'⟩ := hi i him
    rw [hC] at hc
    obtain ⟨ys, n', hn', hy, hlen, hyl, hf⟩ := DataW.trod_struct he ht'
    obtain ⟨_, hcl, hat⟩ := World.cells?_some hc
    simp only [Prod.mk.injEq] at hy
    refine ⟨ys, n', hy.1, hy.2, hyl, fun j f hj => ?_⟩
    obtain ⟨ho, hk⟩ := hone_of hone j f hj
    have hjl : j < fs.size := (Array.getElem?_eq_some_iff.1 hj).1
    have hcell := hat j hjl
    have hv : cs'[j]? = some (cs'[j]'(by omega)) := List.getElem?_eq_getElem (by omega)
    have h1 := hf j f hj
    rw [ho, hk] at h1
    have hone' : (cs'.drop j).take 1 = [cs'[j]'(by omega)] := by
      rw [List.drop_eq_getElem_cons (by omega)]
      rfl
    rw [hone'] at h1
    have hys : ys[j]? = some (ys[j]'(by omega)) := List.getElem?_eq_getElem (by omega)
    refine ⟨_, _, ?_, hys, h1.trans hys⟩
    rw [← Go.Deep.add_add, hcell, hv]
/-- a slice of structs that came in -/
theorem open_rdK {α : Type} {E : Elt α} {r : Reach} {b0 : Nat} {t e : TypeId} {fs : Array Field} {v : Value} {d : DataW H} {ps : List MemPlace} (ht : P.underlying t = some (.slice e)) (he : P.underlying e = some (.struct fs))
    (hone : oneCellFields P fs = true) (hC : P.cellsOf e = fs.size) (hsz : fs.size = E.sz)
    (hin : ∀ (n : Nat) (vs : List Value), vs.length = fs.size → (∀ (j : Nat) (f : Field), fs[j]? = some f → ∃ u y, vs[j]? = some u ∧ DataW.trod enc P w 0 (fun _ => true) true n f.type [u] = some y) → ∃ x, E.cells x = vs ∧ E.ok x)
    (hz : 0 < E.sz) (hok : Value.okWide P w r b0 t v) (h : DataW.Trod enc P w 0 (fun _ => true) true t v d ps) :
    ∃ xs, Rds E w.heap.size w v xs := by
  obtain ⟨a, len, cap, rfl⟩ := okWide_slice ht hok
  obtain ⟨fuel, hf⟩ := h
  rcases open_slice_fields ht he hone hC hf with ⟨hcs, hx⟩ | ⟨a', len', cap', m, D, Pl, hcs, _, hl, hm, hmm, hx, hi⟩
  · have hcs' : Value.slice a len cap = .slice none 0 0 := by simpa [Value.cells] using hcs
    injection hcs' with h1 h2 h3
    subst h1; subst h2; subst h3
    exact ⟨[], Rds.nil _ _ _⟩
  · have hcs' : Value.slice a len cap = .slice (some a') len' cap' := by simpa [Value.cells] using hcs
    injection hcs' with h1 h2 h3
    subst h1; subst h2; subst h3
    simp only [if_true] at hmm
    subst hmm
    have key : ∀ i, i < len → ∃ x, E.ok x ∧ ∀ j, j < E.sz → w.cell? (a'.add (i * E.sz + j)) = (E.cells x)[j]? := by
      intro i hi'
      obtain ⟨ys, n, _, _, _, hj⟩ := hi i (by omega)
      have hfs : ∀ j, j < fs.size → ∃ u, w.cell? (a'.add (i * fs.size + j)) = some u ∧ ∀ f, fs[j]? = some f → ∃ y, DataW.trod enc P w 0 (fun _ => true) true n f.type [u] = some y := by
        intro j hjl
        obtain ⟨u, y, hu, _, hy⟩ := hj j fs[j] (by simp [hjl])
        exact ⟨u, hu, fun f hf => by rw [Array.getElem?_eq_getElem hjl] at hf; cases hf; exact ⟨y, hy⟩⟩
      obtain ⟨vs, hvl, hvs⟩ := list_of fs.size hfs
      obtain ⟨x, hx1, hx2⟩ := hin n vs hvl (fun j f hf => by
        have hjl : j < fs.size := (Array.getElem?_eq_some_iff.1 hf).1
        have hu : vs[j]? = some (vs[j]'(by omega)) := by simp [hvl, hjl]
        obtain ⟨y, hy⟩ := (hvs j _ hu).2 f hf
        exact ⟨_, y, hu, hy⟩)
      refine ⟨x, hx2, fun j hj' => ?_⟩
      have hu : vs[j]? = some (vs[j]'(by omega)) := List.getElem?_eq_getElem (by omega)
      rw [hx1, hu, ← hsz]
      exact (hvs j _ hu).1
    obtain ⟨xs, hxl, hxs⟩ := list_of len key
    have hmx : len ≤ 9223372036854775807 := by unfold maxLen at hm; omega
    refine ⟨xs, ⟨⟨E.all_length _, by rw [hxl]; exact hmx, ?_⟩, fun x hx' => ?_⟩⟩
    · rw [hxl]
      cases len with
      | zero => exact .inl ⟨rfl, _, _, rfl, fun h => by cases h⟩
      | succ n =>
        obtain ⟨b, off, spot⟩ := a'
        have hx0 : xs[0]? = some (xs[0]'(by omega)) := by simp [hxl]
        have h0 := (hxs 0 _ hx0).2 0 hz
        have hc0 : (E.cells (xs[0]'(by omega)))[0]? = some ((E.cells (xs[0]'(by omega)))[0]'(by rw [E.len]; exact hz)) := by simp [E.len, hz]
        rw [hc0] at h0
        have hspot : spot = none := by
          cases spot with
          | none => rfl
          | some s =>
            simp only [Addr.add, World.cell?] at h0
            split at h0 <;> simp at h0
        subst hspot
        have hb0 : b < w.heap.size := by rw [Addr.add_lit] at h0; exact World.block_lt_of_cell? w _ h0
        refine .inr ⟨b, off, _, rfl, ⟨hl, by unfold maxLen at hm; omega⟩, hb0, hb0, fun i hi' => ?_⟩
        have hq : i / E.sz < xs.length := by rw [hxl]; exact Nat.div_lt_of_lt_mul (by rw [Nat.mul_comm]; exact hi')
        have hi2 : i = (i / E.sz) * E.sz + i % E.sz := by have := Nat.div_add_mod i E.sz; rw [Nat.mul_comm] at this; omega
        have hxq : xs[i / E.sz]? = some (xs[i / E.sz]) := by simp [hq]
        have h3 := (hxs _ _ hxq).2 (i % E.sz) (Nat.mod_lt _ hz)
        rw [Addr.add_lit, ← hi2] at h3
        rw [h3]
        conv => rhs; rw [hi2, E.all_get hxq (Nat.mod_lt _ hz)]
    · obtain ⟨j, hj, rfl⟩ := List.mem_iff_getElem.1 hx'
      exact (hxs j _ (by simp [hj])).1
end
theorem any_endT {α : Type} {xs : List α} {p : α → Bool} (h : xs.any p = false) : (0 : Int) ≤ -1 ↔ xs.any p = true :=
  ⟨fun h => by omega, fun h2 => by rw [h2] at h; cases h⟩
theorem below_run {B a g : Nat} {w0 : World} (hg : B ≤ g) : ∀ (cs : List Value) (w : World) (i : Nat), Below B w0 w → Below B w0 (setRunW w g i cs) := by
  intro cs
  induction cs with
  | nil => intro w i h; exact h
  | cons c cs ih => intro w i h; exact ih _ _ (h.setCell (p := ⟨g, i, none⟩) hg c)
theorem _root_.Go.RowKit.Below.run {B : Nat} {w0 w : World} (h : Below B w0 w) {g : Nat} (hg : B ≤ g) (cs : List Value) : Below B w0 (setRunW w g 0 cs) := below_run (a := 0) hg cs w 0 h
theorem bcell {W w1 : World} (hb : Below W.heap.size W w1) : (∀ b o, b < W.heap.size → w1.cell? ⟨b, o, none⟩ = W.cell? ⟨b, o, none⟩) ∧ (∀ b o, b < W.heap.size → w1.frozen? ⟨b, o, none⟩ = W.frozen? ⟨b, o, none⟩) :=
  ⟨fun b o h => hb.cell (p := ⟨b, o, none⟩) h, fun b o h => hb.frozen (p := ⟨b, o, none⟩) h⟩
/-- a variable in memory: its cells, free to be written -/
structure Box (w : World) (b : Nat) (cs : List Value) : Prop where
  lt : b < w.heap.size
  cell : ∀ (j : Nat) (v : Value), cs[j]? = some v → w.cell? ⟨b, j, none⟩ = some v
  free : ∀ j : Nat, w.frozen? ⟨b, j, none⟩ = false
theorem Box.below {w w' : World} {b B : Nat} {cs : List Value} (h : Box w b cs) (hb : Below B w w') (hB : b < B) : Box w' b cs :=
  ⟨Nat.lt_of_lt_of_le h.lt hb.size, fun j v hj => (hb.cell (p := ⟨b, j, none⟩) hB).trans (h.cell j v hj), fun j => (hb.frozen (p := ⟨b, j, none⟩) hB).trans (h.free j)⟩
theorem Box.on {w w' : World} {b : Nat} {cs : List Value} (h : Box w b cs) (hb : Below w.heap.size w w') : Box w' b cs := h.below hb h.lt
theorem Box.alloc {w : World} {b : Nat} {cs : List Value} (h : Box w b cs) (o : Obj) : Box (w.alloc o) b cs := h.on ((Below.refl _ _).alloc (Nat.le_refl _) _)
theorem Box.drewN {w : World} {b : Nat} {cs : List Value} (h : Box w b cs) (m : Nat) : Box (w.drewN m) b cs := ⟨h.lt, h.cell, h.free⟩
theorem Box.drew1 {w : World} {b : Nat} {cs : List Value} (h : Box w b cs) : Box w.drew b cs := ⟨h.lt, h.cell, h.free⟩
theorem _root_.Go.RowKit.Below.drew1 {B : Nat} {a w : World} (h : Below B a w) : Below B a w.drew := ⟨h.os, h.tape, h.output, h.size, h.block⟩
theorem Rds.onn {α : Type} {E : Elt α} {B : Nat} {w w' : World} {v : Value} {xs : List α} (h : Rds E B w v xs) (hb : Below w.heap.size w w') : Rds E w'.heap.size w' v xs := (h.tight.below hb (Nat.le_refl _)).mono hb.size
theorem Box.new (w : World) (cs : List Value) (t : TypeId) : Box (w.alloc (.cells cs.toArray t)) w.heap.size cs :=
  ⟨by simp, fun j v hj => by simp [World.cell?_alloc_new, hj], fun j => by simp [go_sem]⟩
theorem Box.set1 {w : World} {b j : Nat} {cs : List Value} (h : Box w b cs) (hj : j < cs.length) (v : Value) : Box (w.setCell ⟨b, j, none⟩ v) b (cs.set j v) := by
  refine ⟨by simpa using h.lt, fun i u hi => ?_, fun i => by rw [← h.free i]; simp [go_sem]⟩
  rw [List.getElem?_set] at hi
  by_cases e : j = i
  · subst e
    rw [if_pos rfl, if_pos hj] at hi
    cases hi
    have hu := h.cell j cs[j] (by simp [hj])
    simp [go_sem, hu]
  · rw [if_neg e] at hi
    have hu := h.cell i u hi
    rw [← hu]
    have hne : ¬ i = j := fun h => e h.symm
    simp [go_sem]
theorem Box.other {w : World} {b : Nat} {cs : List Value} (h : Box w b cs) {p : Addr} (hp : p.block ≠ b) (v : Value) : Box (w.setCell p v) b cs := by
  refine ⟨by simpa using h.lt, fun i u hi => ?_, fun i => by rw [← h.free i]; simp [go_sem]⟩
  rw [← h.cell i u hi]
  obtain ⟨pb, po, ps⟩ := p
  have hne : ¬ b = pb := fun e => hp e.symm
  simp [go_sem]
theorem toList_inj {a b : ByteArray} : a.toList = b.toList ↔ a = b := by
  rw [ByteArray.toList_eq, ByteArray.toList_eq]
  obtain ⟨⟨x⟩⟩ := a
  obtain ⟨⟨y⟩⟩ := b
  simp
theorem _root_.Go.RowKit.Below.drewNy {B : Nat} {a w : World} (h : Below B a w) (m : Nat) : Below B a (w.drewN m) := ⟨h.os, h.tape, h.output, h.size, h.block⟩
theorem trodI {H : Type} {enc : TypeId × Value → H} {P : Program} {w : World} {base : Nat} {spare : Nat → Bool} {held : Bool} {t : TypeId} {n : Nat} {v : Value} {y : DataW H × List MemPlace} (ht : P.underlying t = some (.int .i64)) (h : DataW.trod enc P w base spare held n t [v] = some y) :
    ∃ x : Int, v = .int .i64 x ∧ -9223372036854775808 ≤ x ∧ x ≤ 9223372036854775807 := by
  obtain ⟨x, hx, _, hw⟩ := DataW.trod_int ht h
  simp [Lit.wf, IntKind.min, IntKind.max, IntKind.signed, IntKind.bits] at hw
  exact ⟨x, by simpa using hx, hw⟩
theorem trodS {H : Type} {enc : TypeId × Value → H} {P : Program} {w : World} {base : Nat} {spare : Nat → Bool} {held : Bool} {t : TypeId} {n : Nat} {v : Value} {y : DataW H × List MemPlace} (ht : P.underlying t = some .string) (h : DataW.trod enc P w base spare held n t [v] = some y) :
    ∃ x : ByteArray, v = .string x ∧ x.size ≤ 9223372036854775807 := by
  obtain ⟨x, hx, _, hw⟩ := DataW.trod_string ht h
  exact ⟨x, by simpa using hx, by unfold maxLen at hw; omega⟩
end Go.Proofs.YtkpcdnbjngpooaaGreatDoor
namespace Go.Proofs.YtkpcdnbjngpooaaGreatDoor
open Go.ChangeShapes Go.WideShapes Go.ChangeAt Go.RowKit Go.Deep
set_option linter.unusedVariables false
set_option maxRecDepth 100000
section
variable {H : Type} {enc : TypeId × Value → H} {P : Program} {w : World}
/-- a struct's fields, each read at its place -/
theorem trod_fields {base : Nat} {spare : Nat → Bool} {held : Bool} {n : Nat} {t : TypeId} {fs : Array Field} {cs : List Value} {y : DataW H × List MemPlace} (ht : P.underlying t = some (.struct fs))
    (L : List (TypeId × Nat × Nat)) (hL : fs.toList.map (fun f => (f.type, f.offset, P.cellsOf f.type)) = L) (h : DataW.trod enc P w base spare held n t cs = some y) :
    ∃ m, ∀ (i : Nat) (a : TypeId) (o c : Nat), L[i]? = some (a, o, c) → ∃ z, DataW.trod enc P w base spare held m a ((cs.drop o).take c) = some z := by
  obtain ⟨ys, m, _, _, _, hl, hq⟩ := DataW.trod_struct ht h
  refine ⟨m, fun i a o c hi => ?_⟩
  rw [← hL, List.getElem?_map] at hi
  cases hf : fs.toList[i]? with
  | none => rw [hf] at hi; cases hi
  | some f =>
    rw [hf] at hi
    cases hi
    have hf' : fs[i]? = some f := by rw [← Array.getElem?_toList]; exact hf
    have hlt : i < fs.size := (Array.getElem?_eq_some_iff.1 hf').1
    have h1 := hq i f hf'
    rw [List.getElem?_eq_getElem (by omega)] at h1
    exact ⟨_, h1⟩
/-- a slice of elements of any cells that came in -/
theorem open_rdF {α : Type} {E : Elt α} {t e : TypeId} {v : Value} {fuel : Nat} {y : DataW H × List MemPlace} (ht : P.underlying t = some (.slice e)) (hC : P.cellsOf e = E.sz)
    (hin : ∀ (n : Nat) (vs : List Value) (y : DataW H × List MemPlace), vs.length = E.sz → DataW.trod enc P w 0 (fun _ => true) true n e vs = some y → ∃ x, E.cells x = vs ∧ E.ok x)
    (hz : 0 < E.sz) (hf : DataW.trod enc P w 0 (fun _ => true) true fuel t [v] = some y) :
    ∃ xs, Rds E w.heap.size w v xs := by
  rcases open_slice ht hf with ⟨hcs, hx⟩ | ⟨a', len, cap, m, n, D, Pl, hcs, _, hl, hm, hmm, hx, hi⟩
  · injection hcs with h1 _
    subst h1
    exact ⟨[], Rds.nil _ _ _⟩
  · injection hcs with h1 _
    subst h1
    simp only [if_true] at hmm
    subst hmm
    have key : ∀ i, i < len → ∃ x, E.ok x ∧ ∀ j, j < E.sz → w.cell? (a'.add (i * E.sz + j)) = (E.cells x)[j]? := by
      intro i hi'
      obtain ⟨vs, hc, htr⟩ := hi i (by omega)
      rw [hC] at hc
      obtain ⟨_, hvl, hvs⟩ := World.cells?_some hc
      obtain ⟨x, hx1, hx2⟩ := hin n vs _ hvl htr
      refine ⟨x, hx2, fun j hj' => ?_⟩
      rw [hx1, ← hvs j hj', Go.Deep.add_add]
    obtain ⟨xs, hxl, hxs⟩ := list_of len key
    have hmx : len ≤ 9223372036854775807 := by unfold maxLen at hm; omega
    refine ⟨xs, ⟨⟨E.all_length _, by rw [hxl]; exact hmx, ?_⟩, fun x hx' => ?_⟩⟩
    · rw [hxl]
      cases len with
      | zero => exact .inl ⟨rfl, _, _, rfl, fun h => by cases h⟩
      | succ n =>
        obtain ⟨b, off, spot⟩ := a'
        have hx0 : xs[0]? = some (xs[0]'(by omega)) := by simp [hxl]
        have h0 := (hxs 0 _ hx0).2 0 hz
        have hc0 : (E.cells (xs[0]'(by omega)))[0]? = some ((E.cells (xs[0]'(by omega)))[0]'(by rw [E.len]; exact hz)) := by simp [E.len, hz]
        rw [hc0] at h0
        have hspot : spot = none := by
          cases spot with
          | none => rfl
          | some s =>
            simp only [Addr.add, World.cell?] at h0
            split at h0 <;> simp at h0
        subst hspot
        have hb0 : b < w.heap.size := by rw [Addr.add_lit] at h0; exact World.block_lt_of_cell? w _ h0
        refine .inr ⟨b, off, _, rfl, ⟨hl, by unfold maxLen at hm; omega⟩, hb0, hb0, fun i hi' => ?_⟩
        have hq : i / E.sz < xs.length := by rw [hxl]; exact Nat.div_lt_of_lt_mul (by rw [Nat.mul_comm]; exact hi')
        have hi2 : i = (i / E.sz) * E.sz + i % E.sz := by have := Nat.div_add_mod i E.sz; rw [Nat.mul_comm] at this; omega
        have hxq : xs[i / E.sz]? = some (xs[i / E.sz]) := by simp [hq]
        have h3 := (hxs _ _ hxq).2 (i % E.sz) (Nat.mod_lt _ hz)
        rw [Addr.add_lit, ← hi2] at h3
        rw [h3]
        conv => rhs; rw [hi2, E.all_get hxq (Nat.mod_lt _ hz)]
    · obtain ⟨j, hj, rfl⟩ := List.mem_iff_getElem.1 hx'
      exact (hxs j _ (by simp [hj])).1
theorem open_rdG {α : Type} {E : Elt α} {r : Reach} {b0 : Nat} {t e : TypeId} {v : Value} {d : DataW H} {ps : List MemPlace} (ht : P.underlying t = some (.slice e)) (hC : P.cellsOf e = E.sz)
    (hin : ∀ (n : Nat) (vs : List Value) (y : DataW H × List MemPlace), vs.length = E.sz → DataW.trod enc P w 0 (fun _ => true) true n e vs = some y → ∃ x, E.cells x = vs ∧ E.ok x)
    (hz : 0 < E.sz) (hok : Value.okWide P w r b0 t v) (h : DataW.Trod enc P w 0 (fun _ => true) true t v d ps) :
    ∃ xs, Rds E w.heap.size w v xs := by
  obtain ⟨a, len, cap, rfl⟩ := okWide_slice ht hok
  obtain ⟨fuel, hf⟩ := h
  exact open_rdF ht hC hin hz hf
end
end Go.Proofs.YtkpcdnbjngpooaaGreatDoor
namespace Go.Proofs.YtkpcdnbjngpooaaGreatDoor
open Go.ChangeShapes Go.WideShapes Go.ChangeAt Go.RowKit
set_option linter.unusedVariables false
set_option maxRecDepth 100000
def smallB (c : Int) : Bool := decide (97 ≤ c ∧ c ≤ 122)
def digitB (c : Int) : Bool := decide (48 ≤ c ∧ c ≤ 57)
def charB (c : Int) : Bool := smallB c || (digitB c || c == 45)
/-- the bytes of a text, as numbers -/
def bytesI (s : ByteArray) : List Int := s.data.toList.map (fun c => (c.toNat : Int))
theorem bytesI_length (s : ByteArray) : (bytesI s).length = s.size := by simp [bytesI]
theorem bytesI_at (s : ByteArray) (k : Nat) (h : k < s.size) : (bytesI s)[k]? = some (s[k].toNat : Int) := by
  unfold bytesI
  rw [List.getElem?_map]
  have h1 : s.data.toList[k]? = some s[k] := by
    rw [List.getElem?_eq_getElem (by simpa using h)]; rfl
  rw [h1]; rfl
def nameB (s : ByteArray) : Bool := decide (1 ≤ s.size) && (decide (s.size ≤ 12) && (((bytesI s).take 1).all smallB && (bytesI s).all charB))
theorem nameB_len {s : ByteArray} (h : ¬ (1 ≤ s.size ∧ s.size ≤ 12)) : nameB s = false := by
  unfold nameB
  by_cases h1 : 1 ≤ s.size
  · have h2 : ¬ s.size ≤ 12 := fun h3 => h ⟨h1, h3⟩
    simp [h2]
  · simp [h1]
theorem take_one {xs : List Int} {x : Int} (h : xs[0]? = some x) : xs.take 1 = [x] := by
  have := take_snoc h
  simpa using this
theorem nameB_first {s : ByteArray} (h0 : 0 < s.size) (h : ¬ (97 ≤ (s[0].toNat : Int) ∧ (s[0].toNat : Int) ≤ 122)) : nameB s = false := by
  unfold nameB
  rw [take_one (bytesI_at s 0 h0)]
  have : smallB (s[0].toNat : Int) = false := decide_eq_false h
  simp [this]
theorem nameB_char {s : ByteArray} {k : Nat} (hk : k < s.size) (h : charB (s[k].toNat : Int) = false) : nameB s = false := by
  unfold nameB
  have : (bytesI s).all charB = false := by
    rw [List.all_eq_false]
    exact ⟨_, List.mem_of_getElem? (bytesI_at s k hk), by rw [h]; decide⟩
  simp [this]
theorem nameB_all {s : ByteArray} (h1 : 1 ≤ s.size) (h2 : s.size ≤ 12) (h3 : 97 ≤ (s[0].toNat : Int) ∧ (s[0].toNat : Int) ≤ 122) (h : (bytesI s).all charB = true) : nameB s = true := by
  unfold nameB
  rw [take_one (bytesI_at s 0 h1)]
  have : smallB (s[0].toNat : Int) = true := decide_eq_true h3
  simp [this, h, h1, h2]
theorem nameB_size {s : ByteArray} (h : nameB s = true) : 1 ≤ s.size ∧ s.size ≤ 12 := by
  by_cases hh : 1 ≤ s.size ∧ s.size ≤ 12
  · exact hh
  · rw [nameB_len hh] at h; cases h
theorem charB_of {c : Int} (h : 97 ≤ c ∧ c ≤ 122 ∨ 48 ≤ c ∧ c ≤ 57 ∨ c = 45) : charB c = true := by
  unfold charB smallB digitB
  rcases h with h | h | h
  · simp [h]
  · simp [h]
  · subst h; decide
theorem charB_no {c : Int} (h1 : ¬ (97 ≤ c ∧ c ≤ 122)) (h2 : ¬ (48 ≤ c ∧ c ≤ 57)) (h3 : ¬ c = 45) : charB c = false := by
  unfold charB smallB digitB
  rw [decide_eq_false h1, decide_eq_false h2]
  simpa using h3
theorem isSmall_yes (c : Int) (w : World) (h : 97 ≤ c ∧ c ≤ 122) : Calls Tryz.prog 68 #[.int .u8 c] w fun e w' => e = .returned (.bool true) ∧ w = w' := by
  obtain ⟨h1, h2⟩ := h
  go_enter Tryz.func68, Tryz.ntmps68
  go_wp2
  go_ret
  exact ⟨rfl, rfl⟩
theorem isSmall_no (c : Int) (w : World) (h : ¬ (97 ≤ c ∧ c ≤ 122)) : Calls Tryz.prog 68 #[.int .u8 c] w fun e w' => e = .returned (.bool false) ∧ w = w' := by
  by_cases h1 : 97 ≤ c
  · have h2 : 122 < c := by omega
    clear h
    go_enter Tryz.func68, Tryz.ntmps68
    go_wp2
    go_ret
    exact ⟨ret_bool (by simp; omega), rfl⟩
  · clear h
    go_enter Tryz.func68, Tryz.ntmps68
    go_wp2
    go_ret
    exact ⟨rfl, rfl⟩
theorem isDigit_yes (c : Int) (w : World) (h : 48 ≤ c ∧ c ≤ 57) : Calls Tryz.prog 107 #[.int .u8 c] w fun e w' => e = .returned (.bool true) ∧ w = w' := by
  obtain ⟨h1, h2⟩ := h
  go_enter Tryz.func107, Tryz.ntmps107
  go_wp2
  go_ret
  exact ⟨rfl, rfl⟩
theorem isDigit_no (c : Int) (w : World) (h : ¬ (48 ≤ c ∧ c ≤ 57)) : Calls Tryz.prog 107 #[.int .u8 c] w fun e w' => e = .returned (.bool false) ∧ w = w' := by
  by_cases h1 : 48 ≤ c
  · have h2 : 57 < c := by omega
    clear h
    go_enter Tryz.func107, Tryz.ntmps107
    go_wp2
    go_ret
    exact ⟨ret_bool (by simp; omega), rfl⟩
  · clear h
    go_enter Tryz.func107, Tryz.ntmps107
    go_wp2
    go_ret
    exact ⟨rfl, rfl⟩
theorem l01Small_yes (c : Int) (w : World) (h : 97 ≤ c ∧ c ≤ 122) : Calls Tryz.prog 71 #[.int .u8 c] w fun e w' => e = .returned (.bool true) ∧ w = w' := by
  obtain ⟨h1, h2⟩ := h
  go_enter Tryz.func71, Tryz.ntmps71
  go_wp2
  go_ret
  exact ⟨rfl, rfl⟩
theorem l01Small_no (c : Int) (w : World) (h : ¬ (97 ≤ c ∧ c ≤ 122)) : Calls Tryz.prog 71 #[.int .u8 c] w fun e w' => e = .returned (.bool false) ∧ w = w' := by
  by_cases h1 : 97 ≤ c
  · have h2 : 122 < c := by omega
    clear h
    go_enter Tryz.func71, Tryz.ntmps71
    go_wp2
    go_ret
    exact ⟨ret_bool (by simp; omega), rfl⟩
  · clear h
    go_enter Tryz.func71, Tryz.ntmps71
    go_wp2
    go_ret
    exact ⟨rfl, rfl⟩
theorem l01Digit_yes (c : Int) (w : World) (h : 48 ≤ c ∧ c ≤ 57) : Calls Tryz.prog 117 #[.int .u8 c] w fun e w' => e = .returned (.bool true) ∧ w = w' := by
  obtain ⟨h1, h2⟩ := h
  go_enter Tryz.func117, Tryz.ntmps117
  go_wp2
  go_ret
  exact ⟨rfl, rfl⟩
theorem l01Digit_no (c : Int) (w : World) (h : ¬ (48 ≤ c ∧ c ≤ 57)) : Calls Tryz.prog 117 #[.int .u8 c] w fun e w' => e = .returned (.bool false) ∧ w = w' := by
  by_cases h1 : 48 ≤ c
  · have h2 : 57 < c := by omega
    clear h
    go_enter Tryz.func117, Tryz.ntmps117
    go_wp2
    go_ret
    exact ⟨ret_bool (by simp; omega), rfl⟩
  · clear h
    go_enter Tryz.func117, Tryz.ntmps117
    go_wp2
    go_ret
    exact ⟨rfl, rfl⟩
theorem IsName_c (s : ByteArray) (w : World) (hs : s.size ≤ 9223372036854775807) : Calls Tryz.prog 78 #[.string s] w fun e w' => e = .returned (.bool (nameB s)) ∧ w = w' := by
  by_cases h1 : 1 ≤ s.size
  · have hl : (s.toList == []) = false := by rw [ByteArray.toList_eq]; cases hd : s.data.toList with | nil => (have h9 : s.data.toList.length = 0 := by rw [hd]; rfl); rw [Array.length_toList] at h9; exact absurd h9 (by show ¬ s.size = 0; omega) | cons a b => rfl
    have hl2 : ¬ s.toList = [] := by simpa using hl
    have hl3 : s.toList.isEmpty = false := by cases hd : s.toList with | nil => exact absurd hd hl2 | cons a b => rfl
    by_cases h2 : s.size ≤ 12
    · by_cases h3 : 97 ≤ (s[0].toNat : Int) ∧ (s[0].toNat : Int) ≤ 122
      · have H3 := Lib.hid h3
        clear h3
        go_enter Tryz.func78, Tryz.ntmps78
        go_wp2_with fail
        with_reducible refine (isSmall_yes _ _ H3.out).mono ?_
        rintro e w' ⟨rfl, rfl⟩
        go_wp2_with fail
        go_loop [3] (fun i => ∃ k : Nat, k ≤ s.size ∧ i = .int .i64 k ∧ Hid (((bytesI s).take k).all charB = true)) (fun i => s.size - (intOf i).toNat)
        case atStart => exact ⟨0, Nat.zero_le _, rfl, rfl⟩
        case round =>
          obtain ⟨k, hk, rfl, hp⟩ := hrel
          by_cases hkn : k < s.size
          · have Hc := Lib.hid (bytesI_at s k hkn)
            by_cases c1 : 97 ≤ (s[k].toNat : Int) ∧ (s[k].toNat : Int) ≤ 122
            · have C1 := Lib.hid c1
              clear c1
              go_wp2_with (go_at_call 68; refine (isSmall_yes _ _ C1.out).mono ?_; rintro e w' ⟨rfl, rfl⟩)
              go_round
              case rel => exact ⟨k + 1, by omega, by go_num, by show _ = true; rw [take_snoc Hc.out, List.all_append, hp.out]; simp [charB_of (.inl C1.out)]⟩
              case measure => simp [intOf]; omega
            · have C1 := Lib.hid c1
              clear c1
              by_cases c2 : 48 ≤ (s[k].toNat : Int) ∧ (s[k].toNat : Int) ≤ 57
              · have C2 := Lib.hid c2
                clear c2
                go_wp2_with (first | (go_at_call 68; refine (isSmall_no _ _ C1.out).mono ?_; rintro e w' ⟨rfl, rfl⟩) | (go_at_call 107; refine (isDigit_yes _ _ C2.out).mono ?_; rintro e w' ⟨rfl, rfl⟩))
                go_round
                case rel => exact ⟨k + 1, by omega, by go_num, by show _ = true; rw [take_snoc Hc.out, List.all_append, hp.out]; simp [charB_of (.inr (.inl C2.out))]⟩
                case measure => simp [intOf]; omega
              · have C2 := Lib.hid c2
                clear c2
                by_cases c3 : (s[k].toNat : Int) = 45
                · have C3 := Lib.hid c3
                  have hq : ((s[k].toNat : Int) != 45) = false := by simpa using c3
                  clear c3
                  go_wp2_with (first | (go_at_call 68; refine (isSmall_no _ _ C1.out).mono ?_; rintro e w' ⟨rfl, rfl⟩) | (go_at_call 107; refine (isDigit_no _ _ C2.out).mono ?_; rintro e w' ⟨rfl, rfl⟩))
                  go_round
                  case rel => exact ⟨k + 1, by omega, by go_num, by show _ = true; rw [take_snoc Hc.out, List.all_append, hp.out]; simp [charB_of (.inr (.inr C3.out))]⟩
                  case measure => simp [intOf]; omega
                · have C3 := Lib.hid c3
                  have hq : ((s[k].toNat : Int) != 45) = true := by simpa using c3
                  clear c3
                  go_wp2_with (first | (go_at_call 68; refine (isSmall_no _ _ C1.out).mono ?_; rintro e w' ⟨rfl, rfl⟩) | (go_at_call 107; refine (isDigit_no _ _ C2.out).mono ?_; rintro e w' ⟨rfl, rfl⟩))
                  go_ret
                  exact ⟨ret_bool (nameB_char hkn (charB_no C1.out C2.out C3.out)).symm, rfl⟩
          · go_wp2
            go_ret
            refine ⟨ret_bool (Eq.symm (nameB_all (by omega) (by omega) H3.out ?_)), rfl⟩
            have := hp.out
            rw [List.take_of_length_le (by rw [bytesI_length]; omega)] at this
            exact this
      · have H3 := Lib.hid h3
        clear h3
        go_enter Tryz.func78, Tryz.ntmps78
        go_wp2_with fail
        with_reducible refine (isSmall_no _ _ H3.out).mono ?_
        rintro e w' ⟨rfl, rfl⟩
        go_wp2_with fail
        go_ret
        exact ⟨ret_bool (nameB_first (by omega) H3.out).symm, rfl⟩
    · have H := Lib.hid (nameB_len (s := s) (fun h => h2 h.2))
      go_enter Tryz.func78, Tryz.ntmps78
      go_wp2_with fail
      go_ret
      exact ⟨ret_bool H.out.symm, rfl⟩
  · have H := Lib.hid (nameB_len (s := s) (fun h => h1 h.1))
    have hl : (s.toList == []) = true := by rw [ByteArray.toList_eq]; cases hd : s.data.toList with | nil => rfl | cons a b => (have := congrArg List.length hd; simp at this; omega)
    have hl2 : s.toList = [] := by simpa using hl
    go_enter Tryz.func78, Tryz.ntmps78
    go_wp2_with fail
    go_ret
    exact ⟨ret_bool H.out.symm, rfl⟩
theorem sIsName_c (s : ByteArray) (w : World) (hs : s.size ≤ 9223372036854775807) : Calls Tryz.prog 90 #[.string s] w fun e w' => e = .returned (.bool (nameB s)) ∧ w = w' := by
  by_cases h1 : 1 ≤ s.size
  · have hl : (s.toList == []) = false := by rw [ByteArray.toList_eq]; cases hd : s.data.toList with | nil => (have h9 : s.data.toList.length = 0 := by rw [hd]; rfl); rw [Array.length_toList] at h9; exact absurd h9 (by show ¬ s.size = 0; omega) | cons a b => rfl
    have hl2 : ¬ s.toList = [] := by simpa using hl
    have hl3 : s.toList.isEmpty = false := by cases hd : s.toList with | nil => exact absurd hd hl2 | cons a b => rfl
    by_cases h2 : s.size ≤ 12
    · by_cases h3 : 97 ≤ (s[0].toNat : Int) ∧ (s[0].toNat : Int) ≤ 122
      · have H3 := Lib.hid h3
        clear h3
        go_enter Tryz.func90, Tryz.ntmps90
        go_wp2_with fail
        with_reducible refine (l01Small_yes _ _ H3.out).mono ?_
        rintro e w' ⟨rfl, rfl⟩
        go_wp2_with fail
        go_loop [3] (fun i => ∃ k : Nat, k ≤ s.size ∧ i = .int .i64 k ∧ Hid (((bytesI s).take k).all charB = true)) (fun i => s.size - (intOf i).toNat)
        case atStart => exact ⟨0, Nat.zero_le _, rfl, rfl⟩
        case round =>
          obtain ⟨k, hk, rfl, hp⟩ := hrel
          by_cases hkn : k < s.size
          · have Hc := Lib.hid (bytesI_at s k hkn)
            by_cases c1 : 97 ≤ (s[k].toNat : Int) ∧ (s[k].toNat : Int) ≤ 122
            · have C1 := Lib.hid c1
              clear c1
              go_wp2_with (go_at_call 71; refine (l01Small_yes _ _ C1.out).mono ?_; rintro e w' ⟨rfl, rfl⟩)
              go_round
              case rel => exact ⟨k + 1, by omega, by go_num, by show _ = true; rw [take_snoc Hc.out, List.all_append, hp.out]; simp [charB_of (.inl C1.out)]⟩
              case measure => simp [intOf]; omega
            · have C1 := Lib.hid c1
              clear c1
              by_cases c2 : 48 ≤ (s[k].toNat : Int) ∧ (s[k].toNat : Int) ≤ 57
              · have C2 := Lib.hid c2
                clear c2
                go_wp2_with (first | (go_at_call 71; refine (l01Small_no _ _ C1.out).mono ?_; rintro e w' ⟨rfl, rfl⟩) | (go_at_call 117; refine (l01Digit_yes _ _ C2.out).mono ?_; rintro e w' ⟨rfl, rfl⟩))
                go_round
                case rel => exact ⟨k + 1, by omega, by go_num, by show _ = true; rw [take_snoc Hc.out, List.all_append, hp.out]; simp [charB_of (.inr (.inl C2.out))]⟩
                case measure => simp [intOf]; omega
              · have C2 := Lib.hid c2
                clear c2
                by_cases c3 : (s[k].toNat : Int) = 45
                · have C3 := Lib.hid c3
                  have hq : ((s[k].toNat : Int) != 45) = false := by simpa using c3
                  clear c3
                  go_wp2_with (first | (go_at_call 71; refine (l01Small_no _ _ C1.out).mono ?_; rintro e w' ⟨rfl, rfl⟩) | (go_at_call 117; refine (l01Digit_no _ _ C2.out).mono ?_; rintro e w' ⟨rfl, rfl⟩))
                  go_round
                  case rel => exact ⟨k + 1, by omega, by go_num, by show _ = true; rw [take_snoc Hc.out, List.all_append, hp.out]; simp [charB_of (.inr (.inr C3.out))]⟩
                  case measure => simp [intOf]; omega
                · have C3 := Lib.hid c3
                  have hq : ((s[k].toNat : Int) != 45) = true := by simpa using c3
                  clear c3
                  go_wp2_with (first | (go_at_call 71; refine (l01Small_no _ _ C1.out).mono ?_; rintro e w' ⟨rfl, rfl⟩) | (go_at_call 117; refine (l01Digit_no _ _ C2.out).mono ?_; rintro e w' ⟨rfl, rfl⟩))
                  go_ret
                  exact ⟨ret_bool (nameB_char hkn (charB_no C1.out C2.out C3.out)).symm, rfl⟩
          · go_wp2
            go_ret
            refine ⟨ret_bool (Eq.symm (nameB_all (by omega) (by omega) H3.out ?_)), rfl⟩
            have := hp.out
            rw [List.take_of_length_le (by rw [bytesI_length]; omega)] at this
            exact this
      · have H3 := Lib.hid h3
        clear h3
        go_enter Tryz.func90, Tryz.ntmps90
        go_wp2_with fail
        with_reducible refine (l01Small_no _ _ H3.out).mono ?_
        rintro e w' ⟨rfl, rfl⟩
        go_wp2_with fail
        go_ret
        exact ⟨ret_bool (nameB_first (by omega) H3.out).symm, rfl⟩
    · have H := Lib.hid (nameB_len (s := s) (fun h => h2 h.2))
      go_enter Tryz.func90, Tryz.ntmps90
      go_wp2_with fail
      go_ret
      exact ⟨ret_bool H.out.symm, rfl⟩
  · have H := Lib.hid (nameB_len (s := s) (fun h => h1 h.1))
    have hl : (s.toList == []) = true := by rw [ByteArray.toList_eq]; cases hd : s.data.toList with | nil => rfl | cons a b => (have := congrArg List.length hd; simp at this; omega)
    have hl2 : s.toList = [] := by simpa using hl
    go_enter Tryz.func90, Tryz.ntmps90
    go_wp2_with fail
    go_ret
    exact ⟨ret_bool H.out.symm, rfl⟩
end Go.Proofs.YtkpcdnbjngpooaaGreatDoor
namespace Go.Proofs.YtkpcdnbjngpooaaGreatDoor
open Go.ChangeShapes Go.WideShapes Go.ChangeAt Go.RowKit
set_option linter.unusedVariables false
set_option maxRecDepth 100000
abbrev fieldP (f t w : Int) : Prop := 0 ≤ f ∧ f < t ∧ t ≤ w
theorem txt_empty {s : ByteArray} (h : s.size = 0) : s.toList.isEmpty = true := by
  rw [ByteArray.toList_eq]
  have h9 : s.data.toList.length = 0 := by rw [Array.length_toList]; exact h
  rw [List.eq_nil_of_length_eq_zero h9]; rfl
theorem txt_full {s : ByteArray} (h : ¬ s.size = 0) : s.toList.isEmpty = false := by
  rw [ByteArray.toList_eq]
  cases hd : s.data.toList with
  | nil => exact absurd (by have h9 : s.data.toList.length = 0 := by rw [hd]; rfl
                            rw [Array.length_toList] at h9; exact h9) h
  | cons a b => rfl
theorem isField_c (f t c : Int) (w : World) (hc : 0 ≤ c ∧ c ≤ 1000) : Calls Tryz.prog 128 #[.agg #[.int .i64 f, .int .i64 t], .int .i64 c] w fun e w' => e = .returned (.bool (decide (fieldP f t c))) ∧ Below w.heap.size w w' := by
  obtain ⟨p, hp⟩ : ∃ p, p = decide (fieldP f t c) := ⟨_, rfl⟩
  rw [← hp]
  have Hp := Lib.hid hp
  clear hp
  by_cases h1 : 0 ≤ f
  · by_cases h2 : f < t
    · by_cases h3 : t ≤ c
      · go_enter Tryz.func128, Tryz.ntmps128
        go_wp2
        go_ret
        exact ⟨ret_bool (by rw [Hp.out]; exact (decide_eq_true ⟨h1, h2, h3⟩).symm), (Below.refl _ _).alloc (Nat.le_refl _) _⟩
      · go_enter Tryz.func128, Tryz.ntmps128
        go_wp2
        go_ret
        exact ⟨ret_bool (by rw [Hp.out]; exact (decide_eq_false fun ⟨_, _, q⟩ => by omega).symm), (Below.refl _ _).alloc (Nat.le_refl _) _⟩
    · go_enter Tryz.func128, Tryz.ntmps128
      go_wp2
      go_ret
      exact ⟨ret_bool (by rw [Hp.out]; exact (decide_eq_false fun ⟨_, q, _⟩ => by omega).symm), (Below.refl _ _).alloc (Nat.le_refl _) _⟩
  · go_enter Tryz.func128, Tryz.ntmps128
    go_wp2
    go_ret
    exact ⟨ret_bool (by rw [Hp.out]; exact (decide_eq_false fun ⟨q, _, _⟩ => by omega).symm), (Below.refl _ _).alloc (Nat.le_refl _) _⟩
theorem l02Field_c (f t c : Int) (w : World) (hc : 0 ≤ c ∧ c ≤ 1000) : Calls Tryz.prog 129 #[.agg #[.int .i64 f, .int .i64 t], .int .i64 c] w fun e w' => e = .returned (.bool (decide (fieldP f t c))) ∧ Below w.heap.size w w' := by
  obtain ⟨p, hp⟩ : ∃ p, p = decide (fieldP f t c) := ⟨_, rfl⟩
  rw [← hp]
  have Hp := Lib.hid hp
  clear hp
  by_cases h1 : 0 ≤ f
  · by_cases h2 : f < t
    · by_cases h3 : t ≤ c
      · go_enter Tryz.func129, Tryz.ntmps129
        go_wp2
        go_ret
        exact ⟨ret_bool (by rw [Hp.out]; exact (decide_eq_true ⟨h1, h2, h3⟩).symm), (Below.refl _ _).alloc (Nat.le_refl _) _⟩
      · go_enter Tryz.func129, Tryz.ntmps129
        go_wp2
        go_ret
        exact ⟨ret_bool (by rw [Hp.out]; exact (decide_eq_false fun ⟨_, _, q⟩ => by omega).symm), (Below.refl _ _).alloc (Nat.le_refl _) _⟩
    · go_enter Tryz.func129, Tryz.ntmps129
      go_wp2
      go_ret
      exact ⟨ret_bool (by rw [Hp.out]; exact (decide_eq_false fun ⟨_, q, _⟩ => by omega).symm), (Below.refl _ _).alloc (Nat.le_refl _) _⟩
  · go_enter Tryz.func129, Tryz.ntmps129
    go_wp2
    go_ret
    exact ⟨ret_bool (by rw [Hp.out]; exact (decide_eq_false fun ⟨q, _, _⟩ => by omega).symm), (Below.refl _ _).alloc (Nat.le_refl _) _⟩
end Go.Proofs.YtkpcdnbjngpooaaGreatDoor
namespace Go.Proofs.YtkpcdnbjngpooaaGreatDoor
open Go.ChangeShapes Go.WideShapes Go.ChangeAt Go.RowKit
set_option linter.unusedVariables false
set_option maxRecDepth 100000
/-- the numbers below k that are chosen -/
def selI (p : Int → Bool) : Nat → List Int
  | 0 => []
  | k + 1 => selI p k ++ (if p (k : Int) = true then [(k : Int)] else [])
theorem selI_succ (p : Int → Bool) (k : Nat) : selI p (k + 1) = selI p k ++ (if p (k : Int) = true then [(k : Int)] else []) := rfl
theorem selI_len (p : Int → Bool) (k : Nat) : (selI p k).length ≤ k := by
  induction k with
  | zero => exact Nat.le_refl _
  | succ k ih => rw [selI_succ, List.length_append]; split <;> simp <;> omega
def atI (xs : List Int) (k : Nat) : Int := xs.getD k 0
theorem atI_of {xs : List Int} {k : Nat} {x : Int} (h : xs[k]? = some x) : atI xs k = x := by unfold atI; rw [List.getD_eq_getElem?_getD, h]; rfl
/-- the rest of a slice -/
theorem Rds.dropI {w : World} {B b off n cap k : Nat} {xs : List Int} (h : RdI B w (.slice (some ⟨b, off, none⟩) n cap) xs) (hk : k ≤ n) (hn : 0 < n) :
    RdI B w (.slice (some ⟨b, off + k, none⟩) (n - k) (cap - k)) (xs.drop k) := by
  have hc := Rds.cap h
  have hcap := hc.2.2 hn
  rcases Nat.lt_or_ge k n with hlt | hge
  · have h1 := Rds.sub (lo := k) (hi := n) (cap' := cap - k) h (by omega) hlt ⟨by omega, by omega⟩
    rw [show k * eI.sz = k from Nat.mul_one k] at h1
    rw [List.take_of_length_le (by omega)] at h1
    exact h1
  · have hd : xs.drop k = [] := List.drop_of_length_le (by omega)
    rw [hd]
    refine ⟨⟨by simp [Elt.all], by simp, .inl ⟨rfl, some ⟨b, off + k, none⟩, cap - k, ?_, fun hh => by cases hh⟩⟩, fun x hx => by cases hx⟩
    rw [show n - k = 0 by omega]
theorem Rds.drop0 {w : World} {B b off n cap k : Nat} {xs : List Int} (h : RdI B w (.slice (some ⟨b, off, none⟩) n cap) xs) (hk : n ≤ k) :
    RdI B w (.slice (some ⟨b, off, none⟩) (n - k) 0) (xs.drop k) := by
  have hc := Rds.cap h
  have hd : xs.drop k = [] := List.drop_of_length_le (by omega)
  rw [hd]
  refine ⟨⟨by simp [Elt.all], by simp, .inl ⟨rfl, some ⟨b, off, none⟩, 0, ?_, fun hh => by cases hh⟩⟩, fun x hx => by cases hx⟩
  rw [show n - k = 0 by omega]
def hasI (xs : List Int) (x : Int) : Bool := xs.contains x
theorem hasI_take {xs : List Int} {k : Nat} {x y : Int} (hx : xs[k]? = some x) (h : hasI (xs.take k) y = false) : hasI (xs.take (k + 1)) y = (x == y) := by
  unfold hasI at *
  rw [take_snoc hx, List.contains_eq_any_beq, List.any_append, ← List.contains_eq_any_beq, h]
  simp
  rw [Bool.eq_iff_iff, beq_iff_eq, beq_iff_eq]
  exact eq_comm
theorem hasI_mem {xs : List Int} {k : Nat} {x : Int} (hx : xs[k]? = some x) : hasI xs x = true := by
  unfold hasI
  have := List.mem_of_getElem? hx
  simpa using this
theorem copyInts_c {xs : List Int} {v : Value} {w : World} {A : Nat} (ha : RdI A w v xs) (hl : xs.length ≤ 2097152) :
    Calls Tryz.prog 85 #[v] w fun e w' => ∃ u, e = .returned u ∧ OwnInt64S w.heap.size w' u xs ∧ Below w.heap.size w w' := by
  obtain ⟨i0, hi, hz0, hz1, hz2⟩ := info_parts Tryz.infoInt64
  have h0 : OwnInt64S w.heap.size (w.alloc (.cells #[] 2)) (.slice (some ⟨w.heap.size, 0, none⟩) 0 0) [] := Own.lit (E := eI) (xs := []) (cs := #[]) (Nat.le_refl _) rfl rfl (by decide) (fun x hx => by cases hx)
  have hb0 : Below w.heap.size w (w.alloc (.cells #[] 2)) := (Below.refl _ _).alloc (Nat.le_refl _) _
  have hr : RdI (w.heap.size + 1) (w.alloc (.cells #[] 2)) v xs := by have := Rds.onn ha hb0; simpa using this
  have H0 := Lib.hid h0
  have Hb0 := Lib.hid hb0
  have Hr := Lib.hid hr
  have Hl := Lib.hid hl
  clear h0 hb0 hr ha hl
  go_enter Tryz.func85, Tryz.ntmps85
  go_wp2_with (first | (at_builtin; refine wpList_appS (E := eI) rfl _ _ 34 rfl Tryz.underlying34 hi hz0 hz1 hz2 rfl (by decide) rfl rfl H0.out Hr.out ?b1 ?b2 ?b3 ?_))
  case b1 => have := Hl.out; unfold maxLen; simp; omega
  case b2 => have := Hl.out; simp; omega
  case b3 => simp
  intro v' w2 hR2 hg
  have hb2 := hg.below Hb0.out (by simp) (fun q hq => (H0.out.lt q hq).1)
  clear hg
  have hR3 : OwnInt64S w.heap.size w2 v' xs := hR2
  clear hR2
  have HR3 := Lib.hid hR3
  clear hR3
  go_wp2
  go_ret
  exact ⟨_, rfl, HR3.out, hb2⟩
end Go.Proofs.YtkpcdnbjngpooaaGreatDoor
namespace Go.Proofs.YtkpcdnbjngpooaaGreatDoor
open Go.ChangeShapes Go.WideShapes Go.ChangeAt Go.RowKit
set_option linter.unusedVariables false
set_option maxRecDepth 100000
structure WorkerT where
  nm : ByteArray
  rate : Int
  tax : Int
abbrev vWorker (x : WorkerT) : Value := .agg #[.string x.nm, .int .i64 x.rate, .int .i64 x.tax]
abbrev lWorker (x : WorkerT) : Value := .agg #[.string x.nm, .int .i64 x.rate, .int .i64 x.tax]
def okWorker (x : WorkerT) : Prop := x.nm.size ≤ 9223372036854775807 ∧ (-9223372036854775808 ≤ x.rate ∧ x.rate ≤ 9223372036854775807) ∧ (-9223372036854775808 ≤ x.tax ∧ x.tax ≤ 9223372036854775807)
def eWorker : Elt WorkerT := { sz := 3, cells := fun x => [.string x.nm, .int .i64 x.rate, .int .i64 x.tax], ok := okWorker, len := fun _ => rfl, one := fun x u hu => by simp at hu; rcases hu with rfl | rfl | rfl <;> rfl }
def zWorker : WorkerT := ⟨⟨#[]⟩, 0, 0⟩
theorem ok_zWorker : okWorker zWorker := by unfold okWorker zWorker; exact ⟨Nat.zero_le _, ⟨by decide, by decide⟩, ⟨by decide, by decide⟩⟩
abbrev RdWorkerS (B : Nat) (w : World) (v : Value) (x : List WorkerT) : Prop := Rds eWorker B w v x
abbrev OwnWorkerS (base : Nat) (w : World) (v : Value) (x : List WorkerT) : Prop := Own eWorker 49 base w v x
abbrev OwnTWorkerS (base top : Nat) (w : World) (v : Value) (x : List WorkerT) : Prop := OwnT eWorker 49 base top w v x
def szWorker (x : WorkerT) : Int := (x.nm.size : Int)
theorem szWorker_nonneg (x : WorkerT) : 0 ≤ szWorker x := by unfold szWorker; omega
def szWorkerS (x : List WorkerT) : Int := x.length + sumBy szWorker x
theorem szWorkerS_nonneg (x : List WorkerT) : 0 ≤ szWorkerS x := by unfold szWorkerS; have := sumBy_nonneg szWorker_nonneg x; omega
def cntWorkerS (x : List WorkerT) : Nat := 3 * x.length
theorem cntWorkerS_le (x : List WorkerT) : (cntWorkerS x : Int) ≤ 16 * szWorkerS x := by unfold szWorkerS cntWorkerS; have := sumBy_nonneg szWorker_nonneg x; omega
theorem szWorkerS_len (x : List WorkerT) : (x.length : Int) ≤ szWorkerS x := by unfold szWorkerS; have := sumBy_nonneg szWorker_nonneg x; omega
theorem eWorker_open {w : World} {B : Nat} {v : Value} {xs : List WorkerT} (h : Rds eWorker B w v xs) : ∃ ao cap, v = .slice ao xs.length cap ∧
    (0 < xs.length → ∃ b off, ao = some ⟨b, off, none⟩ ∧ (b < B ∧ b < w.heap.size) ∧ ∀ k, k < xs.length → ∃ x, xs[k]? = some x ∧ (w.cell? ⟨b, off + k * 3, none⟩ = some (.string x.nm) ∧ w.cell? ⟨b, off + k * 3 + 1, none⟩ = some (.int .i64 x.rate) ∧ w.cell? ⟨b, off + k * 3 + 2, none⟩ = some (.int .i64 x.tax)) ∧ okWorker x) := by
  rcases Rds.cases h with ⟨rfl, ao, cap, rfl, _⟩ | ⟨b, off, cap, rfl, hlt, hc⟩
  · exact ⟨ao, cap, rfl, fun h => absurd h (by simp)⟩
  · refine ⟨_, cap, rfl, fun _ => ⟨b, off, rfl, hlt, fun k hk => ?_⟩⟩
    obtain ⟨h1, h2⟩ := hc k xs[k] (by simp [hk])
    refine ⟨xs[k], by simp [hk], ⟨?_, ?_, ?_⟩, h1⟩
    · exact h2 0 (by decide)
    · have := h2 1 (by decide); rw [← Nat.add_assoc] at this; exact this
    · have := h2 2 (by decide); rw [← Nat.add_assoc] at this; exact this
end Go.Proofs.YtkpcdnbjngpooaaGreatDoor
namespace Go.Proofs.YtkpcdnbjngpooaaGreatDoor
open Go.ChangeShapes Go.WideShapes Go.ChangeAt Go.RowKit
set_option linter.unusedVariables false
set_option maxRecDepth 100000
def validW (x : WorkerT) : Bool := nameB x.nm && (decide (1 ≤ x.rate ∧ x.rate ≤ 10000) && decide (0 ≤ x.tax ∧ x.tax ≤ 60))
def eqNm (x : WorkerT) (y : WorkerT) : Bool := y.nm.toList == x.nm.toList
def goodAt (xs : List WorkerT) (j : Nat) : Bool := match xs[j]? with
  | some x => validW x && !((xs.take j).any (eqNm x))
  | none => true
def validWs (xs : List WorkerT) : Bool := (List.range xs.length).all (goodAt xs) && decide (xs.length ≤ 30)
theorem goodAt_of {xs : List WorkerT} {j : Nat} {x : WorkerT} (h : xs[j]? = some x) : goodAt xs j = (validW x && !((xs.take j).any (eqNm x))) := by unfold goodAt; rw [h]
theorem validWs_no {xs : List WorkerT} {j : Nat} (hj : j < xs.length) (h : goodAt xs j = false) : validWs xs = false := by
  unfold validWs
  have : (List.range xs.length).all (goodAt xs) = false := by
    rw [List.all_eq_false]; exact ⟨j, List.mem_range.2 hj, by rw [h]; decide⟩
  rw [this]; rfl
theorem validWs_end {xs : List WorkerT} (h : ∀ j, j < xs.length → goodAt xs j = true) : validWs xs = decide (xs.length ≤ 30) := by
  unfold validWs
  have : (List.range xs.length).all (goodAt xs) = true := by
    rw [List.all_eq_true]; exact fun j hj => h j (List.mem_range.1 hj)
  rw [this]; rfl
theorem isRate_any (n : Int) (w : World) : Calls Tryz.prog 79 #[.int .i64 n] w fun e w' => e = .returned (.bool (decide (1 ≤ n ∧ n ≤ 10000))) ∧ w = w' := by
  go_enter Tryz.func79, Tryz.ntmps79
  go_wp2_with fail
  with_reducible refine (inside_any n 1 10000 w).mono ?_
  rintro e w' ⟨rfl, rfl⟩
  go_wp2
  go_ret
  exact ⟨ret_bool (by simp), rfl⟩
theorem isWorker_c (x : WorkerT) (w : World) (a : okWorker x) : Calls Tryz.prog 47 #[vWorker x] w fun e w' => e = .returned (.bool (validW x)) ∧ Below w.heap.size w w' := by
  have hs : x.nm.size ≤ 9223372036854775807 := a.1
  cases h1 : nameB x.nm with
  | false =>
    have H : validW x = false := by unfold validW; rw [h1]; rfl
    rw [H]
    have H1 := Lib.hid h1
    clear a h1 H
    go_enter Tryz.func47, Tryz.ntmps47
    go_wp2_with fail
    with_reducible refine (IsName_c x.nm _ hs).mono ?_
    rw [H1.out]
    rintro e w' ⟨rfl, rfl⟩
    go_wp2
    go_ret
    exact ⟨rfl, (Below.refl _ _).alloc (Nat.le_refl _) _⟩
  | true =>
    have H : validW x = (decide (1 ≤ x.rate ∧ x.rate ≤ 10000) && decide (0 ≤ x.tax ∧ x.tax ≤ 60)) := by unfold validW; rw [h1]; rfl
    rw [H]
    have H1 := Lib.hid h1
    clear a h1 H
    by_cases h2 : 1 ≤ x.rate ∧ x.rate ≤ 10000
    · rw [decide_eq_true h2]
      have H2 := Lib.hid h2
      clear h2
      go_enter Tryz.func47, Tryz.ntmps47
      go_wp2_with fail
      with_reducible refine (IsName_c x.nm _ hs).mono ?_
      rw [H1.out]
      rintro e w' ⟨rfl, rfl⟩
      go_wp2_with fail
      with_reducible refine (isRate_any x.rate _).mono ?_
      rw [decide_eq_true H2.out]
      rintro e w' ⟨rfl, rfl⟩
      go_wp2_with fail
      with_reducible refine (inside_any x.tax 0 60 _).mono ?_
      rintro e w' ⟨rfl, rfl⟩
      go_wp2
      go_ret
      exact ⟨ret_bool (by simp), (Below.refl _ _).alloc (Nat.le_refl _) _⟩
    · rw [decide_eq_false h2]
      have H2 := Lib.hid h2
      clear h2
      go_enter Tryz.func47, Tryz.ntmps47
      go_wp2_with fail
      with_reducible refine (IsName_c x.nm _ hs).mono ?_
      rw [H1.out]
      rintro e w' ⟨rfl, rfl⟩
      go_wp2_with fail
      with_reducible refine (isRate_any x.rate _).mono ?_
      rw [decide_eq_false H2.out]
      rintro e w' ⟨rfl, rfl⟩
      go_wp2
      go_ret
      exact ⟨rfl, (Below.refl _ _).alloc (Nat.le_refl _) _⟩
/-- the reference's, at a worker in memory -/
theorem l23One_c (x : WorkerT) (w : World) (a : okWorker x) {b off : Nat} (c0 : w.cell? ⟨b, off, none⟩ = some (.string x.nm)) (c1 : w.cell? ⟨b, off + 1, none⟩ = some (.int .i64 x.rate)) (c2 : w.cell? ⟨b, off + 2, none⟩ = some (.int .i64 x.tax)) :
    Calls Tryz.prog 56 #[.pointer (some ⟨b, off, none⟩)] w fun e w' => e = .returned (.bool (validW x)) ∧ w = w' := by
  have hs : x.nm.size ≤ 9223372036854775807 := a.1
  cases h1 : nameB x.nm with
  | false =>
    have H : validW x = false := by unfold validW; rw [h1]; rfl
    rw [H]
    have H1 := Lib.hid h1
    clear a h1 H
    go_enter Tryz.func56, Tryz.ntmps56
    go_wp2_with fail
    with_reducible refine (sIsName_c x.nm _ hs).mono ?_
    rw [H1.out]
    rintro e w' ⟨rfl, rfl⟩
    go_wp2
    go_ret
    exact ⟨rfl, rfl⟩
  | true =>
    have H : validW x = (decide (1 ≤ x.rate ∧ x.rate ≤ 10000) && decide (0 ≤ x.tax ∧ x.tax ≤ 60)) := by unfold validW; rw [h1]; rfl
    rw [H]
    have H1 := Lib.hid h1
    clear a h1 H
    by_cases h2 : 1 ≤ x.rate ∧ x.rate ≤ 10000
    · rw [decide_eq_true h2]
      have H2 := Lib.hid h2
      clear h2
      go_enter Tryz.func56, Tryz.ntmps56
      go_wp2_with fail
      with_reducible refine (sIsName_c x.nm _ hs).mono ?_
      rw [H1.out]
      rintro e w' ⟨rfl, rfl⟩
      go_wp2_with fail
      with_reducible refine (l00In_any x.rate 1 10000 _).mono ?_
      rw [decide_eq_true H2.out]
      rintro e w' ⟨rfl, rfl⟩
      go_wp2_with fail
      with_reducible refine (l00In_any x.tax 0 60 _).mono ?_
      rintro e w' ⟨rfl, rfl⟩
      go_wp2
      go_ret
      exact ⟨ret_bool (by simp), rfl⟩
    · rw [decide_eq_false h2]
      have H2 := Lib.hid h2
      clear h2
      go_enter Tryz.func56, Tryz.ntmps56
      go_wp2_with fail
      with_reducible refine (sIsName_c x.nm _ hs).mono ?_
      rw [H1.out]
      rintro e w' ⟨rfl, rfl⟩
      go_wp2_with fail
      with_reducible refine (l00In_any x.rate 1 10000 _).mono ?_
      rw [decide_eq_false H2.out]
      rintro e w' ⟨rfl, rfl⟩
      go_wp2
      go_ret
      exact ⟨rfl, rfl⟩
end Go.Proofs.YtkpcdnbjngpooaaGreatDoor
namespace Go.Proofs.YtkpcdnbjngpooaaGreatDoor
open Go.ChangeShapes Go.WideShapes Go.ChangeAt Go.RowKit
set_option linter.unusedVariables false
set_option maxRecDepth 100000
theorem clo_Worker (x y : WorkerT) (w : World) {c : Nat} (hc : w.cell? ⟨c, 0, none⟩ = some (.string x.nm)) (hlt : c < w.heap.size) :
    Calls Tryz.prog 48 #[vWorker y, .pointer (some ⟨c, 0, none⟩)] w fun e w' => e = .returned (.bool (eqNm x y)) ∧ Below w.heap.size w w' := by
  have hne : c ≠ w.heap.size := by omega
  unfold eqNm
  go_enter Tryz.func48, Tryz.ntmps48
  go_wp2
  go_ret
  exact ⟨ret_bool (by simp), (Below.refl _ _).alloc (Nat.le_refl _) _⟩
theorem indexWorker_c {xs : List WorkerT} {v : Value} {w : World} {A : Nat} (x : WorkerT) {c : Nat} (hcc : w.cell? ⟨c, 0, none⟩ = some (.string x.nm)) (hlc : c < w.heap.size) (ha : RdWorkerS A w v xs) :
    Calls Tryz.prog 67 #[v, .func (.func 48) #[] #[.pointer (some ⟨c, 0, none⟩)]] w fun e w' => (∃ r : Int, e = .returned (.int .i64 r) ∧ -1 ≤ r ∧ (0 ≤ r ↔ xs.any (eqNm x) = true)) ∧ Below w.heap.size w w' := by
  have hle := ha.le
  obtain ⟨ao, cap, rfl, ho⟩ := eWorker_open ha
  obtain ⟨n, hn⟩ : ∃ n, n = xs.length := ⟨_, rfl⟩
  rw [← hn]
  have Hn := Lib.hid hn
  have Ho := Lib.hid ho
  have Hcc := Lib.hid hcc
  have hle' : n ≤ 9223372036854775807 := by omega
  clear ho hn hle ha hcc
  go_enter Tryz.func67, Tryz.ntmps67
  go_wp2
  go_loopw [8] (fun i wr => ∃ k : Nat, k ≤ n ∧ i = .int .i64 k ∧ Hid ((xs.take k).any (eqNm x) = false) ∧ Below w.heap.size w wr) (fun i _ => n - (intOf i).toNat)
  case atStart => exact ⟨0, Nat.zero_le _, rfl, rfl, Below.refl _ _⟩
  case round =>
    obtain ⟨k, hk, rfl, hp, hbb⟩ := hrel
    by_cases hkn : k < n
    · obtain ⟨b, off, rfl, hlt, hc⟩ := Ho.out (by have := Hn.out; omega)
      obtain ⟨y, hy, ⟨c0, c1, c2⟩, bx⟩ := hc k (by have := Hn.out; omega)
      have Hy := Lib.hid hy
      have d0 := (hbb.cell (p := ⟨b, off + k * 3, none⟩) hlt.2).trans c0
      have d1 := (hbb.cell (p := ⟨b, off + k * 3 + 1, none⟩) hlt.2).trans c1
      have d2 := (hbb.cell (p := ⟨b, off + k * 3 + 2, none⟩) hlt.2).trans c2
      have hcw := (hbb.cell (p := ⟨c, 0, none⟩) hlc).trans Hcc.out
      have hlw : c < wr.heap.size := by have := hbb.size; omega
      have Hcw := Lib.hid hcw
      clear hy hc bx c0 c1 c2 hcw
      go_wp2_with fail
      with_reducible refine (clo_Worker x y wr Hcw.out hlw).mono ?_
      cases hq : eqNm x y with
      | true =>
        have Hq := Lib.hid hq
        clear hq
        rintro e w1 ⟨rfl, hb1⟩
        have hb2 := hbb.trans (hb1.mono hbb.size)
        go_wp2
        go_ret
        refine ⟨⟨_, rfl, by omega, ?_⟩, hb2⟩
        have : xs.any (eqNm x) = true := List.any_eq_true.2 ⟨y, List.mem_of_getElem? Hy.out, Hq.out⟩
        simp [this]
      | false =>
        have Hq := Lib.hid hq
        clear hq
        rintro e w1 ⟨rfl, hb1⟩
        have hb2 := hbb.trans (hb1.mono hbb.size)
        clear d0 d1 d2 hb1 hbb
        go_wp2
        go_roundw
        case rel => exact ⟨k + 1, by omega, by go_num, by show _ = false; rw [take_snoc Hy.out, List.any_append, hp.out]; simp [Hq.out], hb2⟩
        case measure => simp [intOf]; omega
    · go_wp2
      go_ret
      refine ⟨⟨_, rfl, by omega, ?_⟩, hbb⟩
      have hq := hp.out
      rw [List.take_of_length_le (by have := Hn.out; omega)] at hq
      exact any_endT hq
theorem containsWorker_c {xs : List WorkerT} {v : Value} {w : World} {A : Nat} (x : WorkerT) {c : Nat} (hcc : w.cell? ⟨c, 0, none⟩ = some (.string x.nm)) (hlc : c < w.heap.size) (ha : RdWorkerS A w v xs) :
    Calls Tryz.prog 34 #[v, .func (.func 48) #[] #[.pointer (some ⟨c, 0, none⟩)]] w fun e w' => e = .returned (.bool (xs.any (eqNm x))) ∧ Below w.heap.size w w' := by
  have Ha := Lib.hid ha
  have Hcc := Lib.hid hcc
  obtain ⟨ao, cap, rfl⟩ := ha.shape
  clear ha hcc
  go_enter Tryz.func34, Tryz.ntmps34
  go_wp2_with fail
  with_reducible refine (indexWorker_c x Hcc.out hlc Ha.out).mono ?_
  rintro e w' ⟨⟨r, rfl, hr, hi⟩, hb⟩
  have Hi := Lib.hid hi
  clear hi
  go_wp2
  go_ret
  refine ⟨ret_bool ?_, hb⟩
  rw [Bool.eq_iff_iff, decide_eq_true_iff]
  exact Hi.out
theorem ValidWorkers_c {xs : List WorkerT} {v : Value} {w : World} {A : Nat} (ha : RdWorkerS A w v xs) :
    Calls Tryz.prog 17 #[v] w fun e w' => e = .returned (.bool (validWs xs)) ∧ Below w.heap.size w w' := by
  have hle := ha.le
  have Ha := Lib.hid ha
  obtain ⟨ao, cap, rfl, ho⟩ := eWorker_open ha
  have hcap := ha.cap
  obtain ⟨n, hn⟩ : ∃ n, n = xs.length := ⟨_, rfl⟩
  rw [← hn] at Ha ⊢
  have Hn := Lib.hid hn
  have Ho := Lib.hid ho
  have hle' : n ≤ 9223372036854775807 := by omega
  have hcp : n ≤ cap ∧ (0 < n → cap ≤ 9223372036854775807) := ⟨by omega, fun h => hcap.2.2 (by omega)⟩
  obtain ⟨hcp1, hcp2⟩ := hcp
  have Hcp2 := Lib.hid hcp2
  clear ho hn hle ha hcap hcp2
  go_enter Tryz.func17, Tryz.ntmps17
  go_wp2
  go_loopw [7] (fun i wr => ∃ k : Nat, k ≤ n ∧ i = .int .i64 k ∧ Hid (∀ j, j < k → goodAt xs j = true) ∧ Below w.heap.size w wr) (fun i _ => n - (intOf i).toNat)
  case atStart => exact ⟨0, Nat.zero_le _, rfl, fun j h => by omega, Below.refl _ _⟩
  case round =>
    obtain ⟨k, hk, rfl, hp, hbb⟩ := hrel
    by_cases hkn : k < n
    · obtain ⟨b, off, rfl, hlt, hc⟩ := Ho.out (by have := Hn.out; omega)
      obtain ⟨x, hx, ⟨c0, c1, c2⟩, bx⟩ := hc k (by have := Hn.out; omega)
      have Hx := Lib.hid hx
      have Hbx := Lib.hid bx
      have d0 := (hbb.cell (p := ⟨b, off + k * 3, none⟩) hlt.2).trans c0
      have d1 := (hbb.cell (p := ⟨b, off + k * 3 + 1, none⟩) hlt.2).trans c1
      have d2 := (hbb.cell (p := ⟨b, off + k * 3 + 2, none⟩) hlt.2).trans c2
      have hcap := Hcp2.out (by omega)
      clear hx hc bx c0 c1 c2
      have Hcl := Lib.hid (⟨by simp, by simp [World.cell?_alloc_new]⟩ : (wr.heap.size < (wr.alloc (.cells #[.string x.nm, .int .i64 x.rate, .int .i64 x.tax] 49)).heap.size) ∧ (wr.alloc (.cells #[.string x.nm, .int .i64 x.rate, .int .i64 x.tax] 49)).cell? ⟨wr.heap.size, 0, none⟩ = some (.string x.nm))
      go_wp2_with fail
      with_reducible refine (isWorker_c x _ Hbx.out).mono ?_
      cases hv : validW x with
      | false =>
        have Hv := Lib.hid hv
        clear hv
        rintro e w1 ⟨rfl, hb1⟩
        have hb2 : Below w.heap.size w w1 := (hbb.alloc hbb.size _).trans (hb1.mono (by simp; have := hbb.size; omega))
        clear d0 d1 d2 hb1 hbb
        go_wp2
        go_ret
        exact ⟨ret_bool (validWs_no (j := k) (by have := Hn.out; omega) (by rw [goodAt_of Hx.out, Hv.out]; rfl)).symm, hb2⟩
      | true =>
        have Hv := Lib.hid hv
        clear hv
        rintro e w1 ⟨rfl, hb1⟩
        have hb2 : Below w.heap.size w w1 := (hbb.alloc hbb.size _).trans (hb1.mono (by simp; have := hbb.size; omega))
        have ht := (Ha.out.tight.below hb2 (Nat.le_refl _)).takeN hk
        have hcw := (hb1.cell (p := ⟨wr.heap.size, 0, none⟩) (by have := Hcl.out.1; simp)).trans Hcl.out.2
        have hlw : wr.heap.size < w1.heap.size := Nat.lt_of_lt_of_le Hcl.out.1 hb1.size
        have Ht := Lib.hid ht
        have Hcw := Lib.hid hcw
        clear d0 d1 d2 hb1 hbb ht hcw
        go_wp2_with fail
        with_reducible refine (containsWorker_c x Hcw.out hlw Ht.out).mono ?_
        cases hq : (xs.take k).any (eqNm x) with
        | true =>
          have Hq := Lib.hid hq
          clear hq
          rintro e w2 ⟨rfl, hb3⟩
          have hb4 := hb2.trans (hb3.mono hb2.size)
          go_wp2
          go_ret
          exact ⟨ret_bool (validWs_no (j := k) (by have := Hn.out; omega) (by rw [goodAt_of Hx.out, Hv.out, Hq.out]; rfl)).symm, hb4⟩
        | false =>
          have Hq := Lib.hid hq
          clear hq
          rintro e w2 ⟨rfl, hb3⟩
          have hb4 := hb2.trans (hb3.mono hb2.size)
          clear hb3 hb2
          go_wp2
          go_roundw
          case rel =>
            refine ⟨k + 1, by omega, by go_num, ?_, hb4⟩
            intro j hj
            by_cases e : j < k
            · exact hp.out j e
            · obtain rfl : j = k := by omega
              rw [goodAt_of Hx.out, Hv.out, Hq.out]; rfl
          case measure => simp [intOf]; omega
    · go_wp2
      go_ret
      refine ⟨ret_bool ?_, hbb⟩
      rw [validWs_end (fun j hj => hp.out j (by have := Hn.out; omega)), ← Hn.out]
      exact decide_eq_decide.2 (by omega)
theorem l23Ok_c {xs : List WorkerT} {v : Value} {w : World} {A : Nat} (ha : RdWorkerS A w v xs) :
    Calls Tryz.prog 25 #[v] w fun e w' => e = .returned (.bool (validWs xs)) ∧ ∃ m, w' = w.drewN m := by
  have hle := ha.le
  obtain ⟨ao, cap, rfl, ho⟩ := eWorker_open ha
  obtain ⟨n, hn⟩ : ∃ n, n = xs.length := ⟨_, rfl⟩
  rw [← hn]
  have Hn := Lib.hid hn
  have Ho := Lib.hid ho
  have hle' : n ≤ 9223372036854775807 := by omega
  clear ho hn hle ha
  go_enter Tryz.func25, Tryz.ntmps25
  go_wp2
  go_loopw [3] (fun i wr => ∃ k : Nat, k ≤ n ∧ i = .int .i64 k ∧ Hid (∀ j, j < k → goodAt xs j = true) ∧ ∃ m, wr = w.drewN m) (fun i _ => n - (intOf i).toNat)
  case atStart => exact ⟨0, Nat.zero_le _, rfl, fun j h => by omega, 0, rfl⟩
  case round =>
    obtain ⟨k, hk, rfl, hp, m, rfl⟩ := hrel
    by_cases hkn : k < n
    · obtain ⟨b, off, rfl, hlt, hc⟩ := Ho.out (by have := Hn.out; omega)
      obtain ⟨x, hx, ⟨c0, c1, c2⟩, bx⟩ := hc k (by have := Hn.out; omega)
      have Hc := Lib.hid hc
      have Hx := Lib.hid hx
      have Hbx := Lib.hid bx
      have C0 := Lib.hid c0
      have C1 := Lib.hid c1
      have C2 := Lib.hid c2
      clear hx hc bx c0 c1 c2
      go_wp2_with fail
      have hone := l23One_c x (w.drewN m) Hbx.out (b := b) (off := off + k * 3) C0.out C1.out C2.out
      with_reducible refine hone.mono ?_
      clear hone
      cases hv : validW x with
      | false =>
        have Hv := Lib.hid hv
        clear hv
        rintro e w1 ⟨rfl, rfl⟩
        go_wp2
        go_ret
        exact ⟨ret_bool (validWs_no (j := k) (by have := Hn.out; omega) (by rw [goodAt_of Hx.out, Hv.out]; rfl)).symm, _, rfl⟩
      | true =>
        have Hv := Lib.hid hv
        clear hv
        rintro e w1 ⟨rfl, rfl⟩
        go_wp2_with fail
        go_loopw [4] (fun i wr => ∃ q : Nat, q ≤ k ∧ i = .int .i64 q ∧ Hid ((xs.take q).any (eqNm x) = false) ∧ ∃ m, wr = w.drewN m) (fun i _ => k - (intOf i).toNat)
        case atStart => exact ⟨0, Nat.zero_le _, rfl, rfl, _, rfl⟩
        case round =>
          obtain ⟨q, hq, rfl, hpq, m, rfl⟩ := hrel
          by_cases hqk : q < k
          · obtain ⟨y, hy, ⟨c0, _, _⟩, _⟩ := Hc.out q (by have := Hn.out; omega)
            have Hy := Lib.hid hy
            have hcx := C0.out
            clear hy
            cases he : eqNm x y with
            | true =>
              have hs : (y.nm.toList == x.nm.toList) = true := he
              have hs2 : y.nm.toList = x.nm.toList := by simpa using hs
              have He := Lib.hid he
              have Hs2 := Lib.hid hs2
              clear he hs2
              go_wp2
              go_quiet (fail)
              go_wp2
              go_ret
              refine ⟨ret_bool (validWs_no (j := k) (by have := Hn.out; omega) ?_).symm, _, World.drewN_drewN _ _ _⟩
              rw [goodAt_of Hx.out, Hv.out]
              have : (xs.take k).any (eqNm x) = true := List.any_eq_true.2 ⟨y, List.mem_of_getElem? (i := q) (by rw [List.getElem?_take, if_pos hqk]; exact Hy.out), He.out⟩
              rw [this]; rfl
            | false =>
              have hs : (y.nm.toList == x.nm.toList) = false := he
              have He := Lib.hid he
              clear he
              go_wp2
              go_quiet (fail)
              go_wp2
              go_roundw
              case rel => exact ⟨q + 1, by omega, by go_num, by show _ = false; rw [take_snoc Hy.out, List.any_append, hpq.out]; simp [He.out], _, rfl⟩
              case measure => simp [intOf]; omega
          · go_wp2
            go_roundw
            case rel =>
              refine ⟨k + 1, by omega, by go_num, ?_, _, rfl⟩
              intro j hj
              by_cases e : j < k
              · exact hp.out j e
              · obtain rfl : j = k := by omega
                obtain rfl : q = j := by omega
                rw [goodAt_of Hx.out, Hv.out, hpq.out]; rfl
            case measure => simp [intOf]; omega
    · go_wp2
      go_ret
      refine ⟨ret_bool ?_, m, rfl⟩
      rw [validWs_end (fun j hj => hp.out j (by have := Hn.out; omega)), ← Hn.out]
      exact decide_eq_decide.2 (by omega)
theorem sValidWorkers_c {xs : List WorkerT} {v : Value} {w : World} {A : Nat} (ha : RdWorkerS A w v xs) :
    Calls Tryz.prog 18 #[v] w fun e w' => e = .returned (.bool (validWs xs)) ∧ Below w.heap.size w w' := by
  obtain ⟨ao, cap, rfl⟩ := ha.shape
  have Ha := Lib.hid ha
  clear ha
  go_enter Tryz.func18, Tryz.ntmps18
  go_wp2_with fail
  with_reducible refine (l23Ok_c Ha.out).mono ?_
  rintro e w1 ⟨rfl, m, rfl⟩
  go_wp2
  go_ret
  exact ⟨rfl, (Below.refl _ _).drewNy _⟩
end Go.Proofs.YtkpcdnbjngpooaaGreatDoor
namespace Go.Proofs.YtkpcdnbjngpooaaGreatDoor
open Go.ChangeShapes Go.WideShapes Go.ChangeAt Go.RowKit
set_option linter.unusedVariables false
set_option maxRecDepth 100000
structure PayT where
  hours : Int
  gross : Int
  tax : Int
  net : Int
abbrev vPay (x : PayT) : Value := .agg #[.int .i64 x.hours, .int .i64 x.gross, .int .i64 x.tax, .int .i64 x.net]
abbrev lPay (x : PayT) : Value := .agg #[.int .i64 x.hours, .int .i64 x.gross, .int .i64 x.tax, .int .i64 x.net]
def okPay (x : PayT) : Prop := (-9223372036854775808 ≤ x.hours ∧ x.hours ≤ 9223372036854775807) ∧ (-9223372036854775808 ≤ x.gross ∧ x.gross ≤ 9223372036854775807) ∧ (-9223372036854775808 ≤ x.tax ∧ x.tax ≤ 9223372036854775807) ∧ (-9223372036854775808 ≤ x.net ∧ x.net ≤ 9223372036854775807)
def ePay : Elt PayT := { sz := 4, cells := fun x => [.int .i64 x.hours, .int .i64 x.gross, .int .i64 x.tax, .int .i64 x.net], ok := okPay, len := fun _ => rfl, one := fun x u hu => by simp at hu; rcases hu with rfl | rfl | rfl | rfl <;> rfl }
def zPay : PayT := ⟨0, 0, 0, 0⟩
theorem ok_zPay : okPay zPay := by unfold okPay zPay; exact ⟨⟨by decide, by decide⟩, ⟨by decide, by decide⟩, ⟨by decide, by decide⟩, ⟨by decide, by decide⟩⟩
abbrev RdPayS (B : Nat) (w : World) (v : Value) (x : List PayT) : Prop := Rds ePay B w v x
abbrev OwnPayS (base : Nat) (w : World) (v : Value) (x : List PayT) : Prop := Own ePay 47 base w v x
abbrev OwnTPayS (base top : Nat) (w : World) (v : Value) (x : List PayT) : Prop := OwnT ePay 47 base top w v x
def szPay (x : PayT) : Int := 0
theorem szPay_nonneg (x : PayT) : 0 ≤ szPay x := by unfold szPay; omega
def szPayS (x : List PayT) : Int := x.length + sumBy szPay x
theorem szPayS_nonneg (x : List PayT) : 0 ≤ szPayS x := by unfold szPayS; have := sumBy_nonneg szPay_nonneg x; omega
def cntPayS (x : List PayT) : Nat := 4 * x.length
theorem cntPayS_le (x : List PayT) : (cntPayS x : Int) ≤ 16 * szPayS x := by unfold szPayS cntPayS; have := sumBy_nonneg szPay_nonneg x; omega
theorem szPayS_len (x : List PayT) : (x.length : Int) ≤ szPayS x := by unfold szPayS; have := sumBy_nonneg szPay_nonneg x; omega
theorem ePay_open {w : World} {B : Nat} {v : Value} {xs : List PayT} (h : Rds ePay B w v xs) : ∃ ao cap, v = .slice ao xs.length cap ∧
    (0 < xs.length → ∃ b off, ao = some ⟨b, off, none⟩ ∧ (b < B ∧ b < w.heap.size) ∧ ∀ k, k < xs.length → ∃ x, xs[k]? = some x ∧ (w.cell? ⟨b, off + k * 4, none⟩ = some (.int .i64 x.hours) ∧ w.cell? ⟨b, off + k * 4 + 1, none⟩ = some (.int .i64 x.gross) ∧ w.cell? ⟨b, off + k * 4 + 2, none⟩ = some (.int .i64 x.tax) ∧ w.cell? ⟨b, off + k * 4 + 3, none⟩ = some (.int .i64 x.net)) ∧ okPay x) := by
  rcases Rds.cases h with ⟨rfl, ao, cap, rfl, _⟩ | ⟨b, off, cap, rfl, hlt, hc⟩
  · exact ⟨ao, cap, rfl, fun h => absurd h (by simp)⟩
  · refine ⟨_, cap, rfl, fun _ => ⟨b, off, rfl, hlt, fun k hk => ?_⟩⟩
    obtain ⟨h1, h2⟩ := hc k xs[k] (by simp [hk])
    refine ⟨xs[k], by simp [hk], ⟨?_, ?_, ?_, ?_⟩, h1⟩
    · exact h2 0 (by decide)
    · have := h2 1 (by decide); rw [← Nat.add_assoc] at this; exact this
    · have := h2 2 (by decide); rw [← Nat.add_assoc] at this; exact this
    · have := h2 3 (by decide); rw [← Nat.add_assoc] at this; exact this
end Go.Proofs.YtkpcdnbjngpooaaGreatDoor
namespace Go.Proofs.YtkpcdnbjngpooaaGreatDoor
open Go.ChangeShapes Go.WideShapes Go.ChangeAt Go.RowKit
set_option linter.unusedVariables false
set_option maxRecDepth 100000
def taxF (g t : Int) : Int := (g * t + 50) / 100
def payF (x : WorkerT) (h : Int) : PayT := ⟨h, grossF x.rate h, taxF (grossF x.rate h) x.tax, grossF x.rate h - taxF (grossF x.rate h) x.tax⟩
theorem taxF_two (g t : Int) : (2 * g * t + 100) / 200 = taxF g t := by
  unfold taxF
  rw [show 2 * g * t + 100 = 2 * (g * t + 50) by rw [Int.mul_add, ← Int.mul_assoc]; omega, show (200 : Int) = 2 * 100 from rfl, Int.mul_ediv_mul_of_pos _ _ (by decide)]
theorem taxF_bd {g t : Int} (hg : 0 ≤ g ∧ g ≤ 1600001) (ht : 0 ≤ t ∧ t ≤ 60) : 0 ≤ taxF g t ∧ taxF g t ≤ g ∧ (0 ≤ g * t ∧ g * t ≤ 96000060) := by
  have h1 := mul_bd g t 1600001 60 hg.1 hg.2 ht.1 ht.2
  have h2 : g * t ≤ g * 60 := Int.mul_le_mul_of_nonneg_left ht.2 hg.1
  unfold taxF
  omega
theorem validW_parts {x : WorkerT} (h : validW x = true) : nameB x.nm = true ∧ (1 ≤ x.rate ∧ x.rate ≤ 10000) ∧ 0 ≤ x.tax ∧ x.tax ≤ 60 := by
  unfold validW at h
  simpa only [Bool.and_eq_true, decide_eq_true_eq] using h
theorem payFor_c (x : WorkerT) (h : Int) (w : World) (hv : validW x = true) (hh : 0 ≤ h ∧ h ≤ 120) :
    Calls Tryz.prog 24 #[vWorker x, .int .i64 h] w fun e w' => e = .returned (vPay (payF x h)) ∧ Below w.heap.size w w' := by
  obtain ⟨_, hr, ht⟩ := validW_parts hv
  have hg := grossF_bd hr hh
  have hb := taxF_bd hg ht
  have h2 := taxF_two (grossF x.rate h) x.tax
  unfold payF
  have Hr := Lib.hid hr
  have Hh := Lib.hid hh
  clear hv hr hh ht
  generalize hG : grossF x.rate h = G at *
  have HG := Lib.hid hG
  have H2 := Lib.hid h2
  have hm : 0 ≤ 2 * G * x.tax ∧ 2 * G * x.tax ≤ 192000120 := by rw [Int.mul_assoc]; omega
  obtain ⟨hm1, hm2⟩ := hm
  obtain ⟨hb1, hb2, hb3⟩ := hb
  generalize hT : taxF G x.tax = T at *
  clear hG h2 hT
  go_enter Tryz.func24, Tryz.ntmps24
  go_wp2_with fail
  with_reducible refine (grossFor_any _ _ Hr.out Hh.out _).mono ?_
  rw [HG.out]
  rintro e w' ⟨rfl, rfl⟩
  have h3 : (2 * G * x.tax + 100) / 200 = T := H2.out
  go_wp2
  exact bodyPost_ret (v := vPay ⟨h, G, T, G - T⟩) (by simp [results, Tryz.results24, go_sem]) rfl ⟨rfl, (((Below.refl _ _).alloc (Nat.le_refl _) _).alloc (by simp) _)⟩
theorem l23Pay_c (x : WorkerT) (h : Int) (w : World) (hv : validW x = true) (hh : 0 ≤ h ∧ h ≤ 120) {b off : Nat} (c1 : w.cell? ⟨b, off + 1, none⟩ = some (.int .i64 x.rate)) (c2 : w.cell? ⟨b, off + 2, none⟩ = some (.int .i64 x.tax)) :
    Calls Tryz.prog 29 #[.pointer (some ⟨b, off, none⟩), .int .i64 h] w fun e w' => e = .returned (vPay (payF x h)) ∧ Below w.heap.size w w' := by
  obtain ⟨_, hr, ht⟩ := validW_parts hv
  have hg := grossF_bd hr hh
  have hb := taxF_bd hg ht
  have h2 : (grossF x.rate h * x.tax + 50) / 100 = taxF (grossF x.rate h) x.tax := rfl
  have hlt := World.block_lt_of_cell? w _ c1
  unfold payF
  have Hr := Lib.hid hr
  have Hh := Lib.hid hh
  clear hv hr hh ht
  generalize hG : grossF x.rate h = G at *
  have HG := Lib.hid hG
  have H2 := Lib.hid h2
  obtain ⟨hb1, hb2, hb3⟩ := hb
  generalize hT : taxF G x.tax = T at *
  clear hG h2 hT
  go_enter Tryz.func29, Tryz.ntmps29
  go_wp2_with fail
  with_reducible refine (l23Gross_any _ _ Hr.out Hh.out _).mono ?_
  rw [HG.out]
  rintro e w' ⟨rfl, rfl⟩
  have h3 : (G * x.tax + 50) / 100 = T := H2.out
  go_wp2
  exact bodyPost_ret (v := vPay ⟨h, G, T, G - T⟩) (by simp [results, Tryz.results29, go_sem]) rfl ⟨rfl, (Below.refl _ _).alloc (Nat.le_refl _) _⟩
def PayForC (x : WorkerT) (h : Int) : Int := if validW x = true then (if 0 ≤ h ∧ h ≤ 120 then 0 else 2) else 1
def PayForR (x : WorkerT) (h : Int) : PayT := if PayForC x h = 0 then payF x h else zPay
theorem PayFor_c (x : WorkerT) (h : Int) (w : World) (a : okWorker x) :
    Calls Tryz.prog 19 #[vWorker x, .int .i64 h] w fun e w' => e = .returned (.tuple #[vPay (PayForR x h), .int .i64 (PayForC x h)]) ∧ Below w.heap.size w w' := by
  have Ha := Lib.hid a
  clear a
  cases hv : validW x with
  | false =>
    have e1 : PayForC x h = 1 := by unfold PayForC; rw [hv]; rfl
    have e2 : PayForR x h = zPay := by unfold PayForR; rw [e1]; rfl
    rw [e1, e2]
    have Hv := Lib.hid hv
    clear hv e1 e2
    go_enter Tryz.func19, Tryz.ntmps19
    go_wp2_with fail
    with_reducible refine (isWorker_c x _ Ha.out).mono ?_
    rw [Hv.out]
    rintro e w1 ⟨rfl, hb⟩
    have hb2 := ((((Below.refl w.heap.size w).alloc (Nat.le_refl _) _).alloc (by simp) _).trans (hb.mono (by simp; omega)))
    have Hb2 := Lib.hid hb2
    obtain ⟨hc, hf⟩ := bcell hb
    clear hb hb2
    go_wp2
    exact bodyPost_ret (v := .tuple #[vPay zPay, .int .i64 1]) (by simp [results, Tryz.results19, go_sem, zPay, hc]) rfl ⟨rfl, Hb2.out.run (g := w.heap.size + 1) (by omega) [_, _, _, _]⟩
  | true =>
    by_cases hh : 0 ≤ h ∧ h ≤ 120
    · have e1 : PayForC x h = 0 := by unfold PayForC; rw [hv, if_pos rfl, if_pos hh]
      have e2 : PayForR x h = payF x h := by unfold PayForR; rw [e1]; rfl
      rw [e1, e2]
      obtain ⟨y, hy⟩ : ∃ y, payF x h = y := ⟨_, rfl⟩
      rw [hy]
      have Hy := Lib.hid hy
      clear hy
      have Hv := Lib.hid hv
      have Hh := Lib.hid hh
      clear hv e1 e2 hh
      go_enter Tryz.func19, Tryz.ntmps19
      go_wp2_with fail
      with_reducible refine (isWorker_c x _ Ha.out).mono ?_
      rw [Hv.out]
      rintro e w1 ⟨rfl, hb⟩
      have hb2 := ((((Below.refl w.heap.size w).alloc (Nat.le_refl _) _).alloc (by simp) _).trans (hb.mono (by simp; omega)))
      have hz1 : w.heap.size + 1 < w1.heap.size := by have := hb.size; simp at this; omega
      have Hb2 := Lib.hid hb2
      obtain ⟨hc, hf⟩ := bcell hb
      clear hb hb2
      go_wp2_with fail
      with_reducible refine (areHours_yes _ _ Hh.out).mono ?_
      rintro e w' ⟨rfl, rfl⟩
      go_wp2_with fail
      with_reducible refine (payFor_c x h _ Hv.out Hh.out).mono ?_
      rw [Hy.out]
      rintro e w2 ⟨rfl, hb3⟩
      have hb4 := Hb2.out.trans (hb3.mono Hb2.out.size)
      have Hb4 := Lib.hid hb4
      obtain ⟨hc2, hf2⟩ := bcell hb3
      clear hb3 hb4
      go_wp2
      exact bodyPost_ret (v := .tuple #[vPay y, .int .i64 0]) (by simp [results, Tryz.results19, go_sem, hc2, hc, hz1]) rfl ⟨rfl, Hb4.out.run (g := w.heap.size + 1) (by omega) [_, _, _, _]⟩
    · have e1 : PayForC x h = 2 := by unfold PayForC; rw [hv, if_pos rfl, if_neg hh]
      have e2 : PayForR x h = zPay := by unfold PayForR; rw [e1]; rfl
      rw [e1, e2]
      have Hv := Lib.hid hv
      have Hh := Lib.hid (show h < 0 ∨ 120 < h by omega)
      clear hv e1 e2 hh
      go_enter Tryz.func19, Tryz.ntmps19
      go_wp2_with fail
      with_reducible refine (isWorker_c x _ Ha.out).mono ?_
      rw [Hv.out]
      rintro e w1 ⟨rfl, hb⟩
      have hb2 := ((((Below.refl w.heap.size w).alloc (Nat.le_refl _) _).alloc (by simp) _).trans (hb.mono (by simp; omega)))
      have Hb2 := Lib.hid hb2
      obtain ⟨hc, hf⟩ := bcell hb
      clear hb hb2
      go_wp2_with fail
      with_reducible refine (areHours_no _ _ Hh.out).mono ?_
      rintro e w' ⟨rfl, rfl⟩
      go_wp2
      exact bodyPost_ret (v := .tuple #[vPay zPay, .int .i64 2]) (by simp [results, Tryz.results19, go_sem, zPay, hc]) rfl ⟨rfl, Hb2.out.run (g := w.heap.size + 1) (by omega) [_, _, _, _]⟩
end Go.Proofs.YtkpcdnbjngpooaaGreatDoor
namespace Go.Proofs.YtkpcdnbjngpooaaGreatDoor
open Go.ChangeShapes Go.WideShapes Go.ChangeAt Go.RowKit
set_option linter.unusedVariables false
set_option maxRecDepth 100000
def sameWorker (x y : WorkerT) : Bool := x.nm.toList == y.nm.toList && (x.rate == y.rate && (x.tax == y.tax))
theorem neq_Worker (x y : WorkerT) (w : World) : (binOp .neq 49 (vWorker x) (vWorker y)).run Tryz.prog w = .ok (.bool (!sameWorker x y)) w := by
  have hS : Tryz.prog.underlying 49 = some (.struct (Tryz.prog.fieldsOf 49)) := by kernel_rfl
  have hp : Tryz.prog.stoodInHeld 49 = false := by kernel_rfl
  rw [run_neq_struct, show (10000 : Nat) = 9999 + 1 from rfl, run_equalIn_agg w 9999 49 _ _ hS hp]
  simp only [Program.fieldsOf, Tryz.underlying49]
  go_simp
  unfold sameWorker
  by_cases h0 : x.nm.toList = y.nm.toList <;> by_cases h1 : x.rate = y.rate <;> by_cases h2 : x.tax = y.tax <;> simp [h0, h1, h2]
theorem sameWorker_iff (x y : WorkerT) : sameWorker x y = true ↔ x = y := by
  unfold sameWorker
  obtain ⟨x0, x1, x2⟩ := x
  obtain ⟨y0, y1, y2⟩ := y
  simp only [Bool.and_eq_true, beq_iff_eq, WorkerT.mk.injEq, toList_inj]
instance : DecidableEq WorkerT := fun x y => decidable_of_iff (sameWorker x y = true) (sameWorker_iff x y)
theorem neqWorker_run {x y : WorkerT} (w : World) {b : Bool} (h : (!sameWorker x y) = b) : (binOp .neq 49 (vWorker x) (vWorker y)).run Tryz.prog w = .ok (.bool b) w := by rw [neq_Worker, h]
theorem sSameWorkers_c {xs ys : List WorkerT} {va vb : Value} {w : World} {A B : Nat} (ha : RdWorkerS A w va xs) (hb : RdWorkerS B w vb ys) :
    Calls Tryz.prog 16 #[va, vb] w fun e w' => e = .returned (.bool (decide (xs = ys))) ∧ Below w.heap.size w w' := by
  have hle := ha.le
  have hleb := hb.le
  obtain ⟨ao, cap, rfl, ho⟩ := eWorker_open ha
  obtain ⟨bo, bcap, rfl, hob⟩ := eWorker_open hb
  obtain ⟨n, hn⟩ : ∃ n, n = xs.length := ⟨_, rfl⟩
  obtain ⟨m, hm⟩ : ∃ m, m = ys.length := ⟨_, rfl⟩
  rw [← hn, ← hm]
  have Hn := Lib.hid hn
  have Hm := Lib.hid hm
  have Ho := Lib.hid ho
  have Hob := Lib.hid hob
  have hle' : n ≤ 9223372036854775807 := by omega
  have hle2 : m ≤ 9223372036854775807 := by omega
  clear ho hob hn hm hle hleb ha hb
  by_cases hnm : n = m
  · subst hnm
    go_enter Tryz.func16, Tryz.ntmps16
    go_wp2
    go_loopw [5] (fun i wr => ∃ k : Nat, k ≤ n ∧ i = .int .i64 k ∧ Hid (xs.take k = ys.take k) ∧ Below w.heap.size w wr) (fun i _ => n - (intOf i).toNat)
    case atStart => exact ⟨0, Nat.zero_le _, rfl, rfl, Below.refl _ _⟩
    case round =>
      obtain ⟨k, hk, rfl, hp, hbb⟩ := hrel
      by_cases hkn : k < n
      · obtain ⟨b, off, rfl, hlt, hc⟩ := Ho.out (by have := Hn.out; omega)
        obtain ⟨x, hx, ⟨c0, c1, c2⟩, bx⟩ := hc k (by have := Hn.out; omega)
        have Hx := Lib.hid hx
        have d0 := (hbb.cell (p := ⟨b, off + k * 3, none⟩) hlt.2).trans c0
        have d1 := (hbb.cell (p := ⟨b, off + k * 3 + 1, none⟩) hlt.2).trans c1
        have d2 := (hbb.cell (p := ⟨b, off + k * 3 + 2, none⟩) hlt.2).trans c2
        clear hx hc bx c0 c1 c2
        obtain ⟨b2, off2, rfl, hlt2, hc⟩ := Hob.out (by have := Hm.out; omega)
        obtain ⟨y, hy, ⟨c0, c1, c2⟩, bx⟩ := hc k (by have := Hm.out; omega)
        have Hy := Lib.hid hy
        have f0 := (hbb.cell (p := ⟨b2, off2 + k * 3, none⟩) hlt2.2).trans c0
        have f1 := (hbb.cell (p := ⟨b2, off2 + k * 3 + 1, none⟩) hlt2.2).trans c1
        have f2 := (hbb.cell (p := ⟨b2, off2 + k * 3 + 2, none⟩) hlt2.2).trans c2
        clear hy hc bx c0 c1 c2
        cases hs : sameWorker x y with
        | true =>
          have hr := fun w => neqWorker_run (x := x) (y := y) w (b := false) (by rw [hs]; rfl)
          have Hs := Lib.hid hs
          clear hs
          go_wp2
          go_quiet (fail)
          clear hr
          go_wp2
          go_roundw
          case rel => exact ⟨k + 1, by omega, by go_num, take_eq_succ hp.out Hx.out Hy.out ((sameWorker_iff _ _).1 Hs.out), hbb.drewNy _⟩
          case measure => simp [intOf]; omega
        | false =>
          have hr := fun w => neqWorker_run (x := x) (y := y) w (b := true) (by rw [hs]; rfl)
          have Hs := Lib.hid hs
          clear hs
          go_wp2
          go_quiet (fail)
          clear hr
          go_wp2
          go_ret
          refine ⟨ret_bool (Eq.symm (decide_eq_false fun h => ?_)), hbb.drewNy _⟩
          have h2 := ne_of_at Hx.out Hy.out (fun h3 => by have := Hs.out; rw [h3, (sameWorker_iff _ _).2 rfl] at this; cases this)
          exact h2 h
      · go_wp2
        go_ret
        refine ⟨ret_bool (Eq.symm (decide_eq_true ?_)), hbb⟩
        have h1 := hp.out
        rw [List.take_of_length_le (by have := Hn.out; omega), List.take_of_length_le (by have := Hm.out; omega)] at h1
        exact h1
  · have hne : ¬ xs = ys := fun e => hnm (by have h1 := Hn.out; have h2 := Hm.out; rw [e] at h1; omega)
    have hne2 : ((n : Int) != (m : Int)) = true := by simpa using fun h : (n : Int) = m => hnm (by omega)
    have Hne := Lib.hid hne
    clear hne hnm
    go_enter Tryz.func16, Tryz.ntmps16
    go_wp2
    go_ret
    exact ⟨ret_bool (by simpa using Hne.out), Below.refl _ _⟩
theorem equalWorkers_c {xs ys : List WorkerT} {va vb : Value} {w : World} {A B : Nat} (ha : RdWorkerS A w va xs) (hb : RdWorkerS B w vb ys) :
    Calls Tryz.prog 46 #[va, vb] w fun e w' => e = .returned (.bool (decide (xs = ys))) ∧ Below w.heap.size w w' := by
  have hle := ha.le
  have hleb := hb.le
  obtain ⟨ao, cap, rfl, ho⟩ := eWorker_open ha
  obtain ⟨bo, bcap, rfl, hob⟩ := eWorker_open hb
  obtain ⟨n, hn⟩ : ∃ n, n = xs.length := ⟨_, rfl⟩
  obtain ⟨m, hm⟩ : ∃ m, m = ys.length := ⟨_, rfl⟩
  rw [← hn, ← hm]
  have Hn := Lib.hid hn
  have Hm := Lib.hid hm
  have Ho := Lib.hid ho
  have Hob := Lib.hid hob
  have hle' : n ≤ 9223372036854775807 := by omega
  have hle2 : m ≤ 9223372036854775807 := by omega
  clear ho hob hn hm hle hleb ha hb
  by_cases hnm : n = m
  · subst hnm
    go_enter Tryz.func46, Tryz.ntmps46
    go_wp2
    go_loopw [13] (fun i wr => ∃ k : Nat, k ≤ n ∧ i = .int .i64 k ∧ Hid (xs.take k = ys.take k) ∧ Below w.heap.size w wr) (fun i _ => n - (intOf i).toNat)
    case atStart => exact ⟨0, Nat.zero_le _, rfl, rfl, Below.refl _ _⟩
    case round =>
      obtain ⟨k, hk, rfl, hp, hbb⟩ := hrel
      by_cases hkn : k < n
      · obtain ⟨b, off, rfl, hlt, hc⟩ := Ho.out (by have := Hn.out; omega)
        obtain ⟨x, hx, ⟨c0, c1, c2⟩, bx⟩ := hc k (by have := Hn.out; omega)
        have Hx := Lib.hid hx
        have d0 := (hbb.cell (p := ⟨b, off + k * 3, none⟩) hlt.2).trans c0
        have d1 := (hbb.cell (p := ⟨b, off + k * 3 + 1, none⟩) hlt.2).trans c1
        have d2 := (hbb.cell (p := ⟨b, off + k * 3 + 2, none⟩) hlt.2).trans c2
        clear hx hc bx c0 c1 c2
        obtain ⟨b2, off2, rfl, hlt2, hc⟩ := Hob.out (by have := Hm.out; omega)
        obtain ⟨y, hy, ⟨c0, c1, c2⟩, bx⟩ := hc k (by have := Hm.out; omega)
        have Hy := Lib.hid hy
        have f0 := (hbb.cell (p := ⟨b2, off2 + k * 3, none⟩) hlt2.2).trans c0
        have f1 := (hbb.cell (p := ⟨b2, off2 + k * 3 + 1, none⟩) hlt2.2).trans c1
        have f2 := (hbb.cell (p := ⟨b2, off2 + k * 3 + 2, none⟩) hlt2.2).trans c2
        clear hy hc bx c0 c1 c2
        cases hs : sameWorker x y with
        | true =>
          have hr := fun w => neqWorker_run (x := x) (y := y) w (b := false) (by rw [hs]; rfl)
          have Hs := Lib.hid hs
          clear hs
          go_wp2
          go_quiet (fail)
          clear hr
          go_wp2
          go_roundw
          case rel => exact ⟨k + 1, by omega, by go_num, take_eq_succ hp.out Hx.out Hy.out ((sameWorker_iff _ _).1 Hs.out), hbb.drewNy _⟩
          case measure => simp [intOf]; omega
        | false =>
          have hr := fun w => neqWorker_run (x := x) (y := y) w (b := true) (by rw [hs]; rfl)
          have Hs := Lib.hid hs
          clear hs
          go_wp2
          go_quiet (fail)
          clear hr
          go_wp2
          go_ret
          refine ⟨ret_bool (Eq.symm (decide_eq_false fun h => ?_)), hbb.drewNy _⟩
          have h2 := ne_of_at Hx.out Hy.out (fun h3 => by have := Hs.out; rw [h3, (sameWorker_iff _ _).2 rfl] at this; cases this)
          exact h2 h
      · go_wp2
        go_ret
        refine ⟨ret_bool (Eq.symm (decide_eq_true ?_)), hbb⟩
        have h1 := hp.out
        rw [List.take_of_length_le (by have := Hn.out; omega), List.take_of_length_le (by have := Hm.out; omega)] at h1
        exact h1
  · have hne : ¬ xs = ys := fun e => hnm (by have h1 := Hn.out; have h2 := Hm.out; rw [e] at h1; omega)
    have hne2 : ((n : Int) != (m : Int)) = true := by simpa using fun h : (n : Int) = m => hnm (by omega)
    have Hne := Lib.hid hne
    clear hne hnm
    go_enter Tryz.func46, Tryz.ntmps46
    go_wp2
    go_ret
    exact ⟨ret_bool (by simpa using Hne.out), Below.refl _ _⟩

theorem SameWorkers_c {xs ys : List WorkerT} {va vb : Value} {w : World} {A B : Nat} (ha : RdWorkerS A w va xs) (hb : RdWorkerS B w vb ys) :
    Calls Tryz.prog 15 #[va, vb] w fun e w' => e = .returned (.bool (decide (xs = ys))) ∧ Below w.heap.size w w' := by
  obtain ⟨ao, cap, rfl⟩ := ha.shape
  obtain ⟨bo, bcap, rfl⟩ := hb.shape
  have Ha := Lib.hid ha
  have Hb := Lib.hid hb
  clear ha hb
  go_enter Tryz.func15, Tryz.ntmps15
  go_wp2_with fail
  with_reducible refine (equalWorkers_c Ha.out Hb.out).mono ?_
  rintro e w1 ⟨rfl, hb1⟩
  go_wp2
  go_ret
  exact ⟨ret_bool (by simp), hb1⟩
end Go.Proofs.YtkpcdnbjngpooaaGreatDoor
