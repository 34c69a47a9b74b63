/- Another post for operators: the reference's walk. No condition. -/
import Derived.Test.YtfojfcmjoacbgaaMatch
import Derived.Test.YtfojfcmjoacbgaaFillS2
namespace Go.Proofs.Ytfojfcmjoacbgaa
open Go.ChangeShapes Go.WideShapes Go.ChangeAt Go.RowKit
set_option linter.unusedVariables false
set_option maxRecDepth 100000
def cg {β : Type} (g : Nat → β) (m : Nat) : List β := (List.range m).map g
theorem cg_length {β : Type} (g : Nat → β) (m : Nat) : (cg g m).length = m := by simp [cg]
theorem cg_get {β : Type} {g : Nat → β} {m j : Nat} (h : j < m) : (cg g m)[j]? = some (g j) := by simp [cg, h]
theorem cg_snoc {β : Type} (g : Nat → β) (m : Nat) : cg g (m + 1) = cg g m ++ [g m] := by simp [cg, List.range_succ]
theorem cg_set {β : Type} (g : Nat → β) (m k : Nat) (v : β) : (cg g m).set k v = cg (upd g k v) m := by
  apply List.ext_getElem?
  intro j
  rw [List.getElem?_set]
  by_cases h : j < m
  · rw [cg_get (g := upd g k v) h]
    by_cases e : k = j
    · subst e; rw [if_pos rfl, if_pos (by rw [cg_length]; exact h), upd_same]
    · rw [if_neg e, cg_get h, upd_other (fun h => e h.symm)]
  · rw [List.getElem?_eq_none (l := cg (upd g k v) m) (by rw [cg_length]; omega)]
    by_cases e : k = j
    · subst e; rw [if_pos rfl, if_neg (by rw [cg_length]; exact h)]
    · rw [if_neg e, List.getElem?_eq_none (by rw [cg_length]; omega)]
/-- bools -/
def eBl : Elt Bool := { sz := 1, cells := fun x => [.bool x], ok := fun _ => True, len := fun _ => rfl, one := fun x u hu => by simp at hu; subst hu; rfl }
theorem Own.cellB {e : TypeId} {base g n cap k : Nat} {w : World} {xs : List Bool} {x : Bool} (h : Own eBl e base w (.slice (some ⟨g, 0, none⟩) n cap) xs) (hx : xs[k]? = some x) : w.cell? ⟨g, k, none⟩ = some (.bool x) := by
  have hn : n = xs.length := by obtain ⟨ao, c, hs⟩ := h.shape; cases hs; rfl
  subst hn
  have hk := at_lt hx
  have h7 := World.ownsRow.cellAt h.1 (k * 1 + 0) (by show _ < xs.length * 1; omega)
  have h8 := Elt.all_get eBl hx (j := 0) (by decide)
  rw [show eBl.sz = 1 from rfl] at h8
  rw [h8, Nat.mul_one, Nat.add_zero] at h7
  exact h7
theorem Own.storeB {e : TypeId} {base g n cap k : Nat} {w : World} {xs : List Bool} {x y : Bool} (h : Own eBl e base w (.slice (some ⟨g, 0, none⟩) n cap) xs) (hx : xs[k]? = some x) :
    w.frozen? ⟨g, k, none⟩ = false ∧ Own eBl e base (w.setCell ⟨g, k, none⟩ (.bool y)) (.slice (some ⟨g, 0, none⟩) n cap) (xs.set k y) ∧ w.grownBy (w.setCell ⟨g, k, none⟩ (.bool y)) (some g) := by
  have hn : n = xs.length := by obtain ⟨ao, c, hs⟩ := h.shape; cases hs; rfl
  have hk := at_lt hx
  have hst := Own.store1 (E := eBl) (by decide) h hn (x := x) (y := y) (v := .bool y) hx (j := 0) (by decide) rfl trivial
  have hc := Own.cellE (E := eBl) h hn (k := k) (j := 0) (by omega) (by decide)
  simp only [show eBl.sz = 1 from rfl, Nat.mul_one, Nat.add_zero] at hst hc
  exact ⟨hc.2, hst.1, hst.2⟩
theorem Own.cellN {e : TypeId} {base g n cap k : Nat} {w : World} {xs : List Int} {x : Int} (h : Own eI e base w (.slice (some ⟨g, 0, none⟩) n cap) xs) (hx : xs[k]? = some x) : w.cell? ⟨g, k, none⟩ = some (.int .i64 x) := by
  have hn : n = xs.length := by obtain ⟨ao, c, hs⟩ := h.shape; cases hs; rfl
  subst hn
  rw [h.ints.cellAt k (by have := at_lt hx; omega), List.getElem?_map, hx]; rfl
section
variable {E : Nat → Nat → Bool} {again : Nat → St → Bool × St} {p k : Nat} {r : Bool × St}
theorem step_skip (h : r.1 = false) (hs : (r.2.2 k || !E k p) = true) : augStep E again p r k = r := by unfold augStep; rw [if_neg (by rw [h]; decide), if_pos hs]
theorem step_free (h : r.1 = false) (hs : r.2.2 k = false) (he : E k p = true) (ha : r.2.1 k < 0) : augStep E again p r k = (true, upd r.2.1 k (p : Int), upd r.2.2 k true) := by
  unfold augStep; rw [if_neg (by rw [h]; decide), if_neg (by rw [hs, he]; decide), if_pos ha]
theorem step_yes (h : r.1 = false) (hs : r.2.2 k = false) (he : E k p = true) (ha : ¬ r.2.1 k < 0) (hy : (again (r.2.1 k).toNat (r.2.1, upd r.2.2 k true)).1 = true) :
    augStep E again p r k = (true, upd (again (r.2.1 k).toNat (r.2.1, upd r.2.2 k true)).2.1 k (p : Int), (again (r.2.1 k).toNat (r.2.1, upd r.2.2 k true)).2.2) := by
  unfold augStep; rw [if_neg (by rw [h]; decide), if_neg (by rw [hs, he]; decide), if_neg ha, if_pos hy]
theorem step_no (h : r.1 = false) (hs : r.2.2 k = false) (he : E k p = true) (ha : ¬ r.2.1 k < 0) (hy : (again (r.2.1 k).toNat (r.2.1, upd r.2.2 k true)).1 = false) :
    augStep E again p r k = again (r.2.1 k).toNat (r.2.1, upd r.2.2 k true) := by
  unfold augStep; rw [if_neg (by rw [h]; decide), if_neg (by rw [hs, he]; decide), if_neg ha, if_neg (by rw [hy]; decide)]
end
theorem augK_done {E : Nat → Nat → Bool} {n f p : Nat} {st : St} {k : Nat} (h : (augK E n f p st k).1 = true) : ∀ d, augK E n f p st (k + d) = augK E n f p st k := by
  intro d
  induction d with
  | zero => rfl
  | succ d ih => rw [← Nat.add_assoc, augK_succ, augStep_done (by rw [ih]; exact h), ih]
/-- the posts told stay in their range -/
theorem aug_range {E : Nat → Nat → Bool} {n m : Nat} : ∀ (f p : Nat) (st : St), p < m → (∀ i, -1 ≤ st.1 i ∧ st.1 i < m) → ∀ i, -1 ≤ (aug E n f p st).2.1 i ∧ (aug E n f p st).2.1 i < m := by
  intro f
  induction f with
  | zero => intro p st _ h; exact h
  | succ f ih =>
    intro p st hp h
    rw [aug_succ]
    have key : ∀ k, ∀ i, -1 ≤ (augK E n f p st k).2.1 i ∧ (augK E n f p st k).2.1 i < m := by
      intro k
      induction k with
      | zero => exact h
      | succ k ihk =>
        rw [augK_succ]
        have hupd : ∀ (g : Nat → Int), (∀ i, -1 ≤ g i ∧ g i < m) → ∀ i, -1 ≤ upd g k (p : Int) i ∧ upd g k (p : Int) i < m := by
          intro g hg i
          unfold upd
          split
          · omega
          · exact hg i
        cases h1 : (augK E n f p st k).1 with
        | true => rw [augStep_done h1]; exact ihk
        | false =>
          cases h2 : ((augK E n f p st k).2.2 k || !E k p) with
          | true => rw [step_skip h1 h2]; exact ihk
          | false =>
            rw [Bool.or_eq_false_iff, Bool.not_eq_false'] at h2
            by_cases h3 : (augK E n f p st k).2.1 k < 0
            · rw [step_free h1 h2.1 h2.2 h3]; exact hupd _ ihk
            · have hq := ih ((augK E n f p st k).2.1 k).toNat ((augK E n f p st k).2.1, upd (augK E n f p st k).2.2 k true) (by have := ihk k; omega) ihk
              cases h4 : (aug E n f ((augK E n f p st k).2.1 k).toNat ((augK E n f p st k).2.1, upd (augK E n f p st k).2.2 k true)).1 with
              | true => rw [step_yes h1 h2.1 h2.2 h3 h4]; exact hupd _ hq
              | false => rw [step_no h1 h2.1 h2.2 h3 h4]; exact hq
    exact key n
def edgeO (xs : List OperatorT) (ps : List Int) (k p : Nat) : Bool := canAt xs (atI ps p) (k : Int)
/-- what the walk holds -/
def AugSt (OB n : Nat) (atv snv : Value) (W : World) (st : St) : Prop :=
  OwnInt64S OB W atv (cg st.1 n) ∧ Own eBl 4 OB W snv (cg st.2 n) ∧ (∀ q, atv.ownBlock = some q → snv.ownBlock ≠ some q)
theorem AugSt.drewN {OB n : Nat} {atv snv : Value} {W : World} {st : St} (h : AugSt OB n atv snv W st) (q : Nat) : AugSt OB n atv snv (W.drewN q) st := h
end Go.Proofs.Ytfojfcmjoacbgaa
