/- A []Card that came in. No condition. -/
import Derived.Test.YtfieilbcdhbigaaGreatDoorMP12
import Derived.Test.YtfieilbcdhbigaaGreatDoorMP15
import Derived.Test.YtfieilbcdhbigaaGreatDoorMP6
namespace Go.Proofs.YtfieilbcdhbigaaGreatDoor
open Go.ChangeShapes Go.WideShapes Go.ChangeAt Go.RowKit Go.Deep
set_option linter.unusedVariables false
set_option maxRecDepth 100000
section
variable {H : Type} {enc : TypeId × Value → H} {P : Program}
theorem rdM_of_rows {w : World} {base : Nat} {a' : Addr} {len cap : Nat} {A : Nat → Option Addr} {L C : Nat → Nat} {Z : Nat → List Int} (hl : len ≤ cap) (hm : cap ≤ maxLen)
    (hrow : ∀ r, r < cap → w.cell? (a'.add r) = some (.slice (A r) (L r) (C r)) ∧ L r ≤ C r ∧ C r ≤ maxLen ∧ (Z r).length = C r ∧ (∀ n ∈ Z r, (Lit.int .i64 n).wf = true) ∧ (A r = none → C r = 0) ∧
      ∀ a'', A r = some a'' → base ≤ a''.block ∧ ∀ c, c < C r → w.cell? (a''.add c) = some (.int .i64 ((Z r).getD c 0))) : ∃ xss, RdInt64SS w.heap.size w (.slice (some a') len cap) xss := by
  have hmx : len ≤ 9223372036854775807 := by unfold maxLen at hm; omega
  refine ⟨(List.range len).map fun r => (Z r).take (L r), ⟨(List.range len).map fun r => ⟨A r, L r, C r⟩, ⟨⟨eS.all_length _, by simpa using hmx, ?_⟩, fun x hx => trivial⟩, by simp, ?_⟩⟩
  · rw [List.length_map, List.length_range]
    cases len with
    | zero => exact .inl ⟨rfl, _, _, rfl, fun h => by cases h⟩
    | succ n =>
      obtain ⟨b, off, spot⟩ := a'
      have h0 := (hrow 0 (by omega)).1
      have hspot : spot = none := by
        cases spot with
        | none => rfl
        | some s =>
          simp only [Addr.add, if_true, World.cell?] at h0
          split at h0 <;> simp at h0
      subst hspot
      refine .inr ⟨b, off, cap, rfl, ⟨hl, by unfold maxLen at hm; omega⟩, World.block_lt_of_cell? w _ h0, World.block_lt_of_cell? w _ h0, fun i hi => ?_⟩
      have hi' : i < n + 1 := by simpa [eS] using hi
      have := (hrow i (by omega)).1
      rw [Addr.add_lit] at this
      rw [this]
      have h7 := Elt.all_get eS (xs := (List.range (n + 1)).map fun r => (⟨A r, L r, C r⟩ : SlV)) (k := i) (j := 0) (x := ⟨A i, L i, C i⟩) (by simp [hi']) (by decide)
      rw [show i * eS.sz + 0 = i from by rw [show eS.sz = 1 from rfl]; omega] at h7
      rw [h7]
      rfl
  · intro i h xs e1 e2
    rw [List.getElem?_map] at e1 e2
    by_cases hi : i < len
    · rw [List.getElem?_range hi] at e1 e2
      cases e1; cases e2
      obtain ⟨_, h2, h3, h4, h5, h6, h7⟩ := hrow i (by omega)
      exact rdI_of h2 h3 h4 h5 h6 (fun a' ha c hc => (h7 a' ha).2 c hc)
    · rw [List.getElem?_eq_none (by simp; omega)] at e1; cases e1
/-- a []Card that came in -/
theorem open_rdC {w : World} {r : Reach} {b0 : Nat} {t e q : TypeId} {f0 : Field} {v : Value} {d : DataW H} {ps : List MemPlace}
    (ht : P.underlying t = some (.slice e)) (he : P.underlying e = some (.struct #[f0])) (hf : P.underlying f0.type = some (.slice q)) (hq : P.underlying q = some (.int .i64)) (ce : P.cellsOf e = 1) (cf : P.cellsOf f0.type = 1) (o0 : f0.offset = 0) (cq : P.cellsOf q = 1)
    (hok : Value.okWide P w r b0 t v) (h : DataW.Trod enc P w 0 (fun _ => true) true t v d ps) :
    ∃ xss, RdInt64SS w.heap.size w v xss := by
  obtain ⟨a, len, cap, rfl⟩ := okWide_slice ht hok
  obtain ⟨fuel, hfu⟩ := h
  rcases open_slice1 ht ce hfu with ⟨hcs, hx⟩ | ⟨a', len', cap', m, n, V, D, Pl, hcs, hb, hl, hm, hmm, hx, hcell⟩
  · have hcs' : Value.slice a len cap = .slice none 0 0 := by simpa [Value.cells] using hcs
    injection hcs' with h1 h2 h3
    subst h1; subst h2; subst h3
    exact ⟨[], ⟨[], Rds.nil _ _ _, rfl, fun i h xs e1 => by simp at e1⟩⟩
  · have hcs' : Value.slice a len cap = .slice (some a') len' cap' := by simpa [Value.cells] using hcs
    injection hcs' with h1 h2 h3
    subst h1; subst h2; subst h3
    simp only [if_true] at hmm
    rw [hmm] at hcell
    have each : ∀ r, r < cap → ∃ y : Option Addr × Nat × Nat × List Int, w.cell? (a'.add r) = some (.slice y.1 y.2.1 y.2.2.1) ∧ y.2.1 ≤ y.2.2.1 ∧ y.2.2.1 ≤ maxLen ∧ y.2.2.2.length = y.2.2.1 ∧
        (∀ n ∈ y.2.2.2, (Lit.int .i64 n).wf = true) ∧ (y.1 = none → y.2.2.1 = 0) ∧ ∀ a'', y.1 = some a'' → 0 ≤ a''.block ∧ ∀ c, c < y.2.2.1 → w.cell? (a''.add c) = some (.int .i64 (y.2.2.2.getD c 0)) := by
      intro r hr
      obtain ⟨h1, h2⟩ := hcell r hr
      obtain ⟨xs, k, _, _, _, hxl, hfs⟩ := DataW.trod_struct he h2
      have h3 := hfs 0 f0 rfl
      rw [o0, cf] at h3
      simp only [List.drop_zero, List.take_succ_cons, List.take_zero] at h3
      match xs, hxl with
      | [y0], _ =>
        have h4 : DataW.trod enc P w 0 (fun _ => true) true k f0.type [V r] = some y0 := h3
        rcases open_ints hf hq cq h4 with ⟨hcs2, hy⟩ | ⟨a2, len2, cap2, zs, hcs2, hb2, hl2, hm2, hz, hy, hcl, hwz⟩
        · refine ⟨(none, 0, 0, []), ?_, Nat.le_refl _, Nat.zero_le _, rfl, by simp, fun _ => rfl, fun _ hh => by cases hh⟩
          rw [h1]; congr 1; simpa using hcs2
        · simp only [if_true] at hz
          refine ⟨(some a2, len2, cap2, zs), ?_, hl2, hm2, hz, hwz, (fun hh => by cases hh), fun a3 hh => ?_⟩
          · rw [h1]; congr 1; simpa using hcs2
          · cases hh
            exact ⟨hb2, fun c hc => hcl c (by rw [hz]; exact hc)⟩
    obtain ⟨y, hy⟩ := choose_lt each
    exact rdM_of_rows (A := fun r => (y r).1) (L := fun r => (y r).2.1) (C := fun r => (y r).2.2.1) (Z := fun r => (y r).2.2.2) hl hm hy
end
theorem openCardS {H : Type} {enc : TypeId × Value → H} {w : World} {r : Reach} {b0 : Nat} {v : Value} {d : DataW H} {ps : List MemPlace} (hok : Value.okWide Tryz.prog w r b0 25 v)
    (h : DataW.Trod enc Tryz.prog w 0 (fun _ => true) true 25 v d ps) : ∃ xs, RdCardS w.heap.size w v xs :=
  open_rdC Tryz.underlying25 Tryz.underlying61 Tryz.underlying41 Tryz.underlying2 (by kernel_rfl) (by kernel_rfl) rfl (by kernel_rfl) hok h
end Go.Proofs.YtfieilbcdhbigaaGreatDoor
