/- The frame of every law's proof: a law that returns true and turns nothing that was there meets its row. No condition. -/
import Derived.Test.YtkpcdnbjngpooaaGreatDoorPR1
import Derived.SizedLaws
import Derived.Carry
namespace Go.Proofs.YtkpcdnbjngpooaaGreatDoor
open Go.ChangeShapes Go.WideShapes Go.ChangeAt Go.RowKit

section
variable {H : Type} {enc : TypeId × Value → H} {P : Program}

theorem trodAll_below {W W' : World} (hl : laidOutB P = true) (hb : Below W.heap.size W W') : ∀ (ts : List TypeId) (vs : List Value) (ds : List (DataW H)) (ps : List MemPlace),
    (∀ t ∈ ts, P.readableRec t = true ∧ t < P.types.size) → (∀ p ∈ ps, p.block < W.heap.size) →
    DataW.TrodAll enc P W 0 (fun _ => true) true ts vs ds ps → DataW.TrodAll enc P W' 0 (fun b => decide (b < W.heap.size)) true ts vs ds ps := by
  intro ts
  induction ts with
  | nil => intro vs ds ps _ _ h; cases vs <;> cases ds <;> first | exact h | exact h.elim
  | cons t ts ih =>
    intro vs ds ps ht hp h
    obtain ⟨v, vs', d, ds', p, q, rfl, rfl, rfl, h1, h2⟩ := trodAll_cons h
    have hh := ht t (List.mem_cons_self ..)
    exact trodAll_cons_mk (Below.trod hl hh.1 hh.2 h1 hb fun x hx => hp x (List.mem_append_left _ hx))
      (ih vs' ds' q (fun t' h' => ht t' (List.mem_cons_of_mem _ h')) (fun x hx => hp x (List.mem_append_right _ hx)) h2)

theorem law_post {f : Func} {s : ChangeSpec} {W W' : World} {args : Array Value} {ds gs : List (DataW H)} {before : List MemPlace} {T : TypeId}
    (hl : laidOutB P = true) (ht : ∀ t ∈ f.params.toList, P.readableRec t = true ∧ t < P.types.size) (hv : s.vars = [])
    (hr : f.resultTypes = #[T]) (hT : P.underlying T = some .bool)
    (hs : s.fn H (ds ++ []) = { results := [.lit (.bool true)], args := ds, vars := [] })
    (hW : DataW.Whole enc P f.params.toList s.vars false W args.toList ds gs before) (hb : Below W.heap.size W W') :
    s.post enc P f false true false false W args (.bool true) W' := by
  have hlt := hW.lt
  obtain ⟨p, q, hA, hV, hpq, hfz, hnd⟩ := id hW
  rw [hv] at hV
  obtain ⟨rfl, rfl⟩ := trodVars_none hV
  rw [List.append_nil] at hpq
  subst hpq
  refine ⟨ds, [], before, [], before, [], hW, ?_, ?_, ?_, ?_, fun h => by cases h⟩
  · rw [hs, hr]
    exact trodAll_cons_mk (shut_bool hT true) trodAll_mk0
  · rw [hs]
    exact trodAll_below hl hb _ _ _ _ ht hlt hA
  · rw [hs, hv]
    rfl
  · exact hb.frame _

theorem i64_bd {n : Int} (h : (Lit.int .i64 n).wf = true) : -9223372036854775808 ≤ n ∧ n ≤ 9223372036854775807 := by
  simpa [Lit.wf, IntKind.min, IntKind.max, IntKind.signed, IntKind.bits] using h
/-- a []int64 that came in -/
theorem open_rdI {w : World} {r : Reach} {b0 : Nat} {t e : TypeId} {v : Value} {d : DataW H} {ps : List MemPlace}
    (ht : P.underlying t = some (.slice e)) (he : P.underlying e = some (.int .i64)) (hc : P.cellsOf e = 1)
    (hok : Value.okWide P w r b0 t v) (h : DataW.Trod enc P w 0 (fun _ => true) true t v d ps) :
    ∃ xs, RdI w.heap.size w v xs ∧ (d = .nil ∧ xs = [] ∨ ∃ el sp, d = .slice el sp ∧ el.length = xs.length) := by
  obtain ⟨a, len, cap, rfl⟩ := okWide_slice ht hok
  obtain ⟨fuel, hf⟩ := h
  rcases open_ints ht he hc hf with ⟨hcs, hx⟩ | ⟨a', len', cap', zs, hcs, _, hl, hm, hz, hx, hcell, hwf⟩
  · have hcs' : Value.slice a len cap = .slice none 0 0 := by simpa [Value.cells] using hcs
    injection hcs' with h1 h2 h3
    subst h1; subst h2; subst h3
    simp only [Prod.mk.injEq] at hx
    exact ⟨[], Rds.nil _ _ _, .inl ⟨hx.1, rfl⟩⟩
  · have hcs' : Value.slice a len cap = .slice (some a') len' cap' := by simpa [Value.cells] using hcs
    injection hcs' with h1 h2 h3
    subst h1; subst h2; subst h3
    simp only [if_true] at hz
    simp only [Prod.mk.injEq] at hx
    have hlen : (zs.take len).length = len := by rw [List.length_take]; omega
    have hmx : len ≤ 9223372036854775807 := by unfold maxLen at hm; omega
    refine ⟨zs.take len, ⟨⟨?_, by rw [hlen]; exact hmx, ?_⟩, fun x hx' => ?_⟩, .inr ⟨_, _, hx.1, by simp [lits]⟩⟩
    · exact eI.all_length _
    · rw [hlen, eI_all]
      cases len with
      | zero => exact .inl ⟨rfl, _, _, rfl, fun h => by cases h⟩
      | succ n =>
        obtain ⟨b, off, spot⟩ := a'
        have h0 := hcell 0 (by omega)
        have hspot : spot = none := by
          cases spot with
          | none => rfl
          | some s =>
            simp only [Addr.add, if_true, World.cell?] at h0
            split at h0 <;> simp at h0
        subst hspot
        refine .inr ⟨b, off, cap, rfl, ⟨hl, by unfold maxLen at hm; omega⟩, World.block_lt_of_cell? w _ h0, World.block_lt_of_cell? w _ h0, fun i hi => ?_⟩
        have hi' : i < n + 1 := by simpa [eI] using hi
        have hi2 : i < zs.length := by omega
        have := hcell i hi2
        rw [Addr.add_lit] at this
        rw [this]
        simp [hi', hi2]
    · have := hwf x (List.mem_of_mem_take hx')
      simp [Lit.wf, IntKind.min, IntKind.max, IntKind.signed, IntKind.bits] at this
      exact this
end
end Go.Proofs.YtkpcdnbjngpooaaGreatDoor
