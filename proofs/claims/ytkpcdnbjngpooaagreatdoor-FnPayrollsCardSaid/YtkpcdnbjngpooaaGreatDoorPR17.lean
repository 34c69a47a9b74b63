/- Append of a text's bytes to a slice of bytes of the call's own. No condition. -/
import Derived.Test.YtkpcdnbjngpooaaGreatDoorPR1
import Derived.Test.YtkpcdnbjngpooaaGreatDoorPR4
import Derived.Test.YtkpcdnbjngpooaaGreatDoorPR12
import Derived.Deep.AppendSrc
import Derived.Laws.CopyRow
import Derived.Laws.IdiomCopy
import Derived.Laws.IdiomStrings
namespace Go.Proofs.YtkpcdnbjngpooaaGreatDoor
open Go.ChangeShapes Go.WideShapes Go.ChangeAt Go.RowKit
set_option linter.unusedVariables false
set_option maxRecDepth 100000
theorem eB_allS (xs : List Int) : eB.all xs = xs.map (Value.int .u8) := by
  show xs.flatMap (fun x => [Value.int .u8 x]) = _
  induction xs with
  | nil => rfl
  | cons x xs ih => simp [List.flatMap_cons, ih]
theorem byteCells_bytesI (s : ByteArray) : eB.all (bytesI s) = byteCells s := by
  rw [eB_allS]
  unfold bytesI byteCells
  rw [List.map_map]
  rfl
theorem ownsRow_appStr {P : Program} {w : World} {base : Nat} {t tx ty e : TypeId} {i : TypeInfo} {z : Value} {bytes : Nat} (ht : P.underlying t = some (.slice e)) (hu : P.underlying tx = some .string) (hi : P.info? e = some i) (hz : i.zero = some z)
    (hsize : i.size = 1) (hby : i.bytes = bytes) (hzs : z.cells.size = 1) {v : Value} {n : Nat} {xs : List Value} (hown : w.ownsRow base e 1 v n xs) (s : ByteArray)
    (h63 : n + s.size ≤ maxLen) (hbytes : (n + s.size) * bytes ≤ 140737488355328) (hbase : base ≤ w.heap.size) :
    ∃ v' w', (Builtin.append_ #[t, tx] ty #[v, .string s]).run P w = .ok v' w' ∧ w'.ownsRow base e 1 v' (n + s.size) (xs ++ byteCells s) ∧ w.grownBy w' v.ownBlock ∧
      (v'.ownBlock = v.ownBlock ∨ ∃ k, v'.ownBlock = some k ∧ w.heap.size ≤ k) := by
  subst hby
  have hsmall : n + s.size ≤ 9223372036854775807 := by simp only [maxLen] at h63; omega
  have hsrc : Go.Src P i.size tx (.string s) s.size (byteCells s) w := by rw [hsize]; exact Go.Src.ofString w hu s
  have hbl := byteCells_length s
  have hlen : (xs ++ byteCells s).length = (n + s.size) * 1 := by rw [List.length_append, hown.1, hbl]; omega
  have grown : ∀ (old : Nat) (row : Option Nat),
      (w.drew.alloc (.cells ((xs ++ byteCells s).toArray ++ Builtin.zeroCells z.cells (grownCap w (n + s.size) old e - (n + s.size))) e)).ownsRow base e 1
        (.slice (some ⟨w.heap.size, 0, none⟩) (n + s.size) (grownCap w (n + s.size) old e)) (n + s.size) (xs ++ byteCells s) ∧
      w.grownBy (w.drew.alloc (.cells ((xs ++ byteCells s).toArray ++ Builtin.zeroCells z.cells (grownCap w (n + s.size) old e - (n + s.size))) e)) row := by
    intro old row
    have hge := grownCap_ge w (n + s.size) old e
    have hcm : grownCap w (n + s.size) old e ≤ maxLen := grownCap_le_maxLen w (n + s.size) old e h63
    refine ⟨⟨hlen, .inr ⟨w.heap.size, _, _, rfl, hbase, heap_alloc_new w.drew _, hge, hcm, ?_, ?_⟩⟩, ⟨rfl, rfl, rfl, by simp, fun k hk _ => Below.heap_alloc w.drew _ k hk⟩⟩
    · rw [Array.size_append, List.size_toArray, size_zeroCells, hzs, hlen]
      omega
    · rw [Array.toList_append, ← hlen]
      exact List.take_left
  have growcase : ∀ (bs : Option Addr) (cap : Nat), v = .slice bs n cap → (Builtin.firstCells i.size n (.slice bs n cap)).run P w.drew = .ok xs.toArray w.drew → cap < n + s.size →
      ∃ v' w', (Builtin.append_ #[t, tx] ty #[v, .string s]).run P w = .ok v' w' ∧ w'.ownsRow base e 1 v' (n + s.size) (xs ++ byteCells s) ∧ w.grownBy w' v.ownBlock ∧ (v'.ownBlock = v.ownBlock ∨ ∃ k, v'.ownBlock = some k ∧ w.heap.size ≤ k) := by
    intro bs cap hv hold hg
    subst hv
    have hr := run_append_grow_src (P := P) w t tx ty e i z ht hi hz bs n cap xs hold (.string s) s.size (byteCells s) hsrc hg (by omega) (growslice_fits (by omega) hbytes)
    have hgr := grown cap (Value.slice bs n cap).ownBlock
    exact ⟨_, _, hr, hgr.1, hgr.2, .inr ⟨w.heap.size, rfl, Nat.le_refl _⟩⟩
  rcases hown.2 with ⟨rfl, rfl⟩ | ⟨g, cap, cur, rfl, hbg, hg, hnc, hcm, hcs, htake⟩
  · have hx : xs = [] := List.eq_nil_of_length_eq_zero (by simpa using hown.1)
    subst hx
    by_cases hm : s.size = 0
    · have hn : byteCells s = [] := List.eq_nil_of_length_eq_zero (by omega)
      refine ⟨.slice none 0 0, w, ?_, ?_, World.grownBy.refl _ _, .inl rfl⟩
      · have hc := hsrc.cells
        have hl := hsrc.len w
        rw [hm] at hc hl
        simp [Builtin.append_, run_underlying ht, run_underlying hu, sizeOf, typeInfo, hi, hl, hc, hn]
      · rw [hn, hm]; exact World.ownsRow_nil w base e 1
    · exact growcase none 0 rfl (by rw [hsize]; exact run_firstCells_none w.drew 1 0 0 0) (by omega)
  · by_cases hroom : n + s.size ≤ cap
    · have hnews : ∀ j (hj : j < (byteCells s).length), w.cell? ⟨g, 0 + n * i.size + j, none⟩ = some (cur[n + j]'(by omega)) := by
        intro j hj
        have : n + j < cur.size := by omega
        rw [cell_of_row w g _ _ _ _ hg, hsize, Nat.mul_one, Nat.zero_add]
        exact Array.getElem?_eq_getElem this
      have hc1 : ∀ j, j < (byteCells s).length → (w.cell? ⟨g, 0 + n * i.size + j, none⟩).isSome = true := fun j hj => by rw [hnews j hj]; rfl
      have hf1 : ∀ j, j < (byteCells s).length → w.frozen? ⟨g, 0 + n * i.size + j, none⟩ = false := fun j hj => frozen_of_row w g _ _ _ hg
      have hr := run_append_room_src (P := P) (ty := ty) w t tx e i ht hi g 0 n cap (.string s) s.size (byteCells s) hsrc hroom hc1 hf1
      have h1 := run_storeCells_cells (P := P) g 0 (byteCells s) (n * i.size) w (by simpa using hc1) (by simpa using hf1) hsrc.one
      have h2 := run_storeCells_at (P := P) g 0 e (byteCells s) (n * i.size) cur w hg (by rw [hsize]; omega) hsrc.one
      rw [h1] at h2
      injection h2 with _ h3
      rw [h3] at hr
      refine ⟨_, _, hr, ⟨hlen, .inr ⟨g, cap, _, rfl, hbg, setRow_heap w g cur _ e _ hg, hroom, hcm, ?_, ?_⟩⟩, ⟨rfl, rfl, rfl, by simp, fun k _ hk => setRow_other w g k _ (fun e => hk (by simp [Value.ownBlock, e]))⟩, .inl rfl⟩
      · simp only [List.size_toArray, List.length_append, List.length_take, List.length_drop, Array.length_toList, hsize]
        omega
      · rw [hsize, Nat.zero_add, htake, ← hlen]
        exact List.take_left
    · have holds : ∀ j u, xs[j]? = some u → w.cell? ((⟨g, 0, none⟩ : Addr).add j) = some u := hown.cells (g := g) rfl
      exact growcase (some ⟨g, 0, none⟩) cap rfl (run_firstCells_some w.drew i.size n ⟨g, 0, none⟩ n cap xs (by rw [hsize]; exact hown.1) (by simpa using holds)) (by omega)
/-- 'out = append(out, text...)' in a walk -/
theorem wpList_appStr {P : Program} {ops : Array Oper} {rest : List Oper} {o : Oper} {a : Act} {Q : Exit → Act → World → Prop} {w : World} (hgd : o.guard = none) (s x : Operand) (t tx : TypeId)
    (ho : o.op = .call { callee := .builtin .append, args := #[s, x], argTypes := #[t, tx] })
    {base : Nat} {e : TypeId} {i : TypeInfo} {z : Value} {bytes : Nat} (ht : P.underlying t = some (.slice e)) (hu : P.underlying tx = some .string) (hi : P.info? e = some i) (hz : i.zero = some z)
    (hsize : i.size = 1) (hby : i.bytes = bytes) (hzs : z.cells.size = 1) {v : Value} {b : ByteArray} {xs : List Int} (hs : a.eval s = v) (hx : a.eval x = .string b) (hown : Own eB e base w v xs)
    (h63 : xs.length + b.size ≤ maxLen) (hbytes : (xs.length + b.size) * bytes ≤ 140737488355328) (hbase : base ≤ w.heap.size)
    (h : ∀ v' w', Own eB e base w' v' (xs ++ bytesI b) → Grew w w' v v' → wpList P ops Q rest (a.put o.dst v') w') : wpList P ops Q (o :: rest) a w := by
  refine wpList_plain hgd fun K hK => ?_
  obtain ⟨v', w', hr, h2, h3, h4⟩ := ownsRow_appStr (P := P) (ty := o.type) ht hu hi hz hsize hby hzs hown.1 b h63 hbytes hbase
  unfold Oper.wp execOp
  simp only [ho, resolve, invoke, builtin, Sem.run_bind, Sem.run_pure, Result.andThen_ok, List.map_toArray, List.map_cons, List.map_nil, hs, hx, hr]
  refine hK _ _ (h v' w' ⟨?_, fun y hy => ?_⟩ ⟨h3, h4⟩)
  · rw [eB.all_append, byteCells_bytesI]
    have hl : (bytesI b).length = b.size := by have := byteCells_length b; rw [← byteCells_bytesI, eB_allS, List.length_map] at this; exact this
    rw [List.length_append, hl]
    exact h2
  · rcases List.mem_append.1 hy with hy | hy
    · exact hown.2 y hy
    · unfold bytesI at hy
      obtain ⟨c, _, rfl⟩ := List.mem_map.1 hy
      have := c.toNat_lt
      show 0 ≤ (c.toNat : Int) ∧ (c.toNat : Int) ≤ 255
      omega
end Go.Proofs.YtkpcdnbjngpooaaGreatDoor
