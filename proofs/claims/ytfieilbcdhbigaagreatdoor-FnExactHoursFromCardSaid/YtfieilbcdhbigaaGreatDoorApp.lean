/- Append to a slice of the call's own, told by lists; where the new array lies. No condition. -/
import Derived.Test.YtfieilbcdhbigaaGreatDoorBase
namespace Go.Proofs.YtfieilbcdhbigaaGreatDoor
open Go.RowKit

theorem ownsRow_append {P : Program} {w : World} {base : Nat} {t ty e : TypeId} {i : TypeInfo} {z : Value} {size bytes : Nat} (ht : P.underlying t = some (.slice e)) (hi : P.info? e = some i) (hz : i.zero = some z)
    (hsize : i.size = size) (hby : i.bytes = bytes) (hzs : z.cells.size = size) (hsz : 0 < size) {v : Value} {n : Nat} {xs : List Value} (hown : w.ownsRow base e size v n xs)
    (a : Addr) (m c : Nat) (news : List Value) (hl : news.length = m * size) (hnews : ∀ j u, news[j]? = some u → w.cell? (a.add j) = some u) (h1 : ∀ u ∈ news, u.oneCell' = true)
    (h63 : n + m ≤ maxLen) (hbytes : (n + m) * bytes ≤ 140737488355328) (hbase : base ≤ w.heap.size) :
    ∃ v' w', (Builtin.append_ #[t, t] ty #[v, .slice (some a) m c]).run P w = .ok v' w' ∧ w'.ownsRow base e size v' (n + m) (xs ++ news) ∧ w.grownBy w' v.ownBlock ∧
      (v'.ownBlock = v.ownBlock ∨ ∃ k, v'.ownBlock = some k ∧ w.heap.size ≤ k) := by
  obtain ⟨v', w', hr, h2, h3, h4⟩ := run_append_own (P := P) w base t ty e i z size bytes ht hi hz hsize hby hzs hsz v n xs hown a m c news hl hnews h1 h63 hbytes hbase
  refine ⟨v', w', hr, h2, h3, ?_⟩
  subst hsize
  subst hby
  have h63' : ((n + m : Nat) : Int) ≤ 9223372036854775807 := by unfold maxLen at h63; omega
  rcases hown.2 with ⟨rfl, rfl⟩ | ⟨g, cap, cur, rfl, hbg, hg, hnc, hcm, hcs, htake⟩
  · by_cases hm : m = 0
    · left
      rw [h4.2 ⟨rfl, hm⟩]
    · have hr2 := run_append_nil (P := P) w t ty e i z ht hi hz a m c news hl hnews (by omega) (by omega) (by simp only [Nat.zero_add] at hbytes; omega)
      rw [hr2] at hr
      injection hr with hv hw
      right
      exact ⟨w.heap.size, by rw [← hv]; rfl, Nat.le_refl _⟩
  · by_cases hroom : n + m ≤ cap
    · have hfit : n * i.size + news.length ≤ cur.size := by rw [hl, hcs, ← Nat.add_mul]; exact Nat.mul_le_mul_right _ hroom
      have hr2 := run_append_room (P := P) w t ty e i ht hi g n cap cur hg a m c news hl hnews h1 hroom hfit
      rw [hr2] at hr
      injection hr with hv hw
      left
      rw [← hv]
      rfl
    · have holds : ∀ j u, xs[j]? = some u → w.cell? ((⟨g, 0, none⟩ : Addr).add j) = some u := hown.cells (g := g) rfl
      have hr2 := run_append_grow (P := P) w t ty e i z ht hi hz ⟨g, 0, none⟩ n cap xs hown.1 holds a m c news hl hnews (by omega) h63' (growslice_fits (by omega) hbytes)
      rw [hr2] at hr
      injection hr with hv hw
      right
      exact ⟨w.heap.size, by rw [← hv]; rfl, Nat.le_refl _⟩

section
variable {α : Type} {E : Elt α}
/-- what an append leaves -/
def Grew (w w' : World) (v v' : Value) : Prop := w.grownBy w' v.ownBlock ∧ (v'.ownBlock = v.ownBlock ∨ ∃ k, v'.ownBlock = some k ∧ w.heap.size ≤ k)

theorem run_appS {P : Program} {w : World} {base : Nat} {t ty e : TypeId} {i : TypeInfo} {z : Value} {bytes B : Nat} (ht : P.underlying t = some (.slice e)) (hi : P.info? e = some i) (hz : i.zero = some z)
    (hsize : i.size = E.sz) (hby : i.bytes = bytes) (hzs : z.cells.size = E.sz) (hsz : 0 < E.sz) {v u : Value} {xs ys : List α} (hown : Own E e base w v xs) (hu : Rds E B w u ys)
    (h63 : xs.length + ys.length ≤ maxLen) (hbytes : (xs.length + ys.length) * bytes ≤ 140737488355328) (hbase : base ≤ w.heap.size) :
    ∃ v' w', (Builtin.append_ #[t, t] ty #[v, u]).run P w = .ok v' w' ∧ Own E e base w' v' (xs ++ ys) ∧ Grew w w' v v' := by
  have hok : ∀ x ∈ xs ++ ys, E.ok x := fun x hx => (List.mem_append.1 hx).elim (hown.2 x) (hu.2 x)
  have some_case : ∀ (a : Addr) (c : Nat), u = .slice (some a) ys.length c → (∀ j x, (E.all ys)[j]? = some x → w.cell? (a.add j) = some x) →
      ∃ v' w', (Builtin.append_ #[t, t] ty #[v, u]).run P w = .ok v' w' ∧ Own E e base w' v' (xs ++ ys) ∧ Grew w w' v v' := by
    intro a c hv hc
    subst hv
    obtain ⟨v', w', h1, h2, h3, h4⟩ := ownsRow_append (P := P) (ty := ty) ht hi hz hsize hby hzs hsz hown.1 a ys.length c (E.all ys) (E.all_length _) hc (E.all_oneCell _) h63 hbytes hbase
    refine ⟨v', w', h1, ⟨?_, hok⟩, h3, h4⟩
    rw [E.all_append, List.length_append]
    exact h2
  rcases hu.1.2.2 with ⟨h0, ao, cap, rfl, hcap⟩ | ⟨b, off, cap, rfl, hcp, hlt, hlt', hc⟩
  · obtain rfl : ys = [] := List.eq_nil_of_length_eq_zero h0
    cases ao with
    | none =>
      obtain rfl := hcap rfl
      refine ⟨v, w, run_append_owned_none (P := P) w base t ty e i E.sz ht hi v xs.length (E.all xs) hown.1, by rw [List.append_nil]; exact hown, World.grownBy.refl _ _, Or.inl rfl⟩
    | some a => exact some_case a cap rfl (fun j x hx => by simp [Elt.all] at hx)
  · refine some_case ⟨b, off, none⟩ cap rfl (fun j x hx => ?_)
    have hj : j < ys.length * E.sz := by have := (List.getElem?_eq_some_iff.1 hx).1; rwa [E.all_length] at this
    rw [Addr.add_lit, hc j hj]
    exact hx

/-- 'out = append(out, src...)' in a walk. -/
theorem wpList_appS {P : Program} {ops : Array Oper} {rest : List Oper} {o : Oper} {a : Act} {Q : Exit → Act → World → Prop} {w : World} (hgd : o.guard = none) (s x : Operand) (t : TypeId)
    (ho : o.op = .call { callee := .builtin .append, args := #[s, x], argTypes := #[t, t] })
    {base : Nat} {e : TypeId} {i : TypeInfo} {z : Value} {bytes B : Nat} (ht : P.underlying t = some (.slice e)) (hi : P.info? e = some i) (hz : i.zero = some z)
    (hsize : i.size = E.sz) (hby : i.bytes = bytes) (hzs : z.cells.size = E.sz) (hsz : 0 < E.sz) {v u : Value} {xs ys : List α} (hs : a.eval s = v) (hx : a.eval x = u) (hown : Own E e base w v xs) (hu : Rds E B w u ys)
    (h63 : xs.length + ys.length ≤ maxLen) (hbytes : (xs.length + ys.length) * bytes ≤ 140737488355328) (hbase : base ≤ w.heap.size)
    (h : ∀ v' w', Own E e base w' v' (xs ++ ys) → Grew w w' v v' → wpList P ops Q rest (a.put o.dst v') w') : wpList P ops Q (o :: rest) a w := by
  refine wpList_plain hgd fun K hK => ?_
  obtain ⟨v', w', hr, h2, h3⟩ := run_appS (P := P) (ty := o.type) ht hi hz hsize hby hzs hsz hown hu h63 hbytes hbase
  unfold Oper.wp execOp
  simp only [ho, resolve, invoke, builtin, Sem.run_bind, Sem.run_pure, Result.andThen_ok, List.map_toArray, List.map_cons, List.map_nil, hs, hx, hr]
  exact hK _ _ (h v' w' h2 h3)

theorem Grew.below {w w' a : World} {v v' : Value} {B : Nat} (h : Grew w w' v v') (hb : Below B a w) (hB : B ≤ w.heap.size) (hv : ∀ k, v.ownBlock = some k → B ≤ k) : Below B a w' := hb.grown h.1 hB hv
/-- a literal slice of elements, just laid -/
theorem Own.lit {e : TypeId} {base : Nat} {w : World} {xs : List α} {cs : Array Value} {n : Nat} (hb : base ≤ w.heap.size) (hcs : cs = (E.all xs).toArray) (hn : n = xs.length) (hm : n ≤ maxLen) (hok : ∀ x ∈ xs, E.ok x) :
    Own E e base (w.alloc (.cells cs e)) (.slice (some ⟨w.heap.size, 0, none⟩) n n) xs := by
  subst hcs
  subst hn
  refine ⟨?_, hok⟩
  have := World.ownsRow_lit (size := E.sz) (e := e) w (E.all xs).toArray xs.length hb hm (by rw [List.size_toArray]; exact E.all_length _)
  simpa using this
/-- one element, just laid -/
theorem rds_one {e : TypeId} {w : World} {x : α} {cs : Array Value} (hx : E.ok x) (hcs : cs = (E.cells x).toArray) : Rds E (w.heap.size + 1) (w.alloc (.cells cs e)) (.slice (some ⟨w.heap.size, 0, none⟩) 1 1) [x] :=
  (Own.lit (e := e) (base := 0) (xs := [x]) (Nat.zero_le _) (by rw [E.all_one]; exact hcs) rfl (by simp [maxLen]) (fun y hy => by simp at hy; subst hy; exact hx)).rds.mono (by simp)
theorem Own.alloc {e : TypeId} {base : Nat} {w : World} {v : Value} {xs : List α} (h : Own E e base w v xs) (o : Obj) : Own E e base (w.alloc o) v xs := ⟨h.1.alloc o, h.2⟩
end
theorem Own.addr {α : Type} {E : Elt α} {e : TypeId} {base : Nat} {w : World} {v : Value} {xs : List α} (h : Own E e base w v xs) (h0 : 0 < xs.length) : ∃ g cap, v = .slice (some ⟨g, 0, none⟩) xs.length cap ∧ base ≤ g ∧ g < w.heap.size := by
  rcases h.1.2 with ⟨rfl, hn⟩ | ⟨g, cap, cur, rfl, hbg, hg, _⟩
  · omega
  · exact ⟨g, cap, rfl, hbg, (Array.getElem?_eq_some_iff.1 hg).1⟩
/-- a store into a slice of numbers of the call's own -/
theorem Own.storeI {e : TypeId} {base g n cap k : Nat} {w : World} {xs : List Int} {x : Int} (h : Own eI e base w (.slice (some ⟨g, 0, none⟩) n cap) xs) (hn : n = xs.length) (hk : k < n) (hx : eI.ok x) :
    (∃ y, w.cell? ⟨g, k, none⟩ = some (.int .i64 y)) ∧ w.frozen? ⟨g, k, none⟩ = false ∧ Own eI e base (w.setCell ⟨g, k, none⟩ (.int .i64 x)) (.slice (some ⟨g, 0, none⟩) n cap) (xs.set k x) ∧ w.grownBy (w.setCell ⟨g, k, none⟩ (.int .i64 x)) (some g) := by
  subst hn
  have hi := h.ints
  have hst := hi.stored k (.int .i64 x)
  refine ⟨⟨xs[k], ?_⟩, hi.frozenAt k, Own.ofInts ?_ ?_, hst.2⟩
  · rw [hi.cellAt k (by omega)]; simp [hk]
  · rw [List.length_set, List.map_set]; exact hst.1
  · intro y hy
    rcases List.mem_or_eq_of_mem_set hy with hy | rfl
    · exact h.2 y hy
    · exact hx
/-- 'out = append(out, x)': one element that the statement has just laid in a new block: what is left, in the world before the element's own block. -/
theorem Grew.alloc {w w' : World} {o : Obj} {v v' : Value} (h : Grew (w.alloc o) w' v v') : Grew w w' v v' := by
  refine ⟨grownBy_trans (World.grownBy_alloc w o _) h.1, h.2.imp id fun ⟨k, h1, h2⟩ => ⟨k, h1, ?_⟩⟩
  have : (w.alloc o).heap.size = w.heap.size + 1 := by simp
  omega
end Go.Proofs.YtfieilbcdhbigaaGreatDoor
