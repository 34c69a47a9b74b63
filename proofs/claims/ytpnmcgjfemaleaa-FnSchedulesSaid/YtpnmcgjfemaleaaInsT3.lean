/- slices.Insert of one number: a new row; and all roads together. No condition. -/
import Derived.Test.YtpnmcgjfemaleaaInsT2
namespace Go.Proofs.Ytpnmcgjfemaleaa
open Go.ChangeShapes Go.WideShapes Go.ChangeAt Go.RowKit
set_option linter.unusedVariables false
set_option maxRecDepth 100000
theorem wpList_appRun {P : Program} {ops : Array Oper} {rest : List Oper} {o : Oper} {a : Act} {Q : Exit → Act → World → Prop} {w : World} (hgd : o.guard = none) (d s : Operand) (t t' : TypeId)
    (ho : o.op = .call { callee := .builtin .append, args := #[d, s], argTypes := #[t, t'] }) {v u : Value} (hd : a.eval d = v) (hs : a.eval s = u) {v' : Value} {w' : World}
    (hr : (Builtin.append_ #[t, t'] o.type #[v, u]).run P w = .ok v' w') (h : wpList P ops Q rest (a.put o.dst v') w') : wpList P ops Q (o :: rest) a w := by
  refine wpList_plain hgd fun K hK => ?_
  unfold Oper.wp execOp
  simp only [ho, resolve, invoke, builtin, Sem.run_bind, Sem.run_pure, Result.andThen_ok, List.map_toArray, List.map_cons, List.map_nil, hd, hs, hr]
  exact hK _ _ h
theorem zeroI (m : Nat) : Builtin.zeroCells (Value.int .i64 0).cells m = (List.replicate m (Value.int .i64 0)).toArray := by
  apply Array.ext
  · simp [Builtin.zeroCells, Value.cells]
  · intro i h1 h2
    simp [Builtin.zeroCells, Value.cells, Nat.mod_one]
theorem putAt_grow {xs : List Int} {x : Int} {k n : Nat} (hn : n = xs.length) (hk : k < n) : ((xs.take k ++ List.replicate (n + 1 - k) 0).set k x).take (k + 1) ++ xs.drop k = putAt xs x k := by
  unfold putAt
  obtain ⟨m, hm⟩ : ∃ m, n + 1 - k = m + 1 := ⟨n - k, by omega⟩
  have hl : (xs.take k).length = k := by rw [List.length_take]; omega
  rw [hm, List.set_append, if_neg (by omega), hl, Nat.sub_self, List.replicate_succ, List.set_cons_zero, List.take_append, hl, List.take_of_length_le (by omega)]
  simp
theorem grownBy_new {w w1 w2 : World} {row : Option Nat} {N : Nat} (h : w.grownBy w1 row) (h' : w1.grownBy w2 (some N)) (hN : w.heap.size ≤ N) : w.grownBy w2 row :=
  ⟨h'.os.trans h.os, h'.tape.trans h.tape, h'.output.trans h.output, Nat.le_trans h.size h'.size, fun k hk hne => (h'.block k (Nat.lt_of_lt_of_le hk h.size) (fun e => by injection e with e; omega)).trans (h.block k hk hne)⟩
set_option maxHeartbeats 1000000 in
theorem ins_grow {xs : List Int} {g k : Nat} {x : Int} {w : World} {base vb : Nat} (h : OwnInt64S base w (.slice (some ⟨g, 0, none⟩) xs.length xs.length) xs) (hb : base ≤ w.heap.size) (hl : xs.length ≤ 100) (hx : eI.ok x) (hrow : w.heap[vb]? = some (.cells #[.int .i64 x] 2))
    (hk : k < xs.length) :
    Calls Try.prog 73 #[.slice (some ⟨g, 0, none⟩) xs.length xs.length, .int .i64 (k : Int), .slice (some ⟨vb, 0, none⟩) 1 1] w fun e w' => ∃ u, e = .returned u ∧ OwnInt64S base w' u (putAt xs x k) ∧ Grew w w' (.slice (some ⟨g, 0, none⟩) xs.length xs.length) u := by
  obtain ⟨n, hn⟩ : ∃ n, n = xs.length := ⟨_, rfl⟩
  obtain ⟨i0, hi, hz0, hz1, hz2⟩ := info_parts Try.infoInt64
  have hgl : g < w.heap.size := (h.lt g rfl).2
  have hvl : vb < w.heap.size := (Array.getElem?_eq_some_iff.1 hrow).1
  have hcell : ∀ j v, (xs.map (Value.int .i64))[j]? = some v → w.cell? ⟨g, j, none⟩ = some v := by
    intro j v hj
    have := h.1.cells (g := g) rfl j v (by rw [eI_allM]; exact hj)
    rw [Addr.add_lit, Nat.zero_add] at this
    exact this
  rw [← hn] at h hk hl ⊢
  have hold : (Builtin.firstCells i0.size k (.slice (some ⟨g, 0, none⟩) k n)).run Try.prog w.drew = .ok ((xs.take k).map (Value.int .i64)).toArray w.drew := by
    rw [hz1]
    refine run_firstCells_some w.drew 1 k ⟨g, 0, none⟩ k n _ (by rw [List.length_map, List.length_take]; omega) (fun j v hj => ?_)
    rw [Addr.add_lit, Nat.zero_add]
    refine hcell j v ?_
    rw [List.getElem?_map, List.getElem?_take] at hj
    rw [List.getElem?_map]
    split at hj
    · exact hj
    · cases hj
  have hrz := fun ty => Lib.run_append_grow_zeros (P := Try.prog) w 29 3 ty 2 i0 _ .i64 .i64 Try.underlying29 Try.underlying3 hi hz0 (some ⟨g, 0, none⟩) k n ((xs.take k).map (Value.int .i64)) hold (n + 1 - k) (by omega) (by omega) (by omega) (by omega) (by rw [hz2]; omega) (by rw [hz2]; exact growslice_fits (by omega) (by omega))
  have hkn : k + (n + 1 - k) = n + 1 := by omega
  have hki : ((n + 1 - k : Nat) : Int) = (n : Int) + 1 - (k : Int) := by omega
  rw [hkn, hki, zeroI, zeroI] at hrz
  obtain ⟨G, hG⟩ : ∃ G, G = grownCap w (n + 1) n 2 := ⟨_, rfl⟩
  rw [← hG] at hrz
  have hGn : n + 1 ≤ G := by rw [hG]; exact grownCap_ge w _ _ _
  have hGm : G ≤ maxLen := by rw [hG]; exact grownCap_le_maxLen w _ _ _ (by unfold maxLen; omega)
  have hG63 : G ≤ 9223372036854775807 := by unfold maxLen at hGm; omega
  obtain ⟨ROW, hROW⟩ : ∃ ROW, ROW = (((xs.take k).map (Value.int .i64)).toArray ++ (List.replicate (n + 1 - k) (Value.int .i64 0)).toArray ++ (List.replicate (G - (n + 1)) (Value.int .i64 0)).toArray) := ⟨_, rfl⟩
  rw [← hROW] at hrz
  obtain ⟨W1, hW1⟩ : ∃ W1, W1 = w.drew.alloc (.cells ROW 2) := ⟨_, rfl⟩
  rw [← hW1] at hrz
  obtain ⟨N, hN⟩ : ∃ N, N = w.heap.size := ⟨_, rfl⟩
  have hlk : (xs.take k).length = k := by rw [List.length_take]; omega
  have hl1 : (xs.take k ++ List.replicate (n + 1 - k) (0 : Int)).length = n + 1 := by rw [List.length_append, hlk, List.length_replicate]; omega
  have ho1 : OwnInt64S base W1 (.slice (some ⟨N, 0, none⟩) (n + 1) G) (xs.take k ++ List.replicate (n + 1 - k) (0 : Int)) := by
    refine ⟨⟨by rw [eI.all_length], .inr ⟨N, G, ROW, by rw [hl1], by omega, by rw [hW1, hN]; exact heap_alloc_new w.drew _, by rw [hl1]; exact hGn, hGm, ?_, ?_⟩⟩, ?_⟩
    · show _ = G * 1
      rw [hROW]
      simp only [Array.size_append, List.size_toArray, List.length_map, List.length_replicate, hlk]
      omega
    · show List.take (_ * 1) _ = _
      rw [Nat.mul_one, hl1, hROW, eI_allM, List.map_append, List.map_replicate, Array.toList_append, Array.toList_append]
      refine List.take_left' ?_
      rw [List.length_append]
      simp only [List.length_map, List.length_replicate, hlk]
      omega
    · intro y hy
      rcases List.mem_append.1 hy with hy | hy
      · exact h.2 y (List.mem_of_mem_take hy)
      · rw [(List.mem_replicate.1 hy).2]
        show -9223372036854775808 ≤ (0 : Int) ∧ (0 : Int) ≤ 9223372036854775807
        omega
  have hgA : w.grownBy W1 (some g) := by rw [hW1]; exact grownBy_trans (grownBy_drew w _) (World.grownBy_alloc _ _ _)
  have hst := Own.storeI ho1 (k := k) (x := x) hl1.symm (by omega) hx
  obtain ⟨⟨y0, hy0⟩, hfz, ho2, hg2⟩ := hst
  have hvc : W1.cell? ⟨vb, 0, none⟩ = some (.int .i64 x) := by
    rw [hW1]
    exact (World.grownBy_alloc w.drew _ none).cell (by rw [show w.drew.cell? ⟨vb, 0, none⟩ = w.cell? ⟨vb, 0, none⟩ from rfl, cell_of_row w vb _ _ _ _ hrow]; rfl) (by simp)
  have hcpA : ∀ ty dc, (Builtin.copy_ #[29, 29] ty #[.slice (some ⟨N, k, none⟩) (n + 1 - k) dc, .slice (some ⟨vb, 0, none⟩) 1 1]).run Try.prog W1 = .ok (.int .i64 1) (W1.setCell ⟨N, k, none⟩ (.int .i64 x)) := fun ty dc => by
    have := run_copy_cells (P := Try.prog) W1 29 29 ty 2 N k (n + 1 - k) dc ⟨vb, 0, none⟩ 1 1 [.int .i64 x] Try.underlying29 hsz_i64
      (by simp only [Nat.min_def, List.length_singleton]; split <;> omega)
      (fun j v hj => by
        have hj0 : j = 0 := by have := (List.getElem?_eq_some_iff.1 hj).1; simpa using this
        subst hj0
        rw [Addr.add_lit]
        simpa using hvc.trans hj)
      (fun j hj => by have hj0 : j = 0 := by simpa using hj
                      subst hj0; rw [Nat.add_zero, hy0]; rfl)
      (fun j hj => by have hj0 : j = 0 := by simpa using hj
                      subst hj0; exact hfz)
      (fun v hv => by simp at hv; subst hv; rfl)
    exact this
  obtain ⟨W2, hW2⟩ : ∃ W2, W2 = W1.setCell ⟨N, k, none⟩ (.int .i64 x) := ⟨_, rfl⟩
  rw [← hW2] at ho2 hg2 hcpA
  have hgB : w.grownBy W2 (some g) := grownBy_new hgA hg2 (by omega)
  have hsrc : ∀ j v, ((xs.drop k).map (Value.int .i64))[j]? = some v → W2.drew.cell? ⟨g, k + j, none⟩ = some v := by
    intro j v hj
    have h1 : w.cell? ⟨g, k + j, none⟩ = some v := hcell (k + j) v (by rw [List.getElem?_map]; rw [List.getElem?_map, List.getElem?_drop] at hj; exact hj)
    have h2 : w.grownBy W2 none := grownBy_new (by rw [hW1]; exact grownBy_trans (grownBy_drew w _) (World.grownBy_alloc _ _ _)) hg2 (by omega)
    exact h2.cell h1 (by simp)
  have hdl : k + 1 + (xs.drop k).length = n + 1 := by rw [List.length_drop]; omega
  have hov1 := own_over (w := W2.drew) (o := k + 1) (ys := xs.drop k) ho2.drew (by omega) (by omega) (by omega) (fun y hy => h.2 y (List.mem_of_mem_drop hy))
  obtain ⟨ho3, hg3, hs3, hf3⟩ := hov1
  rw [hdl, putAt_grow hn hk] at ho3
  have hcpB : ∀ ty dc sc, (Builtin.copy_ #[29, 29] ty #[.slice (some ⟨N, k + 1, none⟩) (n - k) dc, .slice (some ⟨g, k, none⟩) (n - k) sc]).run Try.prog W2.drew = .ok (goInt ((n - k : Nat) : Int)) (W2.drew.setCells N (k + 1) ((xs.drop k).map (Value.int .i64))) := fun ty dc sc => by
    have := run_copy_cells (P := Try.prog) W2.drew 29 29 ty 2 N (k + 1) (n - k) dc ⟨g, k, none⟩ (n - k) sc ((xs.drop k).map (Value.int .i64)) Try.underlying29 hsz_i64
      (by rw [List.length_map, List.length_drop]; simp only [Nat.min_def]; split <;> omega) (fun j v hj => by rw [Addr.add_lit]; exact hsrc j v hj)
      (fun j hj => hs3 j (by simpa using hj)) (fun j hj => hf3 _) (one_ints _)
    rw [List.length_map, List.length_drop, ← hn] at this
    exact this
  obtain ⟨W3, hW3⟩ : ∃ W3, W3 = W2.drew.setCells N (k + 1) ((xs.drop k).map (Value.int .i64)) := ⟨_, rfl⟩
  rw [← hW3] at ho3 hg3 hcpB
  have hgr : Grew w W3 (.slice (some ⟨g, 0, none⟩) n n) (.slice (some ⟨N, 0, none⟩) (n + 1) G) := ⟨grownBy_new (grownBy_trans hgB (grownBy_drew _ _)) hg3 (by omega), .inr ⟨N, rfl, by omega⟩⟩
  have Ho3 := Lib.hid ho3
  have Hgr := Lib.hid hgr
  have mixed : Try.prog.follows Departure.mixedOrders = true := by kernel_rfl
  have hw1 : IntKind.i64.wrap ((k : Int) + 1) = (k : Int) + 1 := by rw [IntKind.wrap_i64]; omega
  have hz2' : ¬ ((k : Int) = (n : Int)) := by omega
  have htn : ((k : Int) + 1).toNat = k + 1 := by omega
  have hb4 : ¬ (n = k) := by omega
  have hb2 : ¬ (G = k + 1) := by omega
  have hb5 : ¬ (G = k) := by omega
  have hb1 : (0 : Int) ≤ (k : Int) + 1 := by omega
  have hin : k ≤ n := by omega
  have hb3 : (k : Int) ≤ (n : Int) + 1 := by omega
  rw [← hN] at hrz
  clear h hcell hold hkn hki hG hGm hROW hW1 hlk hl1 ho1 hgA hy0 hfz ho2 hg2 hvc hW2 hgB hsrc hdl ho3 hg3 hs3 hf3 hW3 hgr hrow hn hgl hvl hN
  go_enter Try.func73, Try.ntmps73
  go_wp2_with (at_builtin; first
    | refine wpList_appRun rfl _ _ 29 3 rfl rfl rfl (hrz _) ?_
    | refine wpList_copyRun rfl _ _ 29 29 rfl rfl rfl (hcpA _ _) ?_)
  go_region_law_o (refine step_copyRun rfl _ _ 29 29 rfl _ _ (by simp [Act.eval, Act.put]) (by simp [Act.eval, Act.put]) (hcpB _ _ _) ?_)
  go_wp2
  go_ret
  exact ⟨_, rfl, Ho3.out, Hgr.out⟩
theorem insert_c {xs : List Int} {v : Value} {k : Nat} {x : Int} {w : World} {base vb : Nat} (h : OwnInt64S base w v xs) (hb : base ≤ w.heap.size) (hl : xs.length ≤ 100) (hx : eI.ok x) (hrow : w.heap[vb]? = some (.cells #[.int .i64 x] 2))
    (hne : ∀ g, v.ownBlock = some g → vb ≠ g) (hk : k ≤ xs.length) :
    Calls Try.prog 73 #[v, .int .i64 (k : Int), .slice (some ⟨vb, 0, none⟩) 1 1] w fun e w' => ∃ u, e = .returned u ∧ OwnInt64S base w' u (putAt xs x k) ∧ Grew w w' v u := by
  by_cases hkn : k = xs.length
  · subst hkn
    have e : putAt xs x xs.length = xs ++ [x] := by unfold putAt; rw [List.take_length, List.drop_length]
    rw [e]
    exact ins_end h hb hl hx hrow
  · rcases h.1.2 with ⟨rfl, hn0⟩ | ⟨g, cap, cur, rfl, hbg, hg, hnc, hcm, _, _⟩
    · omega
    · by_cases hcap : cap = xs.length
      · subst hcap
        exact ins_grow h hb hl hx hrow (by omega)
      · exact ins_shift h hb hl hx hrow (hne g rfl) (by omega) (by omega)
end Go.Proofs.Ytpnmcgjfemaleaa
