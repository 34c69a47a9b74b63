/- slices.Insert of one number: walked. No condition. -/
import Derived.Test.YtpnmcgjfemaleaaInsT
import Derived.Test.YtpnmcgjfemaleaaSchP
import Derived.Test.YtpnmcgjfemaleaaSmall
namespace Go.Proofs.Ytpnmcgjfemaleaa
open Go.ChangeShapes Go.WideShapes Go.ChangeAt Go.RowKit
set_option linter.unusedVariables false
set_option maxRecDepth 100000
theorem wpList_copyRun {P : Program} {ops : Array Oper} {rest : List Oper} {o : Oper} {a : Act} {Q : Exit → Act → World → Prop} {w : World} (hgd : o.guard = none) (d s : Operand) (t t' : TypeId)
    (ho : o.op = .call { callee := .builtin .copy, args := #[d, s], argTypes := #[t, t'] }) {v u : Value} (hd : a.eval d = v) (hs : a.eval s = u) {v' : Value} {w' : World}
    (hr : (Builtin.copy_ #[t, t'] o.type #[v, u]).run P w = .ok v' w') (h : wpList P ops Q rest (a.put o.dst v') w') : wpList P ops Q (o :: rest) a w := by
  refine wpList_plain hgd fun K hK => ?_
  unfold Oper.wp execOp
  simp only [ho, resolve, invoke, builtin, Sem.run_bind, Sem.run_pure, Result.andThen_ok, List.map_toArray, List.map_cons, List.map_nil, hd, hs, hr]
  exact hK _ _ h
theorem step_copyRun {P : Program} {ops : Array Oper} {o : Oper} {a : Act} {K : Act → World → Prop} {Q : Exit → Act → World → Prop} {F : Prop} {w : World} (hgd : o.guard = none) (d s : Operand) (t t' : TypeId)
    (ho : o.op = .call { callee := .builtin .copy, args := #[d, s], argTypes := #[t, t'] }) (v u : Value) (hd : a.eval d = v) (hs : a.eval s = u) {v' : Value} {w' : World}
    (hr : (Builtin.copy_ #[t, t'] o.type #[v, u]).run P w = .ok v' w') (h : K (a.put o.dst v') w') :
    if Region.wanted o (yielded ops a.tmps) = true then Oper.wp P o a w K Q else F := by
  have hw : Region.wanted o (yielded ops a.tmps) = true := by simp [Region.wanted, hgd]
  rw [if_pos hw]
  unfold Oper.wp execOp
  simp only [ho, resolve, invoke, builtin, Sem.run_bind, Sem.run_pure, Result.andThen_ok, List.map_toArray, List.map_cons, List.map_nil, hd, hs, hr]
  exact h
theorem rds_row {w : World} {vb : Nat} {x : Int} (hrow : w.heap[vb]? = some (.cells #[.int .i64 x] 2)) (hx : eI.ok x) : RdInt64S w.heap.size w (.slice (some ⟨vb, 0, none⟩) 1 1) [x] := by
  have hlt : vb < w.heap.size := (Array.getElem?_eq_some_iff.1 hrow).1
  refine ⟨⟨rfl, by simp, .inr ⟨vb, 0, 1, rfl, ⟨by simp, by omega⟩, hlt, hlt, fun j hj => ?_⟩⟩, fun y hy => by simp at hy; subst hy; exact hx⟩
  have hj0 : j = 0 := by
    have : j < 1 * 1 := hj
    omega
  subst hj0
  rw [cell_of_row w vb _ _ _ _ hrow]
  rfl
set_option maxHeartbeats 1000000 in
theorem ins_end {xs : List Int} {v : Value} {x : Int} {w : World} {base vb : Nat} (h : OwnInt64S base w v xs) (hb : base ≤ w.heap.size) (hl : xs.length ≤ 100) (hx : eI.ok x) (hrow : w.heap[vb]? = some (.cells #[.int .i64 x] 2)) :
    Calls Try.prog 73 #[v, .int .i64 (xs.length : Int), .slice (some ⟨vb, 0, none⟩) 1 1] w fun e w' => ∃ u, e = .returned u ∧ OwnInt64S base w' u (xs ++ [x]) ∧ Grew w w' v u := by
  have hu := rds_row hrow hx
  obtain ⟨i0, hi, hz0, hz1, hz2⟩ := info_parts Try.infoInt64
  have Hh := Lib.hid h
  have Hu := Lib.hid hu
  have Hb := Lib.hid hb
  obtain ⟨n, hn⟩ : ∃ n, n = xs.length := ⟨_, rfl⟩
  have Hn := Lib.hid hn
  rcases h.1.2 with ⟨rfl, hn0⟩ | ⟨g, cap, cur, rfl, hbg, hg, hnc, hcm, _, _⟩
  · rw [hn0]
    have Hn0 := Lib.hid hn0
    clear h hrow hu hx hb hn hn0
    go_enter Try.func73, Try.ntmps73
    go_wp2_with (first | (at_builtin; refine wpList_appS (E := eI) rfl _ _ 29 rfl Try.underlying29 hi hz0 hz1 hz2 rfl (by decide) rfl rfl Hh.out Hu.out ?b1 ?b2 ?b3 ?_))
    case b1 => rw [Hn0.out]; unfold maxLen; simp
    case b2 => rw [Hn0.out]; simp
    case b3 => exact Hb.out
    intro v' w' ho hg
    go_wp2
    go_ret
    exact ⟨_, rfl, ho, hg⟩
  · rw [← hn] at hnc hl Hh ⊢
    have hcm' : cap ≤ 9223372036854775807 := by unfold maxLen at hcm; omega
    by_cases hcap : cap = n
    · subst hcap
      clear h hrow hu hx hb hn hg hbg hcm
      go_enter Try.func73, Try.ntmps73
      go_wp2_with (first | (at_builtin; refine wpList_appS (E := eI) rfl _ _ 29 rfl Try.underlying29 hi hz0 hz1 hz2 rfl (by decide) rfl rfl Hh.out Hu.out ?b1 ?b2 ?b3 ?_))
      case b1 => rw [← Hn.out]; unfold maxLen; simp; omega
      case b2 => rw [← Hn.out]; simp; omega
      case b3 => exact Hb.out
      intro v' w' ho hg
      go_wp2
      go_ret
      exact ⟨_, rfl, ho, hg⟩
    · clear h hrow hu hx hb hn hg hbg hcm
      go_enter Try.func73, Try.ntmps73
      go_wp2_with (first | (at_builtin; refine wpList_appS (E := eI) rfl _ _ 29 rfl Try.underlying29 hi hz0 hz1 hz2 rfl (by decide) rfl rfl Hh.out Hu.out ?b1 ?b2 ?b3 ?_))
      case b1 => rw [← Hn.out]; unfold maxLen; simp; omega
      case b2 => rw [← Hn.out]; simp; omega
      case b3 => exact Hb.out
      intro v' w' ho hg
      go_wp2
      go_ret
      exact ⟨_, rfl, ho, hg⟩
theorem sizeof_i64 : ∀ w, (Go.sizeOf 2).run Try.prog w = .ok 1 w := by
  obtain ⟨i0, hi, hz0, hz1, hz2⟩ := info_parts Try.infoInt64
  intro w
  simp [sizeOf, typeInfo, hi, hz1]
theorem hsz_i64 : (Try.prog.info? 2).map (·.size) = some 1 := by
  obtain ⟨i0, hi, hz0, hz1, hz2⟩ := info_parts Try.infoInt64
  rw [hi]; simp [hz1]
theorem putAt_two {xs : List Int} {x : Int} {k : Nat} (hk : k < xs.length) : (xs.take (k + 1) ++ xs.drop k).set k x = putAt xs x k := by
  unfold putAt
  rw [List.set_append, if_pos (by rw [List.length_take]; omega), List.take_succ_eq_append_getElem hk, List.set_append, if_neg (by rw [List.length_take]; omega)]
  have : k - (xs.take k).length = 0 := by rw [List.length_take]; omega
  rw [this]
  simp
set_option maxHeartbeats 1000000 in
theorem ins_shift {xs : List Int} {g cap k : Nat} {x : Int} {w : World} {base vb : Nat} (h : OwnInt64S base w (.slice (some ⟨g, 0, none⟩) xs.length cap) xs) (hb : base ≤ w.heap.size) (hl : xs.length ≤ 100) (hx : eI.ok x) (hrow : w.heap[vb]? = some (.cells #[.int .i64 x] 2))
    (hne : vb ≠ g) (hk : k < xs.length) (hroom : xs.length < cap) :
    Calls Try.prog 73 #[.slice (some ⟨g, 0, none⟩) xs.length cap, .int .i64 (k : Int), .slice (some ⟨vb, 0, none⟩) 1 1] w fun e w' => ∃ u, e = .returned u ∧ OwnInt64S base w' u (putAt xs x k) ∧ Grew w w' (.slice (some ⟨g, 0, none⟩) xs.length cap) u := by
  obtain ⟨n, hn⟩ : ∃ n, n = xs.length := ⟨_, rfl⟩
  have hcap : cap ≤ 9223372036854775807 ∧ 0 < cap ∧ ∃ cur, w.heap[g]? = some (.cells cur 2) ∧ cur.size = cap := by
    rcases h.1.2 with ⟨hv, _⟩ | ⟨g', cap', cur, hv, hbg, hg, hnc, hcm, hcs, htake⟩
    · cases hv
    · injection hv with e1 e2 e3
      injection e1 with e1
      injection e1 with e1
      subst e1; subst e3
      refine ⟨by unfold maxLen at hcm; omega, by omega, cur, hg, ?_⟩
      rw [hcs]; exact Nat.mul_one _
  obtain ⟨hc63, hc0, cur, hg, hcs⟩ := hcap
  have hsa : w.shape? vb = some (2, 1) := by simp [World.shape?, hrow]
  have hsb : w.shape? g = some (2, cap) := by simp [World.shape?, hg, hcs]
  have hov : ∀ lb cb, (callFunc 93 #[.slice (some ⟨vb, 0, none⟩) 1 1, .slice (some ⟨g, k + 1, none⟩) lb cb]).run Try.prog w = .ok (.value (.bool false)) w := fun lb cb => by
    rw [run_callFunc_extern Try.func93 (by kernel_rfl) (by kernel_rfl) (by kernel_rfl) (e := Extern.SlicesOverlaps.overlaps #[29, 29] #[4]) (by kernel_rfl),
      Lib.run_overlaps_apart w 29 4 2 Try.underlying29 1 sizeof_i64 ⟨vb, 0, none⟩ ⟨g, k + 1, none⟩ 1 1 lb cb hne 2 2 1 cap hsa hsb (by omega) (frozen_of_row w vb _ _ _ hrow) (frozen_of_row w vb _ _ _ hrow)]
    rfl
  have hov1 := own_over (w := w.drew) (o := k + 1) (ys := xs.drop k) h.drew (by omega) (by rw [List.length_drop]; omega) (by rw [List.length_drop]; omega) (fun y hy => h.2 y (List.mem_of_mem_drop hy))
  obtain ⟨ho1, hg1, hs1, hf1⟩ := hov1
  have hdl : k + 1 + (xs.drop k).length = n + 1 := by rw [List.length_drop]; omega
  rw [hdl] at ho1
  rw [← hn] at hk hroom hl ⊢
  have hcells : ∀ j v, ((xs.drop k).map (Value.int .i64))[j]? = some v → w.cell? ⟨g, k + j, none⟩ = some v := by
    intro j v hj
    have := h.1.cells (g := g) rfl (k + j) v (by rw [eI_allM, List.getElem?_map]; rw [List.getElem?_map, List.getElem?_drop] at hj; exact hj)
    rw [Addr.add_lit, Nat.zero_add] at this
    exact this
  have hcp1 : ∀ ty dc sc, (Builtin.copy_ #[29, 29] ty #[.slice (some ⟨g, k + 1, none⟩) (n - k) dc, .slice (some ⟨g, k, none⟩) (n + 1 - k) sc]).run Try.prog w.drew = .ok (goInt ((n - k : Nat) : Int)) (w.drew.setCells g (k + 1) ((xs.drop k).map (Value.int .i64))) := fun ty dc sc => by
    have := run_copy_cells (P := Try.prog) w.drew 29 29 ty 2 g (k + 1) (n - k) dc ⟨g, k, none⟩ (n + 1 - k) sc ((xs.drop k).map (Value.int .i64)) Try.underlying29 hsz_i64
      (by rw [List.length_map, List.length_drop]; simp only [Nat.min_def]; split <;> omega) (fun j v hj => by rw [Addr.add_lit]; exact hcells j v hj)
      (fun j hj => hs1 j (by simpa using hj)) (fun j hj => hf1 _) (one_ints _)
    rw [List.length_map, List.length_drop, ← hn] at this
    exact this
  obtain ⟨W1, hW1⟩ : ∃ W1, W1 = w.drew.setCells g (k + 1) ((xs.drop k).map (Value.int .i64)) := ⟨_, rfl⟩
  rw [← hW1] at hcp1
  rw [← hW1] at ho1 hg1
  have hg2 : w.grownBy W1 (some g) := grownBy_trans (grownBy_drew w _) hg1
  have hst := Own.storeI ho1 (k := k) (x := x) (by rw [List.length_append, List.length_take, List.length_drop]; omega) (by omega) hx
  obtain ⟨⟨y0, hy0⟩, hfz, ho3, hg3⟩ := hst
  rw [putAt_two (by omega)] at ho3
  have hvc : W1.cell? ⟨vb, 0, none⟩ = some (.int .i64 x) := hg2.cell (by rw [cell_of_row w vb _ _ _ _ hrow]; rfl) (by simpa using hne)
  have hcp2 : ∀ ty dc, (Builtin.copy_ #[29, 29] ty #[.slice (some ⟨g, k, none⟩) (n + 1 - k) dc, .slice (some ⟨vb, 0, none⟩) 1 1]).run Try.prog W1 = .ok (.int .i64 1) (W1.setCell ⟨g, k, none⟩ (.int .i64 x)) := fun ty dc => by
    have := run_copy_cells (P := Try.prog) W1 29 29 ty 2 g k (n + 1 - k) dc ⟨vb, 0, none⟩ 1 1 [.int .i64 x] Try.underlying29 hsz_i64
      (by simp only [Nat.min_def, List.length_singleton]; split <;> omega)
      (fun j v hj => by
        have hj0 : j = 0 := by have := (List.getElem?_eq_some_iff.1 hj).1; simpa using this
        subst hj0
        rw [Addr.add_lit]
        simpa using hvc.trans hj)
      (fun j hj => by have hj0 : j = 0 := by simpa using hj
                      subst hj0; rw [Nat.add_zero, hy0]; rfl)
      (fun j hj => by have hj0 : j = 0 := by simpa using hj
                      subst hj0; exact hfz)
      (fun v hv => by simp at hv; subst hv; rfl)
    exact this
  have hgr : Grew w (W1.setCell ⟨g, k, none⟩ (.int .i64 x)) (.slice (some ⟨g, 0, none⟩) n cap) (.slice (some ⟨g, 0, none⟩) (n + 1) cap) := ⟨grownBy_trans hg2 hg3, .inl rfl⟩
  have Ho3 := Lib.hid ho3
  have Hgr := Lib.hid hgr
  have hw1 : IntKind.i64.wrap ((k : Int) + 1) = (k : Int) + 1 := by rw [IntKind.wrap_i64]; omega
  have hz2 : ¬ ((k : Int) = (n : Int)) := by omega
  have htn : ((k : Int) + 1).toNat = k + 1 := by omega
  have hb4 : ¬ (cap = k) := by omega
  have hb2 : ¬ (cap = k + 1) := by omega
  clear h ho1 hg1 hs1 hf1 hcells hg2 hy0 hfz ho3 hg3 hvc hgr hsa hsb hg hcs hrow hn hW1 hdl
  go_enter Try.func73, Try.ntmps73
  go_wp2_with (simp only [hov])
  have mixed : Try.prog.follows Departure.mixedOrders = true := by kernel_rfl
  have hb1 : (0 : Int) ≤ (k : Int) + 1 := by omega
  have hin : k ≤ n := by omega
  have hb3 : (k : Int) ≤ (n : Int) + 1 := by omega
  go_region_law_o (refine step_copyRun rfl _ _ 29 29 rfl _ _ (by simp [Act.eval, Act.put]) (by simp [Act.eval, Act.put]) (hcp1 _ _ _) ?_)
  go_wp2_with (at_builtin; refine wpList_copyRun rfl _ _ 29 29 rfl rfl rfl (hcp2 _ _) ?_)
  go_ret
  exact ⟨_, rfl, Ho3.out, Hgr.out⟩
end Go.Proofs.Ytpnmcgjfemaleaa
