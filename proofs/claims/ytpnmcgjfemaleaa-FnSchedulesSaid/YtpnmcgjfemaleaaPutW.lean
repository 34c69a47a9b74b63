/- A number put to its place among rising ones: the reference's walk. No condition. -/
import Derived.Test.YtpnmcgjfemaleaaPutI
namespace Go.Proofs.Ytpnmcgjfemaleaa
open Go.ChangeShapes Go.WideShapes Go.ChangeAt Go.RowKit
set_option linter.unusedVariables false
set_option maxRecDepth 100000
theorem PutSt.start (xs : List Int) (n : Int) : PutSt xs n 0 false [] := ⟨rfl, rfl⟩
theorem PutSt.done {xs : List Int} {n y : Int} {k : Nat} {out : List Int} (hy : xs[k]? = some y) (h : PutSt xs n k true out) : PutSt xs n (k + 1) true (out ++ [y]) := by
  obtain ⟨h1, h2⟩ := h
  rw [if_pos rfl] at h2
  refine ⟨?_, ?_⟩
  · rw [take_snoc hy, anyGe_snoc, ← h1]; rfl
  · rw [if_pos rfl, take_snoc hy, putL_snoc_done h1.symm, h2]
theorem PutSt.low {xs : List Int} {n y : Int} {k : Nat} {out : List Int} (hy : xs[k]? = some y) (h : PutSt xs n k false out) (hlt : ¬ n ≤ y) : PutSt xs n (k + 1) false (out ++ [y]) := by
  obtain ⟨h1, h2⟩ := h
  rw [if_neg (by decide)] at h2
  refine ⟨?_, ?_⟩
  · rw [take_snoc hy, anyGe_snoc, ← h1, decide_eq_false hlt]; rfl
  · rw [if_neg (by decide), take_snoc hy, h2]
theorem PutSt.same {xs : List Int} {n y : Int} {k : Nat} {out : List Int} (hy : xs[k]? = some y) (h : PutSt xs n k false out) (hle : n ≤ y) (hlt : ¬ n < y) : PutSt xs n (k + 1) true (out ++ [y]) := by
  obtain ⟨h1, h2⟩ := h
  rw [if_neg (by decide)] at h2
  refine ⟨?_, ?_⟩
  · rw [take_snoc hy, anyGe_snoc, ← h1, decide_eq_true hle]; rfl
  · rw [if_pos rfl, take_snoc hy, putL_snoc_new h1.symm, h2]
    show _ = _ ++ (if n ≤ y then (if n < y then [n, y] else [y]) else y :: [n])
    rw [if_pos hle, if_neg hlt]
theorem PutSt.put {xs : List Int} {n y : Int} {k : Nat} {out : List Int} (hy : xs[k]? = some y) (h : PutSt xs n k false out) (hle : n ≤ y) (hlt : n < y) : PutSt xs n (k + 1) true (out ++ [n, y]) := by
  obtain ⟨h1, h2⟩ := h
  rw [if_neg (by decide)] at h2
  refine ⟨?_, ?_⟩
  · rw [take_snoc hy, anyGe_snoc, ← h1, decide_eq_true hle]; rfl
  · rw [if_pos rfl, take_snoc hy, putL_snoc_new h1.symm, h2]
    show _ = _ ++ (if n ≤ y then (if n < y then [n, y] else [y]) else y :: [n])
    rw [if_pos hle, if_pos hlt]
theorem PutSt.endT {xs : List Int} {n : Int} {out : List Int} (h : PutSt xs n xs.length true out) : out = putL xs n := by
  have h2 := h.2
  rw [if_pos rfl, List.take_length] at h2
  exact h2
theorem PutSt.endF {xs : List Int} {n : Int} {out : List Int} (h : PutSt xs n xs.length false out) : out ++ [n] = putL xs n := by
  obtain ⟨h1, h2⟩ := h
  rw [if_neg (by decide), List.take_length] at h2
  rw [List.take_length] at h1
  rw [h2, putL_end h1.symm]
theorem l00Put_c {xs : List Int} {v : Value} {w : World} {A : Nat} (n : Int) (hn : eI.ok n) (ha : RdI A w v xs) (hl : xs.length ≤ 1000) :
    Calls Try.prog 80 #[v, .int .i64 n] w fun e w' => ∃ u, e = .returned u ∧ OwnInt64S w.heap.size w' u (putL xs n) ∧ Below w.heap.size w w' := by
  obtain ⟨i0, hi, hz0, hz1, hz2⟩ := info_parts Try.infoInt64
  obtain ⟨ao, cap, rfl, ho⟩ := RdI.open ha
  obtain ⟨m, hm⟩ : ∃ m, m = xs.length := ⟨_, rfl⟩
  rw [← hm] at hl ho ⊢
  have Hm := Lib.hid hm
  have Ho := Lib.hid ho
  have h0 : OwnInt64S w.heap.size (w.alloc (.cells #[] 2)) (.slice (some ⟨w.heap.size, 0, none⟩) 0 0) [] := Own.lit (E := eI) (xs := []) (cs := #[]) (Nat.le_refl _) rfl rfl (by decide) (fun x hx => by cases hx)
  have hb0 : Below w.heap.size w (w.alloc (.cells #[] 2)) := (Below.refl _ _).alloc (Nat.le_refl _) _
  clear ho hm ha
  go_enter Try.func80, Try.ntmps80
  go_wp2_with fail
  go_loopw [5, 6, 7] (fun v d i wr => ∃ (k : Nat) (b : Bool) (out : List Int), k ≤ m ∧ i = .int .i64 k ∧ d = .bool b ∧ Hid (PutSt xs n k b out) ∧ OwnInt64S w.heap.size wr v out ∧ Below w.heap.size w wr) (fun _ _ i _ => m - (intOf i).toNat)
  case atStart => exact ⟨0, false, [], Nat.zero_le _, rfl, rfl, PutSt.start _ _, h0, hb0⟩
  case round =>
    obtain ⟨k, d, out, hk, rfl, rfl, hst, hown, hb⟩ := hrel
    have hlen := hst.out.len
    clear h0 hb0
    by_cases hkm : k < m
    · obtain ⟨b, off, rfl, hlt, hc⟩ := Ho.out (by omega)
      obtain ⟨y, hy, hcy, by2⟩ := hc k hkm
      have d1 := (hb.cell (p := ⟨b, off + k, none⟩) hlt.2).trans hcy
      have Hcy := Lib.hid hcy
      have Hown := Lib.hid hown
      have Hb := Lib.hid hb
      have Hy := Lib.hid hy
      have hsz := hb.size
      have Hqp : eI.ok y := by2
      clear hown hb hc hcy hy
      cases d with
      | true =>
        go_wp2_with (first | (at_builtin; refine wpList_appS (E := eI) rfl _ _ 29 rfl Try.underlying29 hi hz0 hz1 hz2 rfl (by decide) rfl rfl (Hown.out.alloc _) (rds_one (E := eI) (x := y) Hqp rfl) ?b1 ?b2 ?b3 ?_))
        case b1 => unfold maxLen; (try simp); omega
        case b2 => (try simp); omega
        case b3 => (try simp); omega
        intro v' w3 hown3 hg3
        have hb3 : Below w.heap.size w w3 := hg3.alloc.below Hb.out Hb.out.size (fun j hj => (Hown.out.lt j hj).1)
        clear hg3 Hb Hown d1
        go_wp2
        go_roundw
        case rel => exact ⟨k + 1, true, _, by omega, by go_num, rfl, PutSt.done Hy.out hst.out, hown3, hb3⟩
        case measure => simp [intOf]; omega
      | false =>
        by_cases hge : n ≤ y
        · by_cases hgt : n < y
          · have Hqn : eI.ok n := hn
            go_wp2_with (first | (at_builtin; refine wpList_appS (E := eI) rfl _ _ 29 rfl Try.underlying29 hi hz0 hz1 hz2 rfl (by decide) rfl rfl (Hown.out.alloc _) (rds_one (E := eI) (x := n) Hqn rfl) ?b1 ?b2 ?b3 ?_))
            case b1 => unfold maxLen; (try simp); omega
            case b2 => (try simp); omega
            case b3 => (try simp); omega
            intro v' w3 hown3 hg3
            have hb3 : Below w.heap.size w w3 := hg3.alloc.below Hb.out Hb.out.size (fun j hj => (Hown.out.lt j hj).1)
            have d2 : w3.cell? ⟨b, off + k, none⟩ = some (.int .i64 y) := (hb3.cell (p := ⟨b, off + k, none⟩) hlt.2).trans Hcy.out
            have Hown3 := Lib.hid hown3
            have Hb3 := Lib.hid hb3
            have hsz3 := hb3.size
            clear hg3 Hb Hown d1 hown3 hb3
            go_wp2_with (first | (at_builtin; refine wpList_appS (E := eI) rfl _ _ 29 rfl Try.underlying29 hi hz0 hz1 hz2 rfl (by decide) rfl rfl (Hown3.out.alloc _) (rds_one (E := eI) (x := y) Hqp rfl) ?b1 ?b2 ?b3 ?_))
            case b1 => unfold maxLen; (try simp); omega
            case b2 => (try simp); omega
            case b3 => (try simp); omega
            intro v'' w4 hown4 hg4
            have hb4 : Below w.heap.size w w4 := hg4.alloc.below Hb3.out Hb3.out.size (fun j hj => (Hown3.out.lt j hj).1)
            clear hg4 Hb3 Hown3 d2
            go_wp2
            go_roundw
            case rel => exact ⟨k + 1, true, _, by omega, by go_num, rfl, PutSt.put Hy.out hst.out hge hgt, hown4, hb4⟩
            case measure => simp [intOf]; omega
          · go_wp2_with (first | (at_builtin; refine wpList_appS (E := eI) rfl _ _ 29 rfl Try.underlying29 hi hz0 hz1 hz2 rfl (by decide) rfl rfl (Hown.out.alloc _) (rds_one (E := eI) (x := y) Hqp rfl) ?b1 ?b2 ?b3 ?_))
            case b1 => unfold maxLen; (try simp); omega
            case b2 => (try simp); omega
            case b3 => (try simp); omega
            intro v' w3 hown3 hg3
            have hb3 : Below w.heap.size w w3 := hg3.alloc.below Hb.out Hb.out.size (fun j hj => (Hown.out.lt j hj).1)
            clear hg3 Hb Hown d1
            go_wp2
            go_roundw
            case rel => exact ⟨k + 1, true, _, by omega, by go_num, rfl, PutSt.same Hy.out hst.out hge (by omega), hown3, hb3⟩
            case measure => simp [intOf]; omega
        · go_wp2_with (first | (at_builtin; refine wpList_appS (E := eI) rfl _ _ 29 rfl Try.underlying29 hi hz0 hz1 hz2 rfl (by decide) rfl rfl (Hown.out.alloc _) (rds_one (E := eI) (x := y) Hqp rfl) ?b1 ?b2 ?b3 ?_))
          case b1 => unfold maxLen; (try simp); omega
          case b2 => (try simp); omega
          case b3 => (try simp); omega
          intro v' w3 hown3 hg3
          have hb3 : Below w.heap.size w w3 := hg3.alloc.below Hb.out Hb.out.size (fun j hj => (Hown.out.lt j hj).1)
          clear hg3 Hb Hown d1
          go_wp2
          go_roundw
          case rel => exact ⟨k + 1, false, _, by omega, by go_num, rfl, PutSt.low Hy.out hst.out (by omega), hown3, hb3⟩
          case measure => simp [intOf]; omega
    · obtain rfl : k = m := by omega
      have hM := Hm.out
      cases d with
      | true =>
        have he := PutSt.endT (by rw [← hM]; exact hst.out)
        have He := Lib.hid he
        clear he
        go_wp2
        go_ret
        exact ⟨_, rfl, by rw [← He.out]; exact hown, hb⟩
      | false =>
        have he := PutSt.endF (by rw [← hM]; exact hst.out)
        have He := Lib.hid he
        have Hown := Lib.hid hown
        have Hb := Lib.hid hb
        have hsz := hb.size
        have Hqn : eI.ok n := hn
        clear he hown hb hM
        go_wp2_with (first | (at_builtin; refine wpList_appS (E := eI) rfl _ _ 29 rfl Try.underlying29 hi hz0 hz1 hz2 rfl (by decide) rfl rfl (Hown.out.alloc _) (rds_one (E := eI) (x := n) Hqn rfl) ?b1 ?b2 ?b3 ?_))
        case b1 => unfold maxLen; (try simp); omega
        case b2 => (try simp); omega
        case b3 => (try simp); omega
        intro v' w3 hown3 hg3
        have hb3 : Below w.heap.size w w3 := hg3.alloc.below Hb.out Hb.out.size (fun j hj => (Hown.out.lt j hj).1)
        clear hg3 Hb Hown
        go_wp2
        go_ret
        exact ⟨_, rfl, by rw [← He.out]; exact hown3, hb3⟩
end Go.Proofs.Ytpnmcgjfemaleaa
