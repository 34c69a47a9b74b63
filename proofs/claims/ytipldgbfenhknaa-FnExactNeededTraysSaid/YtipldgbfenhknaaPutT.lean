/- A number put to its place among rising ones: plain, and the reference's walk. No condition. -/
import Derived.Test.YtipldgbfenhknaaCopy
namespace Go.Proofs.Ytipldgbfenhknaa
open Go.ChangeShapes Go.WideShapes Go.ChangeAt Go.RowKit
set_option linter.unusedVariables false
set_option maxRecDepth 100000
def putL : List Int → Int → List Int
  | [], n => [n]
  | y :: ys, n => if n ≤ y then (if n < y then n :: y :: ys else y :: ys) else y :: putL ys n
def anyGe (xs : List Int) (n : Int) : Bool := xs.any fun y => decide (n ≤ y)
theorem putL_snoc_done {n z : Int} : ∀ {a : List Int}, anyGe a n = true → putL (a ++ [z]) n = putL a n ++ [z] := by
  intro a
  induction a with
  | nil => intro h; cases h
  | cons y a ih =>
    intro h
    show (if n ≤ y then (if n < y then n :: y :: (a ++ [z]) else y :: (a ++ [z])) else y :: putL (a ++ [z]) n) = (if n ≤ y then (if n < y then n :: y :: a else y :: a) else y :: putL a n) ++ [z]
    by_cases h1 : n ≤ y
    · rw [if_pos h1, if_pos h1]; split <;> rfl
    · rw [if_neg h1, if_neg h1, ih (by unfold anyGe at h ⊢; rw [List.any_cons, decide_eq_false h1, Bool.false_or] at h; exact h)]
      rfl
theorem putL_snoc_new {n z : Int} : ∀ {a : List Int}, anyGe a n = false → putL (a ++ [z]) n = a ++ putL [z] n := by
  intro a
  induction a with
  | nil => intro _; rfl
  | cons y a ih =>
    intro h
    unfold anyGe at h
    rw [List.any_cons, Bool.or_eq_false_iff] at h
    have h1 : ¬ n ≤ y := of_decide_eq_false h.1
    show (if n ≤ y then _ else y :: putL (a ++ [z]) n) = _
    rw [if_neg h1, ih h.2]
    rfl
theorem putL_end {n : Int} : ∀ {a : List Int}, anyGe a n = false → putL a n = a ++ [n] := by
  intro a
  induction a with
  | nil => intro _; rfl
  | cons y a ih =>
    intro h
    unfold anyGe at h
    rw [List.any_cons, Bool.or_eq_false_iff] at h
    have h1 : ¬ n ≤ y := of_decide_eq_false h.1
    show (if n ≤ y then _ else y :: putL a n) = _
    rw [if_neg h1, ih h.2]
    rfl
theorem anyGe_snoc (a : List Int) (n z : Int) : anyGe (a ++ [z]) n = (anyGe a n || decide (n ≤ z)) := by unfold anyGe; rw [List.any_append]; simp
theorem putL_perm {n : Int} : ∀ {a : List Int}, n ∉ a → (putL a n).Perm (n :: a) := by
  intro a
  induction a with
  | nil => intro _; exact List.Perm.refl _
  | cons y a ih =>
    intro h
    have h1 : n ≠ y := fun e => h (by rw [e]; exact List.mem_cons_self ..)
    have h2 : n ∉ a := fun e => h (List.mem_cons_of_mem _ e)
    show (if n ≤ y then (if n < y then n :: y :: a else y :: a) else y :: putL a n).Perm _
    by_cases h3 : n ≤ y
    · rw [if_pos h3, if_pos (by omega)]
    · rw [if_neg h3]
      exact ((ih h2).cons y).trans (List.Perm.swap n y a)
theorem putL_sorted {n : Int} : ∀ {a : List Int}, a.Pairwise (· ≤ ·) → n ∉ a → (putL a n).Pairwise (· ≤ ·) := by
  intro a
  induction a with
  | nil => intro _ _; exact List.pairwise_singleton ..
  | cons y a ih =>
    intro hs h
    obtain ⟨h1, h2⟩ := List.pairwise_cons.1 hs
    have h3 : n ∉ a := fun e => h (List.mem_cons_of_mem _ e)
    show (if n ≤ y then (if n < y then n :: y :: a else y :: a) else y :: putL a n).Pairwise _
    by_cases h4 : n ≤ y
    · rw [if_pos h4]
      by_cases h5 : n < y
      · rw [if_pos h5]
        exact List.pairwise_cons.2 ⟨fun z hz => by rcases List.mem_cons.1 hz with rfl | hz; omega; have := h1 z hz; omega, hs⟩
      · rw [if_neg h5]; exact hs
    · rw [if_neg h4]
      refine List.pairwise_cons.2 ⟨fun z hz => ?_, ih h2 h3⟩
      rcases List.mem_cons.1 ((putL_perm h3).mem_iff.1 hz) with rfl | hz
      · omega
      · exact h1 z hz
theorem putL_len (a : List Int) (n : Int) : (putL a n).length ≤ a.length + 1 := by
  induction a with
  | nil => exact Nat.le_refl _
  | cons y a ih =>
    show (if n ≤ y then (if n < y then n :: y :: a else y :: a) else y :: putL a n).length ≤ _
    split
    · split <;> simp
    · simp; exact ih
/-- the state in the middle -/
def PutSt (xs : List Int) (n : Int) (k : Nat) (done : Bool) (out : List Int) : Prop := done = anyGe (xs.take k) n ∧ out = if done = true then putL (xs.take k) n else xs.take k
theorem PutSt.len {xs : List Int} {n : Int} {k : Nat} {d : Bool} {out : List Int} (h : PutSt xs n k d out) : out.length ≤ k + 1 := by
  rw [h.2]
  have := putL_len (xs.take k) n
  have h2 : (xs.take k).length ≤ k := List.length_take_le _ _
  split <;> omega
theorem PutSt.start (xs : List Int) (n : Int) : PutSt xs n 0 false [] := ⟨rfl, rfl⟩
theorem PutSt.done {xs : List Int} {n y : Int} {k : Nat} {out : List Int} (hy : xs[k]? = some y) (h : PutSt xs n k true out) : PutSt xs n (k + 1) true (out ++ [y]) := by
  obtain ⟨h1, h2⟩ := h
  rw [if_pos rfl] at h2
  refine ⟨?_, ?_⟩
  · rw [take_snoc hy, anyGe_snoc, ← h1]; rfl
  · rw [if_pos rfl, take_snoc hy, putL_snoc_done h1.symm, h2]
theorem PutSt.low {xs : List Int} {n y : Int} {k : Nat} {out : List Int} (hy : xs[k]? = some y) (h : PutSt xs n k false out) (hlt : ¬ n ≤ y) : PutSt xs n (k + 1) false (out ++ [y]) := by
  obtain ⟨h1, h2⟩ := h
  rw [if_neg (by decide)] at h2
  refine ⟨?_, ?_⟩
  · rw [take_snoc hy, anyGe_snoc, ← h1, decide_eq_false hlt]; rfl
  · rw [if_neg (by decide), take_snoc hy, h2]
theorem PutSt.same {xs : List Int} {n y : Int} {k : Nat} {out : List Int} (hy : xs[k]? = some y) (h : PutSt xs n k false out) (hle : n ≤ y) (hlt : ¬ n < y) : PutSt xs n (k + 1) true (out ++ [y]) := by
  obtain ⟨h1, h2⟩ := h
  rw [if_neg (by decide)] at h2
  refine ⟨?_, ?_⟩
  · rw [take_snoc hy, anyGe_snoc, ← h1, decide_eq_true hle]; rfl
  · rw [if_pos rfl, take_snoc hy, putL_snoc_new h1.symm, h2]
    show _ = _ ++ (if n ≤ y then (if n < y then [n, y] else [y]) else y :: [n])
    rw [if_pos hle, if_neg hlt]
theorem PutSt.put {xs : List Int} {n y : Int} {k : Nat} {out : List Int} (hy : xs[k]? = some y) (h : PutSt xs n k false out) (hle : n ≤ y) (hlt : n < y) : PutSt xs n (k + 1) true (out ++ [n, y]) := by
  obtain ⟨h1, h2⟩ := h
  rw [if_neg (by decide)] at h2
  refine ⟨?_, ?_⟩
  · rw [take_snoc hy, anyGe_snoc, ← h1, decide_eq_true hle]; rfl
  · rw [if_pos rfl, take_snoc hy, putL_snoc_new h1.symm, h2]
    show _ = _ ++ (if n ≤ y then (if n < y then [n, y] else [y]) else y :: [n])
    rw [if_pos hle, if_pos hlt]
theorem PutSt.endT {xs : List Int} {n : Int} {out : List Int} (h : PutSt xs n xs.length true out) : out = putL xs n := by
  have h2 := h.2
  rw [if_pos rfl, List.take_length] at h2
  exact h2
theorem PutSt.endF {xs : List Int} {n : Int} {out : List Int} (h : PutSt xs n xs.length false out) : out ++ [n] = putL xs n := by
  obtain ⟨h1, h2⟩ := h
  rw [if_neg (by decide), List.take_length] at h2
  rw [List.take_length] at h1
  rw [h2, putL_end h1.symm]
theorem l00Put_c {xs : List Int} {v : Value} {w : World} {A : Nat} (n : Int) (hn : eI.ok n) (ha : RdI A w v xs) (hl : xs.length ≤ 1000) :
    Calls Try.prog 26 #[v, .int .i64 n] w fun e w' => ∃ u, e = .returned u ∧ OwnInt64S w.heap.size w' u (putL xs n) ∧ Below w.heap.size w w' := by
  obtain ⟨i0, hi, hz0, hz1, hz2⟩ := info_parts Try.infoInt64
  obtain ⟨ao, cap, rfl, ho⟩ := RdI.open ha
  obtain ⟨m, hm⟩ : ∃ m, m = xs.length := ⟨_, rfl⟩
  rw [← hm] at hl ho ⊢
  have Hm := Lib.hid hm
  have Ho := Lib.hid ho
  have h0 : OwnInt64S w.heap.size (w.alloc (.cells #[] 2)) (.slice (some ⟨w.heap.size, 0, none⟩) 0 0) [] := Own.lit (E := eI) (xs := []) (cs := #[]) (Nat.le_refl _) rfl rfl (by decide) (fun x hx => by cases hx)
  have hb0 : Below w.heap.size w (w.alloc (.cells #[] 2)) := (Below.refl _ _).alloc (Nat.le_refl _) _
  clear ho hm ha
  go_enter Try.func26, Try.ntmps26
  go_wp2_with fail
  go_loopw [5, 6, 7] (fun v d i wr => ∃ (k : Nat) (b : Bool) (out : List Int), k ≤ m ∧ i = .int .i64 k ∧ d = .bool b ∧ Hid (PutSt xs n k b out) ∧ OwnInt64S w.heap.size wr v out ∧ Below w.heap.size w wr) (fun _ _ i _ => m - (intOf i).toNat)
  case atStart => exact ⟨0, false, [], Nat.zero_le _, rfl, rfl, PutSt.start _ _, h0, hb0⟩
  case round =>
    obtain ⟨k, d, out, hk, rfl, rfl, hst, hown, hb⟩ := hrel
    have hlen := hst.out.len
    clear h0 hb0
    by_cases hkm : k < m
    · obtain ⟨b, off, rfl, hlt, hc⟩ := Ho.out (by omega)
      obtain ⟨y, hy, hcy, by2⟩ := hc k hkm
      have d1 := (hb.cell (p := ⟨b, off + k, none⟩) hlt.2).trans hcy
      have Hcy := Lib.hid hcy
      have Hown := Lib.hid hown
      have Hb := Lib.hid hb
      have Hy := Lib.hid hy
      have hsz := hb.size
      have Hqp : eI.ok y := by2
      clear hown hb hc hcy hy
      cases d with
      | true =>
        go_wp2_with (first | (at_builtin; refine wpList_appS (E := eI) rfl _ _ 24 rfl Try.underlying24 hi hz0 hz1 hz2 rfl (by decide) rfl rfl (Hown.out.alloc _) (rds_one (E := eI) (x := y) Hqp rfl) ?b1 ?b2 ?b3 ?_))
        case b1 => unfold maxLen; (try simp); omega
        case b2 => (try simp); omega
        case b3 => (try simp); omega
        intro v' w3 hown3 hg3
        have hb3 : Below w.heap.size w w3 := hg3.alloc.below Hb.out Hb.out.size (fun j hj => (Hown.out.lt j hj).1)
        clear hg3 Hb Hown d1
        go_wp2
        go_roundw
        case rel => exact ⟨k + 1, true, _, by omega, by go_num, rfl, PutSt.done Hy.out hst.out, hown3, hb3⟩
        case measure => simp [intOf]; omega
      | false =>
        by_cases hge : n ≤ y
        · by_cases hgt : n < y
          · have Hqn : eI.ok n := hn
            go_wp2_with (first | (at_builtin; refine wpList_appS (E := eI) rfl _ _ 24 rfl Try.underlying24 hi hz0 hz1 hz2 rfl (by decide) rfl rfl (Hown.out.alloc _) (rds_one (E := eI) (x := n) Hqn rfl) ?b1 ?b2 ?b3 ?_))
            case b1 => unfold maxLen; (try simp); omega
            case b2 => (try simp); omega
            case b3 => (try simp); omega
            intro v' w3 hown3 hg3
            have hb3 : Below w.heap.size w w3 := hg3.alloc.below Hb.out Hb.out.size (fun j hj => (Hown.out.lt j hj).1)
            have d2 : w3.cell? ⟨b, off + k, none⟩ = some (.int .i64 y) := (hb3.cell (p := ⟨b, off + k, none⟩) hlt.2).trans Hcy.out
            have Hown3 := Lib.hid hown3
            have Hb3 := Lib.hid hb3
            have hsz3 := hb3.size
            clear hg3 Hb Hown d1 hown3 hb3
            go_wp2_with (first | (at_builtin; refine wpList_appS (E := eI) rfl _ _ 24 rfl Try.underlying24 hi hz0 hz1 hz2 rfl (by decide) rfl rfl (Hown3.out.alloc _) (rds_one (E := eI) (x := y) Hqp rfl) ?b1 ?b2 ?b3 ?_))
            case b1 => unfold maxLen; (try simp); omega
            case b2 => (try simp); omega
            case b3 => (try simp); omega
            intro v'' w4 hown4 hg4
            have hb4 : Below w.heap.size w w4 := hg4.alloc.below Hb3.out Hb3.out.size (fun j hj => (Hown3.out.lt j hj).1)
            clear hg4 Hb3 Hown3 d2
            go_wp2
            go_roundw
            case rel => exact ⟨k + 1, true, _, by omega, by go_num, rfl, PutSt.put Hy.out hst.out hge hgt, hown4, hb4⟩
            case measure => simp [intOf]; omega
          · go_wp2_with (first | (at_builtin; refine wpList_appS (E := eI) rfl _ _ 24 rfl Try.underlying24 hi hz0 hz1 hz2 rfl (by decide) rfl rfl (Hown.out.alloc _) (rds_one (E := eI) (x := y) Hqp rfl) ?b1 ?b2 ?b3 ?_))
            case b1 => unfold maxLen; (try simp); omega
            case b2 => (try simp); omega
            case b3 => (try simp); omega
            intro v' w3 hown3 hg3
            have hb3 : Below w.heap.size w w3 := hg3.alloc.below Hb.out Hb.out.size (fun j hj => (Hown.out.lt j hj).1)
            clear hg3 Hb Hown d1
            go_wp2
            go_roundw
            case rel => exact ⟨k + 1, true, _, by omega, by go_num, rfl, PutSt.same Hy.out hst.out hge (by omega), hown3, hb3⟩
            case measure => simp [intOf]; omega
        · go_wp2_with (first | (at_builtin; refine wpList_appS (E := eI) rfl _ _ 24 rfl Try.underlying24 hi hz0 hz1 hz2 rfl (by decide) rfl rfl (Hown.out.alloc _) (rds_one (E := eI) (x := y) Hqp rfl) ?b1 ?b2 ?b3 ?_))
          case b1 => unfold maxLen; (try simp); omega
          case b2 => (try simp); omega
          case b3 => (try simp); omega
          intro v' w3 hown3 hg3
          have hb3 : Below w.heap.size w w3 := hg3.alloc.below Hb.out Hb.out.size (fun j hj => (Hown.out.lt j hj).1)
          clear hg3 Hb Hown d1
          go_wp2
          go_roundw
          case rel => exact ⟨k + 1, false, _, by omega, by go_num, rfl, PutSt.low Hy.out hst.out (by omega), hown3, hb3⟩
          case measure => simp [intOf]; omega
    · obtain rfl : k = m := by omega
      have hM := Hm.out
      cases d with
      | true =>
        have he := PutSt.endT (by rw [← hM]; exact hst.out)
        have He := Lib.hid he
        clear he
        go_wp2
        go_ret
        exact ⟨_, rfl, by rw [← He.out]; exact hown, hb⟩
      | false =>
        have he := PutSt.endF (by rw [← hM]; exact hst.out)
        have He := Lib.hid he
        have Hown := Lib.hid hown
        have Hb := Lib.hid hb
        have hsz := hb.size
        have Hqn : eI.ok n := hn
        clear he hown hb hM
        go_wp2_with (first | (at_builtin; refine wpList_appS (E := eI) rfl _ _ 24 rfl Try.underlying24 hi hz0 hz1 hz2 rfl (by decide) rfl rfl (Hown.out.alloc _) (rds_one (E := eI) (x := n) Hqn rfl) ?b1 ?b2 ?b3 ?_))
        case b1 => unfold maxLen; (try simp); omega
        case b2 => (try simp); omega
        case b3 => (try simp); omega
        intro v' w3 hown3 hg3
        have hb3 : Below w.heap.size w w3 := hg3.alloc.below Hb.out Hb.out.size (fun j hj => (Hown.out.lt j hj).1)
        clear hg3 Hb Hown
        go_wp2
        go_ret
        exact ⟨_, rfl, by rw [← He.out]; exact hown3, hb3⟩
end Go.Proofs.Ytipldgbfenhknaa
