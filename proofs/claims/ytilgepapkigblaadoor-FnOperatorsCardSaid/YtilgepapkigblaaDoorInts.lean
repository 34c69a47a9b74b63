/- The laws' own helpers on []int64: equal, copy, mark, held; each by its contract. No condition. -/
import Derived.Test.YtilgepapkigblaaDoorRows
import Derived.Test.YtilgepapkigblaaDoorBase
namespace Go.Proofs.YtilgepapkigblaaDoor
open Go.ChangeShapes Go.WideShapes Go.ChangeAt Go.RowKit
set_option linter.unusedVariables false
set_option maxRecDepth 100000

def Pre {α : Type} (xs ys : List α) (k : Nat) : Prop := xs.take k = ys.take k


/-- k, k + 1, .. -/
def markL (k : Int) : Nat → List Int
  | 0 => []
  | n + 1 => k :: markL (k + 1) n
theorem markL_length (n : Nat) : ∀ k, (markL k n).length = n := by
  induction n with
  | zero => intro k; rfl
  | succ n ih => intro k; simp [markL, ih]
theorem markL_at (n : Nat) : ∀ (k : Int) (j : Nat), j < n → (markL k n)[j]? = some (k + j) := by
  induction n with
  | zero => intro k j h; omega
  | succ n ih =>
    intro k j h
    cases j with
    | zero => simp [markL]
    | succ j =>
      have := ih (k + 1) j (by omega)
      simp only [markL, List.getElem?_cons_succ, this]
      congr 1
      omega
theorem markL_mem {n : Nat} {k x : Int} (h : x ∈ markL k n) : k ≤ x ∧ x < k + n := by
  obtain ⟨j, hj, rfl⟩ := List.mem_iff_getElem.1 h
  have hj' : j < n := by simpa [markL_length] using hj
  have := markL_at n k j hj'
  rw [List.getElem?_eq_getElem hj] at this
  have := Option.some.inj this
  omega
theorem markL_get (n : Nat) (k : Int) (j : Nat) : (markL k n)[j]? = if j < n then some (k + j) else none := by
  by_cases h : j < n
  · rw [if_pos h, markL_at n k j h]
  · rw [if_neg h, List.getElem?_eq_none (by rw [markL_length]; omega)]
theorem markL_set (xs : List Int) (k : Int) (j : Nat) (hj : j < xs.length) : (((markL k j).map (Value.int .i64)) ++ ((xs.drop j).map (Value.int .i64))).set j (.int .i64 (k + j)) = ((markL k (j + 1)).map (Value.int .i64)) ++ ((xs.drop (j + 1)).map (Value.int .i64)) := by
  apply List.ext_getElem?
  intro i
  simp only [List.getElem?_set, List.getElem?_append, List.length_append, List.length_map, List.length_drop, markL_length, List.getElem?_map, markL_get, List.getElem?_drop]
  by_cases h1 : j = i
  · subst h1
    rw [if_pos rfl, if_pos (by omega), if_pos (by omega), if_pos (by omega)]
    rfl
  · rw [if_neg h1]
    by_cases h2 : i < j
    · rw [if_pos h2, if_pos h2, if_pos (by omega), if_pos (by omega)]
    · rw [if_neg h2, if_neg (by omega)]
      congr 2
      omega
theorem copy_set (xs : List Int) (n k : Nat) (x : Int) (hx : xs[k]? = some x) (hk : k < n) : (((xs.take k).map (Value.int .i64)) ++ List.replicate (n - k) (Value.int .i64 0)).set k (.int .i64 x) = ((xs.take (k + 1)).map (Value.int .i64)) ++ List.replicate (n - (k + 1)) (Value.int .i64 0) := by
  have hl := at_lt hx
  rw [take_snoc hx, List.map_append]
  have e : n - k = (n - (k + 1)) + 1 := by omega
  have h0 : ((xs.take k).map (Value.int .i64)).length = k := by simp; omega
  rw [e, List.replicate_succ, List.set_append_right _ _ (by omega), h0, Nat.sub_self]
  simp

theorem Tryd.infoInt64 : (Tryd.prog.info? 2).map (fun i => (i.zero, i.size, i.bytes)) = some (some (.int .i64 0), 1, 8) := by kernel_rfl

/- the same in the one form that the laws' walks take -/
abbrev okInt64 (x : Int) : Prop := -9223372036854775808 ≤ x ∧ x ≤ 9223372036854775807
abbrev RdInt64S (B : Nat) (w : World) (v : Value) (x : List Int) : Prop := Rds eI B w v x
abbrev OwnTInt64S (base top : Nat) (w : World) (v : Value) (x : List Int) : Prop := OwnT eI 2 base top w v x
abbrev OwnInt64S (base : Nat) (w : World) (v : Value) (x : List Int) : Prop := Own eI 2 base w v x
def szInt64S (x : List Int) : Int := x.length
def cntInt64S (x : List Int) : Nat := x.length
def mkInt64S (k : Int) (x : List Int) : List Int := markL k x.length
theorem cntInt64S_le (x : List Int) : (cntInt64S x : Int) ≤ 16 * szInt64S x := by unfold szInt64S cntInt64S; omega
theorem szInt64S_nonneg (x : List Int) : 0 ≤ szInt64S x := by unfold szInt64S; omega
end Go.Proofs.YtilgepapkigblaaDoor
