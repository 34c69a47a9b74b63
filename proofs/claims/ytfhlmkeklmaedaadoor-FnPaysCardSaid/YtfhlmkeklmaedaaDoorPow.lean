/- The table of powers of ten, read off a row's condition. No condition. -/
import Derived.Test.YtfhlmkeklmaedaaDoorDec
namespace Go.Proofs.YtfhlmkeklmaedaaDoor
open Go.ChangeShapes Go.WideShapes Go.ChangeAt Go.RowKit Go.Sort
set_option linter.unusedVariables false
set_option maxRecDepth 100000
theorem t_pow : (Tryd.prog.globals[1]?).map (·.type) = some 107 := by kernel_rfl
theorem pow_data : (Rows.laid_internal_strconv_uint64pow10 : DataW Unit) = Lib.tabData .u64 Lib.pow10Tab := rfl
theorem laidMet_tail {P : Program} {x : String × DataW Unit} {r : List (String × DataW Unit)} {w : World} (h : laidMet P (x :: r) w) : laidMet P r w := by
  obtain ⟨ps, hv, hnd, hrows⟩ := h
  obtain ⟨n, d⟩ := x
  obtain ⟨g, t, cs, fuel, p, q, _, _, _, _, hq, rfl⟩ := hv
  exact ⟨q, hq, List.Nodup.sublist (List.sublist_append_right _ _) hnd, fun b off hm => hrows b off (List.mem_append_right _ hm)⟩
theorem pow_of3 {W : World} (h : laidMetH Tryd.prog [("math/bits.deBruijn32tab", Rows.laid_math_bits_deBruijn32tab), ("math/bits.deBruijn64tab", Rows.laid_math_bits_deBruijn64tab), ("internal/strconv.uint64pow10", Rows.laid_internal_strconv_uint64pow10)] W) : PowAt W := by
  rw [MakeChecks.laidMetH_plain _ _ _ (by kernel_rfl)] at h
  exact Lib.tabIs_of_head g_pow t_pow Tryd.underlying107 Tryd.underlying87 (by kernel_rfl) (by kernel_rfl) (laidMet_tail (laidMet_tail h))
theorem trodVars_three {H : Type} {enc : TypeId × Value → H} {P : Program} {w : World} {spare : Nat → Bool} {n1 n2 n3 : String} {gs : List (DataW H)} {ps : List MemPlace} (h : DataW.TrodVars enc P w spare [n1, n2, n3] gs ps) : ∃ d1 d2 d3, gs = [d1, d2, d3] := by
  match gs, h with
  | [], h => simp [DataW.TrodVars] at h
  | [a], h => simp [DataW.TrodVars] at h
  | [a, b], h => simp [DataW.TrodVars] at h
  | [a, b, c], _ => exact ⟨a, b, c, rfl⟩
  | a :: b :: c :: d :: r, h => simp [DataW.TrodVars] at h
end Go.Proofs.YtfhlmkeklmaedaaDoor
