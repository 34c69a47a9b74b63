/- A literal of twelve numbers: one step, whatever the frame. No condition. -/
import Derived.Test.YtfhlmkeklmaedaaDoorPayP
namespace Go.Proofs.YtfhlmkeklmaedaaDoor
open Go.ChangeShapes Go.WideShapes Go.ChangeAt Go.RowKit
set_option linter.unusedVariables false
set_option maxRecDepth 100000
theorem lit_step {a : Act} {w : World} {K : Act → World → Prop} {Q : Exit → Act → World → Prop} {s : String} (h : K (a.put (some 186) (.slice (some ⟨w.heap.size, 0, none⟩) 12 12)) (w.alloc (.cells #[.int .i64 5000, .int .i64 2000, .int .i64 1000, .int .i64 500, .int .i64 200, .int .i64 100, .int .i64 50, .int .i64 20, .int .i64 10, .int .i64 5, .int .i64 2, .int .i64 1] 2))) :
    Oper.wp Tryd.prog { dst := some 186, op := Op.buildSlice 47 12 #[(0, Operand.const (Value.int IntKind.i64 5000)), (1, Operand.const (Value.int IntKind.i64 2000)), (2, Operand.const (Value.int IntKind.i64 1000)), (3, Operand.const (Value.int IntKind.i64 500)), (4, Operand.const (Value.int IntKind.i64 200)), (5, Operand.const (Value.int IntKind.i64 100)), (6, Operand.const (Value.int IntKind.i64 50)), (7, Operand.const (Value.int IntKind.i64 20)), (8, Operand.const (Value.int IntKind.i64 10)), (9, Operand.const (Value.int IntKind.i64 5)), (10, Operand.const (Value.int IntKind.i64 2)), (11, Operand.const (Value.int IntKind.i64 1))], type := 47, pos := s, after := #[], guard := none } a w K Q := by
  go_simp
  exact h
end Go.Proofs.YtfhlmkeklmaedaaDoor
