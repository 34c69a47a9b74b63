/-
  NARROWER THAN 'FOR EVERY INPUT', by the rows' own cells (each row's printed sentence says how): FnExactReadOperators: laid · FnOperators: laid.
  DERIVED. THE GIVEN ROWS OF THIS SEAT. 2 by the template 'for every input the law returns true; each argument reads behind the call as it read before'; 0 by the template 'total and deterministic' (their statements: YtilgepapkigblaaDoorTotals.lean).
  GIVEN WITH THE SEED: the statements are not yours to turn. If you find one false, say at which input.
  Laid BY PROGRAM, IN A SANDBOX (cutbox-rows.mjs): the forced cells as the released guide's own fill.sh prints them over the translation 22cc622e95072701… (all of the seat's roots in one cut). By AI agents, Wed Nov 11 2026. No macro, syntax, notation, axiom, sorry.
-/
import Derived.Test.YtilgepapkigblaaDoorChecked
import GoSem.PinnedTables
import GoSem.Claim
import GoSem.ClaimJoined
import GoSem.ClaimMapViews
import Derived.JoinedTies
import Derived.KernelRfl
namespace Go.Proofs.YtilgepapkigblaaDoor
/- THE CELL 'sum', in the pinned program and in every row, IS THE sha256 OF THE DUMP (.gsa) THAT YtilgepapkigblaaDoorProg.lean LOADS. Nothing in Lean hashes anything: it is a label: what it is worth is what the hold of that sum in a sandbox is worth. -/
noncomputable def Tryd.pinned : Pinned := { name := "ytilgepapkigblaadoor", sum := "22cc622e95072701d6a565437a8d6dc299dfb09818e3cefd07b409b1780a990c", checked := Tryd.checked }
namespace Rows
def none {H : Type} : Left H := { results := [], args := [] }

/- WHAT THE LISTED PACKAGE-LEVEL VARIABLES READ AS WHEN THE CALL BEGINS. Each datum BY PROGRAM (the guide's laid-datum.mjs) off the statement by which the dump's own 'gosem.cut.vars' lays the variable. In a bare row this is a premise. The card (YtilgepapkigblaaDoorCards.lean) ties it to the program's text. -/
def laid_unicode_utf8_acceptRanges {H : Type} : DataW H := .agg [.agg [.lit (.int .u8 128), .lit (.int .u8 191)], .agg [.lit (.int .u8 160), .lit (.int .u8 191)], .agg [.lit (.int .u8 128), .lit (.int .u8 159)], .agg [.lit (.int .u8 144), .lit (.int .u8 191)], .agg [.lit (.int .u8 128), .lit (.int .u8 143)], .agg [.lit (.int .u8 0), .lit (.int .u8 0)], .agg [.lit (.int .u8 0), .lit (.int .u8 0)], .agg [.lit (.int .u8 0), .lit (.int .u8 0)], .agg [.lit (.int .u8 0), .lit (.int .u8 0)], .agg [.lit (.int .u8 0), .lit (.int .u8 0)], .agg [.lit (.int .u8 0), .lit (.int .u8 0)], .agg [.lit (.int .u8 0), .lit (.int .u8 0)], .agg [.lit (.int .u8 0), .lit (.int .u8 0)], .agg [.lit (.int .u8 0), .lit (.int .u8 0)], .agg [.lit (.int .u8 0), .lit (.int .u8 0)], .agg [.lit (.int .u8 0), .lit (.int .u8 0)]]
def laid_loop_example_g01012_impl_machineNames {H : Type} : DataW H := .agg [.lit (.string [107, 101, 121, 112, 117, 110, 99, 104]), .lit (.string [115, 111, 114, 116, 101, 114]), .lit (.string [99, 111, 108, 108, 97, 116, 111, 114]), .lit (.string [114, 101, 112, 114, 111, 100, 117, 99, 101, 114]), .lit (.string [116, 97, 98, 117, 108, 97, 116, 111, 114]), .lit (.string [99, 97, 108, 99, 117, 108, 97, 116, 111, 114])]
/-- One of Go's own tables, pinned by name: the form's constant. -/
def laid_unicode_utf8_first : DataW Unit := Go.Pinned.utf8First

/-- 'laws.FnExactReadOperators': WHATEVER THE INPUT: true; the input reads as it did. -/
def fnExactReadOperatorsSpec : ChangeSpec := { name := "fnExactReadOperators", vars := ["loop.example/g01012/impl.machineNames"], fn := fun _ => fun
  | [d, g1] => { results := [.lit (.bool true)], args := [d], vars := [g1] }
  | _ => none }
def fnExactReadOperatorsRow : OpenClaim := { program := "ytilgepapkigblaadoor", sum := "22cc622e95072701d6a565437a8d6dc299dfb09818e3cefd07b409b1780a990c", func := "loop.example/g01012/laws.FnExactReadOperators", spec := "fnExactReadOperators", inPlace := ["internal/bytealg.CountString", "internal/bytealg.IndexByteString", "internal/bytealg.IndexString"], unfollowed := true, recurses := true, named := ["loop.example/g01012/impl.machineNames", "unicode/utf8.first", "unicode/utf8.acceptRanges", "internal/bytealg.MaxLen"], apart := false, laid := [("unicode/utf8.acceptRanges", laid_unicode_utf8_acceptRanges), ("loop.example/g01012/impl.machineNames", laid_loop_example_g01012_impl_machineNames), ("unicode/utf8.first", laid_unicode_utf8_first)] }
def FnExactReadOperatorsSaid : Prop := fnExactReadOperatorsRow.holds Tryd.pinned (OpenSpec.ofChange fnExactReadOperatorsSpec)

/-- ITS FALSE NEIGHBOUR: 'it returns false'. Refute it at one input. -/
def fnExactReadOperatorsWrong : ChangeSpec := { name := "fnExactReadOperators", vars := ["loop.example/g01012/impl.machineNames"], fn := fun _ => fun
  | [d, g1] => { results := [.lit (.bool false)], args := [d], vars := [g1] }
  | _ => none }
def FnExactReadOperatorsWrongFalsely : Prop := fnExactReadOperatorsRow.holds Tryd.pinned (OpenSpec.ofChange fnExactReadOperatorsWrong)

/-- 'laws.FnOperators': WHATEVER THE INPUT: true; the input reads as it did. -/
def fnOperatorsSpec : ChangeSpec := { name := "fnOperators", vars := ["loop.example/g01012/impl.machineNames"], fn := fun _ => fun
  | [d, g1] => { results := [.lit (.bool true)], args := [d], vars := [g1] }
  | _ => none }
def fnOperatorsRow : OpenClaim := { program := "ytilgepapkigblaadoor", sum := "22cc622e95072701d6a565437a8d6dc299dfb09818e3cefd07b409b1780a990c", func := "loop.example/g01012/laws.FnOperators", spec := "fnOperators", inPlace := ["internal/bytealg.CountString", "internal/bytealg.IndexByteString", "internal/bytealg.IndexString"], unfollowed := true, recurses := true, named := ["loop.example/g01012/impl.machineNames", "unicode/utf8.first", "unicode/utf8.acceptRanges", "internal/bytealg.MaxLen"], apart := false, laid := [("unicode/utf8.acceptRanges", laid_unicode_utf8_acceptRanges), ("loop.example/g01012/impl.machineNames", laid_loop_example_g01012_impl_machineNames), ("unicode/utf8.first", laid_unicode_utf8_first)] }
def FnOperatorsSaid : Prop := fnOperatorsRow.holds Tryd.pinned (OpenSpec.ofChange fnOperatorsSpec)

/-- ITS FALSE NEIGHBOUR: 'it returns false'. Refute it at one input. -/
def fnOperatorsWrong : ChangeSpec := { name := "fnOperators", vars := ["loop.example/g01012/impl.machineNames"], fn := fun _ => fun
  | [d, g1] => { results := [.lit (.bool false)], args := [d], vars := [g1] }
  | _ => none }
def FnOperatorsWrongFalsely : Prop := fnOperatorsRow.holds Tryd.pinned (OpenSpec.ofChange fnOperatorsWrong)

/- THE SECOND FORM. 'bulk': how many values and letters a reading holds, each counted each time it is reached (what is shared counts as often as it is met; a slice's spare places count too). A statement '..UptoSaid' is the law's where the arguments, and the package variables that the reading takes, are together of bulk at most 1048576: NARROWER than '..Said'. Prove '..Said' where nothing that the law and all that it calls make is longer than what came in: it says more and counts as full. Else prove '..UptoSaid'. A law counts once. -/
mutual
def uptoBulk {H : Type} : DataW H → Nat
  | .lit (.string bytes) => bytes.length + 1
  | .lit _ => 1
  | .nil => 1
  | .ptr d => uptoBulk d + 1
  | .slice elems spare => uptoBulkAll elems + uptoBulkAll spare + 1
  | .agg parts => uptoBulkAll parts + 1
  | .iface _ d => uptoBulk d + 1
  | .map entries => uptoBulkEntries entries + 1
  | .held _ => 1
def uptoBulkAll {H : Type} : List (DataW H) → Nat
  | [] => 0
  | d :: r => uptoBulk d + uptoBulkAll r
def uptoBulkEntries {H : Type} : List (Lit × DataW H) → Nat
  | [] => 0
  | x :: r => uptoBulkEntry x + uptoBulkEntries r
def uptoBulkEntry {H : Type} : Lit × DataW H → Nat
  | (.string bytes, d) => bytes.length + uptoBulk d + 1
  | (_, d) => uptoBulk d + 1
 end
def uptoSmall : (H : Type) → List (DataW H) → Bool := fun _ ds => decide (uptoBulkAll ds ≤ 1048576)
def OpenSpec.upto (s : _root_.Go.ChangeSpec) : _root_.Go.OpenSpec := { _root_.Go.OpenSpec.ofChange s with cond := some uptoSmall }

/-- 'laws.FnExactReadOperators', WHERE WHAT IT READS IS OF BULK AT MOST 1048576: true; the input reads as it did. -/
def fnExactReadOperatorsUptoRow : OpenClaim := { program := "ytilgepapkigblaadoor", sum := "22cc622e95072701d6a565437a8d6dc299dfb09818e3cefd07b409b1780a990c", func := "loop.example/g01012/laws.FnExactReadOperators", spec := "fnExactReadOperators", inPlace := ["internal/bytealg.CountString", "internal/bytealg.IndexByteString", "internal/bytealg.IndexString"], unfollowed := true, recurses := true, named := ["loop.example/g01012/impl.machineNames", "unicode/utf8.first", "unicode/utf8.acceptRanges", "internal/bytealg.MaxLen"], apart := false, laid := [("unicode/utf8.acceptRanges", laid_unicode_utf8_acceptRanges), ("loop.example/g01012/impl.machineNames", laid_loop_example_g01012_impl_machineNames), ("unicode/utf8.first", laid_unicode_utf8_first)], narrowed := true }
def FnExactReadOperatorsUptoSaid : Prop := fnExactReadOperatorsUptoRow.holds Tryd.pinned (OpenSpec.upto fnExactReadOperatorsSpec)

/-- 'laws.FnOperators', WHERE WHAT IT READS IS OF BULK AT MOST 1048576: true; the input reads as it did. -/
def fnOperatorsUptoRow : OpenClaim := { program := "ytilgepapkigblaadoor", sum := "22cc622e95072701d6a565437a8d6dc299dfb09818e3cefd07b409b1780a990c", func := "loop.example/g01012/laws.FnOperators", spec := "fnOperators", inPlace := ["internal/bytealg.CountString", "internal/bytealg.IndexByteString", "internal/bytealg.IndexString"], unfollowed := true, recurses := true, named := ["loop.example/g01012/impl.machineNames", "unicode/utf8.first", "unicode/utf8.acceptRanges", "internal/bytealg.MaxLen"], apart := false, laid := [("unicode/utf8.acceptRanges", laid_unicode_utf8_acceptRanges), ("loop.example/g01012/impl.machineNames", laid_loop_example_g01012_impl_machineNames), ("unicode/utf8.first", laid_unicode_utf8_first)], narrowed := true }
def FnOperatorsUptoSaid : Prop := fnOperatorsUptoRow.holds Tryd.pinned (OpenSpec.upto fnOperatorsSpec)

end Rows
end Go.Proofs.YtilgepapkigblaaDoor
