/-
  No cell of these rows narrows 'for every input' (looked for: loops, veiled, ifaces, maps, wideKeys, modest, calm, conditions, laid).
  DERIVED. THE GIVEN ROWS OF THIS SEAT. 4 by the template 'for every input the law returns true; each argument reads behind the call as it read before'; 0 by the template 'total and deterministic' (their statements: YthdaghfhlfjclaaGreatTotals.lean).
  GIVEN WITH THE SEED: the statements are not yours to turn. If you find one false, say at which input.
  Laid BY PROGRAM, IN A SANDBOX (cutbox-rows.mjs): the forced cells as the released guide's own fill.sh prints them over the translation ebdf29ccd347d565… (all of the seat's roots in one cut). By AI agents, Wed Nov 11 2026. No macro, syntax, notation, axiom, sorry.
-/
import Derived.Test.YthdaghfhlfjclaaGreatChecked
import GoSem.Claim
import GoSem.ClaimJoined
import GoSem.ClaimMapViews
import Derived.JoinedTies
import Derived.KernelRfl
namespace Go.Proofs.YthdaghfhlfjclaaGreat
/- THE CELL 'sum', in the pinned program and in every row, IS THE sha256 OF THE DUMP (.gsa) THAT YthdaghfhlfjclaaGreatProg.lean LOADS. Nothing in Lean hashes anything: it is a label: what it is worth is what the hold of that sum in a sandbox is worth. -/
noncomputable def Tryz.pinned : Pinned := { name := "ythdaghfhlfjclaagreat", sum := "ebdf29ccd347d565f6573d97b1c34604bef3b9ae817a579c219a75ab03991cfb", checked := Tryz.checked }
namespace Rows
def none {H : Type} : Left H := { results := [], args := [] }

/-- 'laws.FnExactStepMinutes': WHATEVER THE INPUT: true; the input reads as it did. -/
def fnExactStepMinutesSpec : ChangeSpec := { name := "fnExactStepMinutes", fn := fun _ => fun
  | [d1, d2, d3] => { results := [.lit (.bool true)], args := [d1, d2, d3] }
  | _ => none }
def fnExactStepMinutesRow : OpenClaim := { program := "ythdaghfhlfjclaagreat", sum := "ebdf29ccd347d565f6573d97b1c34604bef3b9ae817a579c219a75ab03991cfb", func := "loop.example/g01012/laws.FnExactStepMinutes", spec := "fnExactStepMinutes", inPlace := ["internal/bytealg.IndexByteString"], unfollowed := true, recurses := true, apart := false }
def FnExactStepMinutesSaid : Prop := fnExactStepMinutesRow.holds Tryz.pinned (OpenSpec.ofChange fnExactStepMinutesSpec)

/-- ITS FALSE NEIGHBOUR: 'it returns false'. Refute it at one input. -/
def fnExactStepMinutesWrong : ChangeSpec := { name := "fnExactStepMinutes", fn := fun _ => fun
  | [d1, d2, d3] => { results := [.lit (.bool false)], args := [d1, d2, d3] }
  | _ => none }
def FnExactStepMinutesWrongFalsely : Prop := fnExactStepMinutesRow.holds Tryz.pinned (OpenSpec.ofChange fnExactStepMinutesWrong)

/-- 'laws.FnExactOfficeAt': WHATEVER THE INPUT: true; the input reads as it did. -/
def fnExactOfficeAtSpec : ChangeSpec := { name := "fnExactOfficeAt", fn := fun _ => fun
  | [d1, d2, d3] => { results := [.lit (.bool true)], args := [d1, d2, d3] }
  | _ => none }
def fnExactOfficeAtRow : OpenClaim := { program := "ythdaghfhlfjclaagreat", sum := "ebdf29ccd347d565f6573d97b1c34604bef3b9ae817a579c219a75ab03991cfb", func := "loop.example/g01012/laws.FnExactOfficeAt", spec := "fnExactOfficeAt", inPlace := ["internal/bytealg.IndexByteString"], unfollowed := true, recurses := true, apart := false }
def FnExactOfficeAtSaid : Prop := fnExactOfficeAtRow.holds Tryz.pinned (OpenSpec.ofChange fnExactOfficeAtSpec)

/-- ITS FALSE NEIGHBOUR: 'it returns false'. Refute it at one input. -/
def fnExactOfficeAtWrong : ChangeSpec := { name := "fnExactOfficeAt", fn := fun _ => fun
  | [d1, d2, d3] => { results := [.lit (.bool false)], args := [d1, d2, d3] }
  | _ => none }
def FnExactOfficeAtWrongFalsely : Prop := fnExactOfficeAtRow.holds Tryz.pinned (OpenSpec.ofChange fnExactOfficeAtWrong)

/-- 'laws.FnExactRestartAt': WHATEVER THE INPUT: true; the input reads as it did. -/
def fnExactRestartAtSpec : ChangeSpec := { name := "fnExactRestartAt", fn := fun _ => fun
  | [d1, d2, d3] => { results := [.lit (.bool true)], args := [d1, d2, d3] }
  | _ => none }
def fnExactRestartAtRow : OpenClaim := { program := "ythdaghfhlfjclaagreat", sum := "ebdf29ccd347d565f6573d97b1c34604bef3b9ae817a579c219a75ab03991cfb", func := "loop.example/g01012/laws.FnExactRestartAt", spec := "fnExactRestartAt", inPlace := ["internal/bytealg.IndexByteString"], unfollowed := true, recurses := true, apart := false }
def FnExactRestartAtSaid : Prop := fnExactRestartAtRow.holds Tryz.pinned (OpenSpec.ofChange fnExactRestartAtSpec)

/-- ITS FALSE NEIGHBOUR: 'it returns false'. Refute it at one input. -/
def fnExactRestartAtWrong : ChangeSpec := { name := "fnExactRestartAt", fn := fun _ => fun
  | [d1, d2, d3] => { results := [.lit (.bool false)], args := [d1, d2, d3] }
  | _ => none }
def FnExactRestartAtWrongFalsely : Prop := fnExactRestartAtRow.holds Tryz.pinned (OpenSpec.ofChange fnExactRestartAtWrong)

/-- 'laws.FnRestarts': WHATEVER THE INPUT: true; the input reads as it did. -/
def fnRestartsSpec : ChangeSpec := { name := "fnRestarts", fn := fun _ => fun
  | [d] => { results := [.lit (.bool true)], args := [d] }
  | _ => none }
def fnRestartsRow : OpenClaim := { program := "ythdaghfhlfjclaagreat", sum := "ebdf29ccd347d565f6573d97b1c34604bef3b9ae817a579c219a75ab03991cfb", func := "loop.example/g01012/laws.FnRestarts", spec := "fnRestarts", inPlace := ["internal/bytealg.IndexByteString"], unfollowed := true, recurses := true, apart := false }
def FnRestartsSaid : Prop := fnRestartsRow.holds Tryz.pinned (OpenSpec.ofChange fnRestartsSpec)

/-- ITS FALSE NEIGHBOUR: 'it returns false'. Refute it at one input. -/
def fnRestartsWrong : ChangeSpec := { name := "fnRestarts", fn := fun _ => fun
  | [d] => { results := [.lit (.bool false)], args := [d] }
  | _ => none }
def FnRestartsWrongFalsely : Prop := fnRestartsRow.holds Tryz.pinned (OpenSpec.ofChange fnRestartsWrong)

/- THE SECOND FORM. 'bulk': how many values and letters a reading holds, each counted each time it is reached (what is shared counts as often as it is met; a slice's spare places count too). A statement '..UptoSaid' is the law's where the arguments, and the package variables that the reading takes, are together of bulk at most 1048576: NARROWER than '..Said'. Prove '..Said' where nothing that the law and all that it calls make is longer than what came in: it says more and counts as full. Else prove '..UptoSaid'. A law counts once. -/
mutual
def uptoBulk {H : Type} : DataW H → Nat
  | .lit (.string bytes) => bytes.length + 1
  | .lit _ => 1
  | .nil => 1
  | .ptr d => uptoBulk d + 1
  | .slice elems spare => uptoBulkAll elems + uptoBulkAll spare + 1
  | .agg parts => uptoBulkAll parts + 1
  | .iface _ d => uptoBulk d + 1
  | .map entries => uptoBulkEntries entries + 1
  | .held _ => 1
def uptoBulkAll {H : Type} : List (DataW H) → Nat
  | [] => 0
  | d :: r => uptoBulk d + uptoBulkAll r
def uptoBulkEntries {H : Type} : List (Lit × DataW H) → Nat
  | [] => 0
  | x :: r => uptoBulkEntry x + uptoBulkEntries r
def uptoBulkEntry {H : Type} : Lit × DataW H → Nat
  | (.string bytes, d) => bytes.length + uptoBulk d + 1
  | (_, d) => uptoBulk d + 1
 end
def uptoSmall : (H : Type) → List (DataW H) → Bool := fun _ ds => decide (uptoBulkAll ds ≤ 1048576)
def OpenSpec.upto (s : _root_.Go.ChangeSpec) : _root_.Go.OpenSpec := { _root_.Go.OpenSpec.ofChange s with cond := some uptoSmall }

/-- 'laws.FnExactStepMinutes', WHERE WHAT IT READS IS OF BULK AT MOST 1048576: true; the input reads as it did. -/
def fnExactStepMinutesUptoRow : OpenClaim := { program := "ythdaghfhlfjclaagreat", sum := "ebdf29ccd347d565f6573d97b1c34604bef3b9ae817a579c219a75ab03991cfb", func := "loop.example/g01012/laws.FnExactStepMinutes", spec := "fnExactStepMinutes", inPlace := ["internal/bytealg.IndexByteString"], unfollowed := true, recurses := true, apart := false, narrowed := true }
def FnExactStepMinutesUptoSaid : Prop := fnExactStepMinutesUptoRow.holds Tryz.pinned (OpenSpec.upto fnExactStepMinutesSpec)

/-- 'laws.FnExactOfficeAt', WHERE WHAT IT READS IS OF BULK AT MOST 1048576: true; the input reads as it did. -/
def fnExactOfficeAtUptoRow : OpenClaim := { program := "ythdaghfhlfjclaagreat", sum := "ebdf29ccd347d565f6573d97b1c34604bef3b9ae817a579c219a75ab03991cfb", func := "loop.example/g01012/laws.FnExactOfficeAt", spec := "fnExactOfficeAt", inPlace := ["internal/bytealg.IndexByteString"], unfollowed := true, recurses := true, apart := false, narrowed := true }
def FnExactOfficeAtUptoSaid : Prop := fnExactOfficeAtUptoRow.holds Tryz.pinned (OpenSpec.upto fnExactOfficeAtSpec)

/-- 'laws.FnExactRestartAt', WHERE WHAT IT READS IS OF BULK AT MOST 1048576: true; the input reads as it did. -/
def fnExactRestartAtUptoRow : OpenClaim := { program := "ythdaghfhlfjclaagreat", sum := "ebdf29ccd347d565f6573d97b1c34604bef3b9ae817a579c219a75ab03991cfb", func := "loop.example/g01012/laws.FnExactRestartAt", spec := "fnExactRestartAt", inPlace := ["internal/bytealg.IndexByteString"], unfollowed := true, recurses := true, apart := false, narrowed := true }
def FnExactRestartAtUptoSaid : Prop := fnExactRestartAtUptoRow.holds Tryz.pinned (OpenSpec.upto fnExactRestartAtSpec)

/-- 'laws.FnRestarts', WHERE WHAT IT READS IS OF BULK AT MOST 1048576: true; the input reads as it did. -/
def fnRestartsUptoRow : OpenClaim := { program := "ythdaghfhlfjclaagreat", sum := "ebdf29ccd347d565f6573d97b1c34604bef3b9ae817a579c219a75ab03991cfb", func := "loop.example/g01012/laws.FnRestarts", spec := "fnRestarts", inPlace := ["internal/bytealg.IndexByteString"], unfollowed := true, recurses := true, apart := false, narrowed := true }
def FnRestartsUptoSaid : Prop := fnRestartsUptoRow.holds Tryz.pinned (OpenSpec.upto fnRestartsSpec)

end Rows
end Go.Proofs.YthdaghfhlfjclaaGreat
