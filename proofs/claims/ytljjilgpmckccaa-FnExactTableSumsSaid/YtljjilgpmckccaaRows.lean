/-
  No cell of these rows narrows 'for every input' (looked for: loops, veiled, ifaces, maps, wideKeys, modest, calm, conditions, laid).
  DERIVED. THE GIVEN ROWS OF THIS SEAT. 10 by the template 'for every input the law returns true; each argument reads behind the call as it read before'; 0 by the template 'total and deterministic' (their statements: YtljjilgpmckccaaTotals.lean).
  GIVEN WITH THE SEED: the statements are not yours to turn. If you find one false, say at which input.
  Laid BY PROGRAM, IN A SANDBOX (cutbox-rows.mjs): the forced cells as the released guide's own fill.sh prints them over the translation 4cb845d17d0041f2… (all of the seat's roots in one cut). By AI agents, Wed Nov 11 2026. No macro, syntax, notation, axiom, sorry.
-/
import Derived.Test.YtljjilgpmckccaaChecked
import GoSem.Claim
import GoSem.ClaimJoined
import GoSem.ClaimMapViews
import Derived.JoinedTies
import Derived.KernelRfl
namespace Go.Proofs.Ytljjilgpmckccaa
/- THE CELL 'sum', in the pinned program and in every row, IS THE sha256 OF THE DUMP (.gsa) THAT YtljjilgpmckccaaProg.lean LOADS. Nothing in Lean hashes anything: it is a label: what it is worth is what the hold of that sum in a sandbox is worth. -/
noncomputable def Try.pinned : Pinned := { name := "ytljjilgpmckccaa", sum := "4cb845d17d0041f26c23c1124dc3789772a94d89f899104be619e7b1b479860a", checked := Try.checked }
namespace Rows
def none {H : Type} : Left H := { results := [], args := [] }

/-- 'laws.FnExactLostWork': WHATEVER THE INPUT: true; the input reads as it did. -/
def fnExactLostWorkSpec : ChangeSpec := { name := "fnExactLostWork", fn := fun _ => fun
  | [d1, d2, d3] => { results := [.lit (.bool true)], args := [d1, d2, d3] }
  | _ => none }
def fnExactLostWorkRow : OpenClaim := { program := "ytljjilgpmckccaa", sum := "4cb845d17d0041f26c23c1124dc3789772a94d89f899104be619e7b1b479860a", func := "loop.example/g01012/laws.FnExactLostWork", spec := "fnExactLostWork", unfollowed := true, recurses := true, apart := false }
def FnExactLostWorkSaid : Prop := fnExactLostWorkRow.holds Try.pinned (OpenSpec.ofChange fnExactLostWorkSpec)

/-- ITS FALSE NEIGHBOUR: 'it returns false'. Refute it at one input. -/
def fnExactLostWorkWrong : ChangeSpec := { name := "fnExactLostWork", fn := fun _ => fun
  | [d1, d2, d3] => { results := [.lit (.bool false)], args := [d1, d2, d3] }
  | _ => none }
def FnExactLostWorkWrongFalsely : Prop := fnExactLostWorkRow.holds Try.pinned (OpenSpec.ofChange fnExactLostWorkWrong)

/-- 'laws.FnExactTotalWithFailure': WHATEVER THE INPUT: true; the input reads as it did. -/
def fnExactTotalWithFailureSpec : ChangeSpec := { name := "fnExactTotalWithFailure", fn := fun _ => fun
  | [d1, d2, d3, d4] => { results := [.lit (.bool true)], args := [d1, d2, d3, d4] }
  | _ => none }
def fnExactTotalWithFailureRow : OpenClaim := { program := "ytljjilgpmckccaa", sum := "4cb845d17d0041f26c23c1124dc3789772a94d89f899104be619e7b1b479860a", func := "loop.example/g01012/laws.FnExactTotalWithFailure", spec := "fnExactTotalWithFailure", unfollowed := true, recurses := true, apart := false }
def FnExactTotalWithFailureSaid : Prop := fnExactTotalWithFailureRow.holds Try.pinned (OpenSpec.ofChange fnExactTotalWithFailureSpec)

/-- ITS FALSE NEIGHBOUR: 'it returns false'. Refute it at one input. -/
def fnExactTotalWithFailureWrong : ChangeSpec := { name := "fnExactTotalWithFailure", fn := fun _ => fun
  | [d1, d2, d3, d4] => { results := [.lit (.bool false)], args := [d1, d2, d3, d4] }
  | _ => none }
def FnExactTotalWithFailureWrongFalsely : Prop := fnExactTotalWithFailureRow.holds Try.pinned (OpenSpec.ofChange fnExactTotalWithFailureWrong)

/-- 'laws.FnExactSumOfLosses': WHATEVER THE INPUT: true; the input reads as it did. -/
def fnExactSumOfLossesSpec : ChangeSpec := { name := "fnExactSumOfLosses", fn := fun _ => fun
  | [d1, d2] => { results := [.lit (.bool true)], args := [d1, d2] }
  | _ => none }
def fnExactSumOfLossesRow : OpenClaim := { program := "ytljjilgpmckccaa", sum := "4cb845d17d0041f26c23c1124dc3789772a94d89f899104be619e7b1b479860a", func := "loop.example/g01012/laws.FnExactSumOfLosses", spec := "fnExactSumOfLosses", unfollowed := true, recurses := true, apart := false }
def FnExactSumOfLossesSaid : Prop := fnExactSumOfLossesRow.holds Try.pinned (OpenSpec.ofChange fnExactSumOfLossesSpec)

/-- ITS FALSE NEIGHBOUR: 'it returns false'. Refute it at one input. -/
def fnExactSumOfLossesWrong : ChangeSpec := { name := "fnExactSumOfLosses", fn := fun _ => fun
  | [d1, d2] => { results := [.lit (.bool false)], args := [d1, d2] }
  | _ => none }
def FnExactSumOfLossesWrongFalsely : Prop := fnExactSumOfLossesRow.holds Try.pinned (OpenSpec.ofChange fnExactSumOfLossesWrong)

/-- 'laws.FnExactChecksFor': WHATEVER THE INPUT: true; the input reads as it did. -/
def fnExactChecksForSpec : ChangeSpec := { name := "fnExactChecksFor", fn := fun _ => fun
  | [d1, d2] => { results := [.lit (.bool true)], args := [d1, d2] }
  | _ => none }
def fnExactChecksForRow : OpenClaim := { program := "ytljjilgpmckccaa", sum := "4cb845d17d0041f26c23c1124dc3789772a94d89f899104be619e7b1b479860a", func := "loop.example/g01012/laws.FnExactChecksFor", spec := "fnExactChecksFor", unfollowed := true, recurses := true, apart := false }
def FnExactChecksForSaid : Prop := fnExactChecksForRow.holds Try.pinned (OpenSpec.ofChange fnExactChecksForSpec)

/-- ITS FALSE NEIGHBOUR: 'it returns false'. Refute it at one input. -/
def fnExactChecksForWrong : ChangeSpec := { name := "fnExactChecksFor", fn := fun _ => fun
  | [d1, d2] => { results := [.lit (.bool false)], args := [d1, d2] }
  | _ => none }
def FnExactChecksForWrongFalsely : Prop := fnExactChecksForRow.holds Try.pinned (OpenSpec.ofChange fnExactChecksForWrong)

/-- 'laws.FnExactBestChecks': WHATEVER THE INPUT: true; the input reads as it did. -/
def fnExactBestChecksSpec : ChangeSpec := { name := "fnExactBestChecks", fn := fun _ => fun
  | [d1, d2] => { results := [.lit (.bool true)], args := [d1, d2] }
  | _ => none }
def fnExactBestChecksRow : OpenClaim := { program := "ytljjilgpmckccaa", sum := "4cb845d17d0041f26c23c1124dc3789772a94d89f899104be619e7b1b479860a", func := "loop.example/g01012/laws.FnExactBestChecks", spec := "fnExactBestChecks", unfollowed := true, recurses := true, apart := false }
def FnExactBestChecksSaid : Prop := fnExactBestChecksRow.holds Try.pinned (OpenSpec.ofChange fnExactBestChecksSpec)

/-- ITS FALSE NEIGHBOUR: 'it returns false'. Refute it at one input. -/
def fnExactBestChecksWrong : ChangeSpec := { name := "fnExactBestChecks", fn := fun _ => fun
  | [d1, d2] => { results := [.lit (.bool false)], args := [d1, d2] }
  | _ => none }
def FnExactBestChecksWrongFalsely : Prop := fnExactBestChecksRow.holds Try.pinned (OpenSpec.ofChange fnExactBestChecksWrong)

/-- 'laws.FnExactWorstLoss': WHATEVER THE INPUT: true; the input reads as it did. -/
def fnExactWorstLossSpec : ChangeSpec := { name := "fnExactWorstLoss", fn := fun _ => fun
  | [d1, d2] => { results := [.lit (.bool true)], args := [d1, d2] }
  | _ => none }
def fnExactWorstLossRow : OpenClaim := { program := "ytljjilgpmckccaa", sum := "4cb845d17d0041f26c23c1124dc3789772a94d89f899104be619e7b1b479860a", func := "loop.example/g01012/laws.FnExactWorstLoss", spec := "fnExactWorstLoss", unfollowed := true, recurses := true, apart := false }
def FnExactWorstLossSaid : Prop := fnExactWorstLossRow.holds Try.pinned (OpenSpec.ofChange fnExactWorstLossSpec)

/-- ITS FALSE NEIGHBOUR: 'it returns false'. Refute it at one input. -/
def fnExactWorstLossWrong : ChangeSpec := { name := "fnExactWorstLoss", fn := fun _ => fun
  | [d1, d2] => { results := [.lit (.bool false)], args := [d1, d2] }
  | _ => none }
def FnExactWorstLossWrongFalsely : Prop := fnExactWorstLossRow.holds Try.pinned (OpenSpec.ofChange fnExactWorstLossWrong)

/-- 'laws.FnLosses': WHATEVER THE INPUT: true; the input reads as it did. -/
def fnLossesSpec : ChangeSpec := { name := "fnLosses", fn := fun _ => fun
  | [d] => { results := [.lit (.bool true)], args := [d] }
  | _ => none }
def fnLossesRow : OpenClaim := { program := "ytljjilgpmckccaa", sum := "4cb845d17d0041f26c23c1124dc3789772a94d89f899104be619e7b1b479860a", func := "loop.example/g01012/laws.FnLosses", spec := "fnLosses", unfollowed := true, recurses := true, apart := false }
def FnLossesSaid : Prop := fnLossesRow.holds Try.pinned (OpenSpec.ofChange fnLossesSpec)

/-- ITS FALSE NEIGHBOUR: 'it returns false'. Refute it at one input. -/
def fnLossesWrong : ChangeSpec := { name := "fnLosses", fn := fun _ => fun
  | [d] => { results := [.lit (.bool false)], args := [d] }
  | _ => none }
def FnLossesWrongFalsely : Prop := fnLossesRow.holds Try.pinned (OpenSpec.ofChange fnLossesWrong)

/-- 'laws.FnExactClassOf': WHATEVER THE INPUT: true; the input reads as it did. -/
def fnExactClassOfSpec : ChangeSpec := { name := "fnExactClassOf", fn := fun _ => fun
  | [d1, d2] => { results := [.lit (.bool true)], args := [d1, d2] }
  | _ => none }
def fnExactClassOfRow : OpenClaim := { program := "ytljjilgpmckccaa", sum := "4cb845d17d0041f26c23c1124dc3789772a94d89f899104be619e7b1b479860a", func := "loop.example/g01012/laws.FnExactClassOf", spec := "fnExactClassOf", apart := false }
def FnExactClassOfSaid : Prop := fnExactClassOfRow.holds Try.pinned (OpenSpec.ofChange fnExactClassOfSpec)

/-- ITS FALSE NEIGHBOUR: 'it returns false'. Refute it at one input. -/
def fnExactClassOfWrong : ChangeSpec := { name := "fnExactClassOf", fn := fun _ => fun
  | [d1, d2] => { results := [.lit (.bool false)], args := [d1, d2] }
  | _ => none }
def FnExactClassOfWrongFalsely : Prop := fnExactClassOfRow.holds Try.pinned (OpenSpec.ofChange fnExactClassOfWrong)

/-- 'laws.FnExactTableSums': WHATEVER THE INPUT: true; the input reads as it did. -/
def fnExactTableSumsSpec : ChangeSpec := { name := "fnExactTableSums", fn := fun _ => fun
  | [d] => { results := [.lit (.bool true)], args := [d] }
  | _ => none }
def fnExactTableSumsRow : OpenClaim := { program := "ytljjilgpmckccaa", sum := "4cb845d17d0041f26c23c1124dc3789772a94d89f899104be619e7b1b479860a", func := "loop.example/g01012/laws.FnExactTableSums", spec := "fnExactTableSums", unfollowed := true, recurses := true, apart := false }
def FnExactTableSumsSaid : Prop := fnExactTableSumsRow.holds Try.pinned (OpenSpec.ofChange fnExactTableSumsSpec)

/-- ITS FALSE NEIGHBOUR: 'it returns false'. Refute it at one input. -/
def fnExactTableSumsWrong : ChangeSpec := { name := "fnExactTableSums", fn := fun _ => fun
  | [d] => { results := [.lit (.bool false)], args := [d] }
  | _ => none }
def FnExactTableSumsWrongFalsely : Prop := fnExactTableSumsRow.holds Try.pinned (OpenSpec.ofChange fnExactTableSumsWrong)

/-- 'laws.FnExactDoubleCards': WHATEVER THE INPUT: true; the input reads as it did. -/
def fnExactDoubleCardsSpec : ChangeSpec := { name := "fnExactDoubleCards", fn := fun _ => fun
  | [d] => { results := [.lit (.bool true)], args := [d] }
  | _ => none }
def fnExactDoubleCardsRow : OpenClaim := { program := "ytljjilgpmckccaa", sum := "4cb845d17d0041f26c23c1124dc3789772a94d89f899104be619e7b1b479860a", func := "loop.example/g01012/laws.FnExactDoubleCards", spec := "fnExactDoubleCards", unfollowed := true, recurses := true, apart := false }
def FnExactDoubleCardsSaid : Prop := fnExactDoubleCardsRow.holds Try.pinned (OpenSpec.ofChange fnExactDoubleCardsSpec)

/-- ITS FALSE NEIGHBOUR: 'it returns false'. Refute it at one input. -/
def fnExactDoubleCardsWrong : ChangeSpec := { name := "fnExactDoubleCards", fn := fun _ => fun
  | [d] => { results := [.lit (.bool false)], args := [d] }
  | _ => none }
def FnExactDoubleCardsWrongFalsely : Prop := fnExactDoubleCardsRow.holds Try.pinned (OpenSpec.ofChange fnExactDoubleCardsWrong)

/- THE SECOND FORM. 'bulk': how many values and letters a reading holds, each counted each time it is reached (what is shared counts as often as it is met; a slice's spare places count too). A statement '..UptoSaid' is the law's where the arguments, and the package variables that the reading takes, are together of bulk at most 1048576: NARROWER than '..Said'. Prove '..Said' where nothing that the law and all that it calls make is longer than what came in: it says more and counts as full. Else prove '..UptoSaid'. A law counts once. -/
mutual
def uptoBulk {H : Type} : DataW H → Nat
  | .lit (.string bytes) => bytes.length + 1
  | .lit _ => 1
  | .nil => 1
  | .ptr d => uptoBulk d + 1
  | .slice elems spare => uptoBulkAll elems + uptoBulkAll spare + 1
  | .agg parts => uptoBulkAll parts + 1
  | .iface _ d => uptoBulk d + 1
  | .map entries => uptoBulkEntries entries + 1
  | .held _ => 1
def uptoBulkAll {H : Type} : List (DataW H) → Nat
  | [] => 0
  | d :: r => uptoBulk d + uptoBulkAll r
def uptoBulkEntries {H : Type} : List (Lit × DataW H) → Nat
  | [] => 0
  | x :: r => uptoBulkEntry x + uptoBulkEntries r
def uptoBulkEntry {H : Type} : Lit × DataW H → Nat
  | (.string bytes, d) => bytes.length + uptoBulk d + 1
  | (_, d) => uptoBulk d + 1
 end
def uptoSmall : (H : Type) → List (DataW H) → Bool := fun _ ds => decide (uptoBulkAll ds ≤ 1048576)
def OpenSpec.upto (s : _root_.Go.ChangeSpec) : _root_.Go.OpenSpec := { _root_.Go.OpenSpec.ofChange s with cond := some uptoSmall }

/-- 'laws.FnExactLostWork', WHERE WHAT IT READS IS OF BULK AT MOST 1048576: true; the input reads as it did. -/
def fnExactLostWorkUptoRow : OpenClaim := { program := "ytljjilgpmckccaa", sum := "4cb845d17d0041f26c23c1124dc3789772a94d89f899104be619e7b1b479860a", func := "loop.example/g01012/laws.FnExactLostWork", spec := "fnExactLostWork", unfollowed := true, recurses := true, apart := false, narrowed := true }
def FnExactLostWorkUptoSaid : Prop := fnExactLostWorkUptoRow.holds Try.pinned (OpenSpec.upto fnExactLostWorkSpec)

/-- 'laws.FnExactTotalWithFailure', WHERE WHAT IT READS IS OF BULK AT MOST 1048576: true; the input reads as it did. -/
def fnExactTotalWithFailureUptoRow : OpenClaim := { program := "ytljjilgpmckccaa", sum := "4cb845d17d0041f26c23c1124dc3789772a94d89f899104be619e7b1b479860a", func := "loop.example/g01012/laws.FnExactTotalWithFailure", spec := "fnExactTotalWithFailure", unfollowed := true, recurses := true, apart := false, narrowed := true }
def FnExactTotalWithFailureUptoSaid : Prop := fnExactTotalWithFailureUptoRow.holds Try.pinned (OpenSpec.upto fnExactTotalWithFailureSpec)

/-- 'laws.FnExactSumOfLosses', WHERE WHAT IT READS IS OF BULK AT MOST 1048576: true; the input reads as it did. -/
def fnExactSumOfLossesUptoRow : OpenClaim := { program := "ytljjilgpmckccaa", sum := "4cb845d17d0041f26c23c1124dc3789772a94d89f899104be619e7b1b479860a", func := "loop.example/g01012/laws.FnExactSumOfLosses", spec := "fnExactSumOfLosses", unfollowed := true, recurses := true, apart := false, narrowed := true }
def FnExactSumOfLossesUptoSaid : Prop := fnExactSumOfLossesUptoRow.holds Try.pinned (OpenSpec.upto fnExactSumOfLossesSpec)

/-- 'laws.FnExactChecksFor', WHERE WHAT IT READS IS OF BULK AT MOST 1048576: true; the input reads as it did. -/
def fnExactChecksForUptoRow : OpenClaim := { program := "ytljjilgpmckccaa", sum := "4cb845d17d0041f26c23c1124dc3789772a94d89f899104be619e7b1b479860a", func := "loop.example/g01012/laws.FnExactChecksFor", spec := "fnExactChecksFor", unfollowed := true, recurses := true, apart := false, narrowed := true }
def FnExactChecksForUptoSaid : Prop := fnExactChecksForUptoRow.holds Try.pinned (OpenSpec.upto fnExactChecksForSpec)

/-- 'laws.FnExactBestChecks', WHERE WHAT IT READS IS OF BULK AT MOST 1048576: true; the input reads as it did. -/
def fnExactBestChecksUptoRow : OpenClaim := { program := "ytljjilgpmckccaa", sum := "4cb845d17d0041f26c23c1124dc3789772a94d89f899104be619e7b1b479860a", func := "loop.example/g01012/laws.FnExactBestChecks", spec := "fnExactBestChecks", unfollowed := true, recurses := true, apart := false, narrowed := true }
def FnExactBestChecksUptoSaid : Prop := fnExactBestChecksUptoRow.holds Try.pinned (OpenSpec.upto fnExactBestChecksSpec)

/-- 'laws.FnExactWorstLoss', WHERE WHAT IT READS IS OF BULK AT MOST 1048576: true; the input reads as it did. -/
def fnExactWorstLossUptoRow : OpenClaim := { program := "ytljjilgpmckccaa", sum := "4cb845d17d0041f26c23c1124dc3789772a94d89f899104be619e7b1b479860a", func := "loop.example/g01012/laws.FnExactWorstLoss", spec := "fnExactWorstLoss", unfollowed := true, recurses := true, apart := false, narrowed := true }
def FnExactWorstLossUptoSaid : Prop := fnExactWorstLossUptoRow.holds Try.pinned (OpenSpec.upto fnExactWorstLossSpec)

/-- 'laws.FnLosses', WHERE WHAT IT READS IS OF BULK AT MOST 1048576: true; the input reads as it did. -/
def fnLossesUptoRow : OpenClaim := { program := "ytljjilgpmckccaa", sum := "4cb845d17d0041f26c23c1124dc3789772a94d89f899104be619e7b1b479860a", func := "loop.example/g01012/laws.FnLosses", spec := "fnLosses", unfollowed := true, recurses := true, apart := false, narrowed := true }
def FnLossesUptoSaid : Prop := fnLossesUptoRow.holds Try.pinned (OpenSpec.upto fnLossesSpec)

/-- 'laws.FnExactClassOf', WHERE WHAT IT READS IS OF BULK AT MOST 1048576: true; the input reads as it did. -/
def fnExactClassOfUptoRow : OpenClaim := { program := "ytljjilgpmckccaa", sum := "4cb845d17d0041f26c23c1124dc3789772a94d89f899104be619e7b1b479860a", func := "loop.example/g01012/laws.FnExactClassOf", spec := "fnExactClassOf", apart := false, narrowed := true }
def FnExactClassOfUptoSaid : Prop := fnExactClassOfUptoRow.holds Try.pinned (OpenSpec.upto fnExactClassOfSpec)

/-- 'laws.FnExactTableSums', WHERE WHAT IT READS IS OF BULK AT MOST 1048576: true; the input reads as it did. -/
def fnExactTableSumsUptoRow : OpenClaim := { program := "ytljjilgpmckccaa", sum := "4cb845d17d0041f26c23c1124dc3789772a94d89f899104be619e7b1b479860a", func := "loop.example/g01012/laws.FnExactTableSums", spec := "fnExactTableSums", unfollowed := true, recurses := true, apart := false, narrowed := true }
def FnExactTableSumsUptoSaid : Prop := fnExactTableSumsUptoRow.holds Try.pinned (OpenSpec.upto fnExactTableSumsSpec)

/-- 'laws.FnExactDoubleCards', WHERE WHAT IT READS IS OF BULK AT MOST 1048576: true; the input reads as it did. -/
def fnExactDoubleCardsUptoRow : OpenClaim := { program := "ytljjilgpmckccaa", sum := "4cb845d17d0041f26c23c1124dc3789772a94d89f899104be619e7b1b479860a", func := "loop.example/g01012/laws.FnExactDoubleCards", spec := "fnExactDoubleCards", unfollowed := true, recurses := true, apart := false, narrowed := true }
def FnExactDoubleCardsUptoSaid : Prop := fnExactDoubleCardsUptoRow.holds Try.pinned (OpenSpec.upto fnExactDoubleCardsSpec)

end Rows
end Go.Proofs.Ytljjilgpmckccaa
