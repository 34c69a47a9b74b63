/-
  No cell of these rows narrows 'for every input' (looked for: loops, veiled, ifaces, maps, wideKeys, modest, calm, conditions, laid).
  DERIVED. THE GIVEN ROWS OF THIS SEAT. 10 by the template 'for every input the law returns true; each argument reads behind the call as it read before'; 0 by the template 'total and deterministic' (their statements: YtfojfcmjoacbgaaTotals.lean).
  GIVEN WITH THE SEED: the statements are not yours to turn. If you find one false, say at which input.
  Laid BY PROGRAM, IN A SANDBOX (cutbox-rows.mjs): the forced cells as the released guide's own fill.sh prints them over the translation e624f23e6ac873c8… (all of the seat's roots in one cut). By AI agents, Wed Nov 11 2026. No macro, syntax, notation, axiom, sorry.
-/
import Derived.Test.YtfojfcmjoacbgaaChecked
import GoSem.Claim
import GoSem.ClaimJoined
import GoSem.ClaimMapViews
import Derived.JoinedTies
import Derived.KernelRfl
namespace Go.Proofs.Ytfojfcmjoacbgaa
/- THE CELL 'sum', in the pinned program and in every row, IS THE sha256 OF THE DUMP (.gsa) THAT YtfojfcmjoacbgaaProg.lean LOADS. Nothing in Lean hashes anything: it is a label: what it is worth is what the hold of that sum in a sandbox is worth. -/
noncomputable def Try.pinned : Pinned := { name := "ytfojfcmjoacbgaa", sum := "e624f23e6ac873c83f5929b3ea155fad35c8ad8b4cd9a4d599075491f343ff8e", checked := Try.checked }
namespace Rows
def none {H : Type} : Left H := { results := [], args := [] }

/-- 'laws.FnExactSameOperators': WHATEVER THE INPUT: true; the input reads as it did. -/
def fnExactSameOperatorsSpec : ChangeSpec := { name := "fnExactSameOperators", fn := fun _ => fun
  | [d1, d2] => { results := [.lit (.bool true)], args := [d1, d2] }
  | _ => none }
def fnExactSameOperatorsRow : OpenClaim := { program := "ytfojfcmjoacbgaa", sum := "e624f23e6ac873c83f5929b3ea155fad35c8ad8b4cd9a4d599075491f343ff8e", func := "loop.example/g01012/laws.FnExactSameOperators", spec := "fnExactSameOperators", apart := false }
def FnExactSameOperatorsSaid : Prop := fnExactSameOperatorsRow.holds Try.pinned (OpenSpec.ofChange fnExactSameOperatorsSpec)

/-- ITS FALSE NEIGHBOUR: 'it returns false'. Refute it at one input. -/
def fnExactSameOperatorsWrong : ChangeSpec := { name := "fnExactSameOperators", fn := fun _ => fun
  | [d1, d2] => { results := [.lit (.bool false)], args := [d1, d2] }
  | _ => none }
def FnExactSameOperatorsWrongFalsely : Prop := fnExactSameOperatorsRow.holds Try.pinned (OpenSpec.ofChange fnExactSameOperatorsWrong)

/-- 'laws.FnExactValidOperators': WHATEVER THE INPUT: true; the input reads as it did. -/
def fnExactValidOperatorsSpec : ChangeSpec := { name := "fnExactValidOperators", fn := fun _ => fun
  | [d] => { results := [.lit (.bool true)], args := [d] }
  | _ => none }
def fnExactValidOperatorsRow : OpenClaim := { program := "ytfojfcmjoacbgaa", sum := "e624f23e6ac873c83f5929b3ea155fad35c8ad8b4cd9a4d599075491f343ff8e", func := "loop.example/g01012/laws.FnExactValidOperators", spec := "fnExactValidOperators", unfollowed := true, recurses := true, apart := false }
def FnExactValidOperatorsSaid : Prop := fnExactValidOperatorsRow.holds Try.pinned (OpenSpec.ofChange fnExactValidOperatorsSpec)

/-- ITS FALSE NEIGHBOUR: 'it returns false'. Refute it at one input. -/
def fnExactValidOperatorsWrong : ChangeSpec := { name := "fnExactValidOperators", fn := fun _ => fun
  | [d] => { results := [.lit (.bool false)], args := [d] }
  | _ => none }
def FnExactValidOperatorsWrongFalsely : Prop := fnExactValidOperatorsRow.holds Try.pinned (OpenSpec.ofChange fnExactValidOperatorsWrong)

/-- 'laws.FnExactTeachOperator': WHATEVER THE INPUT: true; the input reads as it did. -/
def fnExactTeachOperatorSpec : ChangeSpec := { name := "fnExactTeachOperator", fn := fun _ => fun
  | [d1, d2, d3] => { results := [.lit (.bool true)], args := [d1, d2, d3] }
  | _ => none }
def fnExactTeachOperatorRow : OpenClaim := { program := "ytfojfcmjoacbgaa", sum := "e624f23e6ac873c83f5929b3ea155fad35c8ad8b4cd9a4d599075491f343ff8e", func := "loop.example/g01012/laws.FnExactTeachOperator", spec := "fnExactTeachOperator", unfollowed := true, recurses := true, apart := false }
def FnExactTeachOperatorSaid : Prop := fnExactTeachOperatorRow.holds Try.pinned (OpenSpec.ofChange fnExactTeachOperatorSpec)

/-- ITS FALSE NEIGHBOUR: 'it returns false'. Refute it at one input. -/
def fnExactTeachOperatorWrong : ChangeSpec := { name := "fnExactTeachOperator", fn := fun _ => fun
  | [d1, d2, d3] => { results := [.lit (.bool false)], args := [d1, d2, d3] }
  | _ => none }
def FnExactTeachOperatorWrongFalsely : Prop := fnExactTeachOperatorRow.holds Try.pinned (OpenSpec.ofChange fnExactTeachOperatorWrong)

/-- 'laws.FnExactOperatorsFor': WHATEVER THE INPUT: true; the input reads as it did. -/
def fnExactOperatorsForSpec : ChangeSpec := { name := "fnExactOperatorsFor", fn := fun _ => fun
  | [d1, d2] => { results := [.lit (.bool true)], args := [d1, d2] }
  | _ => none }
def fnExactOperatorsForRow : OpenClaim := { program := "ytfojfcmjoacbgaa", sum := "e624f23e6ac873c83f5929b3ea155fad35c8ad8b4cd9a4d599075491f343ff8e", func := "loop.example/g01012/laws.FnExactOperatorsFor", spec := "fnExactOperatorsFor", unfollowed := true, recurses := true, apart := false }
def FnExactOperatorsForSaid : Prop := fnExactOperatorsForRow.holds Try.pinned (OpenSpec.ofChange fnExactOperatorsForSpec)

/-- ITS FALSE NEIGHBOUR: 'it returns false'. Refute it at one input. -/
def fnExactOperatorsForWrong : ChangeSpec := { name := "fnExactOperatorsFor", fn := fun _ => fun
  | [d1, d2] => { results := [.lit (.bool false)], args := [d1, d2] }
  | _ => none }
def FnExactOperatorsForWrongFalsely : Prop := fnExactOperatorsForRow.holds Try.pinned (OpenSpec.ofChange fnExactOperatorsForWrong)

/-- 'laws.FnExactPostFault': WHATEVER THE INPUT: true; the input reads as it did. -/
def fnExactPostFaultSpec : ChangeSpec := { name := "fnExactPostFault", fn := fun _ => fun
  | [d1, d2, d3] => { results := [.lit (.bool true)], args := [d1, d2, d3] }
  | _ => none }
def fnExactPostFaultRow : OpenClaim := { program := "ytfojfcmjoacbgaa", sum := "e624f23e6ac873c83f5929b3ea155fad35c8ad8b4cd9a4d599075491f343ff8e", func := "loop.example/g01012/laws.FnExactPostFault", spec := "fnExactPostFault", unfollowed := true, recurses := true, apart := false }
def FnExactPostFaultSaid : Prop := fnExactPostFaultRow.holds Try.pinned (OpenSpec.ofChange fnExactPostFaultSpec)

/-- ITS FALSE NEIGHBOUR: 'it returns false'. Refute it at one input. -/
def fnExactPostFaultWrong : ChangeSpec := { name := "fnExactPostFault", fn := fun _ => fun
  | [d1, d2, d3] => { results := [.lit (.bool false)], args := [d1, d2, d3] }
  | _ => none }
def FnExactPostFaultWrongFalsely : Prop := fnExactPostFaultRow.holds Try.pinned (OpenSpec.ofChange fnExactPostFaultWrong)

/-- 'laws.FnExactMostPosts': WHATEVER THE INPUT: true; the input reads as it did. -/
def fnExactMostPostsSpec : ChangeSpec := { name := "fnExactMostPosts", fn := fun _ => fun
  | [d1, d2] => { results := [.lit (.bool true)], args := [d1, d2] }
  | _ => none }
def fnExactMostPostsRow : OpenClaim := { program := "ytfojfcmjoacbgaa", sum := "e624f23e6ac873c83f5929b3ea155fad35c8ad8b4cd9a4d599075491f343ff8e", func := "loop.example/g01012/laws.FnExactMostPosts", spec := "fnExactMostPosts", unfollowed := true, recurses := true, apart := false }
def FnExactMostPostsSaid : Prop := fnExactMostPostsRow.holds Try.pinned (OpenSpec.ofChange fnExactMostPostsSpec)

/-- ITS FALSE NEIGHBOUR: 'it returns false'. Refute it at one input. -/
def fnExactMostPostsWrong : ChangeSpec := { name := "fnExactMostPosts", fn := fun _ => fun
  | [d1, d2] => { results := [.lit (.bool false)], args := [d1, d2] }
  | _ => none }
def FnExactMostPostsWrongFalsely : Prop := fnExactMostPostsRow.holds Try.pinned (OpenSpec.ofChange fnExactMostPostsWrong)

/-- 'laws.FnExactCountFillings': WHATEVER THE INPUT: true; the input reads as it did. -/
def fnExactCountFillingsSpec : ChangeSpec := { name := "fnExactCountFillings", fn := fun _ => fun
  | [d1, d2] => { results := [.lit (.bool true)], args := [d1, d2] }
  | _ => none }
def fnExactCountFillingsRow : OpenClaim := { program := "ytfojfcmjoacbgaa", sum := "e624f23e6ac873c83f5929b3ea155fad35c8ad8b4cd9a4d599075491f343ff8e", func := "loop.example/g01012/laws.FnExactCountFillings", spec := "fnExactCountFillings", unfollowed := true, recurses := true, apart := false }
def FnExactCountFillingsSaid : Prop := fnExactCountFillingsRow.holds Try.pinned (OpenSpec.ofChange fnExactCountFillingsSpec)

/-- ITS FALSE NEIGHBOUR: 'it returns false'. Refute it at one input. -/
def fnExactCountFillingsWrong : ChangeSpec := { name := "fnExactCountFillings", fn := fun _ => fun
  | [d1, d2] => { results := [.lit (.bool false)], args := [d1, d2] }
  | _ => none }
def FnExactCountFillingsWrongFalsely : Prop := fnExactCountFillingsRow.holds Try.pinned (OpenSpec.ofChange fnExactCountFillingsWrong)

/-- 'laws.FnExactTrainOne': WHATEVER THE INPUT: true; the input reads as it did. -/
def fnExactTrainOneSpec : ChangeSpec := { name := "fnExactTrainOne", fn := fun _ => fun
  | [d1, d2] => { results := [.lit (.bool true)], args := [d1, d2] }
  | _ => none }
def fnExactTrainOneRow : OpenClaim := { program := "ytfojfcmjoacbgaa", sum := "e624f23e6ac873c83f5929b3ea155fad35c8ad8b4cd9a4d599075491f343ff8e", func := "loop.example/g01012/laws.FnExactTrainOne", spec := "fnExactTrainOne", unfollowed := true, recurses := true, apart := false }
def FnExactTrainOneSaid : Prop := fnExactTrainOneRow.holds Try.pinned (OpenSpec.ofChange fnExactTrainOneSpec)

/-- ITS FALSE NEIGHBOUR: 'it returns false'. Refute it at one input. -/
def fnExactTrainOneWrong : ChangeSpec := { name := "fnExactTrainOne", fn := fun _ => fun
  | [d1, d2] => { results := [.lit (.bool false)], args := [d1, d2] }
  | _ => none }
def FnExactTrainOneWrongFalsely : Prop := fnExactTrainOneRow.holds Try.pinned (OpenSpec.ofChange fnExactTrainOneWrong)

/-- 'laws.FnExactFillPosts': WHATEVER THE INPUT: true; the input reads as it did. -/
def fnExactFillPostsSpec : ChangeSpec := { name := "fnExactFillPosts", fn := fun _ => fun
  | [d1, d2] => { results := [.lit (.bool true)], args := [d1, d2] }
  | _ => none }
def fnExactFillPostsRow : OpenClaim := { program := "ytfojfcmjoacbgaa", sum := "e624f23e6ac873c83f5929b3ea155fad35c8ad8b4cd9a4d599075491f343ff8e", func := "loop.example/g01012/laws.FnExactFillPosts", spec := "fnExactFillPosts", unfollowed := true, recurses := true, apart := false }
def FnExactFillPostsSaid : Prop := fnExactFillPostsRow.holds Try.pinned (OpenSpec.ofChange fnExactFillPostsSpec)

/-- ITS FALSE NEIGHBOUR: 'it returns false'. Refute it at one input. -/
def fnExactFillPostsWrong : ChangeSpec := { name := "fnExactFillPosts", fn := fun _ => fun
  | [d1, d2] => { results := [.lit (.bool false)], args := [d1, d2] }
  | _ => none }
def FnExactFillPostsWrongFalsely : Prop := fnExactFillPostsRow.holds Try.pinned (OpenSpec.ofChange fnExactFillPostsWrong)

/-- 'laws.FnPosts': WHATEVER THE INPUT: true; the input reads as it did. -/
def fnPostsSpec : ChangeSpec := { name := "fnPosts", fn := fun _ => fun
  | [d] => { results := [.lit (.bool true)], args := [d] }
  | _ => none }
def fnPostsRow : OpenClaim := { program := "ytfojfcmjoacbgaa", sum := "e624f23e6ac873c83f5929b3ea155fad35c8ad8b4cd9a4d599075491f343ff8e", func := "loop.example/g01012/laws.FnPosts", spec := "fnPosts", unfollowed := true, recurses := true, apart := false }
def FnPostsSaid : Prop := fnPostsRow.holds Try.pinned (OpenSpec.ofChange fnPostsSpec)

/-- ITS FALSE NEIGHBOUR: 'it returns false'. Refute it at one input. -/
def fnPostsWrong : ChangeSpec := { name := "fnPosts", fn := fun _ => fun
  | [d] => { results := [.lit (.bool false)], args := [d] }
  | _ => none }
def FnPostsWrongFalsely : Prop := fnPostsRow.holds Try.pinned (OpenSpec.ofChange fnPostsWrong)

/- THE SECOND FORM. 'bulk': how many values and letters a reading holds, each counted each time it is reached (what is shared counts as often as it is met; a slice's spare places count too). A statement '..UptoSaid' is the law's where the arguments, and the package variables that the reading takes, are together of bulk at most 1048576: NARROWER than '..Said'. Prove '..Said' where nothing that the law and all that it calls make is longer than what came in: it says more and counts as full. Else prove '..UptoSaid'. A law counts once. -/
mutual
def uptoBulk {H : Type} : DataW H → Nat
  | .lit (.string bytes) => bytes.length + 1
  | .lit _ => 1
  | .nil => 1
  | .ptr d => uptoBulk d + 1
  | .slice elems spare => uptoBulkAll elems + uptoBulkAll spare + 1
  | .agg parts => uptoBulkAll parts + 1
  | .iface _ d => uptoBulk d + 1
  | .map entries => uptoBulkEntries entries + 1
  | .held _ => 1
def uptoBulkAll {H : Type} : List (DataW H) → Nat
  | [] => 0
  | d :: r => uptoBulk d + uptoBulkAll r
def uptoBulkEntries {H : Type} : List (Lit × DataW H) → Nat
  | [] => 0
  | x :: r => uptoBulkEntry x + uptoBulkEntries r
def uptoBulkEntry {H : Type} : Lit × DataW H → Nat
  | (.string bytes, d) => bytes.length + uptoBulk d + 1
  | (_, d) => uptoBulk d + 1
 end
def uptoSmall : (H : Type) → List (DataW H) → Bool := fun _ ds => decide (uptoBulkAll ds ≤ 1048576)
def OpenSpec.upto (s : _root_.Go.ChangeSpec) : _root_.Go.OpenSpec := { _root_.Go.OpenSpec.ofChange s with cond := some uptoSmall }

/-- 'laws.FnExactSameOperators', WHERE WHAT IT READS IS OF BULK AT MOST 1048576: true; the input reads as it did. -/
def fnExactSameOperatorsUptoRow : OpenClaim := { program := "ytfojfcmjoacbgaa", sum := "e624f23e6ac873c83f5929b3ea155fad35c8ad8b4cd9a4d599075491f343ff8e", func := "loop.example/g01012/laws.FnExactSameOperators", spec := "fnExactSameOperators", apart := false, narrowed := true }
def FnExactSameOperatorsUptoSaid : Prop := fnExactSameOperatorsUptoRow.holds Try.pinned (OpenSpec.upto fnExactSameOperatorsSpec)

/-- 'laws.FnExactValidOperators', WHERE WHAT IT READS IS OF BULK AT MOST 1048576: true; the input reads as it did. -/
def fnExactValidOperatorsUptoRow : OpenClaim := { program := "ytfojfcmjoacbgaa", sum := "e624f23e6ac873c83f5929b3ea155fad35c8ad8b4cd9a4d599075491f343ff8e", func := "loop.example/g01012/laws.FnExactValidOperators", spec := "fnExactValidOperators", unfollowed := true, recurses := true, apart := false, narrowed := true }
def FnExactValidOperatorsUptoSaid : Prop := fnExactValidOperatorsUptoRow.holds Try.pinned (OpenSpec.upto fnExactValidOperatorsSpec)

/-- 'laws.FnExactTeachOperator', WHERE WHAT IT READS IS OF BULK AT MOST 1048576: true; the input reads as it did. -/
def fnExactTeachOperatorUptoRow : OpenClaim := { program := "ytfojfcmjoacbgaa", sum := "e624f23e6ac873c83f5929b3ea155fad35c8ad8b4cd9a4d599075491f343ff8e", func := "loop.example/g01012/laws.FnExactTeachOperator", spec := "fnExactTeachOperator", unfollowed := true, recurses := true, apart := false, narrowed := true }
def FnExactTeachOperatorUptoSaid : Prop := fnExactTeachOperatorUptoRow.holds Try.pinned (OpenSpec.upto fnExactTeachOperatorSpec)

/-- 'laws.FnExactOperatorsFor', WHERE WHAT IT READS IS OF BULK AT MOST 1048576: true; the input reads as it did. -/
def fnExactOperatorsForUptoRow : OpenClaim := { program := "ytfojfcmjoacbgaa", sum := "e624f23e6ac873c83f5929b3ea155fad35c8ad8b4cd9a4d599075491f343ff8e", func := "loop.example/g01012/laws.FnExactOperatorsFor", spec := "fnExactOperatorsFor", unfollowed := true, recurses := true, apart := false, narrowed := true }
def FnExactOperatorsForUptoSaid : Prop := fnExactOperatorsForUptoRow.holds Try.pinned (OpenSpec.upto fnExactOperatorsForSpec)

/-- 'laws.FnExactPostFault', WHERE WHAT IT READS IS OF BULK AT MOST 1048576: true; the input reads as it did. -/
def fnExactPostFaultUptoRow : OpenClaim := { program := "ytfojfcmjoacbgaa", sum := "e624f23e6ac873c83f5929b3ea155fad35c8ad8b4cd9a4d599075491f343ff8e", func := "loop.example/g01012/laws.FnExactPostFault", spec := "fnExactPostFault", unfollowed := true, recurses := true, apart := false, narrowed := true }
def FnExactPostFaultUptoSaid : Prop := fnExactPostFaultUptoRow.holds Try.pinned (OpenSpec.upto fnExactPostFaultSpec)

/-- 'laws.FnExactMostPosts', WHERE WHAT IT READS IS OF BULK AT MOST 1048576: true; the input reads as it did. -/
def fnExactMostPostsUptoRow : OpenClaim := { program := "ytfojfcmjoacbgaa", sum := "e624f23e6ac873c83f5929b3ea155fad35c8ad8b4cd9a4d599075491f343ff8e", func := "loop.example/g01012/laws.FnExactMostPosts", spec := "fnExactMostPosts", unfollowed := true, recurses := true, apart := false, narrowed := true }
def FnExactMostPostsUptoSaid : Prop := fnExactMostPostsUptoRow.holds Try.pinned (OpenSpec.upto fnExactMostPostsSpec)

/-- 'laws.FnExactCountFillings', WHERE WHAT IT READS IS OF BULK AT MOST 1048576: true; the input reads as it did. -/
def fnExactCountFillingsUptoRow : OpenClaim := { program := "ytfojfcmjoacbgaa", sum := "e624f23e6ac873c83f5929b3ea155fad35c8ad8b4cd9a4d599075491f343ff8e", func := "loop.example/g01012/laws.FnExactCountFillings", spec := "fnExactCountFillings", unfollowed := true, recurses := true, apart := false, narrowed := true }
def FnExactCountFillingsUptoSaid : Prop := fnExactCountFillingsUptoRow.holds Try.pinned (OpenSpec.upto fnExactCountFillingsSpec)

/-- 'laws.FnExactTrainOne', WHERE WHAT IT READS IS OF BULK AT MOST 1048576: true; the input reads as it did. -/
def fnExactTrainOneUptoRow : OpenClaim := { program := "ytfojfcmjoacbgaa", sum := "e624f23e6ac873c83f5929b3ea155fad35c8ad8b4cd9a4d599075491f343ff8e", func := "loop.example/g01012/laws.FnExactTrainOne", spec := "fnExactTrainOne", unfollowed := true, recurses := true, apart := false, narrowed := true }
def FnExactTrainOneUptoSaid : Prop := fnExactTrainOneUptoRow.holds Try.pinned (OpenSpec.upto fnExactTrainOneSpec)

/-- 'laws.FnExactFillPosts', WHERE WHAT IT READS IS OF BULK AT MOST 1048576: true; the input reads as it did. -/
def fnExactFillPostsUptoRow : OpenClaim := { program := "ytfojfcmjoacbgaa", sum := "e624f23e6ac873c83f5929b3ea155fad35c8ad8b4cd9a4d599075491f343ff8e", func := "loop.example/g01012/laws.FnExactFillPosts", spec := "fnExactFillPosts", unfollowed := true, recurses := true, apart := false, narrowed := true }
def FnExactFillPostsUptoSaid : Prop := fnExactFillPostsUptoRow.holds Try.pinned (OpenSpec.upto fnExactFillPostsSpec)

/-- 'laws.FnPosts', WHERE WHAT IT READS IS OF BULK AT MOST 1048576: true; the input reads as it did. -/
def fnPostsUptoRow : OpenClaim := { program := "ytfojfcmjoacbgaa", sum := "e624f23e6ac873c83f5929b3ea155fad35c8ad8b4cd9a4d599075491f343ff8e", func := "loop.example/g01012/laws.FnPosts", spec := "fnPosts", unfollowed := true, recurses := true, apart := false, narrowed := true }
def FnPostsUptoSaid : Prop := fnPostsUptoRow.holds Try.pinned (OpenSpec.upto fnPostsSpec)

end Rows
end Go.Proofs.Ytfojfcmjoacbgaa
