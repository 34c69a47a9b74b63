/-
  No cell of these rows narrows 'for every input' (looked for: loops, veiled, ifaces, maps, wideKeys, modest, calm, conditions, laid).
  DERIVED. THE GIVEN ROWS OF THIS SEAT. 6 by the template 'for every input the law returns true; each argument reads behind the call as it read before'; 0 by the template 'total and deterministic' (their statements: YtlcmliibdfclnaaTotals.lean).
  GIVEN WITH THE SEED: the statements are not yours to turn. If you find one false, say at which input.
  Laid BY PROGRAM, IN A SANDBOX (cutbox-rows.mjs): the forced cells as the released guide's own fill.sh prints them over the translation 182f6c14586acaca… (all of the seat's roots in one cut). By AI agents, Wed Nov 11 2026. No macro, syntax, notation, axiom, sorry.
-/
import Derived.Test.YtlcmliibdfclnaaChecked
import GoSem.Claim
import GoSem.ClaimJoined
import GoSem.ClaimMapViews
import Derived.JoinedTies
import Derived.KernelRfl
namespace Go.Proofs.Ytlcmliibdfclnaa
/- THE CELL 'sum', in the pinned program and in every row, IS THE sha256 OF THE DUMP (.gsa) THAT YtlcmliibdfclnaaProg.lean LOADS. Nothing in Lean hashes anything: it is a label: what it is worth is what the hold of that sum in a sandbox is worth. -/
noncomputable def Try.pinned : Pinned := { name := "ytlcmliibdfclnaa", sum := "182f6c14586acaca4f581b2f8eff49637c50a74469aad1f29ec62f1f5abb9152", checked := Try.checked }
namespace Rows
def none {H : Type} : Left H := { results := [], args := [] }

/-- 'laws.FnExactGrossFor': WHATEVER THE INPUT: true; the input reads as it did. -/
def fnExactGrossForSpec : ChangeSpec := { name := "fnExactGrossFor", fn := fun _ => fun
  | [d1, d2] => { results := [.lit (.bool true)], args := [d1, d2] }
  | _ => none }
def fnExactGrossForRow : OpenClaim := { program := "ytlcmliibdfclnaa", sum := "182f6c14586acaca4f581b2f8eff49637c50a74469aad1f29ec62f1f5abb9152", func := "loop.example/g01012/laws.FnExactGrossFor", spec := "fnExactGrossFor", apart := false }
def FnExactGrossForSaid : Prop := fnExactGrossForRow.holds Try.pinned (OpenSpec.ofChange fnExactGrossForSpec)

/-- ITS FALSE NEIGHBOUR: 'it returns false'. Refute it at one input. -/
def fnExactGrossForWrong : ChangeSpec := { name := "fnExactGrossFor", fn := fun _ => fun
  | [d1, d2] => { results := [.lit (.bool false)], args := [d1, d2] }
  | _ => none }
def FnExactGrossForWrongFalsely : Prop := fnExactGrossForRow.holds Try.pinned (OpenSpec.ofChange fnExactGrossForWrong)

/-- 'laws.FnExactCoinsFor': WHATEVER THE INPUT: true; the input reads as it did. -/
def fnExactCoinsForSpec : ChangeSpec := { name := "fnExactCoinsFor", fn := fun _ => fun
  | [d] => { results := [.lit (.bool true)], args := [d] }
  | _ => none }
def fnExactCoinsForRow : OpenClaim := { program := "ytlcmliibdfclnaa", sum := "182f6c14586acaca4f581b2f8eff49637c50a74469aad1f29ec62f1f5abb9152", func := "loop.example/g01012/laws.FnExactCoinsFor", spec := "fnExactCoinsFor", apart := false }
def FnExactCoinsForSaid : Prop := fnExactCoinsForRow.holds Try.pinned (OpenSpec.ofChange fnExactCoinsForSpec)

/-- ITS FALSE NEIGHBOUR: 'it returns false'. Refute it at one input. -/
def fnExactCoinsForWrong : ChangeSpec := { name := "fnExactCoinsFor", fn := fun _ => fun
  | [d] => { results := [.lit (.bool false)], args := [d] }
  | _ => none }
def FnExactCoinsForWrongFalsely : Prop := fnExactCoinsForRow.holds Try.pinned (OpenSpec.ofChange fnExactCoinsForWrong)

/-- 'laws.FnExactSameWorkers': WHATEVER THE INPUT: true; the input reads as it did. -/
def fnExactSameWorkersSpec : ChangeSpec := { name := "fnExactSameWorkers", fn := fun _ => fun
  | [d1, d2] => { results := [.lit (.bool true)], args := [d1, d2] }
  | _ => none }
def fnExactSameWorkersRow : OpenClaim := { program := "ytlcmliibdfclnaa", sum := "182f6c14586acaca4f581b2f8eff49637c50a74469aad1f29ec62f1f5abb9152", func := "loop.example/g01012/laws.FnExactSameWorkers", spec := "fnExactSameWorkers", apart := false }
def FnExactSameWorkersSaid : Prop := fnExactSameWorkersRow.holds Try.pinned (OpenSpec.ofChange fnExactSameWorkersSpec)

/-- ITS FALSE NEIGHBOUR: 'it returns false'. Refute it at one input. -/
def fnExactSameWorkersWrong : ChangeSpec := { name := "fnExactSameWorkers", fn := fun _ => fun
  | [d1, d2] => { results := [.lit (.bool false)], args := [d1, d2] }
  | _ => none }
def FnExactSameWorkersWrongFalsely : Prop := fnExactSameWorkersRow.holds Try.pinned (OpenSpec.ofChange fnExactSameWorkersWrong)

/-- 'laws.FnExactSumOfPays': WHATEVER THE INPUT: true; the input reads as it did. -/
def fnExactSumOfPaysSpec : ChangeSpec := { name := "fnExactSumOfPays", fn := fun _ => fun
  | [d] => { results := [.lit (.bool true)], args := [d] }
  | _ => none }
def fnExactSumOfPaysRow : OpenClaim := { program := "ytlcmliibdfclnaa", sum := "182f6c14586acaca4f581b2f8eff49637c50a74469aad1f29ec62f1f5abb9152", func := "loop.example/g01012/laws.FnExactSumOfPays", spec := "fnExactSumOfPays", unfollowed := true, recurses := true, apart := false }
def FnExactSumOfPaysSaid : Prop := fnExactSumOfPaysRow.holds Try.pinned (OpenSpec.ofChange fnExactSumOfPaysSpec)

/-- ITS FALSE NEIGHBOUR: 'it returns false'. Refute it at one input. -/
def fnExactSumOfPaysWrong : ChangeSpec := { name := "fnExactSumOfPays", fn := fun _ => fun
  | [d] => { results := [.lit (.bool false)], args := [d] }
  | _ => none }
def FnExactSumOfPaysWrongFalsely : Prop := fnExactSumOfPaysRow.holds Try.pinned (OpenSpec.ofChange fnExactSumOfPaysWrong)

/-- 'laws.FnExactPayFor': WHATEVER THE INPUT: true; the input reads as it did. -/
def fnExactPayForSpec : ChangeSpec := { name := "fnExactPayFor", fn := fun _ => fun
  | [d1, d2] => { results := [.lit (.bool true)], args := [d1, d2] }
  | _ => none }
def fnExactPayForRow : OpenClaim := { program := "ytlcmliibdfclnaa", sum := "182f6c14586acaca4f581b2f8eff49637c50a74469aad1f29ec62f1f5abb9152", func := "loop.example/g01012/laws.FnExactPayFor", spec := "fnExactPayFor", apart := false }
def FnExactPayForSaid : Prop := fnExactPayForRow.holds Try.pinned (OpenSpec.ofChange fnExactPayForSpec)

/-- ITS FALSE NEIGHBOUR: 'it returns false'. Refute it at one input. -/
def fnExactPayForWrong : ChangeSpec := { name := "fnExactPayFor", fn := fun _ => fun
  | [d1, d2] => { results := [.lit (.bool false)], args := [d1, d2] }
  | _ => none }
def FnExactPayForWrongFalsely : Prop := fnExactPayForRow.holds Try.pinned (OpenSpec.ofChange fnExactPayForWrong)

/-- 'laws.FnExactValidWorkers': WHATEVER THE INPUT: true; the input reads as it did. -/
def fnExactValidWorkersSpec : ChangeSpec := { name := "fnExactValidWorkers", fn := fun _ => fun
  | [d] => { results := [.lit (.bool true)], args := [d] }
  | _ => none }
def fnExactValidWorkersRow : OpenClaim := { program := "ytlcmliibdfclnaa", sum := "182f6c14586acaca4f581b2f8eff49637c50a74469aad1f29ec62f1f5abb9152", func := "loop.example/g01012/laws.FnExactValidWorkers", spec := "fnExactValidWorkers", unfollowed := true, recurses := true, apart := false }
def FnExactValidWorkersSaid : Prop := fnExactValidWorkersRow.holds Try.pinned (OpenSpec.ofChange fnExactValidWorkersSpec)

/-- ITS FALSE NEIGHBOUR: 'it returns false'. Refute it at one input. -/
def fnExactValidWorkersWrong : ChangeSpec := { name := "fnExactValidWorkers", fn := fun _ => fun
  | [d] => { results := [.lit (.bool false)], args := [d] }
  | _ => none }
def FnExactValidWorkersWrongFalsely : Prop := fnExactValidWorkersRow.holds Try.pinned (OpenSpec.ofChange fnExactValidWorkersWrong)

/- THE SECOND FORM. 'bulk': how many values and letters a reading holds, each counted each time it is reached (what is shared counts as often as it is met; a slice's spare places count too). A statement '..UptoSaid' is the law's where the arguments, and the package variables that the reading takes, are together of bulk at most 1048576: NARROWER than '..Said'. Prove '..Said' where nothing that the law and all that it calls make is longer than what came in: it says more and counts as full. Else prove '..UptoSaid'. A law counts once. -/
mutual
def uptoBulk {H : Type} : DataW H → Nat
  | .lit (.string bytes) => bytes.length + 1
  | .lit _ => 1
  | .nil => 1
  | .ptr d => uptoBulk d + 1
  | .slice elems spare => uptoBulkAll elems + uptoBulkAll spare + 1
  | .agg parts => uptoBulkAll parts + 1
  | .iface _ d => uptoBulk d + 1
  | .map entries => uptoBulkEntries entries + 1
  | .held _ => 1
def uptoBulkAll {H : Type} : List (DataW H) → Nat
  | [] => 0
  | d :: r => uptoBulk d + uptoBulkAll r
def uptoBulkEntries {H : Type} : List (Lit × DataW H) → Nat
  | [] => 0
  | x :: r => uptoBulkEntry x + uptoBulkEntries r
def uptoBulkEntry {H : Type} : Lit × DataW H → Nat
  | (.string bytes, d) => bytes.length + uptoBulk d + 1
  | (_, d) => uptoBulk d + 1
 end
def uptoSmall : (H : Type) → List (DataW H) → Bool := fun _ ds => decide (uptoBulkAll ds ≤ 1048576)
def OpenSpec.upto (s : _root_.Go.ChangeSpec) : _root_.Go.OpenSpec := { _root_.Go.OpenSpec.ofChange s with cond := some uptoSmall }

/-- 'laws.FnExactGrossFor', WHERE WHAT IT READS IS OF BULK AT MOST 1048576: true; the input reads as it did. -/
def fnExactGrossForUptoRow : OpenClaim := { program := "ytlcmliibdfclnaa", sum := "182f6c14586acaca4f581b2f8eff49637c50a74469aad1f29ec62f1f5abb9152", func := "loop.example/g01012/laws.FnExactGrossFor", spec := "fnExactGrossFor", apart := false, narrowed := true }
def FnExactGrossForUptoSaid : Prop := fnExactGrossForUptoRow.holds Try.pinned (OpenSpec.upto fnExactGrossForSpec)

/-- 'laws.FnExactCoinsFor', WHERE WHAT IT READS IS OF BULK AT MOST 1048576: true; the input reads as it did. -/
def fnExactCoinsForUptoRow : OpenClaim := { program := "ytlcmliibdfclnaa", sum := "182f6c14586acaca4f581b2f8eff49637c50a74469aad1f29ec62f1f5abb9152", func := "loop.example/g01012/laws.FnExactCoinsFor", spec := "fnExactCoinsFor", apart := false, narrowed := true }
def FnExactCoinsForUptoSaid : Prop := fnExactCoinsForUptoRow.holds Try.pinned (OpenSpec.upto fnExactCoinsForSpec)

/-- 'laws.FnExactSameWorkers', WHERE WHAT IT READS IS OF BULK AT MOST 1048576: true; the input reads as it did. -/
def fnExactSameWorkersUptoRow : OpenClaim := { program := "ytlcmliibdfclnaa", sum := "182f6c14586acaca4f581b2f8eff49637c50a74469aad1f29ec62f1f5abb9152", func := "loop.example/g01012/laws.FnExactSameWorkers", spec := "fnExactSameWorkers", apart := false, narrowed := true }
def FnExactSameWorkersUptoSaid : Prop := fnExactSameWorkersUptoRow.holds Try.pinned (OpenSpec.upto fnExactSameWorkersSpec)

/-- 'laws.FnExactSumOfPays', WHERE WHAT IT READS IS OF BULK AT MOST 1048576: true; the input reads as it did. -/
def fnExactSumOfPaysUptoRow : OpenClaim := { program := "ytlcmliibdfclnaa", sum := "182f6c14586acaca4f581b2f8eff49637c50a74469aad1f29ec62f1f5abb9152", func := "loop.example/g01012/laws.FnExactSumOfPays", spec := "fnExactSumOfPays", unfollowed := true, recurses := true, apart := false, narrowed := true }
def FnExactSumOfPaysUptoSaid : Prop := fnExactSumOfPaysUptoRow.holds Try.pinned (OpenSpec.upto fnExactSumOfPaysSpec)

/-- 'laws.FnExactPayFor', WHERE WHAT IT READS IS OF BULK AT MOST 1048576: true; the input reads as it did. -/
def fnExactPayForUptoRow : OpenClaim := { program := "ytlcmliibdfclnaa", sum := "182f6c14586acaca4f581b2f8eff49637c50a74469aad1f29ec62f1f5abb9152", func := "loop.example/g01012/laws.FnExactPayFor", spec := "fnExactPayFor", apart := false, narrowed := true }
def FnExactPayForUptoSaid : Prop := fnExactPayForUptoRow.holds Try.pinned (OpenSpec.upto fnExactPayForSpec)

/-- 'laws.FnExactValidWorkers', WHERE WHAT IT READS IS OF BULK AT MOST 1048576: true; the input reads as it did. -/
def fnExactValidWorkersUptoRow : OpenClaim := { program := "ytlcmliibdfclnaa", sum := "182f6c14586acaca4f581b2f8eff49637c50a74469aad1f29ec62f1f5abb9152", func := "loop.example/g01012/laws.FnExactValidWorkers", spec := "fnExactValidWorkers", unfollowed := true, recurses := true, apart := false, narrowed := true }
def FnExactValidWorkersUptoSaid : Prop := fnExactValidWorkersUptoRow.holds Try.pinned (OpenSpec.upto fnExactValidWorkersSpec)

end Rows
end Go.Proofs.Ytlcmliibdfclnaa
