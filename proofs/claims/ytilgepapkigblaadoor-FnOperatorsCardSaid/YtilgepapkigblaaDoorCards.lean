/-
  DERIVED. GIVEN WITH THE SEED: THE CARDS: each row of YtilgepapkigblaaDoorRows.lean that lists a variable, with what it lists TIED to the program's text (the seventh form; the later family's looks); each row that meets fmt, with fmt's text TOLD by the authors' own Lean function (tested against real Go, not proved from fmt's source: count such statements apart). THE CARD IS WHAT COUNTS. Prove the row's statement (the work); the ties are given (YtilgepapkigblaaDoorTie.lean); close each card by the builder's one call (the guide's Derived/Test/ToyasCard.lean, 'card_holds'). Laid BY PROGRAM, IN A SANDBOX (cutbox-door.mjs). By AI agents, Wed Nov 11 2026. No macro, syntax, notation, axiom, sorry.
-/
import Derived.Test.YtilgepapkigblaaDoorRows
import GoSem.ClaimSeven
namespace Go.Proofs.YtilgepapkigblaaDoor
namespace Rows

/-- THE TIED CARD OF 'laws.FnExactReadOperators'. -/
def fnExactReadOperatorsCard : Claim7 := { stood := { row := fnExactReadOperatorsRow, standIns := [], harness := (true, "c34e535de3cc20ced56b8618c3a98336e03d3e53fbf61bf6f440321d048f277b"), looks := false }, kinds := [], alts := [], laidByText := true, laidKinds := [.data, .widerDeep, .pinned], laidTests := true, laidLooks := .later }
def FnExactReadOperatorsCardSaid : Prop := Claim7.holds Tryd.pinned (.plain (OpenSpec.ofChange fnExactReadOperatorsSpec)) fnExactReadOperatorsCard

/-- THE TIED CARD OF 'laws.FnOperators'. -/
def fnOperatorsCard : Claim7 := { stood := { row := fnOperatorsRow, standIns := [], harness := (true, "c34e535de3cc20ced56b8618c3a98336e03d3e53fbf61bf6f440321d048f277b"), looks := false }, kinds := [], alts := [], laidByText := true, laidKinds := [.data, .widerDeep, .pinned], laidTests := true, laidLooks := .later }
def FnOperatorsCardSaid : Prop := Claim7.holds Tryd.pinned (.plain (OpenSpec.ofChange fnOperatorsSpec)) fnOperatorsCard

/-- THE SECOND FORM's CARD OF 'laws.FnExactReadOperators'. -/
def fnExactReadOperatorsUptoCard : Claim7 := { stood := { row := fnExactReadOperatorsUptoRow, standIns := [], harness := (true, "c34e535de3cc20ced56b8618c3a98336e03d3e53fbf61bf6f440321d048f277b"), looks := false }, kinds := [], alts := [], laidByText := true, laidKinds := [.data, .widerDeep, .pinned], laidTests := true, laidLooks := .later }
def FnExactReadOperatorsUptoCardSaid : Prop := Claim7.holds Tryd.pinned (.plain (OpenSpec.upto fnExactReadOperatorsSpec)) fnExactReadOperatorsUptoCard

/-- THE SECOND FORM's CARD OF 'laws.FnOperators'. -/
def fnOperatorsUptoCard : Claim7 := { stood := { row := fnOperatorsUptoRow, standIns := [], harness := (true, "c34e535de3cc20ced56b8618c3a98336e03d3e53fbf61bf6f440321d048f277b"), looks := false }, kinds := [], alts := [], laidByText := true, laidKinds := [.data, .widerDeep, .pinned], laidTests := true, laidLooks := .later }
def FnOperatorsUptoCardSaid : Prop := Claim7.holds Tryd.pinned (.plain (OpenSpec.upto fnOperatorsSpec)) fnOperatorsUptoCard
end Rows
end Go.Proofs.YtilgepapkigblaaDoor
