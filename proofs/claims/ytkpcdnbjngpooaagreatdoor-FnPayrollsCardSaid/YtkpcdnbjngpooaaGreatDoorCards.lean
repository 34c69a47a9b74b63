/-
  DERIVED. GIVEN WITH THE SEED: THE CARDS: each row of YtkpcdnbjngpooaaGreatDoorRows.lean that lists a variable, with what it lists TIED to the program's text (the seventh form; the later family's looks); each row that meets fmt, with fmt's text TOLD by the authors' own Lean function (tested against real Go, not proved from fmt's source: count such statements apart). THE CARD IS WHAT COUNTS. Prove the row's statement (the work); the ties are given (YtkpcdnbjngpooaaGreatDoorTie.lean); close each card by the builder's one call (the guide's Derived/Test/ToyasCard.lean, 'card_holds'). Laid BY PROGRAM, IN A SANDBOX (cutbox-door.mjs). By AI agents, Wed Nov 11 2026. No macro, syntax, notation, axiom, sorry.
-/
import Derived.Test.YtkpcdnbjngpooaaGreatDoorRows
import GoSem.ClaimSeven
namespace Go.Proofs.YtkpcdnbjngpooaaGreatDoor
namespace Rows

/-- THE TIED CARD OF 'laws.FnPayrolls'. -/
def fnPayrollsCard : Claim7 := { stood := { row := fnPayrollsRow, standIns := [], harness := (true, "eecc5bc64122139f79ae146b2e768abe8caaee33433f0938a535e173ec4d481b"), looks := false }, kinds := [], alts := [], laidByText := true, laidKinds := [.data, .data, .data, .data, .pinned], laidTests := true, laidLooks := .later }
def FnPayrollsCardSaid : Prop := Claim7.holds Tryz.pinned (.plain (OpenSpec.ofChange fnPayrollsSpec)) fnPayrollsCard

/-- THE SECOND FORM's CARD OF 'laws.FnPayrolls'. -/
def fnPayrollsUptoCard : Claim7 := { stood := { row := fnPayrollsUptoRow, standIns := [], harness := (true, "eecc5bc64122139f79ae146b2e768abe8caaee33433f0938a535e173ec4d481b"), looks := false }, kinds := [], alts := [], laidByText := true, laidKinds := [.data, .data, .data, .data, .pinned], laidTests := true, laidLooks := .later }
def FnPayrollsUptoCardSaid : Prop := Claim7.holds Tryz.pinned (.plain (OpenSpec.upto fnPayrollsSpec)) fnPayrollsUptoCard
end Rows
end Go.Proofs.YtkpcdnbjngpooaaGreatDoor
