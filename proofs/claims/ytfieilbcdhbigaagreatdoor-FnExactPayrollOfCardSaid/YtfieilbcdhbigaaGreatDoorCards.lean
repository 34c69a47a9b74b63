/-
  DERIVED. GIVEN WITH THE SEED: THE CARDS: each row of YtfieilbcdhbigaaGreatDoorRows.lean that lists a variable, with what it lists TIED to the program's text (the seventh form; the later family's looks); each row that meets fmt, with fmt's text TOLD by the authors' own Lean function (tested against real Go, not proved from fmt's source: count such statements apart). THE CARD IS WHAT COUNTS. Prove the row's statement (the work); the ties are given (YtfieilbcdhbigaaGreatDoorTie.lean); close each card by the builder's one call (the guide's Derived/Test/ToyasCard.lean, 'card_holds'). Laid BY PROGRAM, IN A SANDBOX (cutbox-door.mjs). By AI agents, Wed Nov 11 2026. No macro, syntax, notation, axiom, sorry.
-/
import Derived.Test.YtfieilbcdhbigaaGreatDoorRows
import GoSem.ClaimSeven
namespace Go.Proofs.YtfieilbcdhbigaaGreatDoor
namespace Rows

/-- THE TIED CARD OF 'laws.FnExactHoursFrom'. -/
def fnExactHoursFromCard : Claim7 := { stood := { row := fnExactHoursFromRow, standIns := [], harness := (true, "24b9c3873373c100848743ccb4d765bc196dfd092f57c8d14b03f88d262f083a"), looks := false }, kinds := [], alts := [], laidByText := true, laidKinds := [.data, .data, .data, .data, .pinned], laidTests := true, laidLooks := .later }
def FnExactHoursFromCardSaid : Prop := Claim7.holds Tryz.pinned (.plain (OpenSpec.ofChange fnExactHoursFromSpec)) fnExactHoursFromCard

/-- THE TIED CARD OF 'laws.FnExactStrangeCards'. -/
def fnExactStrangeCardsCard : Claim7 := { stood := { row := fnExactStrangeCardsRow, standIns := [], harness := (true, "24b9c3873373c100848743ccb4d765bc196dfd092f57c8d14b03f88d262f083a"), looks := false }, kinds := [], alts := [], laidByText := true, laidKinds := [.data, .data, .data, .data, .pinned], laidTests := true, laidLooks := .later }
def FnExactStrangeCardsCardSaid : Prop := Claim7.holds Tryz.pinned (.plain (OpenSpec.ofChange fnExactStrangeCardsSpec)) fnExactStrangeCardsCard

/-- THE TIED CARD OF 'laws.FnExactPayrollOf'. -/
def fnExactPayrollOfCard : Claim7 := { stood := { row := fnExactPayrollOfRow, standIns := [], harness := (true, "24b9c3873373c100848743ccb4d765bc196dfd092f57c8d14b03f88d262f083a"), looks := false }, kinds := [], alts := [], laidByText := true, laidKinds := [.data, .data, .data, .data, .pinned], laidTests := true, laidLooks := .later }
def FnExactPayrollOfCardSaid : Prop := Claim7.holds Tryz.pinned (.plain (OpenSpec.ofChange fnExactPayrollOfSpec)) fnExactPayrollOfCard

/-- THE SECOND FORM's CARD OF 'laws.FnExactHoursFrom'. -/
def fnExactHoursFromUptoCard : Claim7 := { stood := { row := fnExactHoursFromUptoRow, standIns := [], harness := (true, "24b9c3873373c100848743ccb4d765bc196dfd092f57c8d14b03f88d262f083a"), looks := false }, kinds := [], alts := [], laidByText := true, laidKinds := [.data, .data, .data, .data, .pinned], laidTests := true, laidLooks := .later }
def FnExactHoursFromUptoCardSaid : Prop := Claim7.holds Tryz.pinned (.plain (OpenSpec.upto fnExactHoursFromSpec)) fnExactHoursFromUptoCard

/-- THE SECOND FORM's CARD OF 'laws.FnExactStrangeCards'. -/
def fnExactStrangeCardsUptoCard : Claim7 := { stood := { row := fnExactStrangeCardsUptoRow, standIns := [], harness := (true, "24b9c3873373c100848743ccb4d765bc196dfd092f57c8d14b03f88d262f083a"), looks := false }, kinds := [], alts := [], laidByText := true, laidKinds := [.data, .data, .data, .data, .pinned], laidTests := true, laidLooks := .later }
def FnExactStrangeCardsUptoCardSaid : Prop := Claim7.holds Tryz.pinned (.plain (OpenSpec.upto fnExactStrangeCardsSpec)) fnExactStrangeCardsUptoCard

/-- THE SECOND FORM's CARD OF 'laws.FnExactPayrollOf'. -/
def fnExactPayrollOfUptoCard : Claim7 := { stood := { row := fnExactPayrollOfUptoRow, standIns := [], harness := (true, "24b9c3873373c100848743ccb4d765bc196dfd092f57c8d14b03f88d262f083a"), looks := false }, kinds := [], alts := [], laidByText := true, laidKinds := [.data, .data, .data, .data, .pinned], laidTests := true, laidLooks := .later }
def FnExactPayrollOfUptoCardSaid : Prop := Claim7.holds Tryz.pinned (.plain (OpenSpec.upto fnExactPayrollOfSpec)) fnExactPayrollOfUptoCard
end Rows
end Go.Proofs.YtfieilbcdhbigaaGreatDoor
