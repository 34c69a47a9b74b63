/-
  DERIVED. GIVEN WITH THE SEED: THE CARDS: each row of YtfhlmkeklmaedaaDoorRows.lean that lists a variable, with what it lists TIED to the program's text (the seventh form; the later family's looks); each row that meets fmt, with fmt's text TOLD by the authors' own Lean function (tested against real Go, not proved from fmt's source: count such statements apart). THE CARD IS WHAT COUNTS. Prove the row's statement (the work); the ties are given (YtfhlmkeklmaedaaDoorTie.lean); close each card by the builder's one call (the guide's Derived/Test/ToyasCard.lean, 'card_holds'). Laid BY PROGRAM, IN A SANDBOX (cutbox-door.mjs). By AI agents, Wed Nov 11 2026. No macro, syntax, notation, axiom, sorry.
-/
import Derived.Test.YtfhlmkeklmaedaaDoorRows
import GoSem.ClaimSeven
namespace Go.Proofs.YtfhlmkeklmaedaaDoor
namespace Rows

/-- THE TIED CARD OF 'laws.FnExactPayLine'. -/
def fnExactPayLineCard : Claim7 := { stood := { row := fnExactPayLineRow, standIns := [], harness := (true, "9275f28cf4529c0b41c03e56066d724b7603ed98f6c8d8176b8227608a31c23f"), looks := false }, kinds := [], alts := [], laidByText := true, laidKinds := [.data, .data, .data], laidTests := true, laidLooks := .later }
def FnExactPayLineCardSaid : Prop := Claim7.holds Tryd.pinned (.plain (OpenSpec.ofChange fnExactPayLineSpec)) fnExactPayLineCard

/-- THE TIED CARD OF 'laws.FnPays'. -/
def fnPaysCard : Claim7 := { stood := { row := fnPaysRow, standIns := [], harness := (true, "9275f28cf4529c0b41c03e56066d724b7603ed98f6c8d8176b8227608a31c23f"), looks := false }, kinds := [], alts := [], laidByText := true, laidKinds := [.data, .data, .data], laidTests := true, laidLooks := .later }
def FnPaysCardSaid : Prop := Claim7.holds Tryd.pinned (.plain (OpenSpec.ofChange fnPaysSpec)) fnPaysCard

/-- THE SECOND FORM's CARD OF 'laws.FnExactPayLine'. -/
def fnExactPayLineUptoCard : Claim7 := { stood := { row := fnExactPayLineUptoRow, standIns := [], harness := (true, "9275f28cf4529c0b41c03e56066d724b7603ed98f6c8d8176b8227608a31c23f"), looks := false }, kinds := [], alts := [], laidByText := true, laidKinds := [.data, .data, .data], laidTests := true, laidLooks := .later }
def FnExactPayLineUptoCardSaid : Prop := Claim7.holds Tryd.pinned (.plain (OpenSpec.upto fnExactPayLineSpec)) fnExactPayLineUptoCard

/-- THE SECOND FORM's CARD OF 'laws.FnPays'. -/
def fnPaysUptoCard : Claim7 := { stood := { row := fnPaysUptoRow, standIns := [], harness := (true, "9275f28cf4529c0b41c03e56066d724b7603ed98f6c8d8176b8227608a31c23f"), looks := false }, kinds := [], alts := [], laidByText := true, laidKinds := [.data, .data, .data], laidTests := true, laidLooks := .later }
def FnPaysUptoCardSaid : Prop := Claim7.holds Tryd.pinned (.plain (OpenSpec.upto fnPaysSpec)) fnPaysUptoCard
end Rows
end Go.Proofs.YtfhlmkeklmaedaaDoor
