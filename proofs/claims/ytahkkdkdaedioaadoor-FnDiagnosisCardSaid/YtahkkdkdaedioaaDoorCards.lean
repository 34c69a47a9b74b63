/-
  DERIVED. GIVEN WITH THE SEED: THE CARDS: each row of YtahkkdkdaedioaaDoorRows.lean that lists a variable, with what it lists TIED to the program's text (the seventh form; the later family's looks); each row that meets fmt, with fmt's text TOLD by the authors' own Lean function (tested against real Go, not proved from fmt's source: count such statements apart). THE CARD IS WHAT COUNTS. Prove the row's statement (the work); the ties are given (YtahkkdkdaedioaaDoorTie.lean); close each card by the builder's one call (the guide's Derived/Test/ToyasCard.lean, 'card_holds'). Laid BY PROGRAM, IN A SANDBOX (cutbox-door.mjs). By AI agents, Wed Nov 11 2026. No macro, syntax, notation, axiom, sorry.
-/
import Derived.Test.YtahkkdkdaedioaaDoorRows
import GoSem.ClaimSeven
namespace Go.Proofs.YtahkkdkdaedioaaDoor
namespace Rows

/-- THE TIED CARD OF 'laws.FnDiagnosis'. -/
def fnDiagnosisCard : Claim7 := { stood := { row := fnDiagnosisRow, standIns := [], harness := (true, "27f1a4c2c09c8dbe7363f4c58242c9a7653fe1f6b3e24b5110c4d1452dbcbd24"), looks := false }, kinds := [], alts := [], laidByText := true, laidKinds := [.data, .data, .data], laidTests := true, laidLooks := .later }
def FnDiagnosisCardSaid : Prop := Claim7.holds Tryd.pinned (.plain (OpenSpec.ofChange fnDiagnosisSpec)) fnDiagnosisCard

/-- THE TIED CARD OF 'laws.FnExactFewestFaults'. -/
def fnExactFewestFaultsCard : Claim7 := { stood := { row := fnExactFewestFaultsRow, standIns := [], harness := (true, "27f1a4c2c09c8dbe7363f4c58242c9a7653fe1f6b3e24b5110c4d1452dbcbd24"), looks := false }, kinds := [], alts := [], laidByText := true, laidKinds := [.data, .data, .data], laidTests := true, laidLooks := .later }
def FnExactFewestFaultsCardSaid : Prop := Claim7.holds Tryd.pinned (.plain (OpenSpec.ofChange fnExactFewestFaultsSpec)) fnExactFewestFaultsCard

/-- THE TIED CARD OF 'laws.FnExactSingleFaults'. -/
def fnExactSingleFaultsCard : Claim7 := { stood := { row := fnExactSingleFaultsRow, standIns := [], harness := (true, "27f1a4c2c09c8dbe7363f4c58242c9a7653fe1f6b3e24b5110c4d1452dbcbd24"), looks := false }, kinds := [], alts := [], laidByText := true, laidKinds := [.data, .data, .data], laidTests := true, laidLooks := .later }
def FnExactSingleFaultsCardSaid : Prop := Claim7.holds Tryd.pinned (.plain (OpenSpec.ofChange fnExactSingleFaultsSpec)) fnExactSingleFaultsCard

/-- THE TIED CARD OF 'laws.FnExactDiagnose'. -/
def fnExactDiagnoseCard : Claim7 := { stood := { row := fnExactDiagnoseRow, standIns := [], harness := (true, "27f1a4c2c09c8dbe7363f4c58242c9a7653fe1f6b3e24b5110c4d1452dbcbd24"), looks := false }, kinds := [], alts := [], laidByText := true, laidKinds := [.data, .data, .data], laidTests := true, laidLooks := .later }
def FnExactDiagnoseCardSaid : Prop := Claim7.holds Tryd.pinned (.plain (OpenSpec.ofChange fnExactDiagnoseSpec)) fnExactDiagnoseCard

/-- THE SECOND FORM's CARD OF 'laws.FnDiagnosis'. -/
def fnDiagnosisUptoCard : Claim7 := { stood := { row := fnDiagnosisUptoRow, standIns := [], harness := (true, "27f1a4c2c09c8dbe7363f4c58242c9a7653fe1f6b3e24b5110c4d1452dbcbd24"), looks := false }, kinds := [], alts := [], laidByText := true, laidKinds := [.data, .data, .data], laidTests := true, laidLooks := .later }
def FnDiagnosisUptoCardSaid : Prop := Claim7.holds Tryd.pinned (.plain (OpenSpec.upto fnDiagnosisSpec)) fnDiagnosisUptoCard

/-- THE SECOND FORM's CARD OF 'laws.FnExactFewestFaults'. -/
def fnExactFewestFaultsUptoCard : Claim7 := { stood := { row := fnExactFewestFaultsUptoRow, standIns := [], harness := (true, "27f1a4c2c09c8dbe7363f4c58242c9a7653fe1f6b3e24b5110c4d1452dbcbd24"), looks := false }, kinds := [], alts := [], laidByText := true, laidKinds := [.data, .data, .data], laidTests := true, laidLooks := .later }
def FnExactFewestFaultsUptoCardSaid : Prop := Claim7.holds Tryd.pinned (.plain (OpenSpec.upto fnExactFewestFaultsSpec)) fnExactFewestFaultsUptoCard

/-- THE SECOND FORM's CARD OF 'laws.FnExactSingleFaults'. -/
def fnExactSingleFaultsUptoCard : Claim7 := { stood := { row := fnExactSingleFaultsUptoRow, standIns := [], harness := (true, "27f1a4c2c09c8dbe7363f4c58242c9a7653fe1f6b3e24b5110c4d1452dbcbd24"), looks := false }, kinds := [], alts := [], laidByText := true, laidKinds := [.data, .data, .data], laidTests := true, laidLooks := .later }
def FnExactSingleFaultsUptoCardSaid : Prop := Claim7.holds Tryd.pinned (.plain (OpenSpec.upto fnExactSingleFaultsSpec)) fnExactSingleFaultsUptoCard

/-- THE SECOND FORM's CARD OF 'laws.FnExactDiagnose'. -/
def fnExactDiagnoseUptoCard : Claim7 := { stood := { row := fnExactDiagnoseUptoRow, standIns := [], harness := (true, "27f1a4c2c09c8dbe7363f4c58242c9a7653fe1f6b3e24b5110c4d1452dbcbd24"), looks := false }, kinds := [], alts := [], laidByText := true, laidKinds := [.data, .data, .data], laidTests := true, laidLooks := .later }
def FnExactDiagnoseUptoCardSaid : Prop := Claim7.holds Tryd.pinned (.plain (OpenSpec.upto fnExactDiagnoseSpec)) fnExactDiagnoseUptoCard
end Rows
end Go.Proofs.YtahkkdkdaedioaaDoor
