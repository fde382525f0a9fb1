/-
  DERIVED. GIVEN WITH THE SEED: THE CARDS: each row of YteajocebbmfdmaaGreatDoorRows.lean that lists a variable, with what it lists TIED to the program's text (the seventh form; the later family's looks); each row that meets fmt, with fmt's text TOLD by the authors' own Lean function (tested against real Go, not proved from fmt's source: count such statements apart). THE CARD IS WHAT COUNTS. Prove the row's statement (the work); the ties are given (YteajocebbmfdmaaGreatDoorTie.lean); close each card by the builder's one call (the guide's Derived/Test/ToyasCard.lean, 'card_holds'). Laid BY PROGRAM, IN A SANDBOX (cutbox-door.mjs). By AI agents, Wed Nov 11 2026. No macro, syntax, notation, axiom, sorry.
-/
import Derived.Test.YteajocebbmfdmaaGreatDoorRows
import GoSem.ClaimSeven
namespace Go.Proofs.YteajocebbmfdmaaGreatDoor
namespace Rows

/-- THE TIED CARD OF 'thicketlaw21.FormulaTables'. -/
def formulaTablesCard : Claim7 := { stood := { row := formulaTablesRow, standIns := [], harness := (true, "c25374d9dc6f82436014d42a0bf6db48f0b8c4a5f63f1cc3e7c46c4624006016"), looks := true }, kinds := [], alts := [], laidByText := true, laidKinds := [.data, .data, .data], laidTests := true, laidLooks := .later }
def FormulaTablesCardSaid : Prop := Claim7.holds Tryz.pinned (.plain (OpenSpec.ofChange formulaTablesSpec)) formulaTablesCard

/-- THE TIED CARD OF 'thicketlaw21.FormulaNil'. -/
def formulaNilCard : Claim7 := { stood := { row := formulaNilRow, standIns := [], harness := (true, "c25374d9dc6f82436014d42a0bf6db48f0b8c4a5f63f1cc3e7c46c4624006016"), looks := true }, kinds := [], alts := [], laidByText := true, laidKinds := [.data, .data, .data], laidTests := true, laidLooks := .later }
def FormulaNilCardSaid : Prop := Claim7.holds Tryz.pinned (.plain (OpenSpec.ofChange formulaNilSpec)) formulaNilCard

/-- THE TIED CARD OF 'thicketlaw21.FormulaNests'. -/
def formulaNestsCard : Claim7 := { stood := { row := formulaNestsRow, standIns := [], harness := (true, "c25374d9dc6f82436014d42a0bf6db48f0b8c4a5f63f1cc3e7c46c4624006016"), looks := true }, kinds := [], alts := [], laidByText := true, laidKinds := [.data, .data, .data], laidTests := true, laidLooks := .later }
def FormulaNestsCardSaid : Prop := Claim7.holds Tryz.pinned (.plain (OpenSpec.ofChange formulaNestsSpec)) formulaNestsCard

/-- THE TIED CARD OF 'thicketlaw21.FormulaBlanks'. -/
def formulaBlanksCard : Claim7 := { stood := { row := formulaBlanksRow, standIns := [], harness := (true, "c25374d9dc6f82436014d42a0bf6db48f0b8c4a5f63f1cc3e7c46c4624006016"), looks := true }, kinds := [], alts := [], laidByText := true, laidKinds := [.data, .data, .data], laidTests := true, laidLooks := .later }
def FormulaBlanksCardSaid : Prop := Claim7.holds Tryz.pinned (.plain (OpenSpec.ofChange formulaBlanksSpec)) formulaBlanksCard

/-- THE TIED CARD OF 'thicketlaw21.FormulaWide'. -/
def formulaWideCard : Claim7 := { stood := { row := formulaWideRow, standIns := [], harness := (true, "c25374d9dc6f82436014d42a0bf6db48f0b8c4a5f63f1cc3e7c46c4624006016"), looks := true }, kinds := [], alts := [], laidByText := true, laidKinds := [.data, .data, .data], laidTests := true, laidLooks := .later }
def FormulaWideCardSaid : Prop := Claim7.holds Tryz.pinned (.plain (OpenSpec.ofChange formulaWideSpec)) formulaWideCard

/-- THE SECOND FORM's CARD OF 'thicketlaw21.FormulaTables'. -/
def formulaTablesUptoCard : Claim7 := { stood := { row := formulaTablesUptoRow, standIns := [], harness := (true, "c25374d9dc6f82436014d42a0bf6db48f0b8c4a5f63f1cc3e7c46c4624006016"), looks := true }, kinds := [], alts := [], laidByText := true, laidKinds := [.data, .data, .data], laidTests := true, laidLooks := .later }
def FormulaTablesUptoCardSaid : Prop := Claim7.holds Tryz.pinned (.plain (OpenSpec.upto formulaTablesSpec)) formulaTablesUptoCard

/-- THE SECOND FORM's CARD OF 'thicketlaw21.FormulaNil'. -/
def formulaNilUptoCard : Claim7 := { stood := { row := formulaNilUptoRow, standIns := [], harness := (true, "c25374d9dc6f82436014d42a0bf6db48f0b8c4a5f63f1cc3e7c46c4624006016"), looks := true }, kinds := [], alts := [], laidByText := true, laidKinds := [.data, .data, .data], laidTests := true, laidLooks := .later }
def FormulaNilUptoCardSaid : Prop := Claim7.holds Tryz.pinned (.plain (OpenSpec.upto formulaNilSpec)) formulaNilUptoCard

/-- THE SECOND FORM's CARD OF 'thicketlaw21.FormulaNests'. -/
def formulaNestsUptoCard : Claim7 := { stood := { row := formulaNestsUptoRow, standIns := [], harness := (true, "c25374d9dc6f82436014d42a0bf6db48f0b8c4a5f63f1cc3e7c46c4624006016"), looks := true }, kinds := [], alts := [], laidByText := true, laidKinds := [.data, .data, .data], laidTests := true, laidLooks := .later }
def FormulaNestsUptoCardSaid : Prop := Claim7.holds Tryz.pinned (.plain (OpenSpec.upto formulaNestsSpec)) formulaNestsUptoCard

/-- THE SECOND FORM's CARD OF 'thicketlaw21.FormulaBlanks'. -/
def formulaBlanksUptoCard : Claim7 := { stood := { row := formulaBlanksUptoRow, standIns := [], harness := (true, "c25374d9dc6f82436014d42a0bf6db48f0b8c4a5f63f1cc3e7c46c4624006016"), looks := true }, kinds := [], alts := [], laidByText := true, laidKinds := [.data, .data, .data], laidTests := true, laidLooks := .later }
def FormulaBlanksUptoCardSaid : Prop := Claim7.holds Tryz.pinned (.plain (OpenSpec.upto formulaBlanksSpec)) formulaBlanksUptoCard

/-- THE SECOND FORM's CARD OF 'thicketlaw21.FormulaWide'. -/
def formulaWideUptoCard : Claim7 := { stood := { row := formulaWideUptoRow, standIns := [], harness := (true, "c25374d9dc6f82436014d42a0bf6db48f0b8c4a5f63f1cc3e7c46c4624006016"), looks := true }, kinds := [], alts := [], laidByText := true, laidKinds := [.data, .data, .data], laidTests := true, laidLooks := .later }
def FormulaWideUptoCardSaid : Prop := Claim7.holds Tryz.pinned (.plain (OpenSpec.upto formulaWideSpec)) formulaWideUptoCard
end Rows
end Go.Proofs.YteajocebbmfdmaaGreatDoor
