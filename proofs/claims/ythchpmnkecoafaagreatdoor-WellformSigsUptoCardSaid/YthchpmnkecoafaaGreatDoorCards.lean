/-
  DERIVED. GIVEN WITH THE SEED: THE CARDS: each row of YthchpmnkecoafaaGreatDoorRows.lean that lists a variable, with what it lists TIED to the program's text (the seventh form; the later family's looks); each row that meets fmt, with fmt's text TOLD by the authors' own Lean function (tested against real Go, not proved from fmt's source: count such statements apart). THE CARD IS WHAT COUNTS. Prove the row's statement (the work); the ties are given (YthchpmnkecoafaaGreatDoorTie.lean); close each card by the builder's one call (the guide's Derived/Test/ToyasCard.lean, 'card_holds'). Laid BY PROGRAM, IN A SANDBOX (cutbox-door.mjs). By AI agents, Wed Nov 11 2026. No macro, syntax, notation, axiom, sorry.
-/
import Derived.Test.YthchpmnkecoafaaGreatDoorRows
import GoSem.ClaimSeven
namespace Go.Proofs.YthchpmnkecoafaaGreatDoor
namespace Rows

/-- THE TIED CARD OF 'liquidchecklaw33.WellformTypes'. -/
def wellformTypesCard : Claim7 := { stood := { row := wellformTypesRow, standIns := [], harness := (true, "c5dfebb9062515793b830b35e77dd907b494270ccadd780dc68c39c7999a9ee2"), looks := false }, kinds := [], alts := [], laidByText := true, laidKinds := [.data], laidTests := true, laidLooks := .later }
def WellformTypesCardSaid : Prop := Claim7.holds Tryz.pinned (.plain (OpenSpec.ofChange wellformTypesSpec)) wellformTypesCard

/-- THE TIED CARD OF 'liquidchecklaw33.WellformSigs'. -/
def wellformSigsCard : Claim7 := { stood := { row := wellformSigsRow, standIns := [], harness := (true, "c5dfebb9062515793b830b35e77dd907b494270ccadd780dc68c39c7999a9ee2"), looks := false }, kinds := [], alts := [], laidByText := true, laidKinds := [.data], laidTests := true, laidLooks := .later }
def WellformSigsCardSaid : Prop := Claim7.holds Tryz.pinned (.plain (OpenSpec.ofChange wellformSigsSpec)) wellformSigsCard

/-- THE TIED CARD OF 'liquidchecklaw33.WellformPlain'. -/
def wellformPlainCard : Claim7 := { stood := { row := wellformPlainRow, standIns := [], harness := (true, "c5dfebb9062515793b830b35e77dd907b494270ccadd780dc68c39c7999a9ee2"), looks := false }, kinds := [], alts := [], laidByText := true, laidKinds := [.data], laidTests := true, laidLooks := .later }
def WellformPlainCardSaid : Prop := Claim7.holds Tryz.pinned (.plain (OpenSpec.ofChange wellformPlainSpec)) wellformPlainCard

/-- THE TIED CARD OF 'liquidchecklaw33.WellformSymbols'. -/
def wellformSymbolsCard : Claim7 := { stood := { row := wellformSymbolsRow, standIns := [], harness := (true, "c5dfebb9062515793b830b35e77dd907b494270ccadd780dc68c39c7999a9ee2"), looks := false }, kinds := [], alts := [], laidByText := true, laidKinds := [.data], laidTests := true, laidLooks := .later }
def WellformSymbolsCardSaid : Prop := Claim7.holds Tryz.pinned (.plain (OpenSpec.ofChange wellformSymbolsSpec)) wellformSymbolsCard

/-- THE SECOND FORM's CARD OF 'liquidchecklaw33.WellformTypes'. -/
def wellformTypesUptoCard : Claim7 := { stood := { row := wellformTypesUptoRow, standIns := [], harness := (true, "c5dfebb9062515793b830b35e77dd907b494270ccadd780dc68c39c7999a9ee2"), looks := false }, kinds := [], alts := [], laidByText := true, laidKinds := [.data], laidTests := true, laidLooks := .later }
def WellformTypesUptoCardSaid : Prop := Claim7.holds Tryz.pinned (.plain (OpenSpec.upto wellformTypesSpec)) wellformTypesUptoCard

/-- THE SECOND FORM's CARD OF 'liquidchecklaw33.WellformSigs'. -/
def wellformSigsUptoCard : Claim7 := { stood := { row := wellformSigsUptoRow, standIns := [], harness := (true, "c5dfebb9062515793b830b35e77dd907b494270ccadd780dc68c39c7999a9ee2"), looks := false }, kinds := [], alts := [], laidByText := true, laidKinds := [.data], laidTests := true, laidLooks := .later }
def WellformSigsUptoCardSaid : Prop := Claim7.holds Tryz.pinned (.plain (OpenSpec.upto wellformSigsSpec)) wellformSigsUptoCard

/-- THE SECOND FORM's CARD OF 'liquidchecklaw33.WellformPlain'. -/
def wellformPlainUptoCard : Claim7 := { stood := { row := wellformPlainUptoRow, standIns := [], harness := (true, "c5dfebb9062515793b830b35e77dd907b494270ccadd780dc68c39c7999a9ee2"), looks := false }, kinds := [], alts := [], laidByText := true, laidKinds := [.data], laidTests := true, laidLooks := .later }
def WellformPlainUptoCardSaid : Prop := Claim7.holds Tryz.pinned (.plain (OpenSpec.upto wellformPlainSpec)) wellformPlainUptoCard

/-- THE SECOND FORM's CARD OF 'liquidchecklaw33.WellformSymbols'. -/
def wellformSymbolsUptoCard : Claim7 := { stood := { row := wellformSymbolsUptoRow, standIns := [], harness := (true, "c5dfebb9062515793b830b35e77dd907b494270ccadd780dc68c39c7999a9ee2"), looks := false }, kinds := [], alts := [], laidByText := true, laidKinds := [.data], laidTests := true, laidLooks := .later }
def WellformSymbolsUptoCardSaid : Prop := Claim7.holds Tryz.pinned (.plain (OpenSpec.upto wellformSymbolsSpec)) wellformSymbolsUptoCard
end Rows
end Go.Proofs.YthchpmnkecoafaaGreatDoor
