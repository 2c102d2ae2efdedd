/-
  DERIVED. GIVEN WITH THE SEED: THE CARDS: each row of YtaakmholhliodaaGreatDoorRows.lean that lists a variable, with what it lists TIED to the program's text (the seventh form; the later family's looks); each row that meets fmt, with fmt's text TOLD by the authors' own Lean function (tested against real Go, not proved from fmt's source: count such statements apart). THE CARD IS WHAT COUNTS. Prove the row's statement (the work); the ties are given (YtaakmholhliodaaGreatDoorTie.lean); close each card by the builder's one call (the guide's Derived/Test/ToyasCard.lean, 'card_holds'). Laid BY PROGRAM, IN A SANDBOX (cutbox-door.mjs). By AI agents, Wed Nov 11 2026. No macro, syntax, notation, axiom, sorry.
-/
import Derived.Test.YtaakmholhliodaaGreatDoorRows
import GoSem.ClaimSeven
namespace Go.Proofs.YtaakmholhliodaaGreatDoor
namespace Rows

/-- THE TIED CARD OF 'liquidchecklaw40.ReflectOutside'. -/
def reflectOutsideCard : Claim7 := { stood := { row := reflectOutsideRow, standIns := [], harness := (true, "4f261f101c225ef04d7c57353327199b82b9873c72b0d241c8a6c3ae778c7e01"), looks := false }, kinds := [], alts := [], laidByText := true, laidKinds := [.data], laidTests := true, laidLooks := .later }
def ReflectOutsideCardSaid : Prop := Claim7.holds Tryz.pinned (.plain (OpenSpec.ofChange reflectOutsideSpec)) reflectOutsideCard

/-- THE TIED CARD OF 'liquidchecklaw40.ReflectAgrees'. -/
def reflectAgreesCard : Claim7 := { stood := { row := reflectAgreesRow, standIns := [], harness := (true, "4f261f101c225ef04d7c57353327199b82b9873c72b0d241c8a6c3ae778c7e01"), looks := false }, kinds := [], alts := [], laidByText := true, laidKinds := [.data], laidTests := true, laidLooks := .later }
def ReflectAgreesCardSaid : Prop := Claim7.holds Tryz.pinned (.plain (OpenSpec.ofChange reflectAgreesSpec)) reflectAgreesCard

/-- THE SECOND FORM's CARD OF 'liquidchecklaw40.ReflectOutside'. -/
def reflectOutsideUptoCard : Claim7 := { stood := { row := reflectOutsideUptoRow, standIns := [], harness := (true, "4f261f101c225ef04d7c57353327199b82b9873c72b0d241c8a6c3ae778c7e01"), looks := false }, kinds := [], alts := [], laidByText := true, laidKinds := [.data], laidTests := true, laidLooks := .later }
def ReflectOutsideUptoCardSaid : Prop := Claim7.holds Tryz.pinned (.plain (OpenSpec.upto reflectOutsideSpec)) reflectOutsideUptoCard

/-- THE SECOND FORM's CARD OF 'liquidchecklaw40.ReflectAgrees'. -/
def reflectAgreesUptoCard : Claim7 := { stood := { row := reflectAgreesUptoRow, standIns := [], harness := (true, "4f261f101c225ef04d7c57353327199b82b9873c72b0d241c8a6c3ae778c7e01"), looks := false }, kinds := [], alts := [], laidByText := true, laidKinds := [.data], laidTests := true, laidLooks := .later }
def ReflectAgreesUptoCardSaid : Prop := Claim7.holds Tryz.pinned (.plain (OpenSpec.upto reflectAgreesSpec)) reflectAgreesUptoCard
end Rows
end Go.Proofs.YtaakmholhliodaaGreatDoor
