/-
  DERIVED. GIVEN WITH THE SEED: THE CARDS: each row of YtcflffbapgiicaaGreatDoorRows.lean that lists a variable, with what it lists TIED to the program's text (the seventh form; the later family's looks); each row that meets fmt, with fmt's text TOLD by the authors' own Lean function (tested against real Go, not proved from fmt's source: count such statements apart). THE CARD IS WHAT COUNTS. Prove the row's statement (the work); the ties are given (YtcflffbapgiicaaGreatDoorTie.lean); close each card by the builder's one call (the guide's Derived/Test/ToyasCard.lean, 'card_holds'). Laid BY PROGRAM, IN A SANDBOX (cutbox-door.mjs). By AI agents, Wed Nov 11 2026. No macro, syntax, notation, axiom, sorry.
-/
import Derived.Test.YtcflffbapgiicaaGreatDoorRows
import GoSem.ClaimSeven
namespace Go.Proofs.YtcflffbapgiicaaGreatDoor
namespace Rows

/-- THE TIED CARD OF 'liquidchecklaw40.ReflectPlain'. -/
def reflectPlainCard : Claim7 := { stood := { row := reflectPlainRow, standIns := [], harness := (true, "6ee13b0d4b3834ac4f18e656992d6613b5b176a3659eeb47b5ef389c9e717977"), looks := false }, kinds := [], alts := [], laidByText := true, laidKinds := [.data], laidTests := true, laidLooks := .later }
def ReflectPlainCardSaid : Prop := Claim7.holds Tryz.pinned (.plain (OpenSpec.ofChange reflectPlainSpec)) reflectPlainCard

/-- THE TIED CARD OF 'liquidchecklaw27.AnfForms'. -/
def anfFormsCard : Claim7 := { stood := { row := anfFormsRow, standIns := [], harness := (true, "6ee13b0d4b3834ac4f18e656992d6613b5b176a3659eeb47b5ef389c9e717977"), looks := false }, kinds := [], alts := [], laidByText := true, laidKinds := [.data, .data, .data, .data], laidTests := true, laidLooks := .later }
def AnfFormsCardSaid : Prop := Claim7.holds Tryz.pinned (.plain (OpenSpec.ofChange anfFormsSpec)) anfFormsCard

/-- THE SECOND FORM's CARD OF 'liquidchecklaw40.ReflectPlain'. -/
def reflectPlainUptoCard : Claim7 := { stood := { row := reflectPlainUptoRow, standIns := [], harness := (true, "6ee13b0d4b3834ac4f18e656992d6613b5b176a3659eeb47b5ef389c9e717977"), looks := false }, kinds := [], alts := [], laidByText := true, laidKinds := [.data], laidTests := true, laidLooks := .later }
def ReflectPlainUptoCardSaid : Prop := Claim7.holds Tryz.pinned (.plain (OpenSpec.upto reflectPlainSpec)) reflectPlainUptoCard

/-- THE SECOND FORM's CARD OF 'liquidchecklaw27.AnfForms'. -/
def anfFormsUptoCard : Claim7 := { stood := { row := anfFormsUptoRow, standIns := [], harness := (true, "6ee13b0d4b3834ac4f18e656992d6613b5b176a3659eeb47b5ef389c9e717977"), looks := false }, kinds := [], alts := [], laidByText := true, laidKinds := [.data, .data, .data, .data], laidTests := true, laidLooks := .later }
def AnfFormsUptoCardSaid : Prop := Claim7.holds Tryz.pinned (.plain (OpenSpec.upto anfFormsSpec)) anfFormsUptoCard
end Rows
end Go.Proofs.YtcflffbapgiicaaGreatDoor
