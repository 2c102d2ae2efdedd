/-
  DERIVED. GIVEN WITH THE SEED: THE CARDS: each row of YtmllcplaohkjnaaGreatDoorRows.lean that lists a variable, with what it lists TIED to the program's text (the seventh form; the later family's looks); each row that meets fmt, with fmt's text TOLD by the authors' own Lean function (tested against real Go, not proved from fmt's source: count such statements apart). THE CARD IS WHAT COUNTS. Prove the row's statement (the work); the ties are given (YtmllcplaohkjnaaGreatDoorTie.lean); close each card by the builder's one call (the guide's Derived/Test/ToyasCard.lean, 'card_holds'). Laid BY PROGRAM, IN A SANDBOX (cutbox-door.mjs). By AI agents, Wed Nov 11 2026. No macro, syntax, notation, axiom, sorry.
-/
import Derived.Test.YtmllcplaohkjnaaGreatDoorRows
import GoSem.ClaimSeven
namespace Go.Proofs.YtmllcplaohkjnaaGreatDoor
namespace Rows

/-- THE TIED CARD OF 'liquidchecklaw23.ScopeModules'. -/
def scopeModulesCard : Claim7 := { stood := { row := scopeModulesRow, standIns := [], harness := (true, "0646cd45d400ef95c2a898925fe2b1fa73974cb659bcab2c9b33c0790631e43f"), looks := false }, kinds := [], alts := [], laidByText := true, laidKinds := [.data], laidTests := true, laidLooks := .later }
def ScopeModulesCardSaid : Prop := Claim7.holds Tryz.pinned (.plain (OpenSpec.ofChange scopeModulesSpec)) scopeModulesCard

/-- THE TIED CARD OF 'liquidchecklaw23.ScopeOrder'. -/
def scopeOrderCard : Claim7 := { stood := { row := scopeOrderRow, standIns := [], harness := (true, "0646cd45d400ef95c2a898925fe2b1fa73974cb659bcab2c9b33c0790631e43f"), looks := false }, kinds := [], alts := [], laidByText := true, laidKinds := [.data], laidTests := true, laidLooks := .later }
def ScopeOrderCardSaid : Prop := Claim7.holds Tryz.pinned (.plain (OpenSpec.ofChange scopeOrderSpec)) scopeOrderCard

/-- THE TIED CARD OF 'liquidchecklaw23.ScopeSpoils'. -/
def scopeSpoilsCard : Claim7 := { stood := { row := scopeSpoilsRow, standIns := [], harness := (true, "0646cd45d400ef95c2a898925fe2b1fa73974cb659bcab2c9b33c0790631e43f"), looks := false }, kinds := [], alts := [], laidByText := true, laidKinds := [.data], laidTests := true, laidLooks := .later }
def ScopeSpoilsCardSaid : Prop := Claim7.holds Tryz.pinned (.plain (OpenSpec.ofChange scopeSpoilsSpec)) scopeSpoilsCard

/-- THE TIED CARD OF 'liquidchecklaw23.ScopeNames'. -/
def scopeNamesCard : Claim7 := { stood := { row := scopeNamesRow, standIns := [], harness := (true, "0646cd45d400ef95c2a898925fe2b1fa73974cb659bcab2c9b33c0790631e43f"), looks := false }, kinds := [], alts := [], laidByText := true, laidKinds := [.data], laidTests := true, laidLooks := .later }
def ScopeNamesCardSaid : Prop := Claim7.holds Tryz.pinned (.plain (OpenSpec.ofChange scopeNamesSpec)) scopeNamesCard

/-- THE TIED CARD OF 'liquidchecklaw23.ScopeDeclares'. -/
def scopeDeclaresCard : Claim7 := { stood := { row := scopeDeclaresRow, standIns := [], harness := (true, "0646cd45d400ef95c2a898925fe2b1fa73974cb659bcab2c9b33c0790631e43f"), looks := false }, kinds := [], alts := [], laidByText := true, laidKinds := [.data], laidTests := true, laidLooks := .later }
def ScopeDeclaresCardSaid : Prop := Claim7.holds Tryz.pinned (.plain (OpenSpec.ofChange scopeDeclaresSpec)) scopeDeclaresCard

/-- THE SECOND FORM's CARD OF 'liquidchecklaw23.ScopeModules'. -/
def scopeModulesUptoCard : Claim7 := { stood := { row := scopeModulesUptoRow, standIns := [], harness := (true, "0646cd45d400ef95c2a898925fe2b1fa73974cb659bcab2c9b33c0790631e43f"), looks := false }, kinds := [], alts := [], laidByText := true, laidKinds := [.data], laidTests := true, laidLooks := .later }
def ScopeModulesUptoCardSaid : Prop := Claim7.holds Tryz.pinned (.plain (OpenSpec.upto scopeModulesSpec)) scopeModulesUptoCard

/-- THE SECOND FORM's CARD OF 'liquidchecklaw23.ScopeOrder'. -/
def scopeOrderUptoCard : Claim7 := { stood := { row := scopeOrderUptoRow, standIns := [], harness := (true, "0646cd45d400ef95c2a898925fe2b1fa73974cb659bcab2c9b33c0790631e43f"), looks := false }, kinds := [], alts := [], laidByText := true, laidKinds := [.data], laidTests := true, laidLooks := .later }
def ScopeOrderUptoCardSaid : Prop := Claim7.holds Tryz.pinned (.plain (OpenSpec.upto scopeOrderSpec)) scopeOrderUptoCard

/-- THE SECOND FORM's CARD OF 'liquidchecklaw23.ScopeSpoils'. -/
def scopeSpoilsUptoCard : Claim7 := { stood := { row := scopeSpoilsUptoRow, standIns := [], harness := (true, "0646cd45d400ef95c2a898925fe2b1fa73974cb659bcab2c9b33c0790631e43f"), looks := false }, kinds := [], alts := [], laidByText := true, laidKinds := [.data], laidTests := true, laidLooks := .later }
def ScopeSpoilsUptoCardSaid : Prop := Claim7.holds Tryz.pinned (.plain (OpenSpec.upto scopeSpoilsSpec)) scopeSpoilsUptoCard

/-- THE SECOND FORM's CARD OF 'liquidchecklaw23.ScopeNames'. -/
def scopeNamesUptoCard : Claim7 := { stood := { row := scopeNamesUptoRow, standIns := [], harness := (true, "0646cd45d400ef95c2a898925fe2b1fa73974cb659bcab2c9b33c0790631e43f"), looks := false }, kinds := [], alts := [], laidByText := true, laidKinds := [.data], laidTests := true, laidLooks := .later }
def ScopeNamesUptoCardSaid : Prop := Claim7.holds Tryz.pinned (.plain (OpenSpec.upto scopeNamesSpec)) scopeNamesUptoCard

/-- THE SECOND FORM's CARD OF 'liquidchecklaw23.ScopeDeclares'. -/
def scopeDeclaresUptoCard : Claim7 := { stood := { row := scopeDeclaresUptoRow, standIns := [], harness := (true, "0646cd45d400ef95c2a898925fe2b1fa73974cb659bcab2c9b33c0790631e43f"), looks := false }, kinds := [], alts := [], laidByText := true, laidKinds := [.data], laidTests := true, laidLooks := .later }
def ScopeDeclaresUptoCardSaid : Prop := Claim7.holds Tryz.pinned (.plain (OpenSpec.upto scopeDeclaresSpec)) scopeDeclaresUptoCard
end Rows
end Go.Proofs.YtmllcplaohkjnaaGreatDoor
