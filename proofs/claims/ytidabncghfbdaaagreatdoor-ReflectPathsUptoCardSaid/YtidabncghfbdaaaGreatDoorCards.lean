/-
  DERIVED. GIVEN WITH THE SEED: THE CARDS: each row of YtidabncghfbdaaaGreatDoorRows.lean that lists a variable, with what it lists TIED to the program's text (the seventh form; the later family's looks); each row that meets fmt, with fmt's text TOLD by the authors' own Lean function (tested against real Go, not proved from fmt's source: count such statements apart). THE CARD IS WHAT COUNTS. Prove the row's statement (the work); the ties are given (YtidabncghfbdaaaGreatDoorTie.lean); close each card by the builder's one call (the guide's Derived/Test/ToyasCard.lean, 'card_holds'). Laid BY PROGRAM, IN A SANDBOX (cutbox-door.mjs). By AI agents, Wed Nov 11 2026. No macro, syntax, notation, axiom, sorry.
-/
import Derived.Test.YtidabncghfbdaaaGreatDoorRows
import GoSem.ClaimSeven
namespace Go.Proofs.YtidabncghfbdaaaGreatDoor
namespace Rows

/-- THE TIED CARD OF 'liquidchecklaw40.ReflectCases'. -/
def reflectCasesCard : Claim7 := { stood := { row := reflectCasesRow, standIns := [], harness := (true, "37b69fceb03408bfdbe3fed22843982fe518dcf95db18ef704cfbf65274fba3b"), looks := false }, kinds := [], alts := [], laidByText := true, laidKinds := [.data], laidTests := true, laidLooks := .later }
def ReflectCasesCardSaid : Prop := Claim7.holds Tryz.pinned (.plain (OpenSpec.ofChange reflectCasesSpec)) reflectCasesCard

/-- THE TIED CARD OF 'liquidchecklaw40.ReflectPaths'. -/
def reflectPathsCard : Claim7 := { stood := { row := reflectPathsRow, standIns := [], harness := (true, "37b69fceb03408bfdbe3fed22843982fe518dcf95db18ef704cfbf65274fba3b"), looks := false }, kinds := [], alts := [], laidByText := true, laidKinds := [.data], laidTests := true, laidLooks := .later }
def ReflectPathsCardSaid : Prop := Claim7.holds Tryz.pinned (.plain (OpenSpec.ofChange reflectPathsSpec)) reflectPathsCard

/-- THE SECOND FORM's CARD OF 'liquidchecklaw40.ReflectCases'. -/
def reflectCasesUptoCard : Claim7 := { stood := { row := reflectCasesUptoRow, standIns := [], harness := (true, "37b69fceb03408bfdbe3fed22843982fe518dcf95db18ef704cfbf65274fba3b"), looks := false }, kinds := [], alts := [], laidByText := true, laidKinds := [.data], laidTests := true, laidLooks := .later }
def ReflectCasesUptoCardSaid : Prop := Claim7.holds Tryz.pinned (.plain (OpenSpec.upto reflectCasesSpec)) reflectCasesUptoCard

/-- THE SECOND FORM's CARD OF 'liquidchecklaw40.ReflectPaths'. -/
def reflectPathsUptoCard : Claim7 := { stood := { row := reflectPathsUptoRow, standIns := [], harness := (true, "37b69fceb03408bfdbe3fed22843982fe518dcf95db18ef704cfbf65274fba3b"), looks := false }, kinds := [], alts := [], laidByText := true, laidKinds := [.data], laidTests := true, laidLooks := .later }
def ReflectPathsUptoCardSaid : Prop := Claim7.holds Tryz.pinned (.plain (OpenSpec.upto reflectPathsSpec)) reflectPathsUptoCard
end Rows
end Go.Proofs.YtidabncghfbdaaaGreatDoor
