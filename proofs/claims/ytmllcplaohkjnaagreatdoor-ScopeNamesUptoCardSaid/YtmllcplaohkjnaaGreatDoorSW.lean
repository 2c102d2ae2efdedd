/- The examples of the chapter hold. -/
import Derived.Test.YtmllcplaohkjnaaGreatDoorSx3
import Derived.Test.YtmllcplaohkjnaaGreatDoorProg
import Derived.KernelRfl
set_option linter.unusedVariables false
set_option linter.unusedSimpArgs false
set_option linter.unusedSectionVars false
namespace Go.Proofs.YtmllcplaohkjnaaGreatDoor
open Go.Pv
set_option maxRecDepth 100000
theorem mixedW : Tryz.prog.follows .mixedOrders = true := by kernel_rfl
/-- How captured variables are kept: by function and type. -/
def modA : List (Nat × Nat × Bool) := [(26, 91, true), (26, 103, false), (40, 91, true), (40, 103, false), (40, 72, true), (43, 91, true), (43, 103, true), (43, 79, true), (46, 91, true), (46, 34, false), (49, 72, false), (49, 91, true), (72, 91, true), (92, 86, true), (100, 50, true), (105, 54, false), (105, 34, false), (105, 91, true), (105, 103, false), (128, 91, true), (128, 34, true), (154, 32, false), (155, 41, true), (155, 91, true), (155, 34, true), (199, 3, false), (206, 91, true), (206, 34, true)]
def mdA (f : FuncId) : Md := ⟨fun t => match modA.find? fun x => x.1 == f && x.2.1 == t with
  | some (_, _, true) => some true
  | some (_, _, false) => none
  | none => some false, fun _ => false⟩
theorem awake_ok : (Ob.pur 9 [] (.ret (.bool true))).ok Tryz.prog := Ob.pur_of_fast mdA 60 60 mixedW (by kernel_rfl) rfl rfl
end Go.Proofs.YtmllcplaohkjnaaGreatDoor
