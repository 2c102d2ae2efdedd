/- Closed facts of the rows of ScopeNames. -/
import Derived.Test.YtmllcplaohkjnaaGreatDoorRows
import Derived.JoinedCond
set_option linter.unusedVariables false
set_option linter.unusedSimpArgs false
set_option linter.unusedSectionVars false
namespace Go.Proofs.YtmllcplaohkjnaaGreatDoor
open Go.ChangeShapes Go.WideShapes Go.ChangeAt
set_option maxRecDepth 100000
theorem nms1 : Tryz.prog.inPlace 6 = [] := by kernel_rfl
theorem nms2 : Tryz.prog.unfollowed 6 = true := by kernel_rfl
theorem nms3 : Tryz.prog.recurses 6 = true := by kernel_rfl
theorem nms4 : Tryz.prog.varsNamed 6 = ["liquidcheck/names.keywords"] := by kernel_rfl
theorem heard : Tryz.prog.stopsHeard = true := by kernel_rfl
theorem nms5 : joinedFacts Tryz.prog 6 Tryz.f6 (Rows.OpenSpec.upto Rows.scopeNamesSpec).bare Rows.scopeNamesUptoRow = true := by
  unfold joinedFacts
  rw [nms1, nms2, nms3, nms4, heard]
  kernel_rfl
theorem nms6 : Tryz.prog.funcNamed Rows.scopeNamesUptoRow.func = some 6 := by kernel_rfl
theorem nms7 : Tryz.f6.isInstance Tryz.prog Rows.scopeNamesUptoRow.origin Rows.scopeNamesUptoRow.targs := of_decide_eq_true (by kernel_rfl)
theorem nms8 : Tryz.f6.isWrapper Tryz.prog Rows.scopeNamesUptoRow.wrapper Rows.scopeNamesUptoRow.mainSum := by unfold Func.isWrapper; first | (rw [if_pos (by decide +kernel)]; kernel_rfl) | (rw [if_neg (by decide +kernel)]; exact ⟨rfl, rfl⟩)
end Go.Proofs.YtmllcplaohkjnaaGreatDoor
