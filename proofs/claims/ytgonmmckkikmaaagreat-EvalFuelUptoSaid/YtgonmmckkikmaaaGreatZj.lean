/- What the law says of pure values. -/
import Derived.Test.YtgonmmckkikmaaaGreatRows
import Derived.JoinedCond
set_option linter.unusedSectionVars false
set_option linter.unusedSimpArgs false
set_option linter.unusedVariables false
namespace Go.Proofs.YtgonmmckkikmaaaGreat
open Go.ChangeShapes Go.WideShapes Go.ChangeAt
set_option maxRecDepth 100000
theorem fuel1 : Tryz.prog.inPlace 4 = [] := by kernel_rfl
theorem fuel2 : Tryz.prog.unfollowed 4 = true := by kernel_rfl
theorem fuel3 : Tryz.prog.recurses 4 = true := by kernel_rfl
theorem fuel4 : Tryz.prog.varsNamed 4 = [] := by kernel_rfl
theorem heardF : Tryz.prog.stopsHeard = true := by kernel_rfl
theorem fuel5 : joinedFacts Tryz.prog 4 Tryz.f4 (Rows.OpenSpec.upto Rows.evalFuelSpec).bare Rows.evalFuelUptoRow = true := by
 unfold joinedFacts
 rw [fuel1, fuel2, fuel3, fuel4, heardF]
 kernel_rfl
theorem fuel6 : Tryz.prog.funcNamed Rows.evalFuelUptoRow.func = some 4 := by kernel_rfl
theorem fuel7 : Tryz.f4.isInstance Tryz.prog Rows.evalFuelUptoRow.origin Rows.evalFuelUptoRow.targs := of_decide_eq_true (by kernel_rfl)
theorem fuel8 : Tryz.f4.isWrapper Tryz.prog Rows.evalFuelUptoRow.wrapper Rows.evalFuelUptoRow.mainSum := by unfold Func.isWrapper; first | (rw [if_pos (by decide +kernel)]; kernel_rfl) | (rw [if_neg (by decide +kernel)]; exact ⟨rfl, rfl⟩)
end Go.Proofs.YtgonmmckkikmaaaGreat
