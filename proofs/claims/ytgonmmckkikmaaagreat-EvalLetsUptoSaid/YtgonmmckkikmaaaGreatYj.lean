/- What the law says of pure values. -/
import Derived.Test.YtgonmmckkikmaaaGreatRows
import Derived.JoinedCond
set_option linter.unusedSectionVars false
set_option linter.unusedSimpArgs false
set_option linter.unusedVariables false
namespace Go.Proofs.YtgonmmckkikmaaaGreat
open Go.ChangeShapes Go.WideShapes Go.ChangeAt
set_option maxRecDepth 100000
theorem lets1 : Tryz.prog.inPlace 5 = [] := by kernel_rfl
theorem lets2 : Tryz.prog.unfollowed 5 = true := by kernel_rfl
theorem lets3 : Tryz.prog.recurses 5 = true := by kernel_rfl
theorem lets4 : Tryz.prog.varsNamed 5 = [] := by kernel_rfl
theorem heard : Tryz.prog.stopsHeard = true := by kernel_rfl
theorem lets5 : joinedFacts Tryz.prog 5 Tryz.f5 (Rows.OpenSpec.upto Rows.evalLetsSpec).bare Rows.evalLetsUptoRow = true := by
 unfold joinedFacts
 rw [lets1, lets2, lets3, lets4, heard]
 kernel_rfl
theorem lets6 : Tryz.prog.funcNamed Rows.evalLetsUptoRow.func = some 5 := by kernel_rfl
theorem lets7 : Tryz.f5.isInstance Tryz.prog Rows.evalLetsUptoRow.origin Rows.evalLetsUptoRow.targs := of_decide_eq_true (by kernel_rfl)
theorem lets8 : Tryz.f5.isWrapper Tryz.prog Rows.evalLetsUptoRow.wrapper Rows.evalLetsUptoRow.mainSum := by unfold Func.isWrapper; first | (rw [if_pos (by decide +kernel)]; kernel_rfl) | (rw [if_neg (by decide +kernel)]; exact ⟨rfl, rfl⟩)
end Go.Proofs.YtgonmmckkikmaaaGreat
