/- What the law says of pure values. -/
import Derived.Test.YtgonmmckkikmaaaGreatRows
import Derived.JoinedCond
set_option linter.unusedSectionVars false
set_option linter.unusedSimpArgs false
set_option linter.unusedVariables false
namespace Go.Proofs.YtgonmmckkikmaaaGreat
open Go.ChangeShapes Go.WideShapes Go.ChangeAt
set_option maxRecDepth 100000
theorem cnts1:Tryz.prog.inPlace 6=[]:=by kernel_rfl
theorem cnts2:Tryz.prog.unfollowed 6=true:=by kernel_rfl
theorem cnts3:Tryz.prog.recurses 6=true:=by kernel_rfl
theorem cnts4:Tryz.prog.varsNamed 6=[]:=by kernel_rfl
theorem heardC:Tryz.prog.stopsHeard=true:=by kernel_rfl
theorem cnts5:joinedFacts Tryz.prog 6 Tryz.f6 (Rows.OpenSpec.upto Rows.cellsCountsSpec).bare Rows.cellsCountsUptoRow=true:=by
 unfold joinedFacts
 rw [cnts1,cnts2,cnts3,cnts4,heardC]
 kernel_rfl
theorem cnts6:Tryz.prog.funcNamed Rows.cellsCountsUptoRow.func=some 6:=by kernel_rfl
theorem cnts7:Tryz.f6.isInstance Tryz.prog Rows.cellsCountsUptoRow.origin Rows.cellsCountsUptoRow.targs:=of_decide_eq_true (by kernel_rfl)
theorem cnts8:Tryz.f6.isWrapper Tryz.prog Rows.cellsCountsUptoRow.wrapper Rows.cellsCountsUptoRow.mainSum:=by unfold Func.isWrapper; first | (rw [if_pos (by decide +kernel)]; kernel_rfl) | (rw [if_neg (by decide +kernel)]; exact ⟨rfl,rfl⟩)
end Go.Proofs.YtgonmmckkikmaaaGreat
