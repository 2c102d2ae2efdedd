/- What the law says of pure values. -/
import Derived.Test.YtgonmmckkikmaaaGreatRows
import Derived.JoinedCond
set_option linter.unusedSectionVars false
set_option linter.unusedSimpArgs false
set_option linter.unusedVariables false
namespace Go.Proofs.YtgonmmckkikmaaaGreat
open Go.ChangeShapes Go.WideShapes Go.ChangeAt
set_option maxRecDepth 100000
theorem plns1:Tryz.prog.inPlace 7=[]:=by kernel_rfl
theorem plns2:Tryz.prog.unfollowed 7=true:=by kernel_rfl
theorem plns3:Tryz.prog.recurses 7=true:=by kernel_rfl
theorem plns4:Tryz.prog.varsNamed 7=[]:=by kernel_rfl
theorem heardP:Tryz.prog.stopsHeard=true:=by kernel_rfl
theorem plns5:joinedFacts Tryz.prog 7 Tryz.f7 (Rows.OpenSpec.upto Rows.cellsPlainSpec).bare Rows.cellsPlainUptoRow=true:=by
 unfold joinedFacts
 rw [plns1,plns2,plns3,plns4,heardP]
 kernel_rfl
theorem plns6:Tryz.prog.funcNamed Rows.cellsPlainUptoRow.func=some 7:=by kernel_rfl
theorem plns7:Tryz.f7.isInstance Tryz.prog Rows.cellsPlainUptoRow.origin Rows.cellsPlainUptoRow.targs:=of_decide_eq_true (by kernel_rfl)
theorem plns8:Tryz.f7.isWrapper Tryz.prog Rows.cellsPlainUptoRow.wrapper Rows.cellsPlainUptoRow.mainSum:=by unfold Func.isWrapper; first | (rw [if_pos (by decide +kernel)]; kernel_rfl) | (rw [if_neg (by decide +kernel)]; exact ⟨rfl,rfl⟩)
end Go.Proofs.YtgonmmckkikmaaaGreat
