/- Values of Go as plain data, an evaluator over them, and what the functions of the program return; part Zj. -/
import Derived.Test.YtmllcplaohkjnaaGreatDoorRows
import Derived.JoinedCond
set_option linter.unusedSectionVars false
set_option linter.unusedSimpArgs false
set_option linter.unusedVariables false
namespace Go.Proofs.YtmllcplaohkjnaaGreatDoor
open Go.ChangeShapes Go.WideShapes Go.ChangeAt
set_option maxRecDepth 100000
theorem scor1:Tryz.prog.inPlace 4=[]:=by kernel_rfl
theorem scor2:Tryz.prog.unfollowed 4=true:=by kernel_rfl
theorem scor3:Tryz.prog.recurses 4=true:=by kernel_rfl
theorem scor4:Tryz.prog.varsNamed 4=["liquidcheck/names.keywords"]:=by kernel_rfl
theorem scor0:Tryz.prog.stopsHeard=true:=by kernel_rfl
theorem scor5:joinedFacts Tryz.prog 4 Tryz.f4 (Rows.OpenSpec.upto Rows.scopeOrderSpec).bare Rows.scopeOrderUptoRow=true:=by
 unfold joinedFacts
 rw [scor1,scor2,scor3,scor4,scor0]
 kernel_rfl
theorem scor6:Tryz.prog.funcNamed Rows.scopeOrderUptoRow.func=some 4:=by kernel_rfl
theorem scor7:Tryz.f4.isInstance Tryz.prog Rows.scopeOrderUptoRow.origin Rows.scopeOrderUptoRow.targs:=of_decide_eq_true (by kernel_rfl)
theorem scor8:Tryz.f4.isWrapper Tryz.prog Rows.scopeOrderUptoRow.wrapper Rows.scopeOrderUptoRow.mainSum:=by unfold Func.isWrapper; first | (rw [if_pos (by decide +kernel)]; kernel_rfl) | (rw [if_neg (by decide +kernel)]; exact ⟨rfl,rfl⟩)
end Go.Proofs.YtmllcplaohkjnaaGreatDoor
