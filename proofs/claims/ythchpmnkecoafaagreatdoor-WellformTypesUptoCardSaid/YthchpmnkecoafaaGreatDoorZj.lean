/- Values of Go as plain data, an evaluator over them, and what the functions of the program return; part Zj. -/
import Derived.Test.YthchpmnkecoafaaGreatDoorRows
import Derived.JoinedCond
set_option linter.unusedSectionVars false
set_option linter.unusedSimpArgs false
set_option linter.unusedVariables false
namespace Go.Proofs.YthchpmnkecoafaaGreatDoor
open Go.ChangeShapes Go.WideShapes Go.ChangeAt
set_option maxRecDepth 100000
theorem A9b:Tryz.prog.inPlace 3=[]:=by kernel_rfl
theorem A9c:Tryz.prog.unfollowed 3=true:=by kernel_rfl
theorem A9d:Tryz.prog.recurses 3=true:=by kernel_rfl
theorem A9e:Tryz.prog.varsNamed 3=["liquidcheck/names.keywords"]:=by kernel_rfl
theorem A9f:Tryz.prog.stopsHeard=true:=by kernel_rfl
theorem A9g:joinedFacts Tryz.prog 3 Tryz.f3 (Rows.OpenSpec.upto Rows.wellformTypesSpec).bare Rows.wellformTypesUptoRow=true:=by
 unfold joinedFacts
 rw [A9b,A9c,A9d,A9e,A9f]
 kernel_rfl
theorem A9h:Tryz.prog.funcNamed Rows.wellformTypesUptoRow.func=some 3:=by kernel_rfl
theorem A9i:Tryz.f3.isInstance Tryz.prog Rows.wellformTypesUptoRow.origin Rows.wellformTypesUptoRow.targs:=of_decide_eq_true (by kernel_rfl)
theorem A9j:Tryz.f3.isWrapper Tryz.prog Rows.wellformTypesUptoRow.wrapper Rows.wellformTypesUptoRow.mainSum:=by unfold Func.isWrapper; first | (rw [if_pos (by decide +kernel)]; kernel_rfl) | (rw [if_neg (by decide +kernel)]; exact ⟨rfl,rfl⟩)
end Go.Proofs.YthchpmnkecoafaaGreatDoor
