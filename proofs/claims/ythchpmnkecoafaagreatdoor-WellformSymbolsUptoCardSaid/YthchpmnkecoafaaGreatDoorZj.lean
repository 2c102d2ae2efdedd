/- Values of Go as plain data, an evaluator over them, and what the functions of the program return; part Zj. -/
import Derived.Test.YthchpmnkecoafaaGreatDoorRows
import Derived.JoinedCond
set_option linter.unusedSectionVars false
set_option linter.unusedSimpArgs false
set_option linter.unusedVariables false
namespace Go.Proofs.YthchpmnkecoafaaGreatDoor
open Go.ChangeShapes Go.WideShapes Go.ChangeAt
set_option maxRecDepth 100000
theorem wesy1:Tryz.prog.inPlace 6=[]:=by kernel_rfl
theorem wesy2:Tryz.prog.unfollowed 6=true:=by kernel_rfl
theorem wesy3:Tryz.prog.recurses 6=true:=by kernel_rfl
theorem wesy4:Tryz.prog.varsNamed 6=["liquidcheck/names.keywords"]:=by kernel_rfl
theorem wesy0:Tryz.prog.stopsHeard=true:=by kernel_rfl
theorem wesy5:joinedFacts Tryz.prog 6 Tryz.f6 (Rows.OpenSpec.upto Rows.wellformSymbolsSpec).bare Rows.wellformSymbolsUptoRow=true:=by
 unfold joinedFacts
 rw [wesy1,wesy2,wesy3,wesy4,wesy0]
 kernel_rfl
theorem wesy6:Tryz.prog.funcNamed Rows.wellformSymbolsUptoRow.func=some 6:=by kernel_rfl
theorem wesy7:Tryz.f6.isInstance Tryz.prog Rows.wellformSymbolsUptoRow.origin Rows.wellformSymbolsUptoRow.targs:=of_decide_eq_true (by kernel_rfl)
theorem wesy8:Tryz.f6.isWrapper Tryz.prog Rows.wellformSymbolsUptoRow.wrapper Rows.wellformSymbolsUptoRow.mainSum:=by unfold Func.isWrapper; first | (rw [if_pos (by decide +kernel)]; kernel_rfl) | (rw [if_neg (by decide +kernel)]; exact ⟨rfl,rfl⟩)
end Go.Proofs.YthchpmnkecoafaaGreatDoor
