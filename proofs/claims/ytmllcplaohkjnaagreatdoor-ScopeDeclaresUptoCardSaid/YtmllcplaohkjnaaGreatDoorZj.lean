/- Values of Go as plain data, an evaluator over them, and what the functions of the program return; part Zj. -/
import Derived.Test.YtmllcplaohkjnaaGreatDoorRows
import Derived.JoinedCond
set_option linter.unusedSectionVars false
set_option linter.unusedSimpArgs false
set_option linter.unusedVariables false
namespace Go.Proofs.YtmllcplaohkjnaaGreatDoor
open Go.ChangeShapes Go.WideShapes Go.ChangeAt
set_option maxRecDepth 100000
theorem A6s:Tryz.prog.inPlace 7=[]:=by kernel_rfl
theorem A6t:Tryz.prog.unfollowed 7=true:=by kernel_rfl
theorem A6u:Tryz.prog.recurses 7=true:=by kernel_rfl
theorem A6v:Tryz.prog.varsNamed 7=["liquidcheck/names.keywords"]:=by kernel_rfl
theorem A6w:Tryz.prog.stopsHeard=true:=by kernel_rfl
theorem A6x:joinedFacts Tryz.prog 7 Tryz.f7 (Rows.OpenSpec.upto Rows.scopeDeclaresSpec).bare Rows.scopeDeclaresUptoRow=true:=by
 unfold joinedFacts
 rw [A6s,A6t,A6u,A6v,A6w]
 kernel_rfl
theorem A6y:Tryz.prog.funcNamed Rows.scopeDeclaresUptoRow.func=some 7:=by kernel_rfl
theorem A6z:Tryz.f7.isInstance Tryz.prog Rows.scopeDeclaresUptoRow.origin Rows.scopeDeclaresUptoRow.targs:=of_decide_eq_true (by kernel_rfl)
theorem A70:Tryz.f7.isWrapper Tryz.prog Rows.scopeDeclaresUptoRow.wrapper Rows.scopeDeclaresUptoRow.mainSum:=by unfold Func.isWrapper; first | (rw [if_pos (by decide +kernel)]; kernel_rfl) | (rw [if_neg (by decide +kernel)]; exact ⟨rfl,rfl⟩)
end Go.Proofs.YtmllcplaohkjnaaGreatDoor
