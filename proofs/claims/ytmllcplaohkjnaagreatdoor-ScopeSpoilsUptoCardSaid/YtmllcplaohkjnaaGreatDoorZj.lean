/- Values of Go as plain data, an evaluator over them, and what the functions of the program return; part Zj. -/
import Derived.Test.YtmllcplaohkjnaaGreatDoorRows
import Derived.JoinedCond
set_option linter.unusedSectionVars false
set_option linter.unusedSimpArgs false
set_option linter.unusedVariables false
namespace Go.Proofs.YtmllcplaohkjnaaGreatDoor
open Go.ChangeShapes Go.WideShapes Go.ChangeAt
set_option maxRecDepth 100000
theorem scsp1:Tryz.prog.inPlace 5=[]:=by kernel_rfl
theorem scsp2:Tryz.prog.unfollowed 5=true:=by kernel_rfl
theorem scsp3:Tryz.prog.recurses 5=true:=by kernel_rfl
theorem scsp4:Tryz.prog.varsNamed 5=["liquidcheck/names.keywords"]:=by kernel_rfl
theorem scsp0:Tryz.prog.stopsHeard=true:=by kernel_rfl
theorem scsp5:joinedFacts Tryz.prog 5 Tryz.f5 (Rows.OpenSpec.upto Rows.scopeSpoilsSpec).bare Rows.scopeSpoilsUptoRow=true:=by
 unfold joinedFacts
 rw [scsp1,scsp2,scsp3,scsp4,scsp0]
 kernel_rfl
theorem scsp6:Tryz.prog.funcNamed Rows.scopeSpoilsUptoRow.func=some 5:=by kernel_rfl
theorem scsp7:Tryz.f5.isInstance Tryz.prog Rows.scopeSpoilsUptoRow.origin Rows.scopeSpoilsUptoRow.targs:=of_decide_eq_true (by kernel_rfl)
theorem scsp8:Tryz.f5.isWrapper Tryz.prog Rows.scopeSpoilsUptoRow.wrapper Rows.scopeSpoilsUptoRow.mainSum:=by unfold Func.isWrapper; first | (rw [if_pos (by decide +kernel)]; kernel_rfl) | (rw [if_neg (by decide +kernel)]; exact ⟨rfl,rfl⟩)
end Go.Proofs.YtmllcplaohkjnaaGreatDoor
