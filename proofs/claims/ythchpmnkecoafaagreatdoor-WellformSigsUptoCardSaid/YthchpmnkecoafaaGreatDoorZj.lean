/- Values of Go as plain data, an evaluator over them, and what the functions of the program return; part Zj. -/
import Derived.Test.YthchpmnkecoafaaGreatDoorRows
import Derived.JoinedCond
set_option linter.unusedSectionVars false
set_option linter.unusedSimpArgs false
set_option linter.unusedVariables false
namespace Go.Proofs.YthchpmnkecoafaaGreatDoor
open Go.ChangeShapes Go.WideShapes Go.ChangeAt
set_option maxRecDepth 100000
theorem Af0:Tryz.prog.inPlace 4=[]:=by kernel_rfl
theorem Af1:Tryz.prog.unfollowed 4=true:=by kernel_rfl
theorem Af2:Tryz.prog.recurses 4=true:=by kernel_rfl
theorem Af3:Tryz.prog.varsNamed 4=["liquidcheck/names.keywords"]:=by kernel_rfl
theorem Af4:Tryz.prog.stopsHeard=true:=by kernel_rfl
theorem Af5:joinedFacts Tryz.prog 4 Tryz.f4 (Rows.OpenSpec.upto Rows.wellformSigsSpec).bare Rows.wellformSigsUptoRow=true:=by
 unfold joinedFacts
 rw [Af0,Af1,Af2,Af3,Af4]
 kernel_rfl
theorem Af6:Tryz.prog.funcNamed Rows.wellformSigsUptoRow.func=some 4:=by kernel_rfl
theorem Af7:Tryz.f4.isInstance Tryz.prog Rows.wellformSigsUptoRow.origin Rows.wellformSigsUptoRow.targs:=of_decide_eq_true (by kernel_rfl)
theorem Af8:Tryz.f4.isWrapper Tryz.prog Rows.wellformSigsUptoRow.wrapper Rows.wellformSigsUptoRow.mainSum:=by unfold Func.isWrapper; first | (rw [if_pos (by decide +kernel)]; kernel_rfl) | (rw [if_neg (by decide +kernel)]; exact ⟨rfl,rfl⟩)
end Go.Proofs.YthchpmnkecoafaaGreatDoor
