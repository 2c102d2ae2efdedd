/- Values of Go as plain data, an evaluator over them, and what the functions of the program return; part Zj. -/
import Derived.Test.YtaakmholhliodaaGreatDoorRows
import Derived.JoinedCond
set_option linter.unusedSectionVars false
set_option linter.unusedSimpArgs false
set_option linter.unusedVariables false
namespace Go.Proofs.YtaakmholhliodaaGreatDoor
open Go.ChangeShapes Go.WideShapes Go.ChangeAt
set_option maxRecDepth 100000
theorem reag1:Tryz.prog.inPlace 4=[]:=by kernel_rfl
theorem reag2:Tryz.prog.unfollowed 4=true:=by kernel_rfl
theorem reag3:Tryz.prog.recurses 4=true:=by kernel_rfl
theorem reag4:Tryz.prog.varsNamed 4=["liquidcheck/names.keywords"]:=by kernel_rfl
theorem reag0:Tryz.prog.stopsHeard=true:=by kernel_rfl
theorem reaga:mapsRowed Tryz.prog=true:=by kernel_rfl
theorem reagb:laidOutB Tryz.prog=true:=by kernel_rfl
theorem reagc:Tryz.prog.plainKeys=true:=by kernel_rfl
theorem reagd:Tryz.prog.mayEnter=true:=by kernel_rfl
theorem reage:Tryz.prog.liftsFinal=false:=by kernel_rfl
theorem reag5:joinedFacts Tryz.prog 4 Tryz.f4 (Rows.OpenSpec.upto Rows.reflectAgreesSpec).bare Rows.reflectAgreesUptoRow=true:=by
 unfold joinedFacts
 rw [reag1,reag2,reag3,reag4,reag0,reaga,reagb,reagc,reagd,reage]
 kernel_rfl
theorem reag6:Tryz.prog.funcNamed Rows.reflectAgreesUptoRow.func=some 4:=by kernel_rfl
theorem reag7:Tryz.f4.isInstance Tryz.prog Rows.reflectAgreesUptoRow.origin Rows.reflectAgreesUptoRow.targs:=of_decide_eq_true (by kernel_rfl)
theorem reag8:Tryz.f4.isWrapper Tryz.prog Rows.reflectAgreesUptoRow.wrapper Rows.reflectAgreesUptoRow.mainSum:=by unfold Func.isWrapper; first | (rw [if_pos (by decide +kernel)]; kernel_rfl) | (rw [if_neg (by decide +kernel)]; exact ⟨rfl,rfl⟩)
end Go.Proofs.YtaakmholhliodaaGreatDoor
