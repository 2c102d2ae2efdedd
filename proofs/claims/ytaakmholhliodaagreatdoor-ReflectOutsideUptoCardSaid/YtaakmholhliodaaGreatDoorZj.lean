/- Values of Go as plain data, an evaluator over them, and what the functions of the program return; part Zj. -/
import Derived.Test.YtaakmholhliodaaGreatDoorRows
import Derived.JoinedCond
set_option linter.unusedSectionVars false
set_option linter.unusedSimpArgs false
set_option linter.unusedVariables false
namespace Go.Proofs.YtaakmholhliodaaGreatDoor
open Go.ChangeShapes Go.WideShapes Go.ChangeAt
set_option maxRecDepth 100000
theorem reou1:Tryz.prog.inPlace 3=[]:=by kernel_rfl
theorem reou2:Tryz.prog.unfollowed 3=true:=by kernel_rfl
theorem reou3:Tryz.prog.recurses 3=true:=by kernel_rfl
theorem reou4:Tryz.prog.varsNamed 3=["liquidcheck/names.keywords"]:=by kernel_rfl
theorem reou0:Tryz.prog.stopsHeard=true:=by kernel_rfl
theorem reoua:mapsRowed Tryz.prog=true:=by kernel_rfl
theorem reoub:laidOutB Tryz.prog=true:=by kernel_rfl
theorem reouc:Tryz.prog.plainKeys=true:=by kernel_rfl
theorem reoud:Tryz.prog.mayEnter=true:=by kernel_rfl
theorem reoue:Tryz.prog.liftsFinal=false:=by kernel_rfl
theorem reou5:joinedFacts Tryz.prog 3 Tryz.f3 (Rows.OpenSpec.upto Rows.reflectOutsideSpec).bare Rows.reflectOutsideUptoRow=true:=by
 unfold joinedFacts
 rw [reou1,reou2,reou3,reou4,reou0,reoua,reoub,reouc,reoud,reoue]
 kernel_rfl
theorem reou6:Tryz.prog.funcNamed Rows.reflectOutsideUptoRow.func=some 3:=by kernel_rfl
theorem reou7:Tryz.f3.isInstance Tryz.prog Rows.reflectOutsideUptoRow.origin Rows.reflectOutsideUptoRow.targs:=of_decide_eq_true (by kernel_rfl)
theorem reou8:Tryz.f3.isWrapper Tryz.prog Rows.reflectOutsideUptoRow.wrapper Rows.reflectOutsideUptoRow.mainSum:=by unfold Func.isWrapper; first | (rw [if_pos (by decide +kernel)]; kernel_rfl) | (rw [if_neg (by decide +kernel)]; exact ⟨rfl,rfl⟩)
end Go.Proofs.YtaakmholhliodaaGreatDoor
