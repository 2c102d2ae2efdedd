/- Values of Go as plain data, an evaluator over them, and what the functions of the program return; part Zj. -/
import Derived.Test.YtidabncghfbdaaaGreatDoorRows
import Derived.JoinedCond
set_option linter.unusedSectionVars false
set_option linter.unusedSimpArgs false
set_option linter.unusedVariables false
namespace Go.Proofs.YtidabncghfbdaaaGreatDoor
open Go.ChangeShapes Go.WideShapes Go.ChangeAt
set_option maxRecDepth 100000
theorem repa1:Tryz.prog.inPlace 4=[]:=by kernel_rfl
theorem repa2:Tryz.prog.unfollowed 4=true:=by kernel_rfl
theorem repa3:Tryz.prog.recurses 4=true:=by kernel_rfl
theorem repa4:Tryz.prog.varsNamed 4=["liquidcheck/names.keywords"]:=by kernel_rfl
theorem repa0:Tryz.prog.stopsHeard=true:=by kernel_rfl
theorem repaa:mapsRowed Tryz.prog=true:=by kernel_rfl
theorem repab:laidOutB Tryz.prog=true:=by kernel_rfl
theorem repac:Tryz.prog.plainKeys=true:=by kernel_rfl
theorem repad:Tryz.prog.mayEnter=true:=by kernel_rfl
theorem repae:Tryz.prog.liftsFinal=false:=by kernel_rfl
theorem repa5:joinedFacts Tryz.prog 4 Tryz.f4 (Rows.OpenSpec.upto Rows.reflectPathsSpec).bare Rows.reflectPathsUptoRow=true:=by
 unfold joinedFacts
 rw [repa1,repa2,repa3,repa4,repa0,repaa,repab,repac,repad,repae]
 kernel_rfl
theorem repa6:Tryz.prog.funcNamed Rows.reflectPathsUptoRow.func=some 4:=by kernel_rfl
theorem repa7:Tryz.f4.isInstance Tryz.prog Rows.reflectPathsUptoRow.origin Rows.reflectPathsUptoRow.targs:=of_decide_eq_true (by kernel_rfl)
theorem repa8:Tryz.f4.isWrapper Tryz.prog Rows.reflectPathsUptoRow.wrapper Rows.reflectPathsUptoRow.mainSum:=by unfold Func.isWrapper; first | (rw [if_pos (by decide +kernel)]; kernel_rfl) | (rw [if_neg (by decide +kernel)]; exact ⟨rfl,rfl⟩)
end Go.Proofs.YtidabncghfbdaaaGreatDoor
