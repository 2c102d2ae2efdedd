/- Values of Go as plain data, an evaluator over them, and what the functions of the program return; part Zj. -/
import Derived.Test.YtcflffbapgiicaaGreatDoorRows
import Derived.JoinedCond
set_option linter.unusedSectionVars false
set_option linter.unusedSimpArgs false
set_option linter.unusedVariables false
namespace Go.Proofs.YtcflffbapgiicaaGreatDoor
open Go.ChangeShapes Go.WideShapes Go.ChangeAt
set_option maxRecDepth 100000
theorem repl1:Tryz.prog.inPlace 3=[]:=by kernel_rfl
theorem repl2:Tryz.prog.unfollowed 3=true:=by kernel_rfl
theorem repl3:Tryz.prog.recurses 3=true:=by kernel_rfl
theorem repl4:Tryz.prog.varsNamed 3=["liquidcheck/names.keywords"]:=by kernel_rfl
theorem repl0:Tryz.prog.stopsHeard=true:=by kernel_rfl
theorem repla:mapsRowed Tryz.prog=true:=by kernel_rfl
theorem replb:laidOutB Tryz.prog=true:=by kernel_rfl
theorem replc:Tryz.prog.plainKeys=true:=by kernel_rfl
theorem repld:Tryz.prog.mayEnter=true:=by kernel_rfl
theorem reple:Tryz.prog.liftsFinal=false:=by kernel_rfl
theorem repl5:joinedFacts Tryz.prog 3 Tryz.f3 (Rows.OpenSpec.upto Rows.reflectPlainSpec).bare Rows.reflectPlainUptoRow=true:=by
 unfold joinedFacts
 rw [repl1,repl2,repl3,repl4,repl0,repla,replb,replc,repld,reple]
 kernel_rfl
theorem repl6:Tryz.prog.funcNamed Rows.reflectPlainUptoRow.func=some 3:=by kernel_rfl
theorem repl7:Tryz.f3.isInstance Tryz.prog Rows.reflectPlainUptoRow.origin Rows.reflectPlainUptoRow.targs:=of_decide_eq_true (by kernel_rfl)
theorem repl8:Tryz.f3.isWrapper Tryz.prog Rows.reflectPlainUptoRow.wrapper Rows.reflectPlainUptoRow.mainSum:=by unfold Func.isWrapper; first | (rw [if_pos (by decide +kernel)]; kernel_rfl) | (rw [if_neg (by decide +kernel)]; exact ⟨rfl,rfl⟩)
end Go.Proofs.YtcflffbapgiicaaGreatDoor
