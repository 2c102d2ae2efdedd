/- What the law says of pure values. -/
import Derived.Test.YtgonmmckkikmaaaGreatRows
import Derived.JoinedCond
set_option linter.unusedSectionVars false
set_option linter.unusedSimpArgs false
set_option linter.unusedVariables false
namespace Go.Proofs.YtgonmmckkikmaaaGreat
open Go.ChangeShapes Go.WideShapes Go.ChangeAt
set_option maxRecDepth 100000
theorem exs1:Tryz.prog.inPlace 3=[]:=by kernel_rfl
theorem exs2:Tryz.prog.unfollowed 3=true:=by kernel_rfl
theorem exs3:Tryz.prog.recurses 3=true:=by kernel_rfl
theorem exs4:Tryz.prog.varsNamed 3=[]:=by kernel_rfl
theorem heard:Tryz.prog.stopsHeard=true:=by kernel_rfl
theorem exs5:joinedFacts Tryz.prog 3 Tryz.f3 (Rows.OpenSpec.upto Rows.evalExprsSpec).bare Rows.evalExprsUptoRow=true:=by
 unfold joinedFacts
 rw [exs1,exs2,exs3,exs4,heard]
 kernel_rfl
theorem exs6:Tryz.prog.funcNamed Rows.evalExprsUptoRow.func=some 3:=by kernel_rfl
theorem exs7:Tryz.f3.isInstance Tryz.prog Rows.evalExprsUptoRow.origin Rows.evalExprsUptoRow.targs:=of_decide_eq_true (by kernel_rfl)
theorem exs8:Tryz.f3.isWrapper Tryz.prog Rows.evalExprsUptoRow.wrapper Rows.evalExprsUptoRow.mainSum:=by unfold Func.isWrapper; first | (rw [if_pos (by decide +kernel)]; kernel_rfl) | (rw [if_neg (by decide +kernel)]; exact ⟨rfl,rfl⟩)
end Go.Proofs.YtgonmmckkikmaaaGreat
