/-
  NARROWER THAN 'FOR EVERY INPUT', by the rows' own cells (each row's printed sentence says how): EvalExprs: loops · EvalFuel: loops · EvalLets: loops · CellsCounts: loops · CellsPlain: loops.
  DERIVED. THE GIVEN ROWS OF THIS SEAT. 5 by the template 'for every input the law returns true; each argument reads behind the call as it read before'; 0 by the template 'total and deterministic' (their statements: YtgonmmckkikmaaaGreatTotals.lean).
  GIVEN WITH THE SEED: the statements are not yours to turn. If you find one false, say at which input.
  Laid BY PROGRAM, IN A SANDBOX (cutbox-rows.mjs): the forced cells as the released guide's own fill.sh prints them over the translation 8b97413ec4369822… (all of the seat's roots in one cut). By AI agents, Wed Nov 11 2026. No macro, syntax, notation, axiom, sorry.
-/
import Derived.Test.YtgonmmckkikmaaaGreatChecked
import GoSem.Claim
import GoSem.ClaimJoined
import GoSem.ClaimMapViews
import Derived.JoinedTies
import Derived.KernelRfl
namespace Go.Proofs.YtgonmmckkikmaaaGreat
/- THE CELL 'sum', in the pinned program and in every row, IS THE sha256 OF THE DUMP (.gsa) THAT YtgonmmckkikmaaaGreatProg.lean LOADS. Nothing in Lean hashes anything: it is a label: what it is worth is what the hold of that sum in a sandbox is worth. -/
noncomputable def Tryz.pinned : Pinned := { name := "ytgonmmckkikmaaagreat", sum := "8b97413ec4369822a778626de3d9b9fc0ea946ba1f66325a35379d8c39e0b72e", checked := Tryz.checked }
namespace Rows
def none {H : Type} : Left H := { results := [], args := [] }

/-- 'liquidchecklaw30.EvalExprs': WHATEVER THE INPUT: true; the input reads as it did. -/
def evalExprsSpec : ChangeSpec := { name := "evalExprs", fn := fun _ => fun
  | [d1, d2, d3] => { results := [.lit (.bool true)], args := [d1, d2, d3] }
  | _ => none }
def evalExprsRow : OpenClaim := { program := "ytgonmmckkikmaaagreat", sum := "8b97413ec4369822a778626de3d9b9fc0ea946ba1f66325a35379d8c39e0b72e", func := "liquidcheck/liquidchecklaw30.EvalExprs", spec := "evalExprs", unfollowed := true, recurses := true, loops := true, apart := false }
def EvalExprsSaid : Prop := evalExprsRow.holds Tryz.pinned (OpenSpec.ofChange evalExprsSpec)

/-- ITS FALSE NEIGHBOUR: 'it returns false'. Refute it at one input. -/
def evalExprsWrong : ChangeSpec := { name := "evalExprs", fn := fun _ => fun
  | [d1, d2, d3] => { results := [.lit (.bool false)], args := [d1, d2, d3] }
  | _ => none }
def EvalExprsWrongFalsely : Prop := evalExprsRow.holds Tryz.pinned (OpenSpec.ofChange evalExprsWrong)

/-- 'liquidchecklaw30.EvalFuel': WHATEVER THE INPUT: true; the input reads as it did. -/
def evalFuelSpec : ChangeSpec := { name := "evalFuel", fn := fun _ => fun
  | [d1, d2, d3] => { results := [.lit (.bool true)], args := [d1, d2, d3] }
  | _ => none }
def evalFuelRow : OpenClaim := { program := "ytgonmmckkikmaaagreat", sum := "8b97413ec4369822a778626de3d9b9fc0ea946ba1f66325a35379d8c39e0b72e", func := "liquidcheck/liquidchecklaw30.EvalFuel", spec := "evalFuel", unfollowed := true, recurses := true, loops := true, apart := false }
def EvalFuelSaid : Prop := evalFuelRow.holds Tryz.pinned (OpenSpec.ofChange evalFuelSpec)

/-- ITS FALSE NEIGHBOUR: 'it returns false'. Refute it at one input. -/
def evalFuelWrong : ChangeSpec := { name := "evalFuel", fn := fun _ => fun
  | [d1, d2, d3] => { results := [.lit (.bool false)], args := [d1, d2, d3] }
  | _ => none }
def EvalFuelWrongFalsely : Prop := evalFuelRow.holds Tryz.pinned (OpenSpec.ofChange evalFuelWrong)

/-- 'liquidchecklaw30.EvalLets': WHATEVER THE INPUT: true; the input reads as it did. -/
def evalLetsSpec : ChangeSpec := { name := "evalLets", fn := fun _ => fun
  | [d1, d2, d3] => { results := [.lit (.bool true)], args := [d1, d2, d3] }
  | _ => none }
def evalLetsRow : OpenClaim := { program := "ytgonmmckkikmaaagreat", sum := "8b97413ec4369822a778626de3d9b9fc0ea946ba1f66325a35379d8c39e0b72e", func := "liquidcheck/liquidchecklaw30.EvalLets", spec := "evalLets", unfollowed := true, recurses := true, loops := true, apart := false }
def EvalLetsSaid : Prop := evalLetsRow.holds Tryz.pinned (OpenSpec.ofChange evalLetsSpec)

/-- ITS FALSE NEIGHBOUR: 'it returns false'. Refute it at one input. -/
def evalLetsWrong : ChangeSpec := { name := "evalLets", fn := fun _ => fun
  | [d1, d2, d3] => { results := [.lit (.bool false)], args := [d1, d2, d3] }
  | _ => none }
def EvalLetsWrongFalsely : Prop := evalLetsRow.holds Tryz.pinned (OpenSpec.ofChange evalLetsWrong)

/-- 'liquidchecklaw31.CellsCounts': WHATEVER THE INPUT: true; the input reads as it did. -/
def cellsCountsSpec : ChangeSpec := { name := "cellsCounts", fn := fun _ => fun
  | [d1, d2, d3] => { results := [.lit (.bool true)], args := [d1, d2, d3] }
  | _ => none }
def cellsCountsRow : OpenClaim := { program := "ytgonmmckkikmaaagreat", sum := "8b97413ec4369822a778626de3d9b9fc0ea946ba1f66325a35379d8c39e0b72e", func := "liquidcheck/liquidchecklaw31.CellsCounts", spec := "cellsCounts", unfollowed := true, recurses := true, loops := true, apart := false }
def CellsCountsSaid : Prop := cellsCountsRow.holds Tryz.pinned (OpenSpec.ofChange cellsCountsSpec)

/-- ITS FALSE NEIGHBOUR: 'it returns false'. Refute it at one input. -/
def cellsCountsWrong : ChangeSpec := { name := "cellsCounts", fn := fun _ => fun
  | [d1, d2, d3] => { results := [.lit (.bool false)], args := [d1, d2, d3] }
  | _ => none }
def CellsCountsWrongFalsely : Prop := cellsCountsRow.holds Tryz.pinned (OpenSpec.ofChange cellsCountsWrong)

/-- 'liquidchecklaw31.CellsPlain': WHATEVER THE INPUT: true; the input reads as it did. -/
def cellsPlainSpec : ChangeSpec := { name := "cellsPlain", fn := fun _ => fun
  | [d1, d2, d3] => { results := [.lit (.bool true)], args := [d1, d2, d3] }
  | _ => none }
def cellsPlainRow : OpenClaim := { program := "ytgonmmckkikmaaagreat", sum := "8b97413ec4369822a778626de3d9b9fc0ea946ba1f66325a35379d8c39e0b72e", func := "liquidcheck/liquidchecklaw31.CellsPlain", spec := "cellsPlain", unfollowed := true, recurses := true, loops := true, apart := false }
def CellsPlainSaid : Prop := cellsPlainRow.holds Tryz.pinned (OpenSpec.ofChange cellsPlainSpec)

/-- ITS FALSE NEIGHBOUR: 'it returns false'. Refute it at one input. -/
def cellsPlainWrong : ChangeSpec := { name := "cellsPlain", fn := fun _ => fun
  | [d1, d2, d3] => { results := [.lit (.bool false)], args := [d1, d2, d3] }
  | _ => none }
def CellsPlainWrongFalsely : Prop := cellsPlainRow.holds Tryz.pinned (OpenSpec.ofChange cellsPlainWrong)

/- THE SECOND FORM. 'bulk': how many values and letters a reading holds, each counted each time it is reached (what is shared counts as often as it is met; a slice's spare places count too). A statement '..UptoSaid' is the law's where the arguments, and the package variables that the reading takes, are together of bulk at most 1048576: NARROWER than '..Said'. Prove '..Said' where nothing that the law and all that it calls make is longer than what came in: it says more and counts as full. Else prove '..UptoSaid'. A law counts once. -/
mutual
def uptoBulk {H : Type} : DataW H → Nat
  | .lit (.string bytes) => bytes.length + 1
  | .lit _ => 1
  | .nil => 1
  | .ptr d => uptoBulk d + 1
  | .slice elems spare => uptoBulkAll elems + uptoBulkAll spare + 1
  | .agg parts => uptoBulkAll parts + 1
  | .iface _ d => uptoBulk d + 1
  | .map entries => uptoBulkEntries entries + 1
  | .held _ => 1
def uptoBulkAll {H : Type} : List (DataW H) → Nat
  | [] => 0
  | d :: r => uptoBulk d + uptoBulkAll r
def uptoBulkEntries {H : Type} : List (Lit × DataW H) → Nat
  | [] => 0
  | x :: r => uptoBulkEntry x + uptoBulkEntries r
def uptoBulkEntry {H : Type} : Lit × DataW H → Nat
  | (.string bytes, d) => bytes.length + uptoBulk d + 1
  | (_, d) => uptoBulk d + 1
 end
def uptoSmall : (H : Type) → List (DataW H) → Bool := fun _ ds => decide (uptoBulkAll ds ≤ 1048576)
def OpenSpec.upto (s : _root_.Go.ChangeSpec) : _root_.Go.OpenSpec := { _root_.Go.OpenSpec.ofChange s with cond := some uptoSmall }

/-- 'liquidchecklaw30.EvalExprs', WHERE WHAT IT READS IS OF BULK AT MOST 1048576: true; the input reads as it did. -/
def evalExprsUptoRow : OpenClaim := { program := "ytgonmmckkikmaaagreat", sum := "8b97413ec4369822a778626de3d9b9fc0ea946ba1f66325a35379d8c39e0b72e", func := "liquidcheck/liquidchecklaw30.EvalExprs", spec := "evalExprs", unfollowed := true, recurses := true, loops := true, apart := false, narrowed := true }
def EvalExprsUptoSaid : Prop := evalExprsUptoRow.holds Tryz.pinned (OpenSpec.upto evalExprsSpec)

/-- 'liquidchecklaw30.EvalFuel', WHERE WHAT IT READS IS OF BULK AT MOST 1048576: true; the input reads as it did. -/
def evalFuelUptoRow : OpenClaim := { program := "ytgonmmckkikmaaagreat", sum := "8b97413ec4369822a778626de3d9b9fc0ea946ba1f66325a35379d8c39e0b72e", func := "liquidcheck/liquidchecklaw30.EvalFuel", spec := "evalFuel", unfollowed := true, recurses := true, loops := true, apart := false, narrowed := true }
def EvalFuelUptoSaid : Prop := evalFuelUptoRow.holds Tryz.pinned (OpenSpec.upto evalFuelSpec)

/-- 'liquidchecklaw30.EvalLets', WHERE WHAT IT READS IS OF BULK AT MOST 1048576: true; the input reads as it did. -/
def evalLetsUptoRow : OpenClaim := { program := "ytgonmmckkikmaaagreat", sum := "8b97413ec4369822a778626de3d9b9fc0ea946ba1f66325a35379d8c39e0b72e", func := "liquidcheck/liquidchecklaw30.EvalLets", spec := "evalLets", unfollowed := true, recurses := true, loops := true, apart := false, narrowed := true }
def EvalLetsUptoSaid : Prop := evalLetsUptoRow.holds Tryz.pinned (OpenSpec.upto evalLetsSpec)

/-- 'liquidchecklaw31.CellsCounts', WHERE WHAT IT READS IS OF BULK AT MOST 1048576: true; the input reads as it did. -/
def cellsCountsUptoRow : OpenClaim := { program := "ytgonmmckkikmaaagreat", sum := "8b97413ec4369822a778626de3d9b9fc0ea946ba1f66325a35379d8c39e0b72e", func := "liquidcheck/liquidchecklaw31.CellsCounts", spec := "cellsCounts", unfollowed := true, recurses := true, loops := true, apart := false, narrowed := true }
def CellsCountsUptoSaid : Prop := cellsCountsUptoRow.holds Tryz.pinned (OpenSpec.upto cellsCountsSpec)

/-- 'liquidchecklaw31.CellsPlain', WHERE WHAT IT READS IS OF BULK AT MOST 1048576: true; the input reads as it did. -/
def cellsPlainUptoRow : OpenClaim := { program := "ytgonmmckkikmaaagreat", sum := "8b97413ec4369822a778626de3d9b9fc0ea946ba1f66325a35379d8c39e0b72e", func := "liquidcheck/liquidchecklaw31.CellsPlain", spec := "cellsPlain", unfollowed := true, recurses := true, loops := true, apart := false, narrowed := true }
def CellsPlainUptoSaid : Prop := cellsPlainUptoRow.holds Tryz.pinned (OpenSpec.upto cellsPlainSpec)

end Rows
end Go.Proofs.YtgonmmckkikmaaaGreat
