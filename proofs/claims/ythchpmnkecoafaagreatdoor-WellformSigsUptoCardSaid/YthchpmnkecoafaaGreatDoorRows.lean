/-
  NARROWER THAN 'FOR EVERY INPUT', by the rows' own cells (each row's printed sentence says how): WellformTypes: loops, laid · WellformSigs: loops, laid · WellformPlain: loops, laid · WellformSymbols: loops, laid.
  DERIVED. THE GIVEN ROWS OF THIS SEAT. 4 by the template 'for every input the law returns true; each argument reads behind the call as it read before'; 0 by the template 'total and deterministic' (their statements: YthchpmnkecoafaaGreatDoorTotals.lean).
  GIVEN WITH THE SEED: the statements are not yours to turn. If you find one false, say at which input.
  Laid BY PROGRAM, IN A SANDBOX (cutbox-rows.mjs): the forced cells as the released guide's own fill.sh prints them over the translation 15f3c91467ec75ec… (all of the seat's roots in one cut). By AI agents, Wed Nov 11 2026. No macro, syntax, notation, axiom, sorry.
-/
import Derived.Test.YthchpmnkecoafaaGreatDoorChecked
import GoSem.Claim
import GoSem.ClaimJoined
import GoSem.ClaimMapViews
import Derived.JoinedTies
import Derived.KernelRfl
namespace Go.Proofs.YthchpmnkecoafaaGreatDoor
/- THE CELL 'sum', in the pinned program and in every row, IS THE sha256 OF THE DUMP (.gsa) THAT YthchpmnkecoafaaGreatDoorProg.lean LOADS. Nothing in Lean hashes anything: it is a label: what it is worth is what the hold of that sum in a sandbox is worth. -/
noncomputable def Tryz.pinned : Pinned := { name := "ythchpmnkecoafaagreatdoor", sum := "15f3c91467ec75ec538388f8aeb500b50d2f6e4bc9043124ecaa762d7b5ffdbe", checked := Tryz.checked }
namespace Rows
def none {H : Type} : Left H := { results := [], args := [] }

/- WHAT THE LISTED PACKAGE-LEVEL VARIABLES READ AS WHEN THE CALL BEGINS. Each datum BY PROGRAM (the guide's laid-datum.mjs) off the statement by which the dump's own 'gosem.cut.vars' lays the variable. In a bare row this is a premise. The card (YthchpmnkecoafaaGreatDoorCards.lean) ties it to the program's text. -/
def laid_liquidcheck_names_keywords {H : Type} : DataW H := .agg [.lit (.string [97, 110, 100]), .lit (.string [97, 115, 115, 117, 109, 101]), .lit (.string [98, 111, 111, 108]), .lit (.string [98, 111, 117, 110, 100]), .lit (.string [99, 97, 115, 101]), .lit (.string [99, 101, 108, 108]), .lit (.string [99, 108, 97, 115, 115]), .lit (.string [100, 97, 116, 97]), .lit (.string [100, 101, 102]), .lit (.string [100, 105, 118]), .lit (.string [101, 108, 115, 101]), .lit (.string [101, 110, 100]), .lit (.string [102, 97, 108, 115, 101]), .lit (.string [102, 111, 114, 97, 108, 108]), .lit (.string [102, 117, 110]), .lit (.string [103, 101, 116]), .lit (.string [105, 102]), .lit (.string [105, 110]), .lit (.string [105, 110, 115, 116]), .lit (.string [105, 110, 116]), .lit (.string [105, 110, 118, 97, 114, 105, 97, 110, 116]), .lit (.string [108, 101, 116]), .lit (.string [109, 97, 116, 99, 104]), .lit (.string [109, 101, 97, 115, 117, 114, 101]), .lit (.string [109, 101, 116, 114, 105, 99]), .lit (.string [109, 111, 100]), .lit (.string [109, 117]), .lit (.string [110, 101, 119]), .lit (.string [110, 111, 116]), .lit (.string [111, 102]), .lit (.string [111, 114]), .lit (.string [113, 117, 97, 108]), .lit (.string [114, 101, 102, 108, 101, 99, 116]), .lit (.string [115, 101, 116]), .lit (.string [116, 104, 101, 110]), .lit (.string [116, 114, 117, 101]), .lit (.string [117, 115, 101]), .lit (.string [118]), .lit (.string [118, 97, 108]), .lit (.string [116, 97, 103]), .lit (.string [119, 104, 101, 114, 101]), .lit (.string [119, 105, 116, 104])]

/-- 'liquidchecklaw33.WellformTypes': WHATEVER THE INPUT: true; the input reads as it did. -/
def wellformTypesSpec : ChangeSpec := { name := "wellformTypes", fn := fun _ => fun
  | [d1, d2, d3] => { results := [.lit (.bool true)], args := [d1, d2, d3] }
  | _ => none }
def wellformTypesRow : OpenClaim := { program := "ythchpmnkecoafaagreatdoor", sum := "15f3c91467ec75ec538388f8aeb500b50d2f6e4bc9043124ecaa762d7b5ffdbe", func := "liquidcheck/liquidchecklaw33.WellformTypes", spec := "wellformTypes", unfollowed := true, recurses := true, named := ["liquidcheck/names.keywords"], loops := true, apart := false, laid := [("liquidcheck/names.keywords", laid_liquidcheck_names_keywords)] }
def WellformTypesSaid : Prop := wellformTypesRow.holds Tryz.pinned (OpenSpec.ofChange wellformTypesSpec)

/-- ITS FALSE NEIGHBOUR: 'it returns false'. Refute it at one input. -/
def wellformTypesWrong : ChangeSpec := { name := "wellformTypes", fn := fun _ => fun
  | [d1, d2, d3] => { results := [.lit (.bool false)], args := [d1, d2, d3] }
  | _ => none }
def WellformTypesWrongFalsely : Prop := wellformTypesRow.holds Tryz.pinned (OpenSpec.ofChange wellformTypesWrong)

/-- 'liquidchecklaw33.WellformSigs': WHATEVER THE INPUT: true; the input reads as it did. -/
def wellformSigsSpec : ChangeSpec := { name := "wellformSigs", fn := fun _ => fun
  | [d1, d2] => { results := [.lit (.bool true)], args := [d1, d2] }
  | _ => none }
def wellformSigsRow : OpenClaim := { program := "ythchpmnkecoafaagreatdoor", sum := "15f3c91467ec75ec538388f8aeb500b50d2f6e4bc9043124ecaa762d7b5ffdbe", func := "liquidcheck/liquidchecklaw33.WellformSigs", spec := "wellformSigs", unfollowed := true, recurses := true, named := ["liquidcheck/names.keywords"], loops := true, apart := false, laid := [("liquidcheck/names.keywords", laid_liquidcheck_names_keywords)] }
def WellformSigsSaid : Prop := wellformSigsRow.holds Tryz.pinned (OpenSpec.ofChange wellformSigsSpec)

/-- ITS FALSE NEIGHBOUR: 'it returns false'. Refute it at one input. -/
def wellformSigsWrong : ChangeSpec := { name := "wellformSigs", fn := fun _ => fun
  | [d1, d2] => { results := [.lit (.bool false)], args := [d1, d2] }
  | _ => none }
def WellformSigsWrongFalsely : Prop := wellformSigsRow.holds Tryz.pinned (OpenSpec.ofChange wellformSigsWrong)

/-- 'liquidchecklaw33.WellformPlain': WHATEVER THE INPUT: true; the input reads as it did. -/
def wellformPlainSpec : ChangeSpec := { name := "wellformPlain", fn := fun _ => fun
  | [d1, d2] => { results := [.lit (.bool true)], args := [d1, d2] }
  | _ => none }
def wellformPlainRow : OpenClaim := { program := "ythchpmnkecoafaagreatdoor", sum := "15f3c91467ec75ec538388f8aeb500b50d2f6e4bc9043124ecaa762d7b5ffdbe", func := "liquidcheck/liquidchecklaw33.WellformPlain", spec := "wellformPlain", unfollowed := true, recurses := true, named := ["liquidcheck/names.keywords"], loops := true, apart := false, laid := [("liquidcheck/names.keywords", laid_liquidcheck_names_keywords)] }
def WellformPlainSaid : Prop := wellformPlainRow.holds Tryz.pinned (OpenSpec.ofChange wellformPlainSpec)

/-- ITS FALSE NEIGHBOUR: 'it returns false'. Refute it at one input. -/
def wellformPlainWrong : ChangeSpec := { name := "wellformPlain", fn := fun _ => fun
  | [d1, d2] => { results := [.lit (.bool false)], args := [d1, d2] }
  | _ => none }
def WellformPlainWrongFalsely : Prop := wellformPlainRow.holds Tryz.pinned (OpenSpec.ofChange wellformPlainWrong)

/-- 'liquidchecklaw33.WellformSymbols': WHATEVER THE INPUT: true; the input reads as it did. -/
def wellformSymbolsSpec : ChangeSpec := { name := "wellformSymbols", fn := fun _ => fun
  | [d1, d2, d3] => { results := [.lit (.bool true)], args := [d1, d2, d3] }
  | _ => none }
def wellformSymbolsRow : OpenClaim := { program := "ythchpmnkecoafaagreatdoor", sum := "15f3c91467ec75ec538388f8aeb500b50d2f6e4bc9043124ecaa762d7b5ffdbe", func := "liquidcheck/liquidchecklaw33.WellformSymbols", spec := "wellformSymbols", unfollowed := true, recurses := true, named := ["liquidcheck/names.keywords"], loops := true, apart := false, laid := [("liquidcheck/names.keywords", laid_liquidcheck_names_keywords)] }
def WellformSymbolsSaid : Prop := wellformSymbolsRow.holds Tryz.pinned (OpenSpec.ofChange wellformSymbolsSpec)

/-- ITS FALSE NEIGHBOUR: 'it returns false'. Refute it at one input. -/
def wellformSymbolsWrong : ChangeSpec := { name := "wellformSymbols", fn := fun _ => fun
  | [d1, d2, d3] => { results := [.lit (.bool false)], args := [d1, d2, d3] }
  | _ => none }
def WellformSymbolsWrongFalsely : Prop := wellformSymbolsRow.holds Tryz.pinned (OpenSpec.ofChange wellformSymbolsWrong)

/- THE SECOND FORM. 'bulk': how many values and letters a reading holds, each counted each time it is reached (what is shared counts as often as it is met; a slice's spare places count too). A statement '..UptoSaid' is the law's where the arguments, and the package variables that the reading takes, are together of bulk at most 1048576: NARROWER than '..Said'. Prove '..Said' where nothing that the law and all that it calls make is longer than what came in: it says more and counts as full. Else prove '..UptoSaid'. A law counts once. -/
mutual
def uptoBulk {H : Type} : DataW H → Nat
  | .lit (.string bytes) => bytes.length + 1
  | .lit _ => 1
  | .nil => 1
  | .ptr d => uptoBulk d + 1
  | .slice elems spare => uptoBulkAll elems + uptoBulkAll spare + 1
  | .agg parts => uptoBulkAll parts + 1
  | .iface _ d => uptoBulk d + 1
  | .map entries => uptoBulkEntries entries + 1
  | .held _ => 1
def uptoBulkAll {H : Type} : List (DataW H) → Nat
  | [] => 0
  | d :: r => uptoBulk d + uptoBulkAll r
def uptoBulkEntries {H : Type} : List (Lit × DataW H) → Nat
  | [] => 0
  | x :: r => uptoBulkEntry x + uptoBulkEntries r
def uptoBulkEntry {H : Type} : Lit × DataW H → Nat
  | (.string bytes, d) => bytes.length + uptoBulk d + 1
  | (_, d) => uptoBulk d + 1
 end
def uptoSmall : (H : Type) → List (DataW H) → Bool := fun _ ds => decide (uptoBulkAll ds ≤ 1048576)
def OpenSpec.upto (s : _root_.Go.ChangeSpec) : _root_.Go.OpenSpec := { _root_.Go.OpenSpec.ofChange s with cond := some uptoSmall }

/-- 'liquidchecklaw33.WellformTypes', WHERE WHAT IT READS IS OF BULK AT MOST 1048576: true; the input reads as it did. -/
def wellformTypesUptoRow : OpenClaim := { program := "ythchpmnkecoafaagreatdoor", sum := "15f3c91467ec75ec538388f8aeb500b50d2f6e4bc9043124ecaa762d7b5ffdbe", func := "liquidcheck/liquidchecklaw33.WellformTypes", spec := "wellformTypes", unfollowed := true, recurses := true, named := ["liquidcheck/names.keywords"], loops := true, apart := false, laid := [("liquidcheck/names.keywords", laid_liquidcheck_names_keywords)], narrowed := true }
def WellformTypesUptoSaid : Prop := wellformTypesUptoRow.holds Tryz.pinned (OpenSpec.upto wellformTypesSpec)

/-- 'liquidchecklaw33.WellformSigs', WHERE WHAT IT READS IS OF BULK AT MOST 1048576: true; the input reads as it did. -/
def wellformSigsUptoRow : OpenClaim := { program := "ythchpmnkecoafaagreatdoor", sum := "15f3c91467ec75ec538388f8aeb500b50d2f6e4bc9043124ecaa762d7b5ffdbe", func := "liquidcheck/liquidchecklaw33.WellformSigs", spec := "wellformSigs", unfollowed := true, recurses := true, named := ["liquidcheck/names.keywords"], loops := true, apart := false, laid := [("liquidcheck/names.keywords", laid_liquidcheck_names_keywords)], narrowed := true }
def WellformSigsUptoSaid : Prop := wellformSigsUptoRow.holds Tryz.pinned (OpenSpec.upto wellformSigsSpec)

/-- 'liquidchecklaw33.WellformPlain', WHERE WHAT IT READS IS OF BULK AT MOST 1048576: true; the input reads as it did. -/
def wellformPlainUptoRow : OpenClaim := { program := "ythchpmnkecoafaagreatdoor", sum := "15f3c91467ec75ec538388f8aeb500b50d2f6e4bc9043124ecaa762d7b5ffdbe", func := "liquidcheck/liquidchecklaw33.WellformPlain", spec := "wellformPlain", unfollowed := true, recurses := true, named := ["liquidcheck/names.keywords"], loops := true, apart := false, laid := [("liquidcheck/names.keywords", laid_liquidcheck_names_keywords)], narrowed := true }
def WellformPlainUptoSaid : Prop := wellformPlainUptoRow.holds Tryz.pinned (OpenSpec.upto wellformPlainSpec)

/-- 'liquidchecklaw33.WellformSymbols', WHERE WHAT IT READS IS OF BULK AT MOST 1048576: true; the input reads as it did. -/
def wellformSymbolsUptoRow : OpenClaim := { program := "ythchpmnkecoafaagreatdoor", sum := "15f3c91467ec75ec538388f8aeb500b50d2f6e4bc9043124ecaa762d7b5ffdbe", func := "liquidcheck/liquidchecklaw33.WellformSymbols", spec := "wellformSymbols", unfollowed := true, recurses := true, named := ["liquidcheck/names.keywords"], loops := true, apart := false, laid := [("liquidcheck/names.keywords", laid_liquidcheck_names_keywords)], narrowed := true }
def WellformSymbolsUptoSaid : Prop := wellformSymbolsUptoRow.holds Tryz.pinned (OpenSpec.upto wellformSymbolsSpec)

end Rows
end Go.Proofs.YthchpmnkecoafaaGreatDoor
