/-
  NARROWER THAN 'FOR EVERY INPUT', by the rows' own cells (each row's printed sentence says how): ReflectCases: loops, laid · ReflectPaths: loops, laid.
  DERIVED. THE GIVEN ROWS OF THIS SEAT. 2 by the template 'for every input the law returns true; each argument reads behind the call as it read before'; 0 by the template 'total and deterministic' (their statements: YtidabncghfbdaaaGreatDoorTotals.lean).
  GIVEN WITH THE SEED: the statements are not yours to turn. If you find one false, say at which input.
  Laid BY PROGRAM, IN A SANDBOX (cutbox-rows.mjs): the forced cells as the released guide's own fill.sh prints them over the translation ba4730bd431151c2… (all of the seat's roots in one cut). By AI agents, Wed Nov 11 2026. No macro, syntax, notation, axiom, sorry.
-/
import Derived.Test.YtidabncghfbdaaaGreatDoorChecked
import GoSem.Claim
import GoSem.ClaimJoined
import GoSem.ClaimMapViews
import Derived.JoinedTies
import Derived.KernelRfl
namespace Go.Proofs.YtidabncghfbdaaaGreatDoor
/- THE CELL 'sum', in the pinned program and in every row, IS THE sha256 OF THE DUMP (.gsa) THAT YtidabncghfbdaaaGreatDoorProg.lean LOADS. Nothing in Lean hashes anything: it is a label: what it is worth is what the hold of that sum in a sandbox is worth. -/
noncomputable def Tryz.pinned : Pinned := { name := "ytidabncghfbdaaagreatdoor", sum := "ba4730bd431151c2ea55109a9fcee97188f2106e4919845a829553c1fce0e8ab", checked := Tryz.checked }
namespace Rows
def none {H : Type} : Left H := { results := [], args := [] }

/- WHAT THE LISTED PACKAGE-LEVEL VARIABLES READ AS WHEN THE CALL BEGINS. Each datum BY PROGRAM (the guide's laid-datum.mjs) off the statement by which the dump's own 'gosem.cut.vars' lays the variable. In a bare row this is a premise. The card (YtidabncghfbdaaaGreatDoorCards.lean) ties it to the program's text. -/
def laid_liquidcheck_names_keywords {H : Type} : DataW H := .agg [.lit (.string [97, 110, 100]), .lit (.string [97, 115, 115, 117, 109, 101]), .lit (.string [98, 111, 111, 108]), .lit (.string [98, 111, 117, 110, 100]), .lit (.string [99, 97, 115, 101]), .lit (.string [99, 101, 108, 108]), .lit (.string [99, 108, 97, 115, 115]), .lit (.string [100, 97, 116, 97]), .lit (.string [100, 101, 102]), .lit (.string [100, 105, 118]), .lit (.string [101, 108, 115, 101]), .lit (.string [101, 110, 100]), .lit (.string [102, 97, 108, 115, 101]), .lit (.string [102, 111, 114, 97, 108, 108]), .lit (.string [102, 117, 110]), .lit (.string [103, 101, 116]), .lit (.string [105, 102]), .lit (.string [105, 110]), .lit (.string [105, 110, 115, 116]), .lit (.string [105, 110, 116]), .lit (.string [105, 110, 118, 97, 114, 105, 97, 110, 116]), .lit (.string [108, 101, 116]), .lit (.string [109, 97, 116, 99, 104]), .lit (.string [109, 101, 97, 115, 117, 114, 101]), .lit (.string [109, 101, 116, 114, 105, 99]), .lit (.string [109, 111, 100]), .lit (.string [109, 117]), .lit (.string [110, 101, 119]), .lit (.string [110, 111, 116]), .lit (.string [111, 102]), .lit (.string [111, 114]), .lit (.string [113, 117, 97, 108]), .lit (.string [114, 101, 102, 108, 101, 99, 116]), .lit (.string [115, 101, 116]), .lit (.string [116, 104, 101, 110]), .lit (.string [116, 114, 117, 101]), .lit (.string [117, 115, 101]), .lit (.string [118]), .lit (.string [118, 97, 108]), .lit (.string [116, 97, 103]), .lit (.string [119, 104, 101, 114, 101]), .lit (.string [119, 105, 116, 104])]

/-- 'liquidchecklaw40.ReflectCases': WHATEVER THE INPUT: true; the input reads as it did. -/
def reflectCasesSpec : ChangeSpec := { name := "reflectCases", fn := fun _ => fun
  | [d1, d2] => { results := [.lit (.bool true)], args := [d1, d2] }
  | _ => none }
def reflectCasesRow : OpenClaim := { program := "ytidabncghfbdaaagreatdoor", sum := "ba4730bd431151c2ea55109a9fcee97188f2106e4919845a829553c1fce0e8ab", func := "liquidcheck/liquidchecklaw40.ReflectCases", spec := "reflectCases", unfollowed := true, recurses := true, named := ["liquidcheck/names.keywords"], loops := true, apart := false, laid := [("liquidcheck/names.keywords", laid_liquidcheck_names_keywords)] }
def ReflectCasesSaid : Prop := reflectCasesRow.holds Tryz.pinned (OpenSpec.ofChange reflectCasesSpec)

/-- ITS FALSE NEIGHBOUR: 'it returns false'. Refute it at one input. -/
def reflectCasesWrong : ChangeSpec := { name := "reflectCases", fn := fun _ => fun
  | [d1, d2] => { results := [.lit (.bool false)], args := [d1, d2] }
  | _ => none }
def ReflectCasesWrongFalsely : Prop := reflectCasesRow.holds Tryz.pinned (OpenSpec.ofChange reflectCasesWrong)

/-- 'liquidchecklaw40.ReflectPaths': WHATEVER THE INPUT: true; the input reads as it did. -/
def reflectPathsSpec : ChangeSpec := { name := "reflectPaths", fn := fun _ => fun
  | [d1, d2, d3] => { results := [.lit (.bool true)], args := [d1, d2, d3] }
  | _ => none }
def reflectPathsRow : OpenClaim := { program := "ytidabncghfbdaaagreatdoor", sum := "ba4730bd431151c2ea55109a9fcee97188f2106e4919845a829553c1fce0e8ab", func := "liquidcheck/liquidchecklaw40.ReflectPaths", spec := "reflectPaths", unfollowed := true, recurses := true, named := ["liquidcheck/names.keywords"], loops := true, apart := false, laid := [("liquidcheck/names.keywords", laid_liquidcheck_names_keywords)] }
def ReflectPathsSaid : Prop := reflectPathsRow.holds Tryz.pinned (OpenSpec.ofChange reflectPathsSpec)

/-- ITS FALSE NEIGHBOUR: 'it returns false'. Refute it at one input. -/
def reflectPathsWrong : ChangeSpec := { name := "reflectPaths", fn := fun _ => fun
  | [d1, d2, d3] => { results := [.lit (.bool false)], args := [d1, d2, d3] }
  | _ => none }
def ReflectPathsWrongFalsely : Prop := reflectPathsRow.holds Tryz.pinned (OpenSpec.ofChange reflectPathsWrong)

/- THE SECOND FORM. 'bulk': how many values and letters a reading holds, each counted each time it is reached (what is shared counts as often as it is met; a slice's spare places count too). A statement '..UptoSaid' is the law's where the arguments, and the package variables that the reading takes, are together of bulk at most 1048576: NARROWER than '..Said'. Prove '..Said' where nothing that the law and all that it calls make is longer than what came in: it says more and counts as full. Else prove '..UptoSaid'. A law counts once. -/
mutual
def uptoBulk {H : Type} : DataW H → Nat
  | .lit (.string bytes) => bytes.length + 1
  | .lit _ => 1
  | .nil => 1
  | .ptr d => uptoBulk d + 1
  | .slice elems spare => uptoBulkAll elems + uptoBulkAll spare + 1
  | .agg parts => uptoBulkAll parts + 1
  | .iface _ d => uptoBulk d + 1
  | .map entries => uptoBulkEntries entries + 1
  | .held _ => 1
def uptoBulkAll {H : Type} : List (DataW H) → Nat
  | [] => 0
  | d :: r => uptoBulk d + uptoBulkAll r
def uptoBulkEntries {H : Type} : List (Lit × DataW H) → Nat
  | [] => 0
  | x :: r => uptoBulkEntry x + uptoBulkEntries r
def uptoBulkEntry {H : Type} : Lit × DataW H → Nat
  | (.string bytes, d) => bytes.length + uptoBulk d + 1
  | (_, d) => uptoBulk d + 1
 end
def uptoSmall : (H : Type) → List (DataW H) → Bool := fun _ ds => decide (uptoBulkAll ds ≤ 1048576)
def OpenSpec.upto (s : _root_.Go.ChangeSpec) : _root_.Go.OpenSpec := { _root_.Go.OpenSpec.ofChange s with cond := some uptoSmall }

/-- 'liquidchecklaw40.ReflectCases', WHERE WHAT IT READS IS OF BULK AT MOST 1048576: true; the input reads as it did. -/
def reflectCasesUptoRow : OpenClaim := { program := "ytidabncghfbdaaagreatdoor", sum := "ba4730bd431151c2ea55109a9fcee97188f2106e4919845a829553c1fce0e8ab", func := "liquidcheck/liquidchecklaw40.ReflectCases", spec := "reflectCases", unfollowed := true, recurses := true, named := ["liquidcheck/names.keywords"], loops := true, apart := false, laid := [("liquidcheck/names.keywords", laid_liquidcheck_names_keywords)], narrowed := true }
def ReflectCasesUptoSaid : Prop := reflectCasesUptoRow.holds Tryz.pinned (OpenSpec.upto reflectCasesSpec)

/-- 'liquidchecklaw40.ReflectPaths', WHERE WHAT IT READS IS OF BULK AT MOST 1048576: true; the input reads as it did. -/
def reflectPathsUptoRow : OpenClaim := { program := "ytidabncghfbdaaagreatdoor", sum := "ba4730bd431151c2ea55109a9fcee97188f2106e4919845a829553c1fce0e8ab", func := "liquidcheck/liquidchecklaw40.ReflectPaths", spec := "reflectPaths", unfollowed := true, recurses := true, named := ["liquidcheck/names.keywords"], loops := true, apart := false, laid := [("liquidcheck/names.keywords", laid_liquidcheck_names_keywords)], narrowed := true }
def ReflectPathsUptoSaid : Prop := reflectPathsUptoRow.holds Tryz.pinned (OpenSpec.upto reflectPathsSpec)

end Rows
end Go.Proofs.YtidabncghfbdaaaGreatDoor
