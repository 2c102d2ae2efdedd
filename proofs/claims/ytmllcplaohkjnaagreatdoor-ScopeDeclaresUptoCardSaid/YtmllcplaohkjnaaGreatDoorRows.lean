/-
  NARROWER THAN 'FOR EVERY INPUT', by the rows' own cells (each row's printed sentence says how): ScopeModules: loops, laid · ScopeOrder: loops, laid · ScopeSpoils: loops, laid · ScopeNames: loops, laid · ScopeDeclares: loops, laid.
  DERIVED. THE GIVEN ROWS OF THIS SEAT. 5 by the template 'for every input the law returns true; each argument reads behind the call as it read before'; 0 by the template 'total and deterministic' (their statements: YtmllcplaohkjnaaGreatDoorTotals.lean).
  GIVEN WITH THE SEED: the statements are not yours to turn. If you find one false, say at which input.
  Laid BY PROGRAM, IN A SANDBOX (cutbox-rows.mjs): the forced cells as the released guide's own fill.sh prints them over the translation 0da8679cf0cecd0e… (all of the seat's roots in one cut). By AI agents, Wed Nov 11 2026. No macro, syntax, notation, axiom, sorry.
-/
import Derived.Test.YtmllcplaohkjnaaGreatDoorChecked
import GoSem.Claim
import GoSem.ClaimJoined
import GoSem.ClaimMapViews
import Derived.JoinedTies
import Derived.KernelRfl
namespace Go.Proofs.YtmllcplaohkjnaaGreatDoor
/- THE CELL 'sum', in the pinned program and in every row, IS THE sha256 OF THE DUMP (.gsa) THAT YtmllcplaohkjnaaGreatDoorProg.lean LOADS. Nothing in Lean hashes anything: it is a label: what it is worth is what the hold of that sum in a sandbox is worth. -/
noncomputable def Tryz.pinned : Pinned := { name := "ytmllcplaohkjnaagreatdoor", sum := "0da8679cf0cecd0ec8b6e06119bab5d4f7409f9c9bf1df87cd1a2d4cad18079a", checked := Tryz.checked }
namespace Rows
def none {H : Type} : Left H := { results := [], args := [] }

/- WHAT THE LISTED PACKAGE-LEVEL VARIABLES READ AS WHEN THE CALL BEGINS. Each datum BY PROGRAM (the guide's laid-datum.mjs) off the statement by which the dump's own 'gosem.cut.vars' lays the variable. In a bare row this is a premise. The card (YtmllcplaohkjnaaGreatDoorCards.lean) ties it to the program's text. -/
def laid_liquidcheck_names_keywords {H : Type} : DataW H := .agg [.lit (.string [97, 110, 100]), .lit (.string [97, 115, 115, 117, 109, 101]), .lit (.string [98, 111, 111, 108]), .lit (.string [98, 111, 117, 110, 100]), .lit (.string [99, 97, 115, 101]), .lit (.string [99, 101, 108, 108]), .lit (.string [99, 108, 97, 115, 115]), .lit (.string [100, 97, 116, 97]), .lit (.string [100, 101, 102]), .lit (.string [100, 105, 118]), .lit (.string [101, 108, 115, 101]), .lit (.string [101, 110, 100]), .lit (.string [102, 97, 108, 115, 101]), .lit (.string [102, 111, 114, 97, 108, 108]), .lit (.string [102, 117, 110]), .lit (.string [103, 101, 116]), .lit (.string [105, 102]), .lit (.string [105, 110]), .lit (.string [105, 110, 115, 116]), .lit (.string [105, 110, 116]), .lit (.string [105, 110, 118, 97, 114, 105, 97, 110, 116]), .lit (.string [108, 101, 116]), .lit (.string [109, 97, 116, 99, 104]), .lit (.string [109, 101, 97, 115, 117, 114, 101]), .lit (.string [109, 101, 116, 114, 105, 99]), .lit (.string [109, 111, 100]), .lit (.string [109, 117]), .lit (.string [110, 101, 119]), .lit (.string [110, 111, 116]), .lit (.string [111, 102]), .lit (.string [111, 114]), .lit (.string [113, 117, 97, 108]), .lit (.string [114, 101, 102, 108, 101, 99, 116]), .lit (.string [115, 101, 116]), .lit (.string [116, 104, 101, 110]), .lit (.string [116, 114, 117, 101]), .lit (.string [117, 115, 101]), .lit (.string [118]), .lit (.string [118, 97, 108]), .lit (.string [116, 97, 103]), .lit (.string [119, 104, 101, 114, 101]), .lit (.string [119, 105, 116, 104])]

/-- 'liquidchecklaw23.ScopeModules': WHATEVER THE INPUT: true; the input reads as it did. -/
def scopeModulesSpec : ChangeSpec := { name := "scopeModules", fn := fun _ => fun
  | [d] => { results := [.lit (.bool true)], args := [d] }
  | _ => none }
def scopeModulesRow : OpenClaim := { program := "ytmllcplaohkjnaagreatdoor", sum := "0da8679cf0cecd0ec8b6e06119bab5d4f7409f9c9bf1df87cd1a2d4cad18079a", func := "liquidcheck/liquidchecklaw23.ScopeModules", spec := "scopeModules", unfollowed := true, recurses := true, named := ["liquidcheck/names.keywords"], loops := true, apart := false, laid := [("liquidcheck/names.keywords", laid_liquidcheck_names_keywords)] }
def ScopeModulesSaid : Prop := scopeModulesRow.holds Tryz.pinned (OpenSpec.ofChange scopeModulesSpec)

/-- ITS FALSE NEIGHBOUR: 'it returns false'. Refute it at one input. -/
def scopeModulesWrong : ChangeSpec := { name := "scopeModules", fn := fun _ => fun
  | [d] => { results := [.lit (.bool false)], args := [d] }
  | _ => none }
def ScopeModulesWrongFalsely : Prop := scopeModulesRow.holds Tryz.pinned (OpenSpec.ofChange scopeModulesWrong)

/-- 'liquidchecklaw23.ScopeOrder': WHATEVER THE INPUT: true; the input reads as it did. -/
def scopeOrderSpec : ChangeSpec := { name := "scopeOrder", fn := fun _ => fun
  | [d1, d2] => { results := [.lit (.bool true)], args := [d1, d2] }
  | _ => none }
def scopeOrderRow : OpenClaim := { program := "ytmllcplaohkjnaagreatdoor", sum := "0da8679cf0cecd0ec8b6e06119bab5d4f7409f9c9bf1df87cd1a2d4cad18079a", func := "liquidcheck/liquidchecklaw23.ScopeOrder", spec := "scopeOrder", unfollowed := true, recurses := true, named := ["liquidcheck/names.keywords"], loops := true, apart := false, laid := [("liquidcheck/names.keywords", laid_liquidcheck_names_keywords)] }
def ScopeOrderSaid : Prop := scopeOrderRow.holds Tryz.pinned (OpenSpec.ofChange scopeOrderSpec)

/-- ITS FALSE NEIGHBOUR: 'it returns false'. Refute it at one input. -/
def scopeOrderWrong : ChangeSpec := { name := "scopeOrder", fn := fun _ => fun
  | [d1, d2] => { results := [.lit (.bool false)], args := [d1, d2] }
  | _ => none }
def ScopeOrderWrongFalsely : Prop := scopeOrderRow.holds Tryz.pinned (OpenSpec.ofChange scopeOrderWrong)

/-- 'liquidchecklaw23.ScopeSpoils': WHATEVER THE INPUT: true; the input reads as it did. -/
def scopeSpoilsSpec : ChangeSpec := { name := "scopeSpoils", fn := fun _ => fun
  | [d] => { results := [.lit (.bool true)], args := [d] }
  | _ => none }
def scopeSpoilsRow : OpenClaim := { program := "ytmllcplaohkjnaagreatdoor", sum := "0da8679cf0cecd0ec8b6e06119bab5d4f7409f9c9bf1df87cd1a2d4cad18079a", func := "liquidcheck/liquidchecklaw23.ScopeSpoils", spec := "scopeSpoils", unfollowed := true, recurses := true, named := ["liquidcheck/names.keywords"], loops := true, apart := false, laid := [("liquidcheck/names.keywords", laid_liquidcheck_names_keywords)] }
def ScopeSpoilsSaid : Prop := scopeSpoilsRow.holds Tryz.pinned (OpenSpec.ofChange scopeSpoilsSpec)

/-- ITS FALSE NEIGHBOUR: 'it returns false'. Refute it at one input. -/
def scopeSpoilsWrong : ChangeSpec := { name := "scopeSpoils", fn := fun _ => fun
  | [d] => { results := [.lit (.bool false)], args := [d] }
  | _ => none }
def ScopeSpoilsWrongFalsely : Prop := scopeSpoilsRow.holds Tryz.pinned (OpenSpec.ofChange scopeSpoilsWrong)

/-- 'liquidchecklaw23.ScopeNames': WHATEVER THE INPUT: true; the input reads as it did. -/
def scopeNamesSpec : ChangeSpec := { name := "scopeNames", fn := fun _ => fun
  | [d1, d2] => { results := [.lit (.bool true)], args := [d1, d2] }
  | _ => none }
def scopeNamesRow : OpenClaim := { program := "ytmllcplaohkjnaagreatdoor", sum := "0da8679cf0cecd0ec8b6e06119bab5d4f7409f9c9bf1df87cd1a2d4cad18079a", func := "liquidcheck/liquidchecklaw23.ScopeNames", spec := "scopeNames", unfollowed := true, recurses := true, named := ["liquidcheck/names.keywords"], loops := true, apart := false, laid := [("liquidcheck/names.keywords", laid_liquidcheck_names_keywords)] }
def ScopeNamesSaid : Prop := scopeNamesRow.holds Tryz.pinned (OpenSpec.ofChange scopeNamesSpec)

/-- ITS FALSE NEIGHBOUR: 'it returns false'. Refute it at one input. -/
def scopeNamesWrong : ChangeSpec := { name := "scopeNames", fn := fun _ => fun
  | [d1, d2] => { results := [.lit (.bool false)], args := [d1, d2] }
  | _ => none }
def ScopeNamesWrongFalsely : Prop := scopeNamesRow.holds Tryz.pinned (OpenSpec.ofChange scopeNamesWrong)

/-- 'liquidchecklaw23.ScopeDeclares': WHATEVER THE INPUT: true; the input reads as it did. -/
def scopeDeclaresSpec : ChangeSpec := { name := "scopeDeclares", fn := fun _ => fun
  | [d] => { results := [.lit (.bool true)], args := [d] }
  | _ => none }
def scopeDeclaresRow : OpenClaim := { program := "ytmllcplaohkjnaagreatdoor", sum := "0da8679cf0cecd0ec8b6e06119bab5d4f7409f9c9bf1df87cd1a2d4cad18079a", func := "liquidcheck/liquidchecklaw23.ScopeDeclares", spec := "scopeDeclares", unfollowed := true, recurses := true, named := ["liquidcheck/names.keywords"], loops := true, apart := false, laid := [("liquidcheck/names.keywords", laid_liquidcheck_names_keywords)] }
def ScopeDeclaresSaid : Prop := scopeDeclaresRow.holds Tryz.pinned (OpenSpec.ofChange scopeDeclaresSpec)

/-- ITS FALSE NEIGHBOUR: 'it returns false'. Refute it at one input. -/
def scopeDeclaresWrong : ChangeSpec := { name := "scopeDeclares", fn := fun _ => fun
  | [d] => { results := [.lit (.bool false)], args := [d] }
  | _ => none }
def ScopeDeclaresWrongFalsely : Prop := scopeDeclaresRow.holds Tryz.pinned (OpenSpec.ofChange scopeDeclaresWrong)

/- THE SECOND FORM. 'bulk': how many values and letters a reading holds, each counted each time it is reached (what is shared counts as often as it is met; a slice's spare places count too). A statement '..UptoSaid' is the law's where the arguments, and the package variables that the reading takes, are together of bulk at most 1048576: NARROWER than '..Said'. Prove '..Said' where nothing that the law and all that it calls make is longer than what came in: it says more and counts as full. Else prove '..UptoSaid'. A law counts once. -/
mutual
def uptoBulk {H : Type} : DataW H → Nat
  | .lit (.string bytes) => bytes.length + 1
  | .lit _ => 1
  | .nil => 1
  | .ptr d => uptoBulk d + 1
  | .slice elems spare => uptoBulkAll elems + uptoBulkAll spare + 1
  | .agg parts => uptoBulkAll parts + 1
  | .iface _ d => uptoBulk d + 1
  | .map entries => uptoBulkEntries entries + 1
  | .held _ => 1
def uptoBulkAll {H : Type} : List (DataW H) → Nat
  | [] => 0
  | d :: r => uptoBulk d + uptoBulkAll r
def uptoBulkEntries {H : Type} : List (Lit × DataW H) → Nat
  | [] => 0
  | x :: r => uptoBulkEntry x + uptoBulkEntries r
def uptoBulkEntry {H : Type} : Lit × DataW H → Nat
  | (.string bytes, d) => bytes.length + uptoBulk d + 1
  | (_, d) => uptoBulk d + 1
 end
def uptoSmall : (H : Type) → List (DataW H) → Bool := fun _ ds => decide (uptoBulkAll ds ≤ 1048576)
def OpenSpec.upto (s : _root_.Go.ChangeSpec) : _root_.Go.OpenSpec := { _root_.Go.OpenSpec.ofChange s with cond := some uptoSmall }

/-- 'liquidchecklaw23.ScopeModules', WHERE WHAT IT READS IS OF BULK AT MOST 1048576: true; the input reads as it did. -/
def scopeModulesUptoRow : OpenClaim := { program := "ytmllcplaohkjnaagreatdoor", sum := "0da8679cf0cecd0ec8b6e06119bab5d4f7409f9c9bf1df87cd1a2d4cad18079a", func := "liquidcheck/liquidchecklaw23.ScopeModules", spec := "scopeModules", unfollowed := true, recurses := true, named := ["liquidcheck/names.keywords"], loops := true, apart := false, laid := [("liquidcheck/names.keywords", laid_liquidcheck_names_keywords)], narrowed := true }
def ScopeModulesUptoSaid : Prop := scopeModulesUptoRow.holds Tryz.pinned (OpenSpec.upto scopeModulesSpec)

/-- 'liquidchecklaw23.ScopeOrder', WHERE WHAT IT READS IS OF BULK AT MOST 1048576: true; the input reads as it did. -/
def scopeOrderUptoRow : OpenClaim := { program := "ytmllcplaohkjnaagreatdoor", sum := "0da8679cf0cecd0ec8b6e06119bab5d4f7409f9c9bf1df87cd1a2d4cad18079a", func := "liquidcheck/liquidchecklaw23.ScopeOrder", spec := "scopeOrder", unfollowed := true, recurses := true, named := ["liquidcheck/names.keywords"], loops := true, apart := false, laid := [("liquidcheck/names.keywords", laid_liquidcheck_names_keywords)], narrowed := true }
def ScopeOrderUptoSaid : Prop := scopeOrderUptoRow.holds Tryz.pinned (OpenSpec.upto scopeOrderSpec)

/-- 'liquidchecklaw23.ScopeSpoils', WHERE WHAT IT READS IS OF BULK AT MOST 1048576: true; the input reads as it did. -/
def scopeSpoilsUptoRow : OpenClaim := { program := "ytmllcplaohkjnaagreatdoor", sum := "0da8679cf0cecd0ec8b6e06119bab5d4f7409f9c9bf1df87cd1a2d4cad18079a", func := "liquidcheck/liquidchecklaw23.ScopeSpoils", spec := "scopeSpoils", unfollowed := true, recurses := true, named := ["liquidcheck/names.keywords"], loops := true, apart := false, laid := [("liquidcheck/names.keywords", laid_liquidcheck_names_keywords)], narrowed := true }
def ScopeSpoilsUptoSaid : Prop := scopeSpoilsUptoRow.holds Tryz.pinned (OpenSpec.upto scopeSpoilsSpec)

/-- 'liquidchecklaw23.ScopeNames', WHERE WHAT IT READS IS OF BULK AT MOST 1048576: true; the input reads as it did. -/
def scopeNamesUptoRow : OpenClaim := { program := "ytmllcplaohkjnaagreatdoor", sum := "0da8679cf0cecd0ec8b6e06119bab5d4f7409f9c9bf1df87cd1a2d4cad18079a", func := "liquidcheck/liquidchecklaw23.ScopeNames", spec := "scopeNames", unfollowed := true, recurses := true, named := ["liquidcheck/names.keywords"], loops := true, apart := false, laid := [("liquidcheck/names.keywords", laid_liquidcheck_names_keywords)], narrowed := true }
def ScopeNamesUptoSaid : Prop := scopeNamesUptoRow.holds Tryz.pinned (OpenSpec.upto scopeNamesSpec)

/-- 'liquidchecklaw23.ScopeDeclares', WHERE WHAT IT READS IS OF BULK AT MOST 1048576: true; the input reads as it did. -/
def scopeDeclaresUptoRow : OpenClaim := { program := "ytmllcplaohkjnaagreatdoor", sum := "0da8679cf0cecd0ec8b6e06119bab5d4f7409f9c9bf1df87cd1a2d4cad18079a", func := "liquidcheck/liquidchecklaw23.ScopeDeclares", spec := "scopeDeclares", unfollowed := true, recurses := true, named := ["liquidcheck/names.keywords"], loops := true, apart := false, laid := [("liquidcheck/names.keywords", laid_liquidcheck_names_keywords)], narrowed := true }
def ScopeDeclaresUptoSaid : Prop := scopeDeclaresUptoRow.holds Tryz.pinned (OpenSpec.upto scopeDeclaresSpec)

end Rows
end Go.Proofs.YtmllcplaohkjnaaGreatDoor
