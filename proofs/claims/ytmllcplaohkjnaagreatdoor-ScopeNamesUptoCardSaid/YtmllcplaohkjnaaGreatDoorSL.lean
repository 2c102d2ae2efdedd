/- From the statements of the seat to pure values: types, bulks, what the listed variable holds. -/
import Derived.Test.YtmllcplaohkjnaaGreatDoorRows
import Derived.Test.YtmllcplaohkjnaaGreatDoorSB
import Derived.JoinedCond
import Derived.Deep.DeepHandedRow
import Derived.Lib.LaidTab
set_option linter.unusedVariables false
set_option linter.unusedSimpArgs false
set_option linter.unusedSectionVars false
namespace Go.Proofs.YtmllcplaohkjnaaGreatDoor
open Go.Pv
open Go.ChangeShapes Go.WideShapes Go.ChangeAt Go.RowKit
set_option maxRecDepth 100000
theorem own : ownKnob Tryz.prog.godebug = none := by kernel_rfl
theorem laidOut : laidOutB Tryz.prog = true := by kernel_rfl
def compsT (P : Program) (t : TypeId) : List TypeId := match P.underlying t with
  | some (.slice e) => [e]
  | some (.struct fs) => fs.toList.map fun f => f.type
  | _ => []
def addT (l : List TypeId) (x : TypeId) : List TypeId := if l.contains x then l else l ++ [x]
def reachT (P : Program) : Nat → List TypeId → List TypeId
  | 0, l => l
  | n + 1, l => reachT P n ((l.map (compsT P)).flatten.foldl addT l)
mutual
theorem bulk_eq {H : Type} : ∀ d : DataW H, bulkD d = Rows.uptoBulk d
  | .lit q => by cases q <;> rfl
  | .nil => rfl
  | .ptr d => by rw [bulkD, Rows.uptoBulk, bulk_eq d]
  | .slice a b => by rw [bulkD, Rows.uptoBulk, bulks_eq a, bulks_eq b]
  | .agg a => by rw [bulkD, Rows.uptoBulk, bulks_eq a]
  | .iface _ d => by rw [bulkD, Rows.uptoBulk, bulk_eq d]
  | .map es => by rw [bulkD, Rows.uptoBulk, bulkm_eq es]
  | .held _ => rfl
theorem bulks_eq {H : Type} : ∀ l : List (DataW H), bulkDs l = Rows.uptoBulkAll l
  | [] => rfl
  | d :: r => by rw [bulkDs, Rows.uptoBulkAll, bulk_eq d, bulks_eq r]
theorem bulkm_eq {H : Type} : ∀ l : List (Lit × DataW H), bulkDm l = Rows.uptoBulkEntries l
  | [] => rfl
  | x :: r => by rw [bulkDm, Rows.uptoBulkEntries, bulke_eq x, bulkm_eq r]
theorem bulke_eq {H : Type} : ∀ x : Lit × DataW H, bulkDe x = Rows.uptoBulkEntry x
  | (q, d) => by cases q <;> simp only [bulkDe, Rows.uptoBulkEntry, bulk_eq d]
end
theorem upto_le {H : Type} : ∀ {a b : List (DataW H)}, bulkDs a ≤ Rows.uptoBulkAll (a ++ b)
  | [], b => Nat.zero_le _
  | d :: a, b => by
    have := upto_le (a := a) (b := b)
    rw [List.cons_append, bulkDs, Rows.uptoBulkAll, bulk_eq d]
    omega
theorem small_le {H : Type} {a b : List (DataW H)} (hk : Rows.uptoSmall H (a ++ b) = true) : bulkDs a ≤ 1048576 := by
  have h : Rows.uptoBulkAll (a ++ b) ≤ 1048576 := of_decide_eq_true hk
  have := upto_le (a := a) (b := b)
  omega
/-- The texts that the listed variable holds. -/
def kwZ : List (List UInt8) := [[97, 110, 100], [97, 115, 115, 117, 109, 101], [98, 111, 111, 108], [98, 111, 117, 110, 100], [99, 97, 115, 101], [99, 101, 108, 108], [99, 108, 97, 115, 115], [100, 97, 116, 97], [100, 101, 102], [100, 105, 118], [101, 108, 115, 101], [101, 110, 100], [102, 97, 108, 115, 101], [102, 111, 114, 97, 108, 108], [102, 117, 110], [103, 101, 116], [105, 102], [105, 110], [105, 110, 115, 116], [105, 110, 116], [105, 110, 118, 97, 114, 105, 97, 110, 116], [108, 101, 116], [109, 97, 116, 99, 104], [109, 101, 97, 115, 117, 114, 101], [109, 101, 116, 114, 105, 99], [109, 111, 100], [109, 117], [110, 101, 119], [110, 111, 116], [111, 102], [111, 114], [113, 117, 97, 108], [114, 101, 102, 108, 101, 99, 116], [115, 101, 116], [116, 104, 101, 110], [116, 114, 117, 101], [117, 115, 101], [118], [118, 97, 108], [116, 97, 103], [119, 104, 101, 114, 101], [119, 105, 116, 104]]
theorem gTab : Tryz.prog.globalNamed "liquidcheck/names.keywords" = some 0 := by kernel_rfl
theorem gTabType : (Tryz.prog.globals[0]?).map (·.type) = some 251 := by kernel_rfl
theorem cellsTab : Tryz.prog.cellsOf 251 = 42 := by kernel_rfl
theorem cellsStr : Tryz.prog.cellsOf 9 = 1 := by kernel_rfl
theorem gokD {W : World} (h : laidMetH Tryz.prog [("liquidcheck/names.keywords", Rows.laid_liquidcheck_names_keywords)] W) : GOK g0 W :=
  gok_texts (g := 0) (zs := kwZ) rfl (texts_of_head (zs := kwZ) (rest := []) gTab gTabType Tryz.underlying251 Tryz.underlying9 cellsStr cellsTab h)
noncomputable def laidWorld (os : Os) : World :=
  { World.holding Tryz.prog os ⟨#[], #[], []⟩ with heap := (World.holding Tryz.prog os ⟨#[], #[], []⟩).heap.modify 0 fun
      | .cells _ t frozen => .cells (kwZ.map fun z => Value.string ⟨z.toArray⟩).toArray t frozen
      | o => o }
end Go.Proofs.YtmllcplaohkjnaaGreatDoor
