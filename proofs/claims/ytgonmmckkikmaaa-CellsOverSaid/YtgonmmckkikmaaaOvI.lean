/- CellsOver returns true for every list of ints; its argument reads afterwards as before. No conditions. -/
import Derived.Test.YtgonmmckkikmaaaRows
import Derived.Test.YtgonmmckkikmaaaOvH
import Derived.Test.YtgonmmckkikmaaaPvF
namespace Go.Proofs.Ytgonmmckkikmaaa
open Go.Pv
open Go.ChangeShapes Go.WideShapes Go.ChangeAt Go.RowKit
set_option maxRecDepth 100000
theorem own : ownKnob Try.prog.godebug = none := by kernel_rfl
theorem laidOut : laidOutB Try.prog = true := by kernel_rfl
theorem ty_ints {n : Nat} {cs : List PV} (h : Ty Try.prog n 22 cs) : ∃ l : List Int, cs = [.sl 1 (ls l)] := by
  cases n with
  | zero => exact h.elim
  | succ n =>
    simp only [Ty, Try.underlying22] at h
    obtain ⟨es, rfl, -, hes⟩ := h
    have h1 : Try.prog.cellsOf 3 = 1 := by kernel_rfl
    rw [h1]
    suffices ∃ l : List Int, es = ls l by obtain ⟨l, rfl⟩ := this; exact ⟨l, rfl⟩
    clear h1
    induction es with
    | nil => exact ⟨[], rfl⟩
    | cons x r ih =>
      obtain ⟨l, rfl⟩ := ih fun y hy => hes y (List.mem_cons_of_mem _ hy)
      have := hes x (by simp)
      cases n with
      | zero => exact this.elim
      | succ n =>
        simp only [Ty, Try.underlying3] at this
        obtain ⟨v, rfl, -⟩ := this
        exact ⟨v :: l, rfl⟩
theorem lifted (os : Os) (started : os.Started) (H : Type) (enc : TypeId × Value → H) :
    ReturnsInHanded {} Try.checked os 3 .any (Rows.cellsOverSpec.pre6 enc Try.prog Try.f3 Rows.cellsOverRow.domain false) (Rows.cellsOverSpec.post enc Try.prog Try.f3 false true false false) := by
  refine returnsInHanded_of_change (C := Try.checked) own started (by kernel_rfl) Try.func3
    (ChangeSpec.witness6 (enc := enc) (C := Try.checked) false ⟨#[], #[.slice none 0 0], []⟩ 8 (by kernel_rfl) (by kernel_rfl) (by kernel_rfl) (by kernel_rfl)) ?_
  intro W base args ds gs before hval hW hcnd _
  refine law_contract (P := Try.prog) (tb := 4) [22, 3] (by kernel_rfl) laidOut (by kernel_rfl) (by kernel_rfl) Try.underlying4 rfl ?_ hval hW ?_
  · intro ds hd
    rw [Try.params3] at hd
    match ds, hd with
    | [d], _ => rfl
  · intro css hty _
    rw [Try.params3] at hty ⊢
    match css, hty with
    | [cs], ⟨⟨n, h⟩, _⟩ =>
      obtain ⟨l, rfl⟩ := ty_ints h
      have e : argPVs Try.prog [22] [[PV.sl 1 (ls l)]] = [.sl 1 (ls l)] := by simp only [argPVs, argPV, Try.underlying22]; rfl
      have := over l
      rw [← e] at this
      exact this
theorem cellsOver_holds : Rows.CellsOverSaid :=
  OpenClaim.holds_of_wide 3 Try.f3 rfl rfl rfl rfl rfl rfl rfl ⟨rfl, rfl, rfl, rfl, rfl⟩ rfl rfl rfl rfl rfl (by kernel_rfl) Try.func3 (by kernel_rfl)
    (of_decide_eq_true (by kernel_rfl)) (by unfold Func.isWrapper; first | (rw [if_pos (by decide +kernel)]; kernel_rfl) | (rw [if_neg (by decide +kernel)]; exact ⟨rfl, rfl⟩))
    (fun os started H enc _ => lifted os started H enc)
#print axioms cellsOver_holds
end Go.Proofs.Ytgonmmckkikmaaa
