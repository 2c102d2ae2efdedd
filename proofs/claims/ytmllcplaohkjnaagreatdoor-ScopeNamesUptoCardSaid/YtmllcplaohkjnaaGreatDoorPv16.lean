/- Pure values, sixteenth part: rules in the form in which proofs use them. -/
import Derived.Test.YtmllcplaohkjnaaGreatDoorPv15
set_option linter.unusedVariables false
set_option linter.unusedSimpArgs false
set_option linter.unusedSectionVars false
namespace Go.Pv
open Go.RowKit

section
variable {P : Program} {cx : Cx} {s t : S} {Q : PExit → S → Prop}

/-- A region without calls, and what follows; the rest stands behind a letter. -/
theorem PW_reg (ro : TypeId → Option Bool) (n : Nat) {id : Nat} {ops : List Oper} {y : Code} (hn : cx.n = n) (hall : dstOK n ops = true)
    (h : ∀ K : S → Prop, (∀ s', PW P cx y s' Q → K s') → wpL P ro n ops ops s fun rest s' => rest = [] ∧ K s') : PW P cx (.seq (.region id ops.toArray false) y) s Q := by
  subst hn
  refine PW_seq (PW_region (ro := ro) hall ?_)
  have := h (fun s' => PW P cx y s' Q) fun _ h => h
  exact wpL_mono (fun rest s' ⟨hr, hk⟩ => by subst hr; exact PL_nil hk) this
/-- A region at the end. -/
theorem PW_reg0 (ro : TypeId → Option Bool) (n : Nat) {id : Nat} {ops : List Oper} (hn : cx.n = n) (hall : dstOK n ops = true)
    (h : ∀ K : S → Prop, (∀ s', Q .normal s' → K s') → wpL P ro n ops ops s fun rest s' => rest = [] ∧ K s') : PW P cx (.region id ops.toArray false) s Q := by
  subst hn
  refine PW_region (ro := ro) hall ?_
  have := h (fun s' => Q .normal s') fun _ h => h
  exact wpL_mono (fun rest s' ⟨hr, hk⟩ => by subst hr; exact PL_nil hk) this
/-- A sequence; what follows stands behind a letter. -/
theorem PW_seq_k {x y : Code} (h : ∀ K : S → Prop, (∀ s', PW P cx y s' Q → K s') → PW P cx x s (thenQ K Q)) : PW P cx (.seq x y) s Q := PW_seq (h _ fun _ h => h)
theorem PW_if {t : Tmp} {b : Bool} {x y : Code} (hc : lk s.tmps t = some (.v (.bool b))) (ht : b = true → PW P cx x s Q) (hf : b = false → PW P cx y s Q) : PW P cx (.cond (.tmp t) x y) s Q := PW_cond hc ht hf
end
end Go.Pv
