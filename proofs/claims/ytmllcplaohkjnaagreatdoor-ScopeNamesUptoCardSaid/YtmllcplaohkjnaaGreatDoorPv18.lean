/- Pure values, eighteenth part: a region whose order is drawn, for every order. -/
import Derived.Test.YtmllcplaohkjnaaGreatDoorPv17
set_option linter.unusedVariables false
set_option linter.unusedSimpArgs false
set_option linter.unusedSectionVars false
namespace Go.Pv
open Go.RowKit

/-! ## What must come before what -/
def dirs (o : Oper) : List Nat := (o.after.toList.filter (Region.binds .any)).map (·.on)
def ancs : List Oper → List (List Nat) → List (List Nat)
  | [], acc => acc
  | o :: r, acc => ancs r (acc ++ [dirs o ++ (dirs o).flatMap fun m => acc.getD m []])

inductive Reach (ops : List Oper) : Nat → Nat → Prop
  | dir {k i : Nat} {o : Oper} (h : ops[i]? = some o) (hk : k ∈ dirs o) : Reach ops k i
  | step {k m i : Nat} {o : Oper} (h : ops[i]? = some o) (hm : m ∈ dirs o) (hr : Reach ops k m) : Reach ops k i

def Closed (ops : List Oper) (D : Nat → Bool) : Prop := ∀ j o, ops[j]? = some o → D j = true → ∀ m ∈ dirs o, D m = true

theorem Closed.reach {ops : List Oper} {D : Nat → Bool} (hc : Closed ops D) {k i : Nat} (hr : Reach ops k i) : (∀ o, ops[i]? = some o → ∀ m ∈ dirs o, D m = true) → D k = true := by
  induction hr with
  | dir h hk => exact fun hd => hd _ h _ hk
  | step h hm hr ih => exact fun hd => ih fun o ho m hm' => hc _ o ho (hd _ h _ hm) m hm'

theorem ancs_reach {ops : List Oper} : ∀ {r : List Oper} {acc : List (List Nat)}, (∀ j, (r)[j]? = ops[acc.length + j]?) → (∀ i l, acc[i]? = some l → ∀ k ∈ l, Reach ops k i) → ∀ i l, (ancs r acc)[i]? = some l → ∀ k ∈ l, Reach ops k i
  | [], acc, _, h => h
  | o :: r, acc, hr, h => by
    refine ancs_reach (r := r) (acc := acc ++ [dirs o ++ (dirs o).flatMap fun m => acc.getD m []]) (fun j => by have := hr (j + 1); simp only [List.getElem?_cons_succ] at this; rw [this]; simp; congr 1; omega) fun i l hi k hk => ?_
    by_cases hlt : i < acc.length
    · rw [List.getElem?_append_left hlt] at hi
      exact h i l hi k hk
    · have : i = acc.length := by
        have := (List.getElem?_eq_some_iff.1 hi).1
        simp at this
        omega
      subst this
      simp only [List.getElem?_concat_length, Option.some.injEq] at hi
      subst hi
      have ho : ops[acc.length]? = some o := by have := hr 0; simpa using this.symm
      simp only [List.mem_append, List.mem_flatMap] at hk
      rcases hk with hk | ⟨m, hm, hk⟩
      · exact .dir ho hk
      · cases hm' : acc[m]? with
        | none => simp [List.getD, hm'] at hk
        | some l' => exact .step ho hm (h m l' hm' k (by simpa [List.getD, hm'] using hk))
def anc (ops : List Oper) (i : Nat) : List Nat := (ancs ops []).getD i []
theorem anc_reach {ops : List Oper} {i k : Nat} (h : k ∈ anc ops i) : Reach ops k i := by
  unfold anc at h
  cases hi : (ancs ops [])[i]? with
  | none => simp [List.getD, hi] at h
  | some l => exact ancs_reach (by simp) (by simp) i l hi k (by simpa [List.getD, hi] using h)

/-! ## The check -/
def wl (ws : List Wr) : List Loc := ws.filterMap Wr.loc
def disj (A B : List Loc) : Bool := A.all fun x => !(B.contains x)
def isX : Loc → Bool
  | .x _ => true
  | _ => false
/-- Does it depend on the named objects? -/
def DS.xf (d : DS) : Bool := d.eff || d.rd.any isX
def pairOK (an : List Nat) (i : Nat) (di dj : DS) : Bool := an.contains i || (disj (wl di.ws) (dj.rd ++ wl dj.ws) && disj (wl dj.ws) di.rd && !(di.eff && dj.xf) && !(dj.eff && di.xf))
def lpW (d : Nat) : Wr → Bool
  | .tmp _ (.lp j _) => j == d
  | _ => false
def newW : Wr → Option Nat
  | .newbox d _ => some d
  | _ => none
/-- New boxes: nobody else writes pointers to them, unless it comes behind. -/
def lpOK (an : Nat → List Nat) (i j : Nat) (di dj : DS) : Bool := (di.ws.filterMap newW).all fun d => (an j).contains i || dj.ws.all fun x => !(lpW d x)
def noLp (d : Nat) : List (Nat × LV) → Bool
  | [] => true
  | (_, .lp j _) :: r => j != d && noLp d r
  | _ :: r => noLp d r
def plainW : Wr → Bool
  | .ext _ _ _ => false
  | _ => true
/-- Writes of a new box stand first in their list. -/
def newFirst : List Wr → Bool
  | [] => true
  | _ :: r => r.all fun x => (newW x).isNone
def chk (ops : List Oper) (sts : List DS) (tm : List (Nat × LV)) : Bool :=
  let an := ancs ops []
  (List.range sts.length).all fun j => (sts.getD j ⟨[], [], false⟩).ws.all plainW && newFirst (sts.getD j ⟨[], [], false⟩).ws && (((sts.getD j ⟨[], [], false⟩).ws.filterMap newW).all fun d => noLp d tm) &&
    (((ops[j]?).map dirs).getD []).all (· < j) &&
    (List.range sts.length).all fun i => i == j || (lpOK (fun k => an.getD k []) i j (sts.getD i ⟨[], [], false⟩) (sts.getD j ⟨[], [], false⟩) && (!(decide (i < j)) || pairOK (an.getD j []) i (sts.getD i ⟨[], [], false⟩) (sts.getD j ⟨[], [], false⟩)))

section
variable {ops : List Oper} {sts : List DS} {tm : List (Nat × LV)}
theorem chk_at (h : chk ops sts tm = true) {j : Nat} {dj : DS} (hj : sts[j]? = some dj) : dj.ws.all plainW = true ∧ newFirst dj.ws = true ∧ (∀ d ∈ dj.ws.filterMap newW, noLp d tm = true) ∧ (∀ o, ops[j]? = some o → ∀ m ∈ dirs o, m < j) ∧
    ∀ i di, sts[i]? = some di → i ≠ j → lpOK (anc ops) i j di dj = true ∧ (i < j → pairOK (anc ops j) i di dj = true) := by
  have hlt := (List.getElem?_eq_some_iff.1 hj).1
  simp only [chk, List.all_eq_true, List.mem_range, Bool.and_eq_true] at h
  have h1 := h j hlt
  have gj : sts.getD j ⟨[], [], false⟩ = dj := by simp [List.getD, hj]
  rw [gj] at h1
  obtain ⟨⟨⟨⟨k1, k2⟩, k3⟩, k4⟩, k5⟩ := h1
  refine ⟨by simpa using k1, k2, k3, fun o ho m hm => ?_, fun i di hi hne => ?_⟩
  · simp only [ho, Option.map_some, Option.getD_some] at k4
    exact of_decide_eq_true (k4 m hm)
  · have hlt' := (List.getElem?_eq_some_iff.1 hi).1
    have gi : sts.getD i ⟨[], [], false⟩ = di := by simp [List.getD, hi]
    have := k5 i hlt'
    rw [gi] at this
    simp only [Bool.or_eq_true, beq_iff_eq, hne, false_or, Bool.and_eq_true, Bool.not_eq_true', decide_eq_false_iff_not] at this
    refine ⟨this.1, fun hij => ?_⟩
    rcases this.2 with hc | hc
    · exact absurd hij hc
    · exact hc
theorem disj_touch {A : List Wr} {B : List Loc} (h : disj (wl A) B = true) {x : Wr} (hx : x ∈ A) {l : Loc} (hl : l ∈ B) : touches l x = false := by
  unfold touches
  rw [decide_eq_false_iff_not]
  intro e
  simp only [disj, List.all_eq_true, Bool.not_eq_true', List.contains_eq_mem, decide_eq_false_iff_not] at h
  exact h l (List.mem_filterMap.2 ⟨x, hx, e⟩) hl
end
end Go.Pv
