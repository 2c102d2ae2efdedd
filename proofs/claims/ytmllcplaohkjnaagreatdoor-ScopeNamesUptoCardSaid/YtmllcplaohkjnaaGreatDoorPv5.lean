/- Pure values, fifth part: what the operations do, and that the model does so. -/
import Derived.Test.YtmllcplaohkjnaaGreatDoorPv4
import Derived.Laws.Cells
import Derived.Maps.AppendAt
set_option linter.unusedVariables false
set_option linter.unusedSimpArgs false
set_option linter.unusedSectionVars false
namespace Go.Pv
open Go.RowKit

/-! ## Constants and tables -/
def cv1 : Value → Option PV
  | .bool b => some (.bool b)
  | .int k n => some (.int k n)
  | .string s => some (.str s)
  | .pointer none => some .nilp
  | .slice none 0 0 => some .nilsl
  | .nilFunc => some .nilfn
  | .nilIface => some .nilif
  | .map none => some .mpn
  | _ => none
def cvs : List Value → Option (List PV)
  | [] => some []
  | v :: r => match cv1 v, cvs r with
    | some p, some ps => some (p :: ps)
    | _, _ => none
def cv : Value → Option PV
  | .agg cs => (cvs cs.toList).map .agg
  | v => cv1 v

theorem cv1_rep {g : Gh} {w : World} {v : Value} {p : PV} (h : cv1 v = some p) : Rep g w p v ∧ v.oneCell' = true ∧ p.one = true := by
  unfold cv1 at h
  split at h <;> first | (injection h with h; subst h; exact ⟨by constructor, rfl, rfl⟩) | cases h
theorem cvs_rep {g : Gh} {w : World} : ∀ {vs : List Value} {ps : List PV}, cvs vs = some ps → RepAll g w ps vs ∧ (∀ v ∈ vs, v.oneCell' = true) ∧ ∀ p ∈ ps, p.one = true
  | [], ps, h => by
    simp only [cvs, Option.some.injEq] at h
    subst h
    exact ⟨.nil, by simp, by simp⟩
  | v :: r, ps, h => by
    simp only [cvs] at h
    split at h
    · rename_i p qs h1 h2
      injection h with h
      subst h
      have k1 := cv1_rep (g := g) (w := w) h1
      have k2 := cvs_rep (g := g) (w := w) h2
      exact ⟨.cons k1.1 k2.1, by simp only [List.mem_cons, forall_eq_or_imp]; exact ⟨k1.2.1, k2.2.1⟩, by simp only [List.mem_cons, forall_eq_or_imp]; exact ⟨k1.2.2, k2.2.2⟩⟩
    · cases h
theorem RepAll.agg {g : Gh} {w : World} {ps : List PV} {vs : List Value} (h : RepAll g w ps vs) (ho : ∀ v ∈ vs, v.oneCell' = true) : Rep g w (.agg ps) (.agg vs.toArray) := .agg ps vs h.1 ho h.2
theorem cv_rep {g : Gh} {w : World} {v : Value} {p : PV} (h : cv v = some p) : Rep g w p v := by
  unfold cv at h
  split at h
  · rename_i cs
    simp only [Option.map_eq_some_iff] at h
    obtain ⟨ps, h1, rfl⟩ := h
    have := cvs_rep (g := g) (w := w) h1
    simpa using this.1.agg this.2.1
  · exact (cv1_rep h).1

def csz (P : Program) (t : TypeId) : Option Nat := (P.info? t).map (·.size)
def cbytes (P : Program) (t : TypeId) : Option Nat := (P.info? t).map (·.bytes)
def aggT (P : Program) (t : TypeId) : Option Bool := (P.underlying t).map fun
  | .struct _ | .array _ _ => true
  | _ => false
def foff (P : Program) (t : TypeId) (f : Nat) : Option (Nat × TypeId) := match P.underlying t with
  | some (.struct fs) => (fs[f]?).map fun x => (x.offset, x.type)
  | _ => none
def zro (P : Program) (t : TypeId) : Option (List PV) := ((P.info? t).bind (·.zero)).bind fun v => cvs v.cells.toList
def elemT (P : Program) (t : TypeId) : Option TypeId := match P.underlying t with
  | some (.slice e) => some e
  | _ => none
def intT (P : Program) (t : TypeId) : Option IntKind := match P.underlying t with
  | some (.int k) => some k
  | _ => none

theorem run_sizeOf {P : Program} {w : World} {t : TypeId} {n : Nat} (h : csz P t = some n) : (sizeOf t).run P w = .ok n w := by
  simp only [csz, Option.map_eq_some_iff] at h
  obtain ⟨i, h1, rfl⟩ := h
  simp [sizeOf, typeInfo, h1]
theorem run_isAgg {P : Program} {w : World} {t : TypeId} {b : Bool} (h : aggT P t = some b) : (isAgg t).run P w = .ok b w := by
  simp only [aggT, Option.map_eq_some_iff] at h
  obtain ⟨d, h1, rfl⟩ := h
  simp only [isAgg, underlying, Sem.run_bind, run_program, Result.andThen_ok, h1, Sem.run_pure]
  cases d <;> rfl

/-! ## Reading programs -/
inductive RM (α : Type) where
  | ret (a : α)
  | fail
  | getT (t : Nat) (k : LV → RM α)
  | getB (i : Nat) (k : List LV → RM α)
  | getX (n : Nat) (k : List LV → RM α)
  | assume (p : Bool) (k : RM α)

def RM.wp {α : Type} : RM α → S → (α → Prop) → Prop
  | .ret a, _, K => K a
  | .fail, _, _ => False
  | .getT t k, s, K => match lk s.tmps t with
    | some v => (k v).wp s K
    | none => False
  | .getB i k, s, K => match lk s.boxes i with
    | some v => (k v).wp s K
    | none => False
  | .getX n k, s, K => match lk s.ext n with
    | some v => (k v).wp s K
    | none => False
  | .assume p k, s, K => p = true ∧ k.wp s K

inductive Wr where
  | tmp (t : Nat) (v : LV)
  | newbox (i : Nat) (ps : List PV)
  | cells (i off : Nat) (vs : List LV)
  | ext (n off : Nat) (vs : List LV)

def S.wr (s : S) : Wr → S
  | .tmp t v => { s with tmps := put s.tmps t v }
  | .newbox i ps => { s with tmps := killp i s.tmps, boxes := put s.boxes i (ps.map .v) }
  | .cells i off vs => match lk s.boxes i with
    | some cs => { s with boxes := put s.boxes i (splice cs off vs) }
    | none => s
  | .ext n off vs => match lk s.ext n with
    | some cs => { s with ext := put s.ext n (splice cs off vs) }
    | none => s
def S.wrs (s : S) : List Wr → S
  | [] => s
  | x :: r => (s.wr x).wrs r

/-- No map. -/
def notMM : List LV → Bool
  | [.mm _] => false
  | [.row _ _] => false
  | _ => true
theorem notMM_not {cs : List LV} (h : notMM cs = true) : plainE cs := by
  refine ⟨fun es hs => ?_, fun c ps hs => ?_⟩
  · have := hs.inv
    subst this
    cases h
  · subst hs
    cases h
def toP : LV → Option PV
  | .v p => some p
  | .uniq _ z es => some (.sl z es)
  | .full z es => some (.sl z es)
  | _ => none
def toPs : List LV → Option (List PV)
  | [] => some []
  | v :: r => match toP v, toPs r with
    | some p, some ps => some (p :: ps)
    | _, _ => none
theorem toP_rep {g : Gh} {l : LG} {w : World} {u : UL} {lv : LV} {p : PV} {v : Value} (h : toP lv = some p) (hr : RepL g l w u lv v) : Rep g w p v := by
  cases lv with
  | v q => simp only [toP, Option.some.injEq] at h; subst h; exact hr
  | lp i off => cases h
  | uniq e z es =>
    simp only [toP, Option.some.injEq] at h
    subst h
    rcases hr with (⟨rfl, rfl⟩ | ⟨a, -, hr⟩) | ⟨b, cap, cur, -, -, -, -, -, hr⟩
    · exact .slnil z
    · exact hr
    · exact hr
  | full z es =>
    simp only [toP, Option.some.injEq] at h
    subst h
    rcases hr with ⟨rfl, rfl⟩ | ⟨a, -, hr⟩
    · exact .slnil z
    · exact hr
  | junk => cases h
  | mm _ => cases h
  | row _ _ => cases h

/-- An operand's value. -/
def ev {α : Type} (x : Operand) (k : LV → RM α) : RM α := match x with
  | .tmp t => .getT t k
  | .const c => match cv c with
    | some p => k (.v p)
    | none => .fail
  | .func f => k (.v (.fn (.func f) [] []))
  | .global n => match lk GLB n with
    | some cs => k (.v (.ro cs 0))
    | none => .fail
def evP {α : Type} (x : Operand) (k : PV → RM α) : RM α := ev x fun lv => match toP lv with
  | some p => k p
  | none => .fail
def evs {α : Type} : List Operand → (List PV → RM α) → RM α
  | [], k => k []
  | x :: r, k => evP x fun p => evs r fun ps => k (p :: ps)

section
variable {cx : Cx} {s : S} {g : Gh} {l : LG} {a : Act} {w : World}

theorem ev_sound {α : Type} {x : Operand} {k : LV → RM α} {K : α → Prop} (h : Sim cx s g l a w) (hw : (ev x k).wp s K) : ∃ lv u, (k lv).wp s K ∧ RepL g l w u lv (a.eval x) ∧ (∀ e z es, lv = .uniq e z es → ∃ t, x = .tmp t ∧ u = .t t ∧ lk s.tmps t = some lv) := by
  unfold ev at hw
  split at hw
  · rename_i t
    simp only [RM.wp] at hw
    split at hw
    · rename_i v hv; exact ⟨v, .t t, hw, h.tm t v hv, fun e z es _ => ⟨t, rfl, rfl, hv⟩⟩
    · exact hw.elim
  · rename_i c
    split at hw
    · rename_i p hp; exact ⟨.v p, .t 0, hw, cv_rep hp, fun e z es h => by cases h⟩
    · exact hw.elim
  · rename_i f
    exact ⟨_, .t 0, hw, .fn (.func f) [] [] [] [] rfl rfl (fun j h => by simp at h) (fun j h => by simp at h), fun e z es h => by cases h⟩
  · rename_i n
    split at hw
    · rename_i cs hcs
      exact ⟨_, .t 0, hw, h.hist.glb n cs hcs, fun e z es h => by cases h⟩
    · exact hw.elim
theorem evP_sound {α : Type} {x : Operand} {k : PV → RM α} {K : α → Prop} (h : Sim cx s g l a w) (hw : (evP x k).wp s K) : ∃ p, (k p).wp s K ∧ Rep g w p (a.eval x) := by
  obtain ⟨lv, u, h1, h2, -⟩ := ev_sound h hw
  split at h1
  · rename_i p hp; exact ⟨p, h1, toP_rep hp h2⟩
  · exact h1.elim
theorem evs_sound {α : Type} : ∀ {xs : List Operand} {k : List PV → RM α} {K : α → Prop}, Sim cx s g l a w → (evs xs k).wp s K → ∃ ps, (k ps).wp s K ∧ RepAll g w ps (xs.map a.eval)
  | [], k, K, _, hw => ⟨[], hw, .nil⟩
  | x :: r, k, K, h, hw => by
    obtain ⟨p, h1, h2⟩ := evP_sound h hw
    obtain ⟨ps, h3, h4⟩ := evs_sound h h1
    exact ⟨p :: ps, h3, .cons h2 h4⟩
end
end Go.Pv
