/- Pure values, fourteenth part: contracts of functions, calls. -/
import Derived.Test.YtmllcplaohkjnaaGreatDoorPv13
set_option linter.unusedVariables false
set_option linter.unusedSimpArgs false
set_option linter.unusedSectionVars false
namespace Go.Pv
open Go.RowKit

abbrev Ext := List (Nat × List LV)

/-- How a call ends. -/
inductive CRes where
  | ret (p : PV)
  | own (e : TypeId) (z : Nat) (es : List (List PV))
  | panic (p : PV)

/-- What a callee sees of the caller's ghosts: the named objects alone. -/
def lx (l : LG) : LG where
  L := fun _ => none
  U := fun p => match p with
    | .x n o => l.U (.x n o)
    | _ => none
  O := fun b => match l.O b with
    | some (.x n) => some (.x n)
    | some (.u (.x n o)) => some (.u (.x n o))
    | _ => none

/-- The named objects stand. -/
structure Ent (e : Ext) (g : Gh) (l : LG) (w : World) : Prop where
  ex : ∀ x cs, lk e x = some cs → ∃ b, XR g x cs b ∧ l.O b = some (.x x) ∧ BlkE g l w (.x x) b cs
  olt : ∀ b o, l.O b = some o → b < w.heap.size
  uo : ∀ p b, l.U p = some b → l.O b = some (.u p)
  fresh : (∀ b, w.heap.size ≤ b → g.M b = none) ∧ (∀ n, cnt e ≤ n → g.X n = none) ∧ ∀ n c, cnt e ≤ n → g.Y n c = none
  xlt : ∀ n b, g.X n = some b → b < w.heap.size
  only : ∀ b o, l.O b = some o → (∃ n, o = .x n) ∨ ∃ n k, o = .u (.x n k)
  glb : GOK g w

/-- A result as the model has it. -/
def ResOK (g : Gh) (l : LG) (ok : Nat → Prop) (w : World) : CRes → Ending → Prop
  | .ret p, .returned v => Rep g w p v
  | .own e z es, .returned v => ((v = .slice none 0 0 ∧ es = []) ∨ ∃ a, v = .slice (some a) es.length es.length ∧ Rep g w (.sl z es) v) ∨
      ∃ b cap cur, v = .slice (some ⟨b, 0, none⟩) es.length cap ∧ ok b ∧ b < w.heap.size ∧ l.O b = none ∧ g.M b = some (es.length * z) ∧ w.heap[b]? = some (.cells cur e (0, 0)) ∧ cur.size = cap * z ∧ Rep g w (.sl z es) v
  | .panic p, .panicked ch => ∃ v, ch = [{ v, recovered := false }] ∧ Rep g w p v
  | _, _ => False

/-- A contract. -/
def CallC (P : Program) (f : FuncId) (args : List PV) (e : Ext) (R : CRes → Ext → Prop) : Prop :=
  ∀ vs g l w, RepAll g w args vs → Ent e g l w → Calls P f vs.toArray w fun en w' => ∃ res e' g' l', R res e' ∧ ResOK g' l' (fun b => w.heap.size ≤ b ∨ (l.O b).isSome = true) w' res en ∧ Ent e' g' l' w' ∧ Mono g w g' w' ∧ w.heap.size ≤ w'.heap.size ∧
    (∀ b, b < w.heap.size → l.O b = none → w'.heap[b]? = w.heap[b]? ∧ g'.M b = g.M b) ∧ (∀ b o, l'.O b = some o → w.heap.size ≤ b ∨ (l.O b).isSome = true) ∧ w'.os = w.os ∧ w'.tape = w.tape ∧ w'.output = w.output

theorem CallC.mono {P : Program} {f : FuncId} {args : List PV} {e : Ext} {R R' : CRes → Ext → Prop} (h : CallC P f args e R) (hr : ∀ res e', R res e' → R' res e') : CallC P f args e R' := fun vs g l w ha he =>
  (h vs g l w ha he).mono fun _ _ ⟨res, e', g', l', h1, h2⟩ => ⟨res, e', g', l', hr _ _ h1, h2⟩

section
variable {P : Program} {cx : Cx} {s t : S} {g : Gh} {l : LG} {a : Act} {w : World} {o : Oper}

theorem RepL.lx {n k : Nat} {lv : LV} {v : Value} (hn : lv.nolp = true) (h : RepL g l w (.x n k) lv v) : RepL g (Pv.lx l) w (.x n k) lv v :=
  h.keep (Mono.refl g w) (fun i off e => by rw [e] at hn; cases hn) fun b hb => ⟨hb, rfl, rfl⟩

/-- The caller's named objects, as the callee gets them. -/
theorem Sim.ent (h : Sim cx s g l a w) : Ent s.ext g (lx l) w where
  ex x cs hx := by
    obtain ⟨b, h1, h2, hE⟩ := h.ex x cs hx
    refine ⟨b, h1, by simp [lx, h2], ?_⟩
    rcases hE with ⟨h3, cur, e, h4, h5, h6⟩ | hE
    · exact .inl ⟨h3, cur, e, h4, h5, fun j hj => ⟨(h6 j hj).1, (h6 j hj).2.1, (h6 j hj).2.2.lx (h6 j hj).1⟩⟩
    · exact .inr hE
  olt b o ho := by
    simp only [lx] at ho
    split at ho
    · rename_i n hn; exact (h.own b _ hn).1
    · rename_i n k hn; exact (h.own b _ hn).1
    · cases ho
  uo p b hu := by
    simp only [lx] at hu ⊢
    split at hu
    · rename_i n k
      have := h.uo _ _ hu
      rw [this]
    · cases hu
  fresh := h.fresh
  xlt := h.xlt
  glb := h.hist.glb
  only b o ho := by
    simp only [lx] at ho
    split at ho
    · injection ho with ho; exact .inl ⟨_, ho.symm⟩
    · injection ho with ho; exact .inr ⟨_, _, ho.symm⟩
    · cases ho

/-- The caller's ghosts behind a call. -/
def lback (l l' : LG) : LG where
  L := l.L
  U := fun p => match p with
    | .x n o => l'.U (.x n o)
    | p => l.U p
  O := fun b => match l'.O b with
    | some o => some o
    | none => match l.O b with
      | some (.x _) => none
      | some (.u (.x _ _)) => none
      | o => o

/-- The caller's state behind a call. -/
theorem Sim.back {e' : Ext} {g' : Gh} {l' : LG} {w' : World} (h : Sim cx s g l a w) (he : Ent e' g' l' w') (hm : Mono g w g' w') (hsz : w.heap.size ≤ w'.heap.size)
    (hfr : ∀ b, b < w.heap.size → (lx l).O b = none → w'.heap[b]? = w.heap[b]? ∧ g'.M b = g.M b) (hown : ∀ b o, l'.O b = some o → w.heap.size ≤ b ∨ ((lx l).O b).isSome = true)
    (os : w'.os = w.os) (tape : w'.tape = w.tape) (output : w'.output = w.output) : Sim cx { s with ext := e' } g' (lback l l') a w' := by
  have hnx : ∀ {b o}, l.O b = some o → (∀ n, o ≠ .x n) → (∀ n k, o ≠ .u (.x n k)) → (lx l).O b = none := fun {b o} ho h1 h2 => by
    simp only [lx, ho]
    split
    · rename_i n e0; injection e0 with e0; exact absurd e0 (h1 n)
    · rename_i n k e0; injection e0 with e0; exact absurd e0 (h2 n k)
    · rfl
  have hkeep : ∀ {b o}, l.O b = some o → (∀ n, o ≠ .x n) → (∀ n k, o ≠ .u (.x n k)) → (lback l l').O b = some o ∧ w'.heap[b]? = w.heap[b]? ∧ g'.M b = g.M b := fun {b o} ho h1 h2 => by
    have hlt := (h.own b o ho).1
    have hx := hnx ho h1 h2
    have hl' : l'.O b = none := by
      cases hb : l'.O b with
      | none => rfl
      | some o' =>
        rcases hown b o' hb with hc | hc
        · omega
        · rw [hx] at hc; cases hc
    refine ⟨?_, hfr b hlt hx⟩
    simp only [lback, hl', ho]
    split
    · rename_i n e0; injection e0 with e0; exact absurd e0 (h1 n)
    · rename_i n k e0; injection e0 with e0; exact absurd e0 (h2 n k)
    · rfl
  have keepL : ∀ {p lv v}, (∀ n k, p ≠ UL.x n k) → RepL g l w p lv v → RepL g' (lback l l') w' p lv v := fun {p lv v} hp hr =>
    hr.keep hm (fun _ _ _ => rfl) fun b hu => by
      obtain ⟨k1, k2, k3⟩ := hkeep (h.uo p b hu) (by simp) (fun n k e0 => by injection e0 with e0; exact hp n k e0)
      refine ⟨?_, k3, k2⟩
      cases p with
      | x n k => exact absurd rfl (hp n k)
      | t i => exact hu
      | b i k => exact hu
  refine ⟨⟨h.hist.mono.trans hm, Nat.le_trans h.hist.size hsz, fun b hlt ho => ?_, os.trans h.hist.os, tape.trans h.hist.tape, output.trans h.hist.output, h.hist.glb.mono hm⟩, h.size, h.defers, fun t lv ht => keepL (by simp) (h.tm t lv ht), ?_, ?_, ?_, ?_, he.fresh, he.xlt⟩
  · obtain ⟨h1, h2⟩ := h.hist.frame b hlt ho
    have hlt' := Nat.lt_of_lt_of_le hlt h.hist.size
    have hx : (lx l).O b = none := by
      cases hb : (lx l).O b with
      | none => rfl
      | some o =>
        have : (l.O b).isSome = true := by
          simp only [lx] at hb
          split at hb
          · rename_i hn; rw [hn]; rfl
          · rename_i hn; rw [hn]; rfl
          · cases hb
        obtain ⟨o', ho'⟩ := Option.isSome_iff_exists.1 this
        rcases (h.own b o' ho').2 with hc | hc
        · omega
        · exact absurd hc ho
    obtain ⟨k1, k2⟩ := hfr b hlt' hx
    exact ⟨k1.trans h1, k2.trans h2⟩
  · intro i cs hi
    obtain ⟨b, h1, h2, h3, cur, e, h4, h5, h6⟩ := h.bx i cs hi
    obtain ⟨k1, k2, k3⟩ := hkeep h2 (by simp) (by simp)
    exact ⟨b, h1, k1, k3.trans h3, cur, e, k2.trans h4, h5, fun j hj => ⟨(h6 j hj).1, (h6 j hj).2.1, keepL (by simp) (h6 j hj).2.2⟩⟩
  · intro x cs hx
    obtain ⟨b, h1, h2, hE⟩ := he.ex x cs hx
    refine ⟨b, h1, by simp [lback, h2], ?_⟩
    rcases hE with ⟨h3, cur, e, h4, h5, h6⟩ | hE
    rotate_left
    · exact .inr hE
    refine .inl ⟨h3, cur, e, h4, h5, fun j hj => ⟨(h6 j hj).1, (h6 j hj).2.1, ?_⟩⟩
    exact (h6 j hj).2.2.keep (Mono.refl _ _) (fun i off e0 => by have := (h6 j hj).1; rw [e0] at this; cases this) fun b hb => ⟨hb, rfl, rfl⟩
  · intro b o ho
    simp only [lback] at ho
    split at ho
    · rename_i o' ho'
      refine ⟨he.olt b o' ho', ?_⟩
      rcases hown b o' ho' with hc | hc
      · exact .inl (Nat.le_trans h.hist.size hc)
      · have : (l.O b).isSome = true := by
          simp only [lx] at hc
          split at hc
          · rename_i hn; rw [hn]; rfl
          · rename_i hn; rw [hn]; rfl
          · cases hc
        obtain ⟨o2, ho2⟩ := Option.isSome_iff_exists.1 this
        exact (h.own b o2 ho2).2
    · split at ho
      · cases ho
      · cases ho
      · exact ⟨Nat.lt_of_lt_of_le (h.own b o ho).1 hsz, (h.own b o ho).2⟩
  · intro p b hu
    simp only [lback] at hu
    split at hu
    · rename_i n k
      have := he.uo _ _ hu
      simp [lback, this]
    · rename_i hp
      exact (hkeep (h.uo p b hu) (by simp) (fun n k e0 => by injection e0 with e0; exact hp n k e0)).1
end
end Go.Pv
