/- Pure values: an evaluator with a script. The script answers calls, tests and loops; what is owed for the answers is listed. -/
import Derived.Test.YtmllcplaohkjnaaGreatDoorPv31
set_option linter.unusedVariables false
set_option linter.unusedSimpArgs false
set_option linter.unusedSectionVars false
namespace Go.Pv
open Go.RowKit

/-- What a state keeps; the named objects as they are. -/
def LeX (t s : S) : Prop := LeT t.tmps s.tmps ∧ LeB t.boxes s.boxes ∧ t.ext = s.ext
theorem Sim.leX {cx : Cx} {s t : S} {g : Gh} {l : LG} {a : Act} {w : World} (h : Sim cx s g l a w) (hl : LeX t s) : Sim cx t g l a w where
  hist := h.hist
  size := h.size
  defers := h.defers
  tm k v hk := let ⟨_, hu, hw⟩ := hl.1.at_ hk; hw.rep (h.tm k _ hu)
  bx k v hk := by
    obtain ⟨u, hu, hw⟩ := hl.2.1.at_ hk
    obtain ⟨b, h1, h2, h3⟩ := h.bx k u hu
    exact ⟨b, h1, h2, h3.le hw⟩
  ex k v hk := h.ex k v (by rw [← hl.2.2]; exact hk)
  own := h.own
  uo := h.uo
  fresh := ⟨h.fresh.1, fun n hn => h.fresh.2.1 n (by rw [← hl.2.2]; exact hn), fun n c hn => h.fresh.2.2 n c (by rw [← hl.2.2]; exact hn)⟩
  xlt := h.xlt
theorem PW.leX {P : Program} {cx : Cx} {s : S} {Q : PExit → S → Prop} {c : Code} {t : S} (hl : LeX t s) (h : PW P cx c t Q) : PW P cx c s Q := fun g l a w hs => h g l a w (hs.leX hl)
inductive Ans where
  | pur (r : CRes)
  | eff (r : CRes) (e : Ext)
  | bit (v : Bool)
  | keep
  | as_ (lv : LV)
  | loop (s0 : S) (pe : PExit) (s1 : S)
  | unroll
  | dfr (m : PM) (e : Ext)
inductive Ob where
  | pur (f : FuncId) (args : List PV) (r : CRes)
  | eff (f : FuncId) (args : List PV) (e : Ext) (r : CRes) (e' : Ext)
  | dfr (f : FuncId) (args : List PV) (e : Ext) (m m' : PM) (e' : Ext)
  | bit (b v : Bool)
  | eqv (x y : LV)
  | loop (n : Nat) (c : Code) (s0 : S) (pe : PExit) (s1 : S)
  | le (s0 s : S)
def Ob.ok (P : Program) : Ob → Prop
  | .pur f args r => isFn P f = true ∧ ∀ e, CallC P f args e fun r1 e1 => r1 = r ∧ e1 = e
  | .eff f args e r e' => isFn P f = true ∧ CallC P f args e fun r1 e1 => r1 = r ∧ e1 = e'
  | .dfr f args e m m' e' => isFn P f = true ∧ CallCD P f args e m fun m1 e1 => m1 = m' ∧ e1 = e'
  | .bit b v => b = v
  | .eqv x y => x = y
  | .loop n c s0 pe s1 => ∀ cx : Cx, cx.n = n → PW P cx (.loop c) s0 fun pe' s' => pe' = pe ∧ s' = s1
  | .le s0 s => LeX s0 s
def Obs (P : Program) : List Ob → Prop
  | [] => True
  | o :: r => o.ok P ∧ Obs P r
theorem Obs.app {P : Program} : ∀ {l m : List Ob}, Obs P (l ++ m) → Obs P l ∧ Obs P m
  | [], _, h => ⟨trivial, h⟩
  | _ :: _, _, h => ⟨⟨h.1, (Obs.app h.2).1⟩, (Obs.app h.2).2⟩

/-- What is lacking. -/
inductive Need where
  | bad (k : Nat)
  | call (f : FuncId) (args : List PV) (e : Ext)
  | test (b : Bool)
  | val (lv : LV)
  | loop (n : Nat) (c : Code) (s : S)
  | dfr (f : FuncId) (args : List PV) (e : Ext) (m : PM)
  | at_ (k : Nat) (o : Oper) (s : S)
inductive SR (α : Type) where
  | ok (a : α) (sc : List Ans) (l : List Ob)
  | no (n : Need)
abbrev SM (α : Type) := List Ans → SR α
section
variable {α β : Type} {P : Program}
def SM.ret (a : α) : SM α := fun sc => .ok a sc []
def SM.bad (k : Nat) : SM α := fun _ => .no (.bad k)
def SM.bnd (m : SM α) (f : α → SM β) : SM β := fun sc => match m sc with
  | .ok a sc' l => match f a sc' with
    | .ok b sc2 l2 => .ok b sc2 (l ++ l2)
    | .no n => .no n
  | .no n => .no n
def SR.wp (P : Program) (K : α → List Ans → Prop) : SR α → Prop
  | .ok a sc' l => Obs P l ∧ K a sc'
  | .no _ => False
def SM.wp (P : Program) (m : SM α) (sc : List Ans) (K : α → List Ans → Prop) : Prop := (m sc).wp P K
theorem SM.wp_ret {a : α} {sc : List Ans} {K : α → List Ans → Prop} (h : (SM.ret a).wp P sc K) : K a sc := h.2
theorem SM.wp_bad {k : Nat} {sc : List Ans} {K : α → List Ans → Prop} (h : (SM.bad k : SM α).wp P sc K) : False := h
theorem SM.wp_bnd {m : SM α} {f : α → SM β} {sc : List Ans} {K : β → List Ans → Prop} (h : (m.bnd f).wp P sc K) : m.wp P sc fun a sc' => (f a).wp P sc' K := by
  unfold SM.wp SM.bnd at *
  cases hm : m sc with
  | no n => rw [hm] at h; exact h
  | ok a sc' l =>
    rw [hm] at h
    simp only at h
    cases hf : f a sc' with
    | no n => rw [hf] at h; exact h.elim
    | ok b sc2 l2 =>
      rw [hf] at h
      have := Obs.app h.1
      exact ⟨this.1, by show SR.wp P K (f a sc'); rw [hf]; exact ⟨this.2, h.2⟩⟩
theorem SM.wp_mono {m : SM α} {sc : List Ans} {K K' : α → List Ans → Prop} (h : m.wp P sc K) (hk : ∀ a sc, K a sc → K' a sc) : m.wp P sc K' := by
  unfold SM.wp at *
  cases hm : m sc with
  | no n => rw [hm] at h; exact h.elim
  | ok a sc' l => rw [hm] at h; exact ⟨h.1, hk _ _ h.2⟩

/-- Where a thing is lacking. -/
def SM.tag (o : Oper) (s : S) (m : SM α) : SM α := fun sc => match m sc with
  | .ok a sc' l => .ok a sc' l
  | .no (.bad k) => .no (.at_ k o s)
  | .no n => .no n
theorem SM.wp_tag {o : Oper} {s : S} {m : SM α} {sc : List Ans} {K : α → List Ans → Prop} (h : (SM.tag o s m).wp P sc K) : m.wp P sc K := by
  unfold SM.wp SM.tag at *
  cases hm : m sc with
  | ok a sc' l => rw [hm] at h; exact h
  | no n => rw [hm] at h; cases n <;> exact h.elim
/-- Questions. -/
def SM.owe (o : Ob) (a : α) : SM α := fun sc => .ok a sc [o]
theorem SM.wp_owe {o : Ob} {a : α} {sc : List Ans} {K : α → List Ans → Prop} (h : (SM.owe o a).wp P sc K) : o.ok P ∧ K a sc := ⟨h.1.1, h.2⟩
def askB (b : Bool) : SM Bool
  | .bit v :: sc => .ok v sc [.bit b v]
  | _ => .no (.test b)
theorem askB_wp {b : Bool} {sc : List Ans} {K : Bool → List Ans → Prop} (h : (askB b).wp P sc K) : ∃ sc', K b sc' := by
  unfold SM.wp askB at h
  split at h
  · rename_i v sc'
    have : b = v := h.1.1
    subst this
    exact ⟨sc', h.2⟩
  · exact h.elim
def askV (lv : LV) : SM LV
  | .keep :: sc => .ok lv sc []
  | .as_ lv' :: sc => .ok lv' sc [.eqv lv lv']
  | _ => .no (.val lv)
theorem askV_wp {lv : LV} {sc : List Ans} {K : LV → List Ans → Prop} (h : (askV lv).wp P sc K) : ∃ sc', K lv sc' := by
  unfold SM.wp askV at h
  split at h
  · exact ⟨_, h.2⟩
  · have : lv = _ := h.1.1
    subst this
    exact ⟨_, h.2⟩
  · exact h.elim
/-- A call: its result, what becomes of the named objects, and whether it leaves any of them alone. -/
def askC (f : FuncId) (args : List PV) (e : Ext) : SM (CRes × Ext × Bool)
  | .pur r :: sc => .ok (r, e, true) sc [.pur f args r]
  | .eff r e' :: sc => .ok (r, e', false) sc [.eff f args e r e']
  | _ => .no (.call f args e)
theorem askC_wp {f : FuncId} {args : List PV} {e : Ext} {sc : List Ans} {K : CRes × Ext × Bool → List Ans → Prop} (h : (askC f args e).wp P sc K) :
    ∃ r e' pu sc', K (r, e', pu) sc' ∧ isFn P f = true ∧ CallC P f args e (fun r1 e1 => r1 = r ∧ e1 = e') ∧ (pu = true → e' = e ∧ ∀ e, CallC P f args e fun r1 e1 => r1 = r ∧ e1 = e) := by
  unfold SM.wp askC at h
  split at h
  · obtain ⟨⟨⟨h1, h2⟩, -⟩, h3⟩ := h
    exact ⟨_, _, _, _, h3, h1, h2 e, fun _ => ⟨rfl, h2⟩⟩
  · obtain ⟨⟨⟨h1, h2⟩, -⟩, h3⟩ := h
    exact ⟨_, _, _, _, h3, h1, h2, fun e0 => by cases e0⟩
  · exact h.elim
def askD (f : FuncId) (args : List PV) (e : Ext) (m : PM) : SM (PM × Ext)
  | .dfr m' e' :: sc => .ok (m', e') sc [.dfr f args e m m' e']
  | _ => .no (.dfr f args e m)
theorem askD_wp {f : FuncId} {args : List PV} {e : Ext} {m : PM} {sc : List Ans} {K : PM × Ext → List Ans → Prop} (h : (askD f args e m).wp P sc K) :
    ∃ m' e' sc', K (m', e') sc' ∧ isFn P f = true ∧ CallCD P f args e m fun m1 e1 => m1 = m' ∧ e1 = e' := by
  unfold SM.wp askD at h
  split at h
  · obtain ⟨⟨⟨h1, h2⟩, -⟩, h3⟩ := h
    exact ⟨_, _, _, h3, h1, h2⟩
  · exact h.elim

/-! ## Reading programs -/
def RM.runM : RM α → S → SM α
  | .ret a, _ => .ret a
  | .fail, _ => .bad 1
  | .getT t k, s => match lk s.tmps t with
    | some v => (k v).runM s
    | none => .bad 2
  | .getB i k, s => match lk s.boxes i with
    | some v => (k v).runM s
    | none => .bad 3
  | .getX n k, s => match lk s.ext n with
    | some v => (k v).runM s
    | none => .bad 4
  | .assume p k, s => (SM.owe (.bit p true) ()).bnd fun _ => k.runM s
theorem RM.runM_wp {s : S} : ∀ {r : RM α} {sc : List Ans} {K : α → List Ans → Prop}, (r.runM s).wp P sc K → r.wp s fun a => ∃ sc', K a sc'
  | .ret a, sc, K, h => ⟨sc, h.2⟩
  | .fail, _, _, h => h.elim
  | .getT t f, sc, K, h => by
    simp only [RM.runM] at h
    simp only [RM.wp]
    split at h
    · rename_i v hv; rw [hv]; exact RM.runM_wp h
    · exact h.elim
  | .getB t f, sc, K, h => by
    simp only [RM.runM] at h
    simp only [RM.wp]
    split at h
    · rename_i v hv; rw [hv]; exact RM.runM_wp h
    · exact h.elim
  | .getX t f, sc, K, h => by
    simp only [RM.runM] at h
    simp only [RM.wp]
    split at h
    · rename_i v hv; rw [hv]; exact RM.runM_wp h
    · exact h.elim
  | .assume p f, sc, K, h => by
    simp only [RM.runM] at h
    obtain ⟨h1, h2⟩ := SM.wp_owe (SM.wp_bnd h)
    exact ⟨h1, RM.runM_wp h2⟩
theorem RM.wpR_mono' {s : S} : ∀ {r : RM α} {K K' : α → List Loc → Prop}, r.wpR s K → (∀ x rd, K x rd → K' x rd) → r.wpR s K'
  | .ret _, _, _, h, hk => hk _ _ h
  | .fail, _, _, h, _ => h
  | .getT t k, K, K', h, hk => by
    simp only [RM.wpR] at h ⊢
    split at h
    · exact RM.wpR_mono' h fun x rd hx => hk _ _ hx
    · exact h.elim
  | .getB t k, K, K', h, hk => by
    simp only [RM.wpR] at h ⊢
    split at h
    · exact RM.wpR_mono' h fun x rd hx => hk _ _ hx
    · exact h.elim
  | .getX t k, K, K', h, hk => by
    simp only [RM.wpR] at h ⊢
    split at h
    · exact RM.wpR_mono' h fun x rd hx => hk _ _ hx
    · exact h.elim
  | .assume p k, K, K', h, hk => ⟨h.1, RM.wpR_mono' h.2 hk⟩
def RM.runMR : RM α → S → SM (α × List Loc)
  | .ret a, _ => .ret (a, [])
  | .fail, _ => .bad 5
  | .getT t k, s => match lk s.tmps t with
    | some v => ((k v).runMR s).bnd fun x => .ret (x.1, .t t :: x.2)
    | none => .bad 6
  | .getB i k, s => match lk s.boxes i with
    | some v => ((k v).runMR s).bnd fun x => .ret (x.1, .b i :: x.2)
    | none => .bad 7
  | .getX n k, s => match lk s.ext n with
    | some v => ((k v).runMR s).bnd fun x => .ret (x.1, .x n :: x.2)
    | none => .bad 8
  | .assume p k, s => (SM.owe (.bit p true) ()).bnd fun _ => k.runMR s
theorem RM.runMR_wp {s : S} : ∀ {r : RM α} {sc : List Ans} {K : α × List Loc → List Ans → Prop}, (r.runMR s).wp P sc K → r.wpR s fun a rd => ∃ sc', K (a, rd) sc'
  | .ret a, sc, K, h => ⟨sc, h.2⟩
  | .fail, _, _, h => h.elim
  | .getT t f, sc, K, h => by
    simp only [RM.runMR] at h
    simp only [RM.wpR]
    split at h
    · rename_i v hv
      rw [hv]
      exact RM.wpR_mono' (RM.runMR_wp (SM.wp_bnd h)) fun a rd ⟨sc', hk⟩ => ⟨sc', SM.wp_ret hk⟩
    · exact h.elim
  | .getB t f, sc, K, h => by
    simp only [RM.runMR] at h
    simp only [RM.wpR]
    split at h
    · rename_i v hv
      rw [hv]
      exact RM.wpR_mono' (RM.runMR_wp (SM.wp_bnd h)) fun a rd ⟨sc', hk⟩ => ⟨sc', SM.wp_ret hk⟩
    · exact h.elim
  | .getX t f, sc, K, h => by
    simp only [RM.runMR] at h
    simp only [RM.wpR]
    split at h
    · rename_i v hv
      rw [hv]
      exact RM.wpR_mono' (RM.runMR_wp (SM.wp_bnd h)) fun a rd ⟨sc', hk⟩ => ⟨sc', SM.wp_ret hk⟩
    · exact h.elim
  | .assume p f, sc, K, h => by
    simp only [RM.runMR] at h
    obtain ⟨h1, h2⟩ := SM.wp_owe (SM.wp_bnd h)
    exact ⟨h1, RM.runMR_wp h2⟩
end

/-! ## Operations -/
/-- Whose results may be rewritten: places of slices, numbers. -/
def isRe (o : Oper) : Bool := match o.op with
  | .indexAddr _ _ _ => true
  | .binOp .add _ _ _ _ => true
  | .binOp .sub _ _ _ _ => true
  | .binOp .mul _ _ _ _ => true
  | .binOp .quo _ _ _ _ => true
  | .binOp .rem _ _ _ _ => true
  | .unOp .neg _ _ => true
  | .convert _ _ _ => true
  | .call ⟨.builtin .len, _, _⟩ => true
  | .lookup _ _ _ _ => true
  | .slice _ _ _ _ _ => true
  | _ => false
def reW (o : Oper) (wr : List Wr) : SM (List Wr) := if isRe o = true then (match wr with
  | [.tmp d lv] => (askV lv).bnd fun lv' => .ret [.tmp d lv']
  | _ => .ret wr) else .ret wr
theorem reW_wp {P : Program} {o : Oper} {wr : List Wr} {sc : List Ans} {K : List Wr → List Ans → Prop} (h : (reW o wr).wp P sc K) : ∃ sc', K wr sc' := by
  unfold reW at h
  split at h
  · split at h
    · obtain ⟨sc', h1⟩ := askV_wp (SM.wp_bnd h)
      exact ⟨sc', SM.wp_ret h1⟩
    · exact ⟨_, SM.wp_ret h⟩
  · exact ⟨_, SM.wp_ret h⟩
/-- A choice: the test is asked. -/
def pickM (n : Nat) (o : Oper) (c x y : Operand) (s : S) : SM (List Wr × List Loc) := ((evP c fun p => RM.ret p).runMR s).bnd fun pr => match pr.1 with
  | .bool b => (askB b).bnd fun v => match v with
    | true => ((evP x fun q => wv n o (.v q)).runMR s).bnd fun w => .ret (w.1, pr.2 ++ w.2)
    | false => ((evP y fun q => wv n o (.v q)).runMR s).bnd fun w => .ret (w.1, pr.2 ++ w.2)
  | _ => .bad 9
theorem evP_bindR {α : Type} {c : Operand} {s : S} {k : PV → RM α} {K : α → List Loc → Prop} (h : (evP c fun p => RM.ret p).wpR s fun p rd1 => (k p).wpR s fun a rd2 => K a (rd1 ++ rd2)) : (evP c k).wpR s K := by
  unfold evP ev at *
  cases c with
  | tmp t =>
    simp only [RM.wpR] at h ⊢
    split at h
    · split at h
      · exact h
      · exact h.elim
    · exact h.elim
  | const c =>
    simp only at h ⊢
    split at h
    · split at h
      · exact h
      · exact h.elim
    · exact h.elim
  | func f =>
    simp only at h ⊢
    split at h
    · exact h
    · exact h.elim
  | global n =>
    simp only at h ⊢
    cases hg : lk GLB n with
    | none => rw [hg] at h; exact h.elim
    | some cs => rw [hg] at h; exact h
theorem pickM_wp {P : Program} {n : Nat} {o : Oper} {c x y : Operand} {s : S} {sc : List Ans} {K : List Wr × List Loc → List Ans → Prop} (h : (pickM n o c x y s).wp P sc K) : (actPick n o c x y).wpR s fun wr rd => ∃ sc', K (wr, rd) sc' := by
  unfold actPick
  refine evP_bindR (RM.wpR_mono' (RM.runMR_wp (SM.wp_bnd h)) ?_)
  rintro p rd ⟨sc1, h1⟩
  simp only at h1
  split at h1
  · rename_i b
    obtain ⟨sc2, h2⟩ := askB_wp (SM.wp_bnd h1)
    cases b with
    | true => exact RM.wpR_mono' (RM.runMR_wp (SM.wp_bnd h2)) fun a rd2 ⟨sc3, h3⟩ => ⟨sc3, SM.wp_ret h3⟩
    | false => exact RM.wpR_mono' (RM.runMR_wp (SM.wp_bnd h2)) fun a rd2 ⟨sc3, h3⟩ => ⟨sc3, SM.wp_ret h3⟩
  · exact h1.elim
def actM (P : Program) (ro : TypeId → Option Bool) (n : Nat) (all : List Oper) (o : Oper) (s : S) : SM (List Wr × List Loc) := match o.op with
  | .pick c x y => pickM n o c x y s
  | _ => ((act P ro n all o).runMR s).bnd fun x => (reW o x.1).bnd fun wr => .ret (wr, x.2)
theorem actM_wp {P : Program} {ro : TypeId → Option Bool} {n : Nat} {all : List Oper} {o : Oper} {s : S} {sc : List Ans} {K : List Wr × List Loc → List Ans → Prop} (h : (actM P ro n all o s).wp P sc K) : (act P ro n all o).wpR s fun wr rd => ∃ sc', K (wr, rd) sc' := by
  unfold actM at h
  split at h
  · rename_i c x y ho
    have := pickM_wp h
    unfold act
    rw [ho]
    exact this
  · refine RM.wpR_mono' (RM.runMR_wp (SM.wp_bnd h)) ?_
    rintro wr rd ⟨sc1, h1⟩
    obtain ⟨sc2, h2⟩ := reW_wp (SM.wp_bnd h1)
    exact ⟨sc2, SM.wp_ret h2⟩
theorem RM.wpR_wp {α : Type} {s : S} : ∀ {r : RM α} {K : α → List Loc → Prop}, r.wpR s K → r.wp s fun a => ∃ rd, K a rd
  | .ret _, _, h => ⟨[], h⟩
  | .fail, _, h => h
  | .getT t k, K, h => by
    simp only [RM.wpR] at h
    simp only [RM.wp]
    split at h
    · rename_i v hv; rw [hv]; exact RM.wp_mono (fun a ⟨rd, h⟩ => ⟨_, h⟩) (RM.wpR_wp h)
    · exact h.elim
  | .getB t k, K, h => by
    simp only [RM.wpR] at h
    simp only [RM.wp]
    split at h
    · rename_i v hv; rw [hv]; exact RM.wp_mono (fun a ⟨rd, h⟩ => ⟨_, h⟩) (RM.wpR_wp h)
    · exact h.elim
  | .getX t k, K, h => by
    simp only [RM.wpR] at h
    simp only [RM.wp]
    split at h
    · rename_i v hv; rw [hv]; exact RM.wp_mono (fun a ⟨rd, h⟩ => ⟨_, h⟩) (RM.wpR_wp h)
    · exact h.elim
  | .assume p k, K, h => ⟨h.1, RM.wpR_wp h.2⟩
def actX (P : Program) (ro : TypeId → Option Bool) (n : Nat) (all : List Oper) (o : Oper) (s : S) : SM (PExit × S) := (actM P ro n all o s).bnd fun x => .ret (.normal, s.wrs x.1)
def callX (o : Oper) (r : RM (FuncId × List PV)) (s : S) : SM (PExit × S) := (r.runM s).bnd fun x => (askC x.1 x.2 s.ext).bnd fun y => match y with
  | (.ret p, e, _) => .ret (.normal, s.setD o.dst (.v p) e)
  | (.own te z es, e, _) => .ret (.normal, s.setD o.dst (.uniq te z es) e)
  | (.panic p, e, _) => .ret (.panic p, { s with ext := e })
def newM (n : Nat) (o : Oper) (cs : List PV) (s : S) : SM (PExit × S) := match newX n o cs s with
  | some r => .ret r
  | none => .bad 10
/-- A row that may grow. -/
def isYsl (s : S) : Operand → Bool
  | .tmp t => match lk s.tmps t with
    | some (.v (.ysl _ _ _)) => true
    | _ => false
  | _ => false
def appM (P : Program) (n : Nat) (o : Oper) (ty : TypeId) (x y : Operand) (s : S) : SM (PExit × S) := match elemT P ty, o.dst with
  | some e, some d => match csz P e, cbytes P e, zro P e with
    | some (m + 1), some (B + 1), some zs => if d < n ∧ zs.length = m + 1 then (match m, isYsl s x, isYsl s y with
      | 0, true, _ => ((appY x y).runM s).bnd fun r => SM.owe (.bit (decide ((r.1.2.2.length + r.2.length) * (B + 1) ≤ 140737488355328)) true) (.normal, { s with tmps := put s.tmps d (.v (.ysl r.1.1 (r.1.2.1 + 1) (r.1.2.2.length + r.2.length))), ext := put s.ext r.1.1 [.row (r.1.2.1 + 1) (r.1.2.2 ++ r.2)] })
      | 0, false, true => ((appZ x y).runM s).bnd fun r => SM.owe (.bit (decide (r.2.2.length * (B + 1) ≤ 140737488355328)) true) (.normal, { s with tmps := put s.tmps d (.v (.ysl r.1 (r.2.1 + 1) r.2.2.length)), ext := put s.ext r.1 [.row (r.2.1 + 1) r.2.2] })
      | 0, false, false => ((appN x y).runM s).bnd fun ks => SM.owe (.bit (decide (ks.length * (B + 1) ≤ 140737488355328)) true) (.normal, { s with tmps := put s.tmps d (.v (.ysl (cnt s.ext) 0 ks.length)), ext := put s.ext (cnt s.ext) [.row 0 ks] })
      | m + 1, _, _ => ((appR e (m + 2) x y).runM s).bnd fun ys => SM.owe (.bit (decide (ys.length * (B + 1) ≤ 140737488355328)) true) (.normal, { s with tmps := put s.tmps d (.v (.xsl (cnt s.ext) (m + 2) ys.length)), ext := put s.ext (cnt s.ext) (ys.flatten.map .v) })) else .bad 11
    | _, _, _ => .bad 12
  | _, _ => .bad 13
def mapM (n : Nat) (o : Oper) (s : S) : SM (PExit × S) := match o.dst with
  | some d => if d < n then .ret (.normal, { s with tmps := put s.tmps d (.v (.mp (cnt s.ext))), ext := put s.ext (cnt s.ext) [.mm []] }) else .bad 15
  | none => .bad 16
def opX (P : Program) (md : Md) (n : Nat) (all : List Oper) (o : Oper) (s : S) : SM (PExit × S) := match callee P o with
  | some r => callX o r s
  | none => match o.op with
    | .alloc ty => if (md.ro ty).isNone = true then (match zro P ty with | some zs => newM n o zs s | none => .bad 14) else actX P md.ro n all o s
    | .box ty x => if (md.ro ty).isNone = true then ((boxR x).runM s).bnd fun cs => newM n o cs s else actX P md.ro n all o s
    | .panic x => ((panR x).runM s).bnd fun p => .ret (.panic p, s)
    | .makeMap _ none => mapM n o s
    | .call ⟨.builtin .append, ⟨[x, y]⟩, ⟨[ty, ty']⟩⟩ => if md.row ty = true ∧ ty = ty' then appM P n o ty x y s else actX P md.ro n all o s
    | _ => actX P md.ro n all o s

section
variable {P : Program} {cx : Cx} {s s' : S} {Q : PExit → S → Prop} {K : S → Prop} {o : Oper} {pe : PExit} {md : Md} {all : List Oper} {sc sc' : List Ans}

theorem actX_sound {ro : TypeId → Option Bool} {K' : PExit × S → List Ans → Prop} (h : (actX P ro cx.n all o s).wp P sc K') (hk : ∀ pe s' sc', K' (pe, s') sc' → thenQ K Q pe s') : OpK P cx s o K Q := fun g l a w hs => by
  have h1 := RM.wpR_wp (actM_wp (SM.wp_bnd h))
  refine upon_mono ?_ (act_sound hs h1 (post cx Q))
  rintro a' w' ⟨wr, g', l', ⟨rd, sc1, h2⟩, sm⟩
  exact ⟨_, g', l', hk _ _ _ (SM.wp_ret h2), sm⟩
theorem callX_sound {r : RM (FuncId × List PV)} {K' : PExit × S → List Ans → Prop} (ho : callee P o = some r) (hd : ∀ d, o.dst = some d → d < cx.n) (h : (callX o r s).wp P sc K') (hk : ∀ pe s' sc', K' (pe, s') sc' → thenQ K Q pe s') : OpK P cx s o K Q := fun g l a w hs => by
  have h1 := RM.runM_wp (SM.wp_bnd h)
  refine callee_sound ho hd hs (RM.wp_mono ?_ h1)
  rintro ⟨f, args⟩ ⟨sc1, h2⟩
  obtain ⟨res, e', pu, sc2, h3, h4, h5, -⟩ := askC_wp (SM.wp_bnd h2)
  refine ⟨h4, h5.mono ?_⟩
  rintro res1 e1 ⟨h6, h7⟩
  subst h6 h7
  cases res1 with
  | ret p => exact hk _ _ _ (SM.wp_ret h3)
  | own te z es => exact hk _ _ _ (SM.wp_ret h3)
  | panic p => exact hk _ _ _ (SM.wp_ret h3)
theorem newM_inv {n : Nat} {cs : List PV} {K' : PExit × S → List Ans → Prop} (h : (newM n o cs s).wp P sc K') : ∃ pe s', newX n o cs s = some (pe, s') ∧ K' (pe, s') sc := by
  unfold newM at h
  split at h
  · rename_i r hr; exact ⟨r.1, r.2, hr, SM.wp_ret h⟩
  · exact h.elim
theorem appM_sound {ty : TypeId} {x y : Operand} {K' : PExit × S → List Ans → Prop} (ho : o.op = .call ⟨.builtin .append, #[x, y], #[ty, ty]⟩) (h : (appM P cx.n o ty x y s).wp P sc K') (hk : ∀ pe s' sc', K' (pe, s') sc' → thenQ K Q pe s') : OpK P cx s o K Q := fun g l0 a w hs => by
  unfold appM at h
  split at h
  · rename_i e d he hd
    split at h
    · rename_i m B zs hm hB hz
      split at h
      · rename_i hc
        obtain ⟨hn, hzl⟩ := hc
        split at h
        · refine appY_go ho hd hn he hm hB hz hzl hs (RM.wp_mono ?_ (RM.runM_wp (SM.wp_bnd h)))
          rintro ys ⟨sc1, h2⟩
          obtain ⟨h3, h4⟩ := SM.wp_owe h2
          exact ⟨of_decide_eq_true h3, hk _ _ _ h4⟩
        · refine appZ_go ho hd hn he hm hB hz hzl hs (RM.wp_mono ?_ (RM.runM_wp (SM.wp_bnd h)))
          rintro ys ⟨sc1, h2⟩
          obtain ⟨h3, h4⟩ := SM.wp_owe h2
          exact ⟨of_decide_eq_true h3, hk _ _ _ h4⟩
        · refine appN_go ho hd hn he hm hB hz hzl hs (RM.wp_mono ?_ (RM.runM_wp (SM.wp_bnd h)))
          rintro ys ⟨sc1, h2⟩
          obtain ⟨h3, h4⟩ := SM.wp_owe h2
          exact ⟨of_decide_eq_true h3, hk _ _ _ h4⟩
        · refine appX_go ho hd hn he hm hB hz hzl hs (RM.wp_mono ?_ (RM.runM_wp (SM.wp_bnd h)))
          rintro ys ⟨sc1, h2⟩
          obtain ⟨h3, h4⟩ := SM.wp_owe h2
          exact ⟨of_decide_eq_true h3, hk _ _ _ h4⟩
      · exact h.elim
    · exact h.elim
  · exact h.elim
theorem opX_sound {K' : PExit × S → List Ans → Prop} (hd : ∀ d, o.dst = some d → d < cx.n) (h : (opX P md cx.n all o s).wp P sc K') (hk : ∀ pe s' sc', K' (pe, s') sc' → thenQ K Q pe s') : OpK P cx s o K Q := by
  unfold opX at h
  split at h
  · rename_i r hr; exact callX_sound hr hd h hk
  · split at h
    · rename_i ty hop
      split at h
      · split at h
        · rename_i zs hz
          obtain ⟨pe, s', hx, hK⟩ := newM_inv h
          intro g l a w hs
          obtain ⟨i, z, h1, h2, h3⟩ := zro_inv hz
          obtain ⟨hr, hone, -⟩ := cvs_rep (g := g) (w := w) h3
          exact newX_sound (ty := ty) hs hr hone (by simp [execOp, hop, Instr.alloc, zeroValue, typeInfo, h1, h2, newVar, newRow]) hx (hk _ _ _ hK)
        · exact h.elim
      · exact actX_sound h hk
    · rename_i ty x hop
      split at h
      · intro g l0 a w hs
        obtain ⟨p, h1, r1⟩ := evP_sound hs (RM.runM_wp (SM.wp_bnd h))
        split at h1
        · rename_i cs hc
          obtain ⟨sc1, h2⟩ := h1
          obtain ⟨pe, s', hx, hK⟩ := newM_inv h2
          obtain ⟨hr, hone⟩ := cel_rep hc r1
          exact newX_sound (ty := ty) hs hr hone (by simp [execOp, hop, Instr.box, newVar, newRow]) hx (hk _ _ _ hK)
        · exact h1.elim
      · exact actX_sound h hk
    · rename_i x hop
      intro g l0 a w hs
      obtain ⟨p', h1, r1⟩ := evP_sound hs (RM.runM_wp (SM.wp_bnd h))
      split at h1
      · rename_i t q
        obtain ⟨sc1, h2⟩ := h1
        have h3 := hk _ _ _ (SM.wp_ret h2)
        have hrun : ∀ v, a.eval x = .iface t v → (execOp a.eval o).run P w = .halt (.panic (.iface t v)) w := fun v hv => by
          simp [execOp, hop, hv, Instr.panic, goPanic]
        generalize a.eval x = vx at r1 hrun
        cases r1 with
        | iface _ _ v hv =>
          unfold Oper.wp
          rw [hrun v rfl, Oper.upon_panic]
          exact ⟨.panic (.iface t q), s, g, l0, h3, ⟨_, rfl, .iface _ _ _ hv⟩, hs⟩
      · exact h1.elim
    · rename_i ty hop
      unfold mapM at h
      intro g l0 a w hs
      split at h
      · rename_i d hd'
        split at h
        · rename_i hn
          unfold Oper.wp
          rw [show (execOp a.eval o).run P w = .ok (.value (.map (some w.heap.size))) (w.alloc (.map #[] 0)) by simp [execOp, hop, Instr.makeMap, Result.andThen], Oper.upon_value, hd']
          obtain ⟨k1, -⟩ := hs.newmap
          exact ⟨_, _, _, hk _ _ _ (SM.wp_ret h), k1.set hn (.mp _ _ (upd_same _ _ _))⟩
        · exact h.elim
      · exact h.elim
    · rename_i x y ty ty' hop
      split at h
      · rename_i hc
        obtain ⟨-, rfl⟩ := hc
        exact appM_sound hop h hk
      · exact actX_sound h hk
    · exact actX_sound h hk

/-! ## Regions in the order of the text -/
def wantX (all : List Oper) (o : Oper) (s : S) : SM Bool := match o.guard with
  | none => .ret true
  | some (j, want) => match (all[j]?).bind (·.dst) with
    | some dj => match lk s.tmps dj with
      | some (.v (.bool b)) => (askB b).bnd fun v => .ret (v == want)
      | some (.v (.tup _)) => .ret false
      | _ => .bad 20
    | none => .bad 21
theorem wantX_wp {K' : Bool → List Ans → Prop} (h : (wantX all o s).wp P sc K') : ∃ b sc', wantS all o s = some b ∧ K' b sc' := by
  unfold wantX at h
  unfold wantS
  split at h
  · rename_i hg; rw [hg]; exact ⟨_, _, rfl, SM.wp_ret h⟩
  · rename_i j want hg
    rw [hg]
    split at h
    · rename_i dj hdj
      simp only [hdj]
      split at h
      · rename_i b hb
        obtain ⟨sc', h1⟩ := askB_wp (SM.wp_bnd h)
        exact ⟨_, _, by rw [hb]; rfl, SM.wp_ret h1⟩
      · rename_i vs hb
        exact ⟨_, _, by rw [hb]; rfl, SM.wp_ret h⟩
      · exact h.elim
    · exact h.elim
def evLX (P : Program) (md : Md) (n : Nat) (all : List Oper) : List Oper → S → SM (PExit × S)
  | [], s => .ret (.normal, s)
  | o :: rest, s => (wantX all o s).bnd fun b => match b with
    | true => (SM.tag o s (opX P md n all o s)).bnd fun r => match r with
      | (.normal, s') => evLX P md n all rest s'
      | r => .ret r
    | false => evLX P md n all rest (s.skip o)
theorem evLX_sound {K' : PExit × S → List Ans → Prop} (hall : dstOK cx.n all = true) (hk : ∀ pe s' sc', K' (pe, s') sc' → Q pe s') : ∀ {ls : List Oper} {s : S} {sc : List Ans}, (∀ o ∈ ls, o ∈ all) → (evLX P md cx.n all ls s).wp P sc K' → PL P cx all.toArray ls s Q
  | [], s, sc, _, h => PL_nil (hk _ _ _ (SM.wp_ret h))
  | o :: rest, s, sc, hm, h => by
    have hd : ∀ d, o.dst = some d → d < cx.n := dstOK_mem hall (hm o (by simp))
    have hm' : ∀ o ∈ rest, o ∈ all := fun o ho => hm o (List.mem_cons_of_mem _ ho)
    intro g l0 a w hs
    simp only [evLX] at h
    obtain ⟨b, sc1, hw, h1⟩ := wantX_wp (SM.wp_bnd h)
    have hwant := wantS_sound hall hw hs
    refine wpList_step fun K hK => ?_
    cases b with
    | true =>
      rw [if_pos hwant]
      have h2 := SM.wp_tag (SM.wp_bnd h1)
      refine upon_mono ?_ (opX_sound (Q := Q) (K := fun s' => PL P cx all.toArray rest s' Q) hd h2 (fun pe s' sc' h3 => ?_) g l0 a w hs)
      · rintro a' w' ⟨s', g', l', hp, sm⟩
        exact hK _ _ (hp g' l' a' w' sm)
      · cases pe with
        | normal => exact evLX_sound hall hk hm' h3
        | exit _ => exact hk _ _ _ (SM.wp_ret h3)
        | ret => exact hk _ _ _ (SM.wp_ret h3)
        | panic _ => exact hk _ _ _ (SM.wp_ret h3)
    | false =>
      rw [if_neg (by rw [hwant]; simp)]
      refine hK _ _ (evLX_sound hall hk hm' h1 g l0 _ w ?_)
      cases hdd : o.dst with
      | none => simp only [S.skip, hdd, Act.put]; exact hs
      | some d =>
        simp only [S.skip, hdd]
        exact hs.set (hd d hdd) (.tup [] [] rfl fun j h => by simp at h)
end
end Go.Pv
