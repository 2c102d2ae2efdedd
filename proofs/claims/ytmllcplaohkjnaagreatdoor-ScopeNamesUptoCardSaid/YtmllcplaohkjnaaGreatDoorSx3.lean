/- Small facts that contracts use. -/
import Derived.Test.YtmllcplaohkjnaaGreatDoorSx2
import Derived.Test.YtmllcplaohkjnaaGreatDoorPv32
import Derived.Laws.Strings
set_option linter.unusedVariables false
set_option linter.unusedSimpArgs false
set_option linter.unusedSectionVars false
namespace Go.Pv
theorem bnT {x : Bool} (h : x = false) : (!x) = true := by rw [h]; rfl
theorem bnF {x : Bool} (h : x = true) : (!x) = false := by rw [h]; rfl
theorem dT {p : Prop} [Decidable p] (h : p) : decide p = true := decide_eq_true h
theorem dF {p : Prop} [Decidable p] (h : ¬ p) : decide p = false := decide_eq_false h
theorem wrap64_eq {x : Int} (h1 : -9223372036854775808 ≤ x) (h2 : x ≤ 9223372036854775807) : IntKind.i64.wrap x = x := by
  simp only [IntKind.wrap, IntKind.bits, IntKind.signed]
  simp
  omega
theorem wrap64 {x : Int} (h1 : -9223372036854775808 ≤ x) (h2 : x ≤ 9223372036854775807) : LV.v (.int .i64 (IntKind.i64.wrap x)) = LV.v (.int .i64 x) := by rw [wrap64_eq h1 h2]
theorem bytes_eq {a b : ByteArray} (h : a.toList = b.toList) : a = b := by
  rw [ByteArray.toList_eq, ByteArray.toList_eq] at h
  cases a; cases b
  congr
  exact Array.toList_inj.1 h
theorem bsT {a b : ByteArray} (h : a = b) : (a.toList == b.toList) = true := by rw [h]; simp
theorem bsF {a b : ByteArray} (h : ¬ a = b) : (a.toList == b.toList) = false := by
  simp only [beq_eq_false_iff_ne, ne_eq]
  exact fun e => h (bytes_eq e)
/-- New named objects that nobody knows may be forgotten. -/
theorem CallC.forget {P : Program} {f : FuncId} {args : List PV} {res : CRes} {e1 : Ext} (ha : noXs args = true) (hr : res.noX = true) (h : CallC P f args [] fun r e => r = res ∧ e = e1) (e : Ext) : CallC P f args e fun r e' => r = res ∧ e' = e := by
  intro vs g l w hargs hent
  let g2 : Gh := ⟨g.M, fun _ => none, fun _ _ => none⟩
  let l2 : LG := ⟨fun _ => none, fun _ => none, fun _ => none⟩
  have h1 : RepAll g2 w args vs := ⟨hargs.1, fun j hj hj' => Rep.names (g := g) rfl (noXs_mem ha j hj) (hargs.2 j hj hj')⟩
  have h2 : Ent [] g2 l2 w := { ex := fun x cs hx => (by simp [lk] at hx), olt := fun b o ho => (by cases ho), uo := fun p b hb => (by cases hb), fresh := ⟨hent.fresh.1, fun _ _ => rfl, fun _ _ _ => rfl⟩, xlt := fun n b hb => (by cases hb), only := fun b o ho => (by cases ho), glb := hent.glb.names rfl }
  refine (h vs g2 l2 w h1 h2).mono ?_
  rintro en w' ⟨r, e2, g', l', ⟨rfl, rfl⟩, hres, hent', hmono, hsz, hfr, hown, os, tape, output⟩
  have hl' : ∀ b o, l'.O b = some o → w.heap.size ≤ b := fun b o ho => by
    rcases hown b o ho with h | h
    · exact h
    · cases h
  let g3 : Gh := ⟨g'.M, g.X, g.Y⟩
  have hkeep : ∀ b, b < w.heap.size → w'.heap[b]? = w.heap[b]? ∧ g'.M b = g.M b := fun b hb => hfr b hb rfl
  have hm3 : Mono g w g3 w' := ⟨fun n b hb => hb, fun b o v hc hf => by
      obtain ⟨k1, k2⟩ := hmono.cell b o v hc (fun k hk => hf k hk)
      exact ⟨k1, fun k hk => k2 k hk⟩, fun b cur t hb => hmono.len b cur t hb, fun _ _ _ h => h⟩
  refine ⟨r, e, g3, l, ⟨rfl, rfl⟩, ?_, ?_, hm3, hsz, fun b hb _ => hkeep b hb, fun b o ho => .inr (by rw [ho]; rfl), os, tape, output⟩
  · cases r with
    | ret p =>
      cases en <;> first | exact hres.elim | skip
      exact Rep.names (g := g') rfl hr hres
    | own te z es =>
      cases en <;> first | exact hres.elim | skip
      rcases hres with (h | ⟨a, h, h'⟩) | ⟨b, cap, cur, k1, k2, k3, k4, k5, k6, k7, k8⟩
      · exact .inl (.inl h)
      · exact .inl (.inr ⟨a, h, Rep.names (g := g') rfl (by simpa [PV.noX, CRes.noX] using hr) h'⟩)
      · have hb : w.heap.size ≤ b := by
          rcases k2 with h | h
          · exact h
          · cases h
        refine .inr ⟨b, cap, cur, k1, .inl hb, k3, ?_, k5, k6, k7, Rep.names (g := g') rfl (by simpa [PV.noX, CRes.noX] using hr) k8⟩
        cases hb' : l.O b with
        | none => rfl
        | some o => exact absurd (hent.olt b o hb') (by omega)
    | panic p =>
      cases en <;> first | exact hres.elim | skip
      obtain ⟨v, hv, hrv⟩ := hres
      exact ⟨v, hv, Rep.names (g := g') rfl hr hrv⟩
  · refine ⟨fun x cs hx => ?_, fun b o ho => Nat.lt_of_lt_of_le (hent.olt b o ho) hsz, hent.uo, ⟨hent'.fresh.1, hent.fresh.2⟩, fun n b hb => Nat.lt_of_lt_of_le (hent.xlt n b hb) hsz, hent.only, hent.glb.mono hm3⟩
    obtain ⟨b, k1, k2, hE⟩ := hent.ex x cs hx
    have hb := hkeep b (hent.olt b _ k2)
    refine ⟨b, k1.mono hm3, k2, ?_⟩
    rcases hE with ⟨k3, cur, t, k4, k5, k6⟩ | hE
    rotate_left
    · exact .inr (hE.keep hm3 (fun _ _ _ h => h) hb.2 hb.1)
    refine .inl ⟨hb.2.trans k3, cur, t, hb.1.trans k4, k5, fun j hj => ⟨(k6 j hj).1, (k6 j hj).2.1, ?_⟩⟩
    refine (k6 j hj).2.2.keep hm3 (fun _ _ _ => rfl) fun b' hb' => ?_
    have hlt := hent.olt b' _ (hent.uo _ _ hb')
    exact ⟨hb', (hkeep b' hlt).2, (hkeep b' hlt).1⟩
theorem Ob.pur_of_eff {P : Program} {f : FuncId} {args : List PV} {r : CRes} {e' : Ext} (ha : noXs args = true) (hr : r.noX = true) (h : (Ob.eff f args [] r e').ok P) : (Ob.pur f args r).ok P := ⟨h.1, fun e => CallC.forget ha hr h.2 e⟩
/-- What the evaluator reckons of a call without named objects. -/
theorem Ob.pur_of_run {P : Program} (fs : List FuncId) (md : FuncId → Md) (fl d : Nat) {f : FuncId} {args : List PV} {r : CRes} (hm : P.follows .mixedOrders = true) (hok : fs.all (okFn P) = true) (h : (evF P (fun f => fs.contains f) md fl d f args []).map Prod.fst = some r) (ha : noXs args = true) (hr : r.noX = true) : (Ob.pur f args r).ok P := by
  have := (evF_sound (P := P) (ok := fun f => fs.contains f) (md := md) (fl := fl) (fun f hf => List.all_eq_true.1 hok f (by simpa using hf)) hm d).1
  cases he : evF P (fun f => fs.contains f) md fl d f args [] with
  | none => rw [he] at h; cases h
  | some x =>
    obtain ⟨r1, e1⟩ := x
    rw [he] at h
    injection h with h
    subst h
    obtain ⟨h1, h2⟩ := this f args [] _ _ he
    exact Ob.pur_of_eff ha hr ⟨h1, h2⟩
theorem Ob.pur_of_fast {P : Program} (md : FuncId → Md) (fl d : Nat) {f : FuncId} {args : List PV} {r : CRes} (hm : P.follows .mixedOrders = true) (h : ((evFR P md fl d).1 f args []).map Prod.fst = some r) (ha : noXs args = true) (hr : r.noX = true) : (Ob.pur f args r).ok P := by
  have := (evFR_sound (P := P) (md := md) (fl := fl) hm d).1
  cases he : (evFR P md fl d).1 f args [] with
  | none => rw [he] at h; cases h
  | some x =>
    obtain ⟨r1, e1⟩ := x
    rw [he] at h
    injection h with h
    subst h
    obtain ⟨h1, h2⟩ := this f args [] _ _ he
    exact Ob.pur_of_eff ha hr ⟨h1, h2⟩
theorem ob_eqv {P : Program} {x y : LV} (h : x = y) : (Ob.eqv x y).ok P := h
theorem ob_bit {P : Program} {x y : Bool} (h : x = y) : (Ob.bit x y).ok P := h
theorem bTF {b : Bool} (h : ¬ b = false) : b = true := by cases b <;> simp_all
theorem bFT {b : Bool} (h : ¬ b = true) : b = false := by cases b <;> simp_all
theorem beT {a b : Int} (h : a = b) : (a == b) = true := by simp [h]
theorem beF {a b : Int} (h : ¬ a = b) : (a == b) = false := by simp [h]
theorem bneT {a b : Int} (h : ¬ a = b) : (a != b) = true := by simp [h]
theorem bneF {a b : Int} (h : a = b) : (a != b) = false := by simp [h]
theorem WL.r {v : LV} : WL v v := .inl rfl
/-! ## Weaker values: an empty slice for nil -/
inductive Wk : PV → PV → Prop
  | r (p : PV) : Wk p p
  | n (z : Nat) : Wk .nilsl (.sl z [])
  | op (p : PV) : Wk (.opq p) p
  | qo (p : PV) (h : p.one = true) : Wk p (.opq p)
  | im (t : TypeId) (f : Nat) (p : PV) : Wk (.iface t p) (.ifm t f p)
  | agg {a b : List PV} (h1 : a.length = b.length) (h : ∀ j (h : j < a.length) (h' : j < b.length), Wk a[j] b[j]) : Wk (.agg a) (.agg b)
  | tup {a b : List PV} (h1 : a.length = b.length) (h : ∀ j (h : j < a.length) (h' : j < b.length), Wk a[j] b[j]) : Wk (.tup a) (.tup b)
  | ro {a b : List PV} {o : Nat} (h1 : a.length = b.length) (h : ∀ j (h : j < a.length) (h' : j < b.length), Wk a[j] b[j]) : Wk (.ro a o) (.ro b o)
  | sl {z : Nat} {a b : List (List PV)} (h1 : a.length = b.length) (h2 : ∀ i (h : i < a.length) (h' : i < b.length), a[i].length = b[i].length)
      (h : ∀ i (h : i < a.length) (h' : i < b.length) j (k : j < a[i].length) (k' : j < b[i].length), Wk a[i][j] b[i][j]) : Wk (.sl z a) (.sl z b)
theorem Wk.rep {p q : PV} (h : Wk p q) {g : Gh} {w : World} : ∀ {v : Value}, Rep g w p v → Rep g w q v := by
  induction h with
  | r p => exact fun h => h
  | n z => intro v h; cases h; exact .slnil z
  | op p =>
    intro v h
    cases h with
    | opq _ _ _ h => exact h
  | qo p h1 => exact fun h => .opq _ _ (h.one h1) h
  | im t f p =>
    intro v h
    cases h with
    | iface _ _ v h => exact .ifm _ _ _ v h
  | agg h1 h ih =>
    intro v hr
    cases hr with
    | agg _ vs k1 ko k => exact .agg _ vs (h1 ▸ k1) ko fun j hj hj' => ih j (by rw [h1]; exact hj) hj (k j (by rw [h1]; exact hj) hj')
  | tup h1 h ih =>
    intro v hr
    cases hr with
    | tup _ vs k1 k => exact .tup _ vs (h1 ▸ k1) fun j hj hj' => ih j (by rw [h1]; exact hj) hj (k j (by rw [h1]; exact hj) hj')
  | ro h1 h ih =>
    intro v hr
    cases hr with
    | ro _ off b o vs hc hf ho k => exact .ro _ _ b o vs (fun j hj => hc j (by rw [h1]; exact hj)) (fun j hj => hf j (by rw [h1]; exact hj)) (fun j hj => ho j (by rw [h1]; exact hj)) fun j hj => ih j (by rw [h1]; exact hj) hj (k j (by rw [h1]; exact hj))
  | @sl z a b h1 h2 h ih =>
    intro v hr
    cases hr with
    | slnil _ =>
      have : b = [] := List.eq_nil_of_length_eq_zero h1.symm
      subst this
      exact .slnil z
    | sl _ _ ad cap vs hle hcap hsz hc hf ho k =>
      rw [h1] at hle ⊢
      exact .sl z b ad cap vs hle hcap (fun i hi => by rw [← h2 i (by rw [h1]; exact hi) hi]; exact hsz i (by rw [h1]; exact hi)) (fun i j hi hj => hc i j (by rw [h1]; exact hi) hj) (fun i j hi hj => hf i j (by rw [h1]; exact hi) hj) (fun i j hi hj => ho i j (by rw [h1]; exact hi) hj)
        fun i j hi hj => ih i (by rw [h1]; exact hi) hi j (by rw [h2 i (by rw [h1]; exact hi) hi]; exact hj) hj (k i j (by rw [h1]; exact hi) (by rw [h2 i (by rw [h1]; exact hi) hi]; exact hj))
def WkL (a b : List PV) : Prop := a.length = b.length ∧ ∀ j (h : j < a.length) (h' : j < b.length), Wk a[j] b[j]
theorem WkL.r (a : List PV) : WkL a a := ⟨rfl, fun _ _ _ => .r _⟩
theorem WkL.c {x y : PV} {a b : List PV} (h : Wk x y) (hs : WkL a b) : WkL (x :: a) (y :: b) := by
  refine ⟨by simp [hs.1], fun j hj hj' => ?_⟩
  cases j with
  | zero => exact h
  | succ j => exact hs.2 j (by simpa using hj) (by simpa using hj')
theorem Wk.a {a b : List PV} (h : WkL a b) : Wk (.agg a) (.agg b) := .agg h.1 h.2
theorem Wk.t {a b : List PV} (h : WkL a b) : Wk (.tup a) (.tup b) := .tup h.1 h.2
theorem Wk.o {a b : List PV} {o : Nat} (h : WkL a b) : Wk (.ro a o) (.ro b o) := .ro h.1 h.2
def WkLL (a b : List (List PV)) : Prop := a.length = b.length ∧ ∀ i (h : i < a.length) (h' : i < b.length), WkL a[i] b[i]
theorem WkLL.r (a : List (List PV)) : WkLL a a := ⟨rfl, fun _ _ _ => .r _⟩
theorem WkLL.c {x y : List PV} {a b : List (List PV)} (h : WkL x y) (hs : WkLL a b) : WkLL (x :: a) (y :: b) := by
  refine ⟨by simp [hs.1], fun j hj hj' => ?_⟩
  cases j with
  | zero => exact h
  | succ j => exact hs.2 j (by simpa using hj) (by simpa using hj')
theorem Wk.s {z : Nat} {a b : List (List PV)} (h : WkLL a b) : Wk (.sl z a) (.sl z b) := .sl h.1 (fun i hi hi' => (h.2 i hi hi').1) fun i hi hi' => (h.2 i hi hi').2
theorem CallC.wk {P : Program} {f : FuncId} {args : List PV} {e e' : Ext} {p q : PV} (hw : Wk p q) (h : CallC P f args e fun r1 e1 => r1 = .ret p ∧ e1 = e') : CallC P f args e fun r1 e1 => r1 = .ret q ∧ e1 = e' := fun vs g l w ha he =>
  (h vs g l w ha he).mono fun en w' ⟨res, e2, g', l', ⟨h1, h2⟩, h3, h4⟩ => by
    subst h1 h2
    refine ⟨.ret q, e2, g', l', ⟨rfl, rfl⟩, ?_, h4⟩
    cases en <;> first | exact h3.elim | exact hw.rep h3
theorem Ob.pur_wk {P : Program} {f : FuncId} {args : List PV} {p q : PV} (hw : Wk p q) (h : (Ob.pur f args (.ret p)).ok P) : (Ob.pur f args (.ret q)).ok P := ⟨h.1, fun e => (h.2 e).wk hw⟩
theorem Ob.eff_wk {P : Program} {f : FuncId} {args : List PV} {e e' : Ext} {p q : PV} (hw : Wk p q) (h : (Ob.eff f args e (.ret p) e').ok P) : (Ob.eff f args e (.ret q) e').ok P := ⟨h.1, h.2.wk hw⟩
/-- A result of its own is a result. -/
theorem CallC.unown {P : Program} {f : FuncId} {args : List PV} {e e' : Ext} {te : TypeId} {z : Nat} {es : List (List PV)} (h : CallC P f args e fun r1 e1 => r1 = .own te z es ∧ e1 = e') : CallC P f args e fun r1 e1 => r1 = .ret (.sl z es) ∧ e1 = e' := fun vs g l w ha he =>
  (h vs g l w ha he).mono fun en w' ⟨res, e2, g', l', ⟨h1, h2⟩, h3, h4⟩ => by
    subst h1 h2
    refine ⟨.ret (.sl z es), e2, g', l', ⟨rfl, rfl⟩, ?_, h4⟩
    cases en with
    | returned v =>
      rcases h3 with (⟨rfl, rfl⟩ | ⟨a, -, h⟩) | ⟨b, cap, cur, -, -, -, -, -, -, -, h⟩
      · exact .slnil z
      · exact h
      · exact h
    | panicked _ => exact h3.elim
    | _ => exact h3.elim
theorem Ob.pur_unown {P : Program} {f : FuncId} {args : List PV} {te : TypeId} {z : Nat} {es : List (List PV)} (h : (Ob.pur f args (.own te z es)).ok P) : (Ob.pur f args (.ret (.sl z es))).ok P := ⟨h.1, fun e => (h.2 e).unown⟩
theorem Ob.eff_unown {P : Program} {f : FuncId} {args : List PV} {e e' : Ext} {te : TypeId} {z : Nat} {es : List (List PV)} (h : (Ob.eff f args e (.own te z es) e').ok P) : (Ob.eff f args e (.ret (.sl z es)) e').ok P := ⟨h.1, h.2.unown⟩
/-- Stronger arguments. -/
theorem WkL.repAll {a b : List PV} (h : WkL a b) {g : Gh} {w : World} {vs : List Value} (hr : RepAll g w a vs) : RepAll g w b vs := ⟨h.1 ▸ hr.1, fun j hj hj' => (h.2 j (by rw [h.1]; exact hj) hj).rep (hr.2 j (by rw [h.1]; exact hj) hj')⟩
theorem Ob.pur_arg {P : Program} {f : FuncId} {a b : List PV} {r : CRes} (hw : WkL a b) (h : (Ob.pur f b r).ok P) : (Ob.pur f a r).ok P := ⟨h.1, fun e vs g l w ha he => h.2 e vs g l w (hw.repAll ha) he⟩
theorem Ob.eff_arg {P : Program} {f : FuncId} {a b : List PV} {e e' : Ext} {r : CRes} (hw : WkL a b) (h : (Ob.eff f b e r e').ok P) : (Ob.eff f a e r e').ok P := ⟨h.1, fun vs g l w ha he => h.2 vs g l w (hw.repAll ha) he⟩
/-- A loop over the indices of a list. -/
theorem Ob.loop_idx {P : Program} {n : Nat} {c : Code} (N : Nat) (I : Nat → S) (res : Nat → PExit × S)
    (round : ∀ i, i < N → ∀ cx : Cx, cx.n = n → PW P cx c (I i) fun pe s' => (pe = .normal ∧ LeX (I (i + 1)) s' ∧ res (i + 1) = res i) ∨ (pe ≠ .normal ∧ pe = (res i).1 ∧ LeX (res i).2 s'))
    (last : ∀ cx : Cx, cx.n = n → PW P cx c (I N) fun pe s' => pe ≠ .normal ∧ pe = (res N).1 ∧ LeX (res N).2 s') (i : Nat) (hi : i ≤ N) : (Ob.loop n c (I i) (res i).1 (res i).2).ok P := by
  refine Ob.loop_of (α := { i : Nat // i ≤ N }) (fun i => I i.1) (fun i => N - i.1) (fun i => res i.1) ?_ ⟨i, hi⟩
  rintro ⟨i, hi⟩ cx hcx
  rcases Nat.lt_or_ge i N with hlt | hge
  · refine PW.mono (round i hlt cx hcx) ?_
    rintro pe s' (⟨h1, h2, h3⟩ | h)
    · exact .inl ⟨h1, ⟨i + 1, hlt⟩, by simp only; omega, h2, h3⟩
    · exact .inr h
  · have he : i = N := by omega
    subst he
    refine PW.mono (last cx hcx) ?_
    intro pe s' h
    exact .inr h
end Go.Pv
