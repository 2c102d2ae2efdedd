/- Pure values, third part: what a write does to the relation. -/
import Derived.Test.YtmllcplaohkjnaaGreatDoorPv2
import Derived.Laws.CopyRow
set_option linter.unusedVariables false
set_option linter.unusedSimpArgs false
set_option linter.unusedSectionVars false
namespace Go.Pv
open Go.RowKit

theorem RepL.keep {g g' : Gh} {l l' : LG} {w w' : World} {p : UL} {lv : LV} {v : Value} (hr : RepL g l w p lv v) (hm : Mono g w g' w')
    (hL : ∀ i off, lv = .lp i off → l'.L i = l.L i) (hU : ∀ b, l.U p = some b → l'.U p = some b ∧ g'.M b = g.M b ∧ w'.heap[b]? = w.heap[b]?) : RepL g' l' w' p lv v := by
  cases lv with
  | v q => exact Rep.mono hr hm
  | lp i off =>
    obtain ⟨b, h1, h2⟩ := hr
    exact ⟨b, (hL i off rfl).trans h1, h2⟩
  | uniq e size es =>
    rcases hr with (h | ⟨a, h1, h2⟩) | ⟨b, cap, cur, h1, h2, h3, h4, h5, h6⟩
    · exact .inl (.inl h)
    · exact .inl (.inr ⟨a, h1, h2.mono hm⟩)
    · obtain ⟨k1, k2, k3⟩ := hU b h2
      exact .inr ⟨b, cap, cur, h1, k1, k2.trans h3, k3.trans h4, h5, h6.mono hm⟩
  | full size es =>
    rcases hr with h | ⟨a, h1, h2⟩
    · exact .inl h
    · exact .inr ⟨a, h1, h2.mono hm⟩
  | junk => trivial
  | mm _ => exact hr.elim
  | row _ _ => exact hr.elim

/-- No slot owns: for values that are no 'uniq' the place does not matter. -/
def LV.free : LV → Bool
  | .uniq _ _ _ => false
  | _ => true
theorem RepL.free {g : Gh} {l : LG} {w : World} {p q : UL} {lv : LV} {v : Value} (h : lv.free = true) (hr : RepL g l w p lv v) : RepL g l w q lv v := by
  cases lv with
  | uniq e size es => cases h
  | v _ => exact hr
  | lp _ _ => exact hr
  | full _ _ => exact hr
  | junk => exact hr
  | mm _ => exact hr
  | row _ _ => exact hr

theorem eval_put (a : Act) (d t : Nat) (v : Value) (h : d < a.tmps.size) : (a.put (some d) v).tmps.getD t undef = if d = t then v else a.tmps.getD t undef := by
  simp only [Act.put, Array.getD_eq_getD_getElem?, Array.getElem?_setIfInBounds]
  split
  · simp
  · rfl

section
variable {cx : Cx} {s : S} {g : Gh} {l : LG} {a : Act} {w : World}

/-- A slot is written (a value that owns nothing). -/
theorem Sim.set (h : Sim cx s g l a w) {d : Nat} {lv : LV} {v : Value} (hd : d < cx.n) (hr : RepL g l w (.t d) lv v) :
    Sim cx { s with tmps := put s.tmps d lv } g l (a.put (some d) v) w where
  hist := h.hist
  size := by simp [Act.put, h.size]
  defers := by simp [Act.put, h.defers]
  tm t lv' ht := by
    rw [eval_put a d t v (by rw [h.size]; exact hd)]
    rw [lk_put] at ht
    split
    · rename_i e; subst e; rw [if_pos rfl] at ht; injection ht with ht; subst ht; exact hr
    · rename_i e; rw [if_neg e] at ht; exact h.tm t lv' ht
  bx := h.bx
  ex := h.ex
  own := h.own
  uo := h.uo
  fresh := h.fresh
  xlt := h.xlt

/-- The slot is written by a value of which nothing is known: it is forgotten. -/
def del {α : Type} : List (Nat × α) → Nat → List (Nat × α)
  | [], _ => []
  | (k, v) :: r, t => if k = t then del r t else (k, v) :: del r t
theorem lk_del {α : Type} (l : List (Nat × α)) (t u : Nat) : lk (del l t) u = if t = u then none else lk l u := by
  induction l with
  | nil => simp [del, lk]
  | cons x r ih =>
    obtain ⟨k, v⟩ := x
    by_cases hk : k = t
    · subst hk
      simp only [del, if_true, ih, lk]
      split <;> rfl
    · simp only [del, hk, if_false, lk, ih]
      by_cases hu : k = u
      · subst hu; simp [Ne.symm hk]
      · simp [hu]
theorem Sim.forget (h : Sim cx s g l a w) {d : Nat} {v : Value} (hd : d < cx.n) : Sim cx { s with tmps := del s.tmps d } g l (a.put (some d) v) w where
  hist := h.hist
  size := by simp [Act.put, h.size]
  defers := by simp [Act.put, h.defers]
  tm t lv' ht := by
    rw [eval_put a d t v (by rw [h.size]; exact hd)]
    rw [lk_del] at ht
    split
    · rename_i e; rw [if_pos e] at ht; cases ht
    · rename_i e; rw [if_neg e] at ht; exact h.tm t lv' ht
  bx := h.bx
  ex := h.ex
  own := h.own
  uo := h.uo
  fresh := h.fresh
  xlt := h.xlt

theorem len_of_same {w w' : World} (hb : ∀ b, b < w.heap.size → w'.heap[b]? = w.heap[b]?) : ∀ (b : Nat) (cur : Array Value) (e : TypeId), w.heap[b]? = some (Obj.cells cur e (0, 0)) → ∃ cur' : Array Value, w'.heap[b]? = some (Obj.cells cur' e (0, 0)) ∧ cur'.size = cur.size :=
  fun b cur _ h => ⟨cur, (hb b (Array.getElem?_eq_some_iff.1 h).1).trans h, rfl⟩
/-- The world turns where nothing is owned: new blocks, draws. -/
theorem Sim.world {w' : World} (h : Sim cx s g l a w) (hsz : w.heap.size ≤ w'.heap.size) (hb : ∀ b, b < w.heap.size → w'.heap[b]? = w.heap[b]?)
    (os : w'.os = w.os) (tape : w'.tape = w.tape) (output : w'.output = w.output) : Sim cx s g l a w' ∧ Mono g w g w' := by
  have hm : Mono g w g w' := ⟨fun _ _ e => e, fun b o v hc hf => ⟨by
    have := World.block_lt_of_cell? w _ hc
    rw [← hc]; exact World.cell?_of_block (hb b this), hf⟩, len_of_same hb, fun _ _ _ h => h⟩
  have hL : ∀ {p lv v}, RepL g l w p lv v → RepL g l w' p lv v := fun hr => hr.keep hm (fun _ _ _ => rfl) fun b hu => ⟨hu, rfl, hb b (h.own b _ (h.uo _ _ hu)).1⟩
  refine ⟨⟨⟨h.hist.mono.trans hm, Nat.le_trans h.hist.size hsz, fun b hlt ho => ?_, os.trans h.hist.os, tape.trans h.hist.tape, output.trans h.hist.output, h.hist.glb.mono hm⟩, h.size, h.defers, fun t lv ht => hL (h.tm t lv ht), ?_, ?_, ?_, h.uo, ?_, ?_⟩, hm⟩
  · obtain ⟨h1, h2⟩ := h.hist.frame b hlt ho
    exact ⟨(hb b (Nat.lt_of_lt_of_le hlt h.hist.size)).trans h1, h2⟩
  · intro i cs hi
    obtain ⟨b, h1, h2, h3, cur, e, h4, h5, h6⟩ := h.bx i cs hi
    exact ⟨b, h1, h2, h3, cur, e, (hb b (h.own b _ h2).1).trans h4, h5, fun j hj => ⟨(h6 j hj).1, (h6 j hj).2.1, hL (h6 j hj).2.2⟩⟩
  · intro i cs hi
    obtain ⟨b, h1, h2, hE⟩ := h.ex i cs hi
    refine ⟨b, h1, h2, ?_⟩
    rcases hE with ⟨h3, cur, e, h4, h5, h6⟩ | hE
    · exact .inl ⟨h3, cur, e, (hb b (h.own b _ h2).1).trans h4, h5, fun j hj => ⟨(h6 j hj).1, (h6 j hj).2.1, hL (h6 j hj).2.2⟩⟩
    · exact .inr (hE.keep hm (fun _ _ _ h => h) rfl (hb b (h.own b _ h2).1))
  · intro b o ho
    exact ⟨Nat.lt_of_lt_of_le (h.own b o ho).1 hsz, (h.own b o ho).2⟩
  · exact ⟨fun b hb' => h.fresh.1 b (Nat.le_trans hsz hb'), h.fresh.2⟩
  · exact fun n b hx => Nat.lt_of_lt_of_le (h.xlt n b hx) hsz
theorem Sim.alloc (h : Sim cx s g l a w) (o : Obj) : Sim cx s g l a (w.alloc o) ∧ Mono g w g (w.alloc o) :=
  h.world (by simp) (fun b hb => Below.heap_alloc w o b hb) rfl rfl rfl
theorem Sim.drew (h : Sim cx s g l a w) : Sim cx s g l a w.drew ∧ Mono g w g w.drew := h.world (Nat.le_refl _) (fun _ _ => rfl) rfl rfl rfl

def kl (i : Nat) : LV → LV
  | .lp j o => if j = i then .junk else .lp j o
  | lv => lv
def killp (i : Nat) : List (Nat × LV) → List (Nat × LV)
  | [] => []
  | (k, lv) :: r => (k, kl i lv) :: killp i r
theorem lk_kill (i : Nat) : ∀ (tl : List (Nat × LV)) (t : Nat), lk (killp i tl) t = (lk tl t).map (kl i)
  | [], t => rfl
  | (k, x) :: r, t => by
    simp only [killp, lk]
    split
    · rfl
    · exact lk_kill i r t
theorem kl_rep {i : Nat} {lv : LV} : (kl i lv = .junk) ∨ (kl i lv = lv ∧ ∀ off, lv ≠ .lp i off) := by
  cases lv with
  | lp j o =>
    simp only [kl]
    split
    · exact .inl rfl
    · rename_i h; exact .inr ⟨rfl, fun off e => by injection e with e1 e2; exact h e1⟩
  | _ => exact .inr ⟨rfl, fun off e => by cases e⟩

def upd {α : Type} (f : Nat → α) (b : Nat) (x : α) : Nat → α := fun y => if y = b then x else f y
def updU (f : UL → Option Nat) (p : UL) (x : Option Nat) : UL → Option Nat := fun y => if y = p then x else f y
theorem upd_same {α : Type} (f : Nat → α) (b : Nat) (x : α) : upd f b x b = x := by simp [upd]
theorem upd_other {α : Type} (f : Nat → α) {b y : Nat} (x : α) (h : y ≠ b) : upd f b x y = f y := by simp [upd, h]

/-- A new box of this frame. -/
theorem Sim.newbox (h : Sim cx s g l a w) (i : Nat) (cur : Array Value) (e : TypeId) (ps : List PV) (hr : RepAll g w ps cur.toList) (hone : ∀ u ∈ cur.toList, u.oneCell' = true) :
    Sim cx { s with tmps := killp i s.tmps, boxes := put s.boxes i (ps.map .v) } { g with M := upd g.M w.heap.size (some 0) }
      { l with L := upd l.L i (some w.heap.size), O := upd l.O w.heap.size (some (.l i)) } a (w.alloc (.cells cur e)) ∧
    Mono g w { g with M := upd g.M w.heap.size (some 0) } (w.alloc (.cells cur e)) := by
  have hb : ∀ b, b < w.heap.size → (w.alloc (.cells cur e)).heap[b]? = w.heap[b]? := fun b hb => Below.heap_alloc w _ b hb
  have hm : Mono g w { g with M := upd g.M w.heap.size (some 0) } (w.alloc (.cells cur e)) := by
    refine ⟨fun _ _ e => e, fun b o v hc hf => ?_, len_of_same hb, fun _ _ _ h => h⟩
    have hlt := World.block_lt_of_cell? w _ hc
    refine ⟨by rw [← hc]; exact World.cell?_of_block (hb b hlt), fun k hk => hf k ?_⟩
    simp only at hlt
    rw [← upd_other g.M (some 0) (Nat.ne_of_lt hlt)]; exact hk
  have hU : ∀ {p b}, l.U p = some b → l.U p = some b ∧ upd g.M w.heap.size (some 0) b = g.M b ∧ (w.alloc (.cells cur e)).heap[b]? = w.heap[b]? := fun {p b} hu => by
    have hlt := (h.own b _ (h.uo _ _ hu)).1
    exact ⟨hu, upd_other _ _ (Nat.ne_of_lt hlt), hb b hlt⟩
  have hsz : (w.alloc (.cells cur e)).heap.size = w.heap.size + 1 := by simp
  refine ⟨⟨⟨h.hist.mono.trans hm, by rw [hsz]; exact Nat.le_succ_of_le h.hist.size, fun b hlt ho => ?_, h.hist.os, h.hist.tape, h.hist.output, h.hist.glb.mono hm⟩, h.size, h.defers, ?_, ?_, ?_, ?_, ?_, ?_, ?_⟩, hm⟩
  · obtain ⟨h1, h2⟩ := h.hist.frame b hlt ho
    have hlt' := Nat.lt_of_lt_of_le hlt h.hist.size
    exact ⟨(hb b hlt').trans h1, (upd_other g.M (some 0) (Nat.ne_of_lt hlt')).trans h2⟩
  · intro t lv ht
    simp only [lk_kill, Option.map_eq_some_iff] at ht
    obtain ⟨lv0, h0, rfl⟩ := ht
    rcases kl_rep (i := i) (lv := lv0) with hj | ⟨he, hne⟩
    · rw [hj]; trivial
    · rw [he]
      refine (h.tm t lv0 h0).keep hm (fun k off e => ?_) fun b hu => hU hu
      exact upd_other _ _ (fun ek => hne off (by rw [e, ek]))
  · intro k cs hk
    rw [lk_put] at hk
    split at hk
    · rename_i ek
      subst ek
      injection hk with hk
      subst hk
      refine ⟨w.heap.size, upd_same _ _ _, upd_same _ _ _, upd_same _ _ _, cur, e, heap_alloc_new w _, by simpa using Nat.le_of_eq hr.1, fun j hj => ?_⟩
      have hj1 : j < ps.length := by simpa using hj
      have hj2 : j < cur.toList.length := by rw [← hr.1]; exact hj1
      have hj3 : j < cur.size := by simpa using hj2
      refine ⟨by simp [LV.nolp], hone _ (by simp [hj3]), ?_⟩
      have := (hr.2 j hj1 hj2).mono hm
      simpa [RepL, hj3] using this
    · rename_i ek
      obtain ⟨b, h1, h2, h3, cur', e', h4, h5, h6⟩ := h.bx k cs hk
      have hlt := (h.own b _ h2).1
      refine ⟨b, (upd_other _ _ (Ne.symm ek)).trans h1, (upd_other _ _ (Nat.ne_of_lt hlt)).trans h2, (upd_other _ _ (Nat.ne_of_lt hlt)).trans h3, cur', e', (hb b hlt).trans h4, h5, fun j hj => ⟨(h6 j hj).1, (h6 j hj).2.1, (h6 j hj).2.2.keep hm (fun k off e => ?_) fun b hu => hU hu⟩⟩
      have := (h6 j hj).1
      rw [e] at this
      cases this
  · intro k cs hk
    obtain ⟨b, h1, h2, hE⟩ := h.ex k cs hk
    have hlt := (h.own b _ h2).1
    refine ⟨b, h1, (upd_other _ _ (Nat.ne_of_lt hlt)).trans h2, ?_⟩
    rcases hE with ⟨h3, cur', e', h4, h5, h6⟩ | hE
    · refine .inl ⟨(upd_other _ _ (Nat.ne_of_lt hlt)).trans h3, cur', e', (hb b hlt).trans h4, h5, fun j hj => ⟨(h6 j hj).1, (h6 j hj).2.1, (h6 j hj).2.2.keep hm (fun k off e => ?_) fun b hu => hU hu⟩⟩
      have := (h6 j hj).1
      rw [e] at this
      cases this
    · exact .inr (hE.keep hm (fun _ _ _ h => h) (upd_other _ _ (Nat.ne_of_lt hlt)) (hb b hlt))
  · intro b o ho
    simp only [upd] at ho
    split at ho
    · rename_i eb
      subst eb
      exact ⟨by rw [hsz]; omega, .inl h.hist.size⟩
    · obtain ⟨k1, k2⟩ := h.own b o ho
      exact ⟨by rw [hsz]; omega, k2⟩
  · intro p b hu
    have hlt := (h.own b _ (h.uo _ _ hu)).1
    exact (upd_other _ _ (Nat.ne_of_lt hlt)).trans (h.uo p b hu)
  · refine ⟨fun b hb' => ?_, h.fresh.2⟩
    rw [hsz] at hb'
    exact (upd_other _ _ (by omega)).trans (h.fresh.1 b (by omega))
  · intro n b hx
    rw [hsz]
    exact Nat.lt_succ_of_lt (h.xlt n b hx)

/-- The cells vs in the place of those from off on. -/
def splice {α : Type} : List α → Nat → List α → List α
  | cs, 0, [] => cs
  | _ :: cs, 0, v :: vs => v :: splice cs 0 vs
  | c :: cs, off + 1, vs => c :: splice cs off vs
  | [], _, _ => []
theorem splice_length {α : Type} : ∀ (cs : List α) (off : Nat) (vs : List α), (splice cs off vs).length = cs.length
  | cs, 0, [] => by simp [splice]
  | c :: cs, 0, v :: vs => by simp [splice, splice_length cs 0 vs]
  | c :: cs, off + 1, vs => by simp [splice, splice_length cs off vs]
  | [], 0, v :: vs => by simp [splice]
  | [], off + 1, vs => by simp [splice]
theorem splice_get {α : Type} : ∀ (cs : List α) (off : Nat) (vs : List α), off + vs.length ≤ cs.length → ∀ j, (splice cs off vs)[j]? = if off ≤ j ∧ j < off + vs.length then vs[j - off]? else cs[j]?
  | cs, 0, [], _, j => by simp [splice]
  | c :: cs, 0, v :: vs, h, j => by
    cases j with
    | zero => simp [splice]
    | succ j =>
      have := splice_get cs 0 vs (by simpa using h) j
      simp only [splice, List.getElem?_cons_succ, this]
      simp
  | c :: cs, off + 1, vs, h, j => by
    cases j with
    | zero => simp [splice]
    | succ j =>
      have := splice_get cs off vs (by simp at h; omega) j
      simp only [splice, List.getElem?_cons_succ, this]
      by_cases hc : off ≤ j ∧ j < off + vs.length
      · rw [if_pos hc, if_pos (by omega)]
        congr 1
        omega
      · rw [if_neg hc, if_neg (by omega)]
  | [], 0, v :: vs, h, _ => by simp at h
  | [], off + 1, vs, h, _ => by simp at h
theorem splice_eq {α : Type} (cs : List α) (off : Nat) (vs : List α) (h : off + vs.length ≤ cs.length) : splice cs off vs = cs.take off ++ vs ++ cs.drop (off + vs.length) := by
  apply List.ext_getElem?
  intro j
  rw [splice_get cs off vs h j]
  by_cases h1 : j < off
  · rw [if_neg (by omega), List.getElem?_append_left (by simp; omega), List.getElem?_append_left (by simp; omega), List.getElem?_take_of_lt h1]
  · by_cases h2 : j < off + vs.length
    · rw [if_pos (by omega), List.getElem?_append_left (by simp; omega), List.getElem?_append_right (by simp; omega)]
      congr 1
      simp
      omega
    · rw [if_neg (by omega), List.getElem?_append_right (by simp; omega), List.getElem?_drop]
      congr 1
      simp
      omega

end
end Go.Pv
