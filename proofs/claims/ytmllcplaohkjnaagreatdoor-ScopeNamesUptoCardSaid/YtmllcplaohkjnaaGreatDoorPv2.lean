/- Pure values, second part: the relation between a sparse state and a frame with its world; the rules of control. -/
import Derived.Test.YtmllcplaohkjnaaGreatDoorPv1
import Derived.Deep.LoopGhost
import Derived.MapKept
set_option linter.unusedVariables false
set_option linter.unusedSimpArgs false
set_option linter.unusedSectionVars false
namespace Go.Pv

/-- The frame of one activation: the number of slots, the deferred calls, the state at its beginning, the blocks that it was handed. -/
structure Cx where
  n : Nat
  ds : List Deferred
  g0 : Gh
  w0 : World
  own0 : Nat → Prop

/-- The package variables that hold the same cells at all times. -/
def GLB : List (Nat × List PV) := [(0, [.str ⟨#[97, 110, 100]⟩, .str ⟨#[97, 115, 115, 117, 109, 101]⟩, .str ⟨#[98, 111, 111, 108]⟩, .str ⟨#[98, 111, 117, 110, 100]⟩, .str ⟨#[99, 97, 115, 101]⟩, .str ⟨#[99, 101, 108, 108]⟩, .str ⟨#[99, 108, 97, 115, 115]⟩, .str ⟨#[100, 97, 116, 97]⟩, .str ⟨#[100, 101, 102]⟩, .str ⟨#[100, 105, 118]⟩, .str ⟨#[101, 108, 115, 101]⟩, .str ⟨#[101, 110, 100]⟩, .str ⟨#[102, 97, 108, 115, 101]⟩, .str ⟨#[102, 111, 114, 97, 108, 108]⟩, .str ⟨#[102, 117, 110]⟩, .str ⟨#[103, 101, 116]⟩, .str ⟨#[105, 102]⟩, .str ⟨#[105, 110]⟩, .str ⟨#[105, 110, 115, 116]⟩, .str ⟨#[105, 110, 116]⟩, .str ⟨#[105, 110, 118, 97, 114, 105, 97, 110, 116]⟩, .str ⟨#[108, 101, 116]⟩, .str ⟨#[109, 97, 116, 99, 104]⟩, .str ⟨#[109, 101, 97, 115, 117, 114, 101]⟩, .str ⟨#[109, 101, 116, 114, 105, 99]⟩, .str ⟨#[109, 111, 100]⟩, .str ⟨#[109, 117]⟩, .str ⟨#[110, 101, 119]⟩, .str ⟨#[110, 111, 116]⟩, .str ⟨#[111, 102]⟩, .str ⟨#[111, 114]⟩, .str ⟨#[113, 117, 97, 108]⟩, .str ⟨#[114, 101, 102, 108, 101, 99, 116]⟩, .str ⟨#[115, 101, 116]⟩, .str ⟨#[116, 104, 101, 110]⟩, .str ⟨#[116, 114, 117, 101]⟩, .str ⟨#[117, 115, 101]⟩, .str ⟨#[118]⟩, .str ⟨#[118, 97, 108]⟩, .str ⟨#[116, 97, 103]⟩, .str ⟨#[119, 104, 101, 114, 101]⟩, .str ⟨#[119, 105, 116, 104]⟩])]
def GOK (g : Gh) (w : World) : Prop := ∀ k cs, lk GLB k = some cs → Rep g w (.ro cs 0) (.pointer (some ⟨k, 0, none⟩))
theorem GOK.mono {g g' : Gh} {w w' : World} (h : GOK g w) (hm : Mono g w g' w') : GOK g' w' := fun k cs e => (h k cs e).mono hm

structure Hist (cx : Cx) (g : Gh) (w : World) : Prop where
  mono : Mono cx.g0 cx.w0 g w
  size : cx.w0.heap.size ≤ w.heap.size
  frame : ∀ b, b < cx.w0.heap.size → ¬ cx.own0 b → w.heap[b]? = cx.w0.heap[b]? ∧ g.M b = cx.g0.M b
  os : w.os = cx.w0.os
  tape : w.tape = cx.w0.tape
  output : w.output = cx.w0.output
  glb : GOK g w

/-- Block b holds just the cells cs and may be written. -/
def BlkR (g : Gh) (l : LG) (w : World) (f : Nat → UL) (b : Nat) (cs : List LV) : Prop :=
  g.M b = some 0 ∧ ∃ cur e, w.heap[b]? = some (.cells cur e (0, 0)) ∧ cs.length ≤ cur.size ∧ ∀ j (h : j < cs.length), cs[j].nolp = true ∧ (cur.getD j undef).oneCell' = true ∧ RepL g l w (f j) cs[j] (cur.getD j undef)

/-- The entries of a map, in the order in which the model keeps them. -/
def MapR (g : Gh) (w : World) (es : List (ByteArray × PV)) (arr : Array MapEntry) (clock : Nat) : Prop :=
  MapKept.Stamped arr clock ∧ arr.size = es.length ∧ ∀ j (h : j < es.length) (h' : j < arr.size), arr[j].key = .string es[j].1 ∧ Rep g w es[j].2 arr[j].val
def BlkM (g : Gh) (w : World) (b : Nat) (es : List (ByteArray × PV)) : Prop := g.M b = some 0 ∧ ∃ arr clock, w.heap[b]? = some (.map arr clock) ∧ MapR g w es arr clock
theorem BlkM.keep {g g' : Gh} {w w' : World} {b : Nat} {es : List (ByteArray × PV)} (h : BlkM g w b es) (hm : Mono g w g' w') (hM : g'.M b = g.M b) (hh : w'.heap[b]? = w.heap[b]?) : BlkM g' w' b es := by
  obtain ⟨h1, arr, clock, h2, h3, h5, h6⟩ := h
  exact ⟨hM.trans h1, arr, clock, hh.trans h2, h3, h5, fun j hj hj' => ⟨(h6 j hj hj').1, (h6 j hj hj').2.mono hm⟩⟩
/-- What a named object holds: cells, or the entries of a map. -/
def isMM : List LV → List (ByteArray × PV) → Prop
  | [.mm es], es' => es = es'
  | _, _ => False
/-- A named row that may be written and may grow: its cells; each growth gives it a new name. -/
def BlkY (g : Gh) (w : World) (n b c : Nat) (ps : List Int) : Prop := (∀ c', c < c' → g.Y n c' = none) ∧ g.M b = some 0 ∧ ∃ cur e, w.heap[b]? = some (.cells cur e (0, 0)) ∧ ps.length ≤ cur.size ∧ ∀ j (h : j < ps.length), (cur.getD j undef).oneCell' = true ∧ Rep g w (.int .i64 ps[j]) (cur.getD j undef)
def BlkN (g : Gh) (w : World) (f : Nat → UL) (b : Nat) (cs : List LV) : Prop := (∃ es, isMM cs es ∧ BlkM g w b es) ∨ ∃ n c ps, f = UL.x n ∧ cs = [.row c ps] ∧ BlkY g w n b c ps
theorem BlkN.keep {g g' : Gh} {w w' : World} {f : Nat → UL} {b : Nat} {cs : List LV} (h : BlkN g w f b cs) (hm : Mono g w g' w') (hY : ∀ n c, f = UL.x n → g.Y n c = none → g'.Y n c = none) (hM : g'.M b = g.M b) (hh : w'.heap[b]? = w.heap[b]?) : BlkN g' w' f b cs := by
  rcases h with ⟨es, h1, h2⟩ | ⟨n, c, ps, h1, h2, h3, h4, cur, e, h5, h6, h7⟩
  · exact .inl ⟨es, h1, h2.keep hm hM hh⟩
  · exact .inr ⟨n, c, ps, h1, h2, fun c' hc => hY _ _ h1 (h3 c' hc), hM.trans h4, cur, e, hh.trans h5, h6, fun j hj => ⟨(h7 j hj).1, (h7 j hj).2.mono hm⟩⟩
/-- The block of a named object. -/
def XR (g : Gh) (x : Nat) (cs : List LV) (b : Nat) : Prop := match cs with
  | [.row c _] => g.Y x c = some b
  | _ => g.X x = some b
theorem XR.mono {g g' : Gh} {w w' : World} {x b : Nat} {cs : List LV} (h : XR g x cs b) (hm : Mono g w g' w') : XR g' x cs b := by
  unfold XR at *
  split
  · exact hm.row _ _ _ h
  · rename_i hn
    split at h
    · exact absurd rfl (hn _ _)
    · exact hm.ext _ _ h

/-- Neither a map nor a row that may grow. -/
def plainE (cs : List LV) : Prop := (∀ es, ¬ isMM cs es) ∧ ∀ c ps, cs ≠ [.row c ps]
theorem BlkN.plain {g : Gh} {w : World} {f : Nat → UL} {b : Nat} {cs : List LV} (h : BlkN g w f b cs) (hp : plainE cs) : False := by
  rcases h with ⟨es, h1, -⟩ | ⟨n, c, ps, -, h2, -⟩
  · exact hp.1 es h1
  · exact hp.2 c ps h2
theorem XR.plain {g : Gh} {x b : Nat} {cs : List LV} (h : XR g x cs b) (hp : ∀ c ps, cs ≠ [.row c ps]) : g.X x = some b := by
  unfold XR at h
  split at h
  · exact absurd rfl (hp _ _)
  · exact h
theorem XR.of {g : Gh} {x b : Nat} {cs : List LV} (h : g.X x = some b) (hp : ∀ c ps, cs ≠ [.row c ps]) : XR g x cs b := by
  unfold XR
  split
  · exact absurd rfl (hp _ _)
  · exact h
def BlkE (g : Gh) (l : LG) (w : World) (f : Nat → UL) (b : Nat) (cs : List LV) : Prop := BlkR g l w f b cs ∨ BlkN g w f b cs
theorem BlkR.norow {g : Gh} {l : LG} {w : World} {f : Nat → UL} {b : Nat} {cs : List LV} (h : BlkR g l w f b cs) : ∀ c ps, cs ≠ [.row c ps] := by
  rintro c ps rfl
  obtain ⟨-, cur, e, -, -, h6⟩ := h
  exact (h6 0 (by simp)).2.2.elim
theorem ex_R {g : Gh} {l : LG} {w : World} {x b : Nat} {cs : List LV} (h1 : g.X x = some b) (h2 : l.O b = some (.x x)) (h : BlkR g l w (.x x) b cs) : ∃ b, XR g x cs b ∧ l.O b = some (.x x) ∧ BlkE g l w (.x x) b cs :=
  ⟨b, XR.of h1 h.norow, h2, .inl h⟩
structure Sim (cx : Cx) (s : S) (g : Gh) (l : LG) (a : Act) (w : World) : Prop where
  hist : Hist cx g w
  size : a.tmps.size = cx.n
  defers : a.defers = cx.ds
  tm : ∀ t lv, lk s.tmps t = some lv → RepL g l w (.t t) lv (a.tmps.getD t undef)
  bx : ∀ i cs, lk s.boxes i = some cs → ∃ b, l.L i = some b ∧ l.O b = some (.l i) ∧ BlkR g l w (.b i) b cs
  ex : ∀ x cs, lk s.ext x = some cs → ∃ b, XR g x cs b ∧ l.O b = some (.x x) ∧ BlkE g l w (.x x) b cs
  own : ∀ b o, l.O b = some o → b < w.heap.size ∧ (cx.w0.heap.size ≤ b ∨ cx.own0 b)
  uo : ∀ p b, l.U p = some b → l.O b = some (.u p)
  fresh : (∀ b, w.heap.size ≤ b → g.M b = none) ∧ (∀ n, cnt s.ext ≤ n → g.X n = none) ∧ ∀ n c, cnt s.ext ≤ n → g.Y n c = none
  xlt : ∀ n b, g.X n = some b → b < w.heap.size

/-- What a state keeps when some of it is forgotten. -/
def WL : LV → LV → Prop := fun t s => t = s ∨ match t, s with
  | .v (.sl z es), .uniq _ z' es' => z = z' ∧ es = es'
  | .v (.sl z es), .full z' es' => z = z' ∧ es = es'
  | .uniq _ _ es, .v .nilsl => es = []
  | .full _ es, .v .nilsl => es = []
  | .v (.sl _ es), .v .nilsl => es = []
  | .v q, .v (.opq p) => q = p
  | .v (.opq p), .v q => p = q ∧ q.one = true
  | .uniq _ z es, .full z' es' => z = z' ∧ es = es'
  | .junk, .mm _ => False
  | .junk, .row _ _ => False
  | .junk, _ => True
  | _, _ => False
def WLs : List LV → List LV → Prop
  | [], [] => True
  | t :: ts, s :: ss => WL t s ∧ WLs ts ss
  | _, _ => False
def LeT : List (Nat × LV) → List (Nat × LV) → Prop
  | [], _ => True
  | (k, v) :: r, s => (match lk s k with | some u => WL v u | none => False) ∧ LeT r s
def LeB : List (Nat × List LV) → List (Nat × List LV) → Prop
  | [], _ => True
  | (k, v) :: r, s => (match lk s k with | some u => WLs v u | none => False) ∧ LeB r s
structure Le (t s : S) : Prop where
  tmps : LeT t.tmps s.tmps
  boxes : LeB t.boxes s.boxes
  ext : LeB t.ext s.ext
  cnt : Pv.cnt s.ext ≤ Pv.cnt t.ext

theorem WL.refl (v : LV) : WL v v := .inl rfl
theorem WLs.refl : ∀ l : List LV, WLs l l
  | [] => trivial
  | v :: r => ⟨WL.refl v, WLs.refl r⟩
theorem WL.rep {g : Gh} {l : LG} {w : World} {p : UL} {t s : LV} {v : Value} (h : WL t s) (hr : RepL g l w p s v) : RepL g l w p t v := by
  rcases h with rfl | h
  · exact hr
  · split at h
    · obtain ⟨rfl, rfl⟩ := h
      rcases hr with (⟨rfl, rfl⟩ | ⟨a, -, hr⟩) | ⟨b, cap, cur, -, -, -, -, -, hr⟩
      · exact .slnil _
      · exact hr
      · exact hr
    · obtain ⟨rfl, rfl⟩ := h
      rcases hr with ⟨rfl, rfl⟩ | ⟨a, -, hr⟩
      · exact .slnil _
      · exact hr
    · subst h; cases hr; exact .inl (.inl ⟨rfl, rfl⟩)
    · subst h; cases hr; exact .inl ⟨rfl, rfl⟩
    · subst h; cases hr; exact .slnil _
    · subst h; cases hr with | opq _ _ h1 h => exact h
    · obtain ⟨rfl, h1⟩ := h; exact .opq _ _ (Rep.one hr h1) hr
    · obtain ⟨rfl, rfl⟩ := h; exact .inl hr
    · exact h.elim
    · exact h.elim
    · trivial
    · exact h.elim
theorem WL.junk {x : LV} (h : ∀ es, x ≠ .mm es) (h2 : ∀ c ps, x ≠ .row c ps) : WL .junk x := by
  cases x <;> first | exact .inr trivial | exact absurd rfl (h _) | exact absurd rfl (h2 _ _)
theorem WL.row_eq {t s : LV} (h : WL t s) (hs : (∃ c ps, t = .row c ps) ∨ ∃ c ps, s = .row c ps) : t = s := by
  rcases h with rfl | h
  · rfl
  · rcases hs with ⟨c, ps, rfl⟩ | ⟨c, ps, rfl⟩
    · cases s <;> first | exact h.elim | (rename_i p; cases p <;> exact h.elim)
    · cases t <;> first | exact h.elim | (rename_i p; cases p <;> exact h.elim)
theorem WL.op (p : PV) : WL (.v p) (.v (.opq p)) := by cases p <;> exact .inr rfl
theorem WL.qo {p : PV} (h : p.one = true) (hn : ∀ q, p ≠ .opq q) : WL (.v (.opq p)) (.v p) := by
  cases p <;> first | exact absurd rfl (hn _) | exact .inr ⟨rfl, h⟩
theorem WL.nolp {t s : LV} (h : WL t s) (hs : s.nolp = true) : t.nolp = true := by
  rcases h with rfl | h
  · exact hs
  · split at h <;> first | rfl | exact h.elim
theorem WLs.length : ∀ {t s : List LV}, WLs t s → t.length = s.length
  | [], [], _ => rfl
  | _ :: _, _ :: _, h => by simp [WLs.length h.2]
  | [], _ :: _, h => h.elim
  | _ :: _, [], h => h.elim
theorem WLs.at_ : ∀ {t s : List LV}, WLs t s → ∀ (j : Nat) (h : j < t.length) (h' : j < s.length), WL t[j] s[j]
  | [], [], _, j, h, _ => absurd h (by simp)
  | _ :: _, _ :: _, hh, 0, _, _ => hh.1
  | _ :: _, _ :: _, hh, j + 1, h, h' => WLs.at_ hh.2 j (by simpa using h) (by simpa using h')
  | [], _ :: _, h, _, _, _ => h.elim
  | _ :: _, [], h, _, _, _ => h.elim
theorem LeT.at_ {t s : List (Nat × LV)} (h : LeT t s) {k : Nat} {v : LV} (hk : lk t k = some v) : ∃ u, lk s k = some u ∧ WL v u := by
  induction t with
  | nil => simp [lk] at hk
  | cons x r ih =>
    obtain ⟨k', v'⟩ := x
    simp only [LeT] at h
    simp only [lk] at hk
    split at hk
    · rename_i e
      subst e
      injection hk with hk
      subst hk
      have h1 := h.1
      split at h1
      · rename_i u hu; exact ⟨u, hu, h1⟩
      · exact h1.elim
    · exact ih h.2 hk
theorem LeB.at_ {t s : List (Nat × List LV)} (h : LeB t s) {k : Nat} {v : List LV} (hk : lk t k = some v) : ∃ u, lk s k = some u ∧ WLs v u := by
  induction t with
  | nil => simp [lk] at hk
  | cons x r ih =>
    obtain ⟨k', v'⟩ := x
    simp only [LeB] at h
    simp only [lk] at hk
    split at hk
    · rename_i e
      subst e
      injection hk with hk
      subst hk
      have h1 := h.1
      split at h1
      · rename_i u hu; exact ⟨u, hu, h1⟩
      · exact h1.elim
    · exact ih h.2 hk
theorem LeT.of_lk {t s : List (Nat × LV)} (h : ∀ k v, (k, v) ∈ t → lk s k = some v) : LeT t s := by
  induction t with
  | nil => trivial
  | cons x r ih =>
    obtain ⟨k, v⟩ := x
    refine ⟨?_, ih fun k v hm => h k v (List.mem_cons_of_mem _ hm)⟩
    rw [h k v (by simp)]
    exact WL.refl v
theorem LeB.of_lk {t s : List (Nat × List LV)} (h : ∀ k v, (k, v) ∈ t → lk s k = some v) : LeB t s := by
  induction t with
  | nil => trivial
  | cons x r ih =>
    obtain ⟨k, v⟩ := x
    refine ⟨?_, ih fun k v hm => h k v (List.mem_cons_of_mem _ hm)⟩
    rw [h k v (by simp)]
    exact WLs.refl v
theorem BlkR.le {g : Gh} {l : LG} {w : World} {f : Nat → UL} {b : Nat} {t s : List LV} (h : WLs t s) (hb : BlkR g l w f b s) : BlkR g l w f b t := by
  obtain ⟨hm, cur, e, hh, hs, hr⟩ := hb
  exact ⟨hm, cur, e, hh, by rw [h.length]; exact hs, fun j hj => ⟨(h.at_ j hj (by rw [← h.length]; exact hj)).nolp (hr j (by rw [← h.length]; exact hj)).1, (hr j (by rw [← h.length]; exact hj)).2.1, (h.at_ j hj (by rw [← h.length]; exact hj)).rep (hr j (by rw [← h.length]; exact hj)).2.2⟩⟩
theorem isMM.inv {s : List LV} {es : List (ByteArray × PV)} (h : isMM s es) : s = [.mm es] := by
  unfold isMM at h
  split at h
  · subst h; rfl
  · exact h.elim
theorem WLs.one_inv {t : List LV} {x : LV} (h : WLs t [x]) : ∃ t0, t = [t0] ∧ WL t0 x := by
  cases t with
  | nil => exact h.elim
  | cons t0 r =>
    cases r with
    | nil => exact ⟨t0, rfl, h.1⟩
    | cons _ _ => exact h.2.elim
theorem isMM.le {t s : List LV} {es : List (ByteArray × PV)} (h : WLs t s) (hs : isMM s es) : isMM t es := by
  have := hs.inv
  subst this
  obtain ⟨t0, rfl, h0⟩ := h.one_inv
  rcases h0 with rfl | h0
  · rfl
  · cases t0 <;> first | exact h0.elim | (rename_i p; cases p <;> exact h0.elim)
theorem BlkE.le {g : Gh} {l : LG} {w : World} {f : Nat → UL} {b : Nat} {t s : List LV} (h : WLs t s) (hb : BlkE g l w f b s) : BlkE g l w f b t := by
  rcases hb with hb | ⟨es, h1, h2⟩ | ⟨n, c, ps, h1, rfl, h2⟩
  · exact .inl (hb.le h)
  · exact .inr (.inl ⟨es, h1.le h, h2⟩)
  · obtain ⟨t0, rfl, h0⟩ := h.one_inv
    have := h0.row_eq (.inr ⟨_, _, rfl⟩)
    subst this
    exact .inr (.inr ⟨n, c, ps, h1, rfl, h2⟩)
theorem XR.le {g : Gh} {x b : Nat} {t s : List LV} (h : WLs t s) (hx : XR g x s b) : XR g x t b := by
  unfold XR at *
  split at hx
  · obtain ⟨t0, rfl, h0⟩ := h.one_inv
    have := h0.row_eq (.inr ⟨_, _, rfl⟩)
    subst this
    exact hx
  · rename_i hn
    split
    · rename_i c ps
      have hl := h.length
      match s, hl, h, hn with
      | [s0], _, h, hn =>
        have := h.1.row_eq (.inl ⟨_, _, rfl⟩)
        subst this
        exact absurd rfl (hn _ _)
    · exact hx
theorem Sim.le {cx : Cx} {s t : S} {g : Gh} {l : LG} {a : Act} {w : World} (h : Sim cx s g l a w) (hl : Le t s) : Sim cx t g l a w where
  hist := h.hist
  size := h.size
  defers := h.defers
  tm k v hk := let ⟨_, hu, hw⟩ := hl.tmps.at_ hk; hw.rep (h.tm k _ hu)
  bx k v hk := by
    obtain ⟨u, hu, hw⟩ := hl.boxes.at_ hk
    obtain ⟨b, h1, h2, h3⟩ := h.bx k u hu
    exact ⟨b, h1, h2, h3.le hw⟩
  ex k v hk := by
    obtain ⟨u, hu, hw⟩ := hl.ext.at_ hk
    obtain ⟨b, h1, h2, h3⟩ := h.ex k u hu
    exact ⟨b, h1.le hw, h2, h3.le hw⟩
  own := h.own
  uo := h.uo
  fresh := ⟨h.fresh.1, fun n hn => h.fresh.2.1 n (Nat.le_trans hl.cnt hn), fun n c hn => h.fresh.2.2 n c (Nat.le_trans hl.cnt hn)⟩
  xlt := h.xlt

/-- How a piece of code is left. -/
inductive PExit where
  | normal
  | exit (id : Nat)
  | ret
  | panic (p : PV)

def ER (g : Gh) (w : World) : PExit → Exit → Prop
  | .normal, .normal => True
  | .exit i, .exit j => i = j
  | .ret, .ret => True
  | .panic p, .panic ch => ∃ v, ch = [{ v, recovered := false }] ∧ Rep g w p v
  | _, _ => False

def post (cx : Cx) (Q : PExit → S → Prop) : Exit → Act → World → Prop := fun e a w => ∃ pe s g l, Q pe s ∧ ER g w pe e ∧ Sim cx s g l a w

/-- The pure precondition of a piece of code. -/
def PW (P : Program) (cx : Cx) (c : Code) (s : S) (Q : PExit → S → Prop) : Prop := ∀ g l a w, Sim cx s g l a w → c.wp P (post cx Q) a w

section
variable {P : Program} {cx : Cx} {s : S} {Q : PExit → S → Prop}

theorem PW.le {c : Code} {t : S} (hl : Le t s) (h : PW P cx c t Q) : PW P cx c s Q := fun g l a w hs => h g l a w (hs.le hl)
theorem PW.mono {c : Code} {Q' : PExit → S → Prop} (h : PW P cx c s Q) (hq : ∀ e s, Q e s → Q' e s) : PW P cx c s Q' := fun g l a w hs =>
  wp_mono (h g l a w hs) fun _ _ _ ⟨pe, s', g', l', q, er, sm⟩ => ⟨pe, s', g', l', hq _ _ q, er, sm⟩

def thenQ (K : S → Prop) (Q : PExit → S → Prop) : PExit → S → Prop
  | .normal, s => K s
  | e, s => Q e s
def blockQ (id : Nat) (Q : PExit → S → Prop) : PExit → S → Prop
  | .exit id', s => if id' = id then Q .normal s else Q (.exit id') s
  | e, s => Q e s

theorem PW_skip (h : Q .normal s) : PW P cx .skip s Q := fun g l _ _ hs => wp_skip ⟨.normal, s, g, l, h, trivial, hs⟩
theorem PW_ret (h : Q .ret s) : PW P cx .ret s Q := fun g l _ _ hs => wp_ret ⟨.ret, s, g, l, h, trivial, hs⟩
theorem PW_exit {id : Nat} (h : Q (.exit id) s) : PW P cx (.exit id) s Q := fun g l _ _ hs => wp_exit ⟨.exit id, s, g, l, h, rfl, hs⟩
theorem PW_seq {x y : Code} (h : PW P cx x s (thenQ (fun s' => PW P cx y s' Q) Q)) : PW P cx (.seq x y) s Q := fun g l a w hs => by
  refine wp_seq (wp_mono (h g l a w hs) ?_)
  rintro e a' w' ⟨pe, s', g', l', q, er, sm⟩
  cases pe <;> cases e <;> first | exact er.elim | skip
  · exact q g' l' a' w' sm
  · exact ⟨_, s', g', l', q, er, sm⟩
  · exact ⟨_, s', g', l', q, er, sm⟩
  · exact ⟨_, s', g', l', q, er, sm⟩
theorem PW_block {id : Nat} {c : Code} (h : PW P cx c s (blockQ id Q)) : PW P cx (.block id c) s Q := fun g l a w hs => by
  refine wp_block (wp_mono (h g l a w hs) ?_)
  rintro e a' w' ⟨pe, s', g', l', q, er, sm⟩
  cases pe <;> cases e <;> first | exact er.elim | skip
  · exact ⟨.normal, s', g', l', q, er, sm⟩
  · rename_i i j
    have er' : i = j := er
    subst er'
    simp only [Exit.inBlock]
    simp only [blockQ] at q
    split
    · rename_i hi; rw [if_pos hi] at q; exact ⟨.normal, s', g', l', q, trivial, sm⟩
    · rename_i hi; rw [if_neg hi] at q; exact ⟨.exit i, s', g', l', q, rfl, sm⟩
  · exact ⟨_, s', g', l', q, er, sm⟩
  · exact ⟨_, s', g', l', q, er, sm⟩
theorem Rep.bool_inv {g : Gh} {w : World} {b : Bool} {v : Value} (h : Rep g w (.bool b) v) : v = .bool b := by cases h; rfl
theorem PW_cond {t : Tmp} {b : Bool} {x y : Code} (hc : lk s.tmps t = some (.v (.bool b))) (ht : b = true → PW P cx x s Q) (hf : b = false → PW P cx y s Q) :
    PW P cx (.cond (.tmp t) x y) s Q := fun g l a w hs => by
  have hv : a.eval (.tmp t) = .bool b := Rep.bool_inv (hs.tm t _ hc)
  exact wp_cond_split hv (fun e => ht e g l a w hs) (fun e => hf e g l a w hs)

/-- A loop: an exact state for each number, which every round lowers. -/
theorem PW_loop {α : Type} {c : Code} (I : α → S) (μ : α → Nat) (x₀ : α) (h₀ : Le (I x₀) s)
    (round : ∀ x, PW P cx c (I x) (thenQ (fun s' => ∃ y, μ y < μ x ∧ Le (I y) s') Q)) : PW P cx (.loop c) s Q := fun g l a w hs => by
  refine wp_loop_ghost (fun n a w => ∃ x g l, μ x = n ∧ Sim cx (I x) g l a w) (μ x₀) ⟨x₀, g, l, rfl, hs.le h₀⟩ ?_
  rintro n a w ⟨x, g, l, rfl, sm⟩
  refine wp_mono (round x g l a w sm) ?_
  rintro e a' w' ⟨pe, s', g', l', q, er, sm'⟩
  cases pe <;> cases e <;> first | exact er.elim | skip
  · obtain ⟨y, hlt, hle⟩ := q
    exact ⟨μ y, hlt, y, g', l', rfl, sm'.le hle⟩
  · exact ⟨_, s', g', l', q, er, sm'⟩
  · exact ⟨_, s', g', l', q, er, sm'⟩
  · exact ⟨_, s', g', l', q, er, sm'⟩
end
end Go.Pv
