/- Pure values for Go's data and their relation to the memory of the model: plain definitions and lemmas, no program in sight. -/
import Derived.Tactics
import Derived.Below
import Derived.Laws.AppendOwn
set_option linter.unusedVariables false
set_option linter.unusedSimpArgs false
set_option linter.unusedSectionVars false
namespace Go.Pv

/-- Pure values: a slice is the list of its elements, each the list of its cells. -/
inductive PV where
  | bool (b : Bool)
  | int (k : IntKind) (n : Int)
  | str (s : ByteArray)
  | nilp
  | ro (cs : List PV) (off : Nat)
  | xp (n off : Nat)
  | nilsl
  | sl (size : Nat) (es : List (List PV))
  | xsl (n size len : Nat)
  | fn (f : Fn) (first captured : List PV)
  | nilfn
  | iface (t : TypeId) (p : PV)
  | nilif
  | agg (cs : List PV)
  | tup (vs : List PV)
  | mpn
  | mp (n : Nat)
  | ysl (n c len : Nat)
  | yp (n c off : Nat)
  | ifm (t : TypeId) (f : Nat) (p : PV)
  | opq (p : PV)
  deriving Inhabited

/-- Ghost state: from which cell on a block may still change; the blocks of the named objects. -/
structure Gh where
  M : Nat → Option Nat
  X : Nat → Option Nat
  Y : Nat → Nat → Option Nat

def Gh.Fix (g : Gh) (b o : Nat) : Prop := ∀ k, g.M b = some k → o < k

inductive Rep (g : Gh) (w : World) : PV → Value → Prop
  | bool (b : Bool) : Rep g w (.bool b) (.bool b)
  | int (k : IntKind) (n : Int) : Rep g w (.int k n) (.int k n)
  | str (s : ByteArray) : Rep g w (.str s) (.string s)
  | nilp : Rep g w .nilp (.pointer none)
  | ro (cs : List PV) (off b o : Nat) (vs : Nat → Value)
      (hc : ∀ j, j < cs.length → w.cell? ⟨b, o + j, none⟩ = some (vs j)) (hf : ∀ j, j < cs.length → g.Fix b (o + j)) (h1 : ∀ j, j < cs.length → (vs j).oneCell' = true)
      (hr : ∀ j (h : j < cs.length), Rep g w cs[j] (vs j)) : Rep g w (.ro cs off) (.pointer (some ⟨b, o + off, none⟩))
  | xp (n off b : Nat) (h : g.X n = some b) : Rep g w (.xp n off) (.pointer (some ⟨b, off, none⟩))
  | nilsl : Rep g w .nilsl (.slice none 0 0)
  | slnil (size : Nat) : Rep g w (.sl size []) (.slice none 0 0)
  | sl (size : Nat) (es : List (List PV)) (a : Addr) (cap : Nat) (vs : Nat → Nat → Value) (hle : es.length ≤ cap) (hcap : cap ≤ maxLen)
      (hsz : ∀ i (h : i < es.length), es[i].length = size)
      (hc : ∀ i j, i < es.length → j < size → w.cell? (a.add (i * size + j)) = some (vs i j))
      (hf : ∀ i j, i < es.length → j < size → g.Fix a.block (a.off + (i * size + j))) (h1 : ∀ i j, i < es.length → j < size → (vs i j).oneCell' = true)
      (hr : ∀ i j (hi : i < es.length) (hj : j < es[i].length), Rep g w es[i][j] (vs i j)) : Rep g w (.sl size es) (.slice (some a) es.length cap)
  | xsl (n size len b cap : Nat) (cur : Array Value) (e : TypeId) (h : g.X n = some b) (hh : w.heap[b]? = some (.cells cur e (0, 0))) (hs : cap * size = cur.size) (hle : len ≤ cap) (hcap : cap ≤ maxLen) : Rep g w (.xsl n size len) (.slice (some ⟨b, 0, none⟩) len cap)
  | fn (f : Fn) (first captured : List PV) (fv cv : List Value) (h1 : first.length = fv.length) (h2 : captured.length = cv.length)
      (hf : ∀ j (h : j < first.length) (h' : j < fv.length), Rep g w first[j] fv[j]) (hc : ∀ j (h : j < captured.length) (h' : j < cv.length), Rep g w captured[j] cv[j]) :
      Rep g w (.fn f first captured) (.func f fv.toArray cv.toArray)
  | nilfn : Rep g w .nilfn .nilFunc
  | iface (t : TypeId) (p : PV) (v : Value) (h : Rep g w p v) : Rep g w (.iface t p) (.iface t v)
  | nilif : Rep g w .nilif .nilIface
  | agg (cs : List PV) (vs : List Value) (h1 : cs.length = vs.length) (ho : ∀ v ∈ vs, v.oneCell' = true) (h : ∀ j (h : j < cs.length) (h' : j < vs.length), Rep g w cs[j] vs[j]) : Rep g w (.agg cs) (.agg vs.toArray)
  | tup (cs : List PV) (vs : List Value) (h1 : cs.length = vs.length) (h : ∀ j (h : j < cs.length) (h' : j < vs.length), Rep g w cs[j] vs[j]) : Rep g w (.tup cs) (.tuple vs.toArray)
  | mpn : Rep g w .mpn (.map none)
  | mp (n b : Nat) (h : g.X n = some b) : Rep g w (.mp n) (.map (some b))
  | ysl (n c len b cap : Nat) (cur : Array Value) (e : TypeId) (h : g.Y n c = some b) (hh : w.heap[b]? = some (.cells cur e (0, 0))) (hs : cap = cur.size) (hle : len ≤ cap) (hcap : cap ≤ maxLen) : Rep g w (.ysl n c len) (.slice (some ⟨b, 0, none⟩) len cap)
  | yp (n c off b : Nat) (h : g.Y n c = some b) : Rep g w (.yp n c off) (.pointer (some ⟨b, off, none⟩))
  | ifm (t : TypeId) (f : Nat) (p : PV) (v : Value) (h : Rep g w p v) : Rep g w (.ifm t f p) (.iface t v)
  | opq (p : PV) (v : Value) (h1 : v.oneCell' = true) (h : Rep g w p v) : Rep g w (.opq p) v

/-- Lists of values, pairwise. -/
def RepAll (g : Gh) (w : World) (ps : List PV) (vs : List Value) : Prop := ps.length = vs.length ∧ ∀ j (h : j < ps.length) (h' : j < vs.length), Rep g w ps[j] vs[j]

theorem RepAll.nil {g : Gh} {w : World} : RepAll g w [] [] := ⟨rfl, fun j h => by simp at h⟩
theorem RepAll.cons {g : Gh} {w : World} {p : PV} {v : Value} {ps : List PV} {vs : List Value} (h : Rep g w p v) (hs : RepAll g w ps vs) : RepAll g w (p :: ps) (v :: vs) := by
  refine ⟨by simp [hs.1], fun j hj hj' => ?_⟩
  cases j with
  | zero => exact h
  | succ j => exact hs.2 j (by simpa using hj) (by simpa using hj')
theorem RepAll.inv_nil {g : Gh} {w : World} {vs : List Value} (h : RepAll g w [] vs) : vs = [] := List.eq_nil_of_length_eq_zero h.1.symm
theorem RepAll.inv_cons {g : Gh} {w : World} {p : PV} {ps : List PV} {vs : List Value} (h : RepAll g w (p :: ps) vs) : ∃ v vs', vs = v :: vs' ∧ Rep g w p v ∧ RepAll g w ps vs' := by
  cases vs with
  | nil => exact absurd h.1 (by simp)
  | cons v vs' =>
    refine ⟨v, vs', rfl, h.2 0 (by simp) (by simp), by simpa using h.1, fun j hj hj' => ?_⟩
    exact h.2 (j + 1) (by simpa using hj) (by simpa using hj')

/-- What later states keep of an earlier one. -/
structure Mono (g : Gh) (w : World) (g' : Gh) (w' : World) : Prop where
  ext : ∀ n b, g.X n = some b → g'.X n = some b
  cell : ∀ b o v, w.cell? ⟨b, o, none⟩ = some v → g.Fix b o → w'.cell? ⟨b, o, none⟩ = some v ∧ g'.Fix b o
  len : ∀ (b : Nat) (cur : Array Value) (e : TypeId), w.heap[b]? = some (Obj.cells cur e (0, 0)) → ∃ cur' : Array Value, w'.heap[b]? = some (Obj.cells cur' e (0, 0)) ∧ cur'.size = cur.size
  row : ∀ n c b, g.Y n c = some b → g'.Y n c = some b

theorem Mono.refl (g : Gh) (w : World) : Mono g w g w := ⟨fun _ _ h => h, fun _ _ _ h k => ⟨h, k⟩, fun _ cur _ h => ⟨cur, h, rfl⟩, fun _ _ _ h => h⟩
theorem Mono.trans {g g' g'' : Gh} {w w' w'' : World} (h : Mono g w g' w') (k : Mono g' w' g'' w'') : Mono g w g'' w'' :=
  ⟨fun n b e => k.ext n b (h.ext n b e), fun b o v e f => let ⟨e', f'⟩ := h.cell b o v e f; k.cell b o v e' f', fun b cur e hh => let ⟨c1, h1, h2⟩ := h.len b cur e hh; let ⟨c2, h3, h4⟩ := k.len b c1 e h1; ⟨c2, h3, h4.trans h2⟩, fun n c b e => k.row n c b (h.row n c b e)⟩

theorem spot_of_cell {w : World} {a : Addr} {v : Value} (h : w.cell? a = some v) : a.spot = none := by
  unfold World.cell? at h
  split at h
  · split at h
    · cases h
    · rename_i hs; simpa using hs
  · cases h
theorem addr_add (a : Addr) (n : Nat) (h : (a.add n).spot = none) : a.add n = ⟨a.block, a.off + n, none⟩ := by
  unfold Addr.add at h ⊢
  split
  · rename_i hn
    subst hn
    cases a
    simp_all
  · rfl
theorem cell_add {w : World} {a : Addr} {n : Nat} {v : Value} (h : w.cell? (a.add n) = some v) : a.add n = ⟨a.block, a.off + n, none⟩ := addr_add a n (spot_of_cell h)

theorem Mono.at_ {g g' : Gh} {w w' : World} (h : Mono g w g' w') {a : Addr} {n : Nat} {v : Value} (hc : w.cell? (a.add n) = some v) (hf : g.Fix a.block (a.off + n)) :
    w'.cell? (a.add n) = some v ∧ g'.Fix a.block (a.off + n) := by
  have e := cell_add hc
  rw [e] at hc ⊢
  exact h.cell _ _ _ hc hf

theorem Rep.mono {g g' : Gh} {w w' : World} {p : PV} {v : Value} (hr : Rep g w p v) (h : Mono g w g' w') : Rep g' w' p v := by
  induction hr with
  | bool b => exact .bool b
  | int k n => exact .int k n
  | str s => exact .str s
  | nilp => exact .nilp
  | ro cs off b o vs hc hf h1 hr ih => exact .ro cs off b o vs (fun j hj => (h.cell _ _ _ (hc j hj) (hf j hj)).1) (fun j hj => (h.cell _ _ _ (hc j hj) (hf j hj)).2) h1 ih
  | xp n off b hx => exact .xp n off b (h.ext _ _ hx)
  | nilsl => exact .nilsl
  | slnil size => exact .slnil size
  | sl size es a cap vs hle hcap hsz hc hf h1 hr ih =>
    exact .sl size es a cap vs hle hcap hsz (fun i j hi hj => (h.at_ (hc i j hi hj) (hf i j hi hj)).1) (fun i j hi hj => (h.at_ (hc i j hi hj) (hf i j hi hj)).2) h1 ih
  | xsl n size len b cap cur e hx hh hs hle hcap =>
    obtain ⟨cur', h1, h2⟩ := h.len _ _ _ hh
    exact .xsl n size len b cap cur' e (h.ext _ _ hx) h1 (hs.trans h2.symm) hle hcap
  | fn f first captured fv cv h1 h2 hf hc ihf ihc => exact .fn f first captured fv cv h1 h2 ihf ihc
  | nilfn => exact .nilfn
  | iface t p v hp ih => exact .iface t p v ih
  | nilif => exact .nilif
  | agg cs vs h1 ho hp ih => exact .agg cs vs h1 ho ih
  | tup cs vs h1 hp ih => exact .tup cs vs h1 ih
  | mpn => exact .mpn
  | mp n b hx => exact .mp n b (h.ext _ _ hx)
  | ysl n c len b cap cur e hx hh hs hle hcap =>
    obtain ⟨cur', h1, h2⟩ := h.len _ _ _ hh
    exact .ysl n c len b cap cur' e (h.row _ _ _ hx) h1 (hs.trans h2.symm) hle hcap
  | yp n c off b hx => exact .yp n c off b (h.row _ _ _ hx)
  | ifm t f p v hp ih => exact .ifm t f p v ih
  | opq p v h1 hp ih => exact .opq p v h1 ih

theorem RepAll.mono {g g' : Gh} {w w' : World} {ps : List PV} {vs : List Value} (hr : RepAll g w ps vs) (h : Mono g w g' w') : RepAll g' w' ps vs :=
  ⟨hr.1, fun j hj hj' => (hr.2 j hj hj').mono h⟩

/-- A value of one cell. -/
def PV.one : PV → Bool
  | .agg _ => false
  | .tup _ => false
  | _ => true
theorem Rep.one {g : Gh} {w : World} {p : PV} {v : Value} (h : Rep g w p v) (hp : p.one = true) : v.oneCell' = true := by
  cases h <;> first | rfl | assumption | cases hp

/-- Local values: what a slot of a frame, or a cell of an object that this frame may change, holds. -/
inductive LV where
  | v (p : PV)
  | lp (i off : Nat)
  | uniq (e : TypeId) (size : Nat) (es : List (List PV))
  | full (size : Nat) (es : List (List PV))
  | junk
  | mm (es : List (ByteArray × PV))
  | row (c : Nat) (ps : List Int)
  deriving Inhabited

def LV.nolp : LV → Bool
  | .lp _ _ => false
  | _ => true

/-- Places that can own the spare cells behind a slice. -/
inductive UL where
  | t (i : Nat)
  | b (i off : Nat)
  | x (n off : Nat)
  deriving DecidableEq

/-- Owners of blocks that may be written. -/
inductive Own where
  | l (i : Nat)
  | x (n : Nat)
  | u (p : UL)
  deriving DecidableEq

structure LG where
  L : Nat → Option Nat
  U : UL → Option Nat
  O : Nat → Option Own

def RepL (g : Gh) (l : LG) (w : World) (p : UL) : LV → Value → Prop
  | .v q, v => Rep g w q v
  | .lp i off, v => ∃ b, l.L i = some b ∧ v = .pointer (some ⟨b, off, none⟩)
  | .junk, _ => True
  | .mm _, _ => False
  | .row _ _, _ => False
  | .full size es, v => (v = .slice none 0 0 ∧ es = []) ∨ ∃ a, v = .slice (some a) es.length es.length ∧ Rep g w (.sl size es) v
  | .uniq e size es, v => ((v = .slice none 0 0 ∧ es = []) ∨ ∃ a, v = .slice (some a) es.length es.length ∧ Rep g w (.sl size es) v) ∨
      ∃ b cap cur, v = .slice (some ⟨b, 0, none⟩) es.length cap ∧ l.U p = some b ∧ g.M b = some (es.length * size) ∧
      w.heap[b]? = some (.cells cur e (0, 0)) ∧ cur.size = cap * size ∧ Rep g w (.sl size es) v

/-- A sparse state: what is known of the slots, of the local boxes (by the slot of their making), of the named objects. -/
structure S where
  tmps : List (Nat × LV)
  boxes : List (Nat × List LV)
  ext : List (Nat × List LV)

def lk {α : Type} : List (Nat × α) → Nat → Option α
  | [], _ => none
  | (k, v) :: r, t => if k = t then some v else lk r t
def put {α : Type} : List (Nat × α) → Nat → α → List (Nat × α)
  | [], t, v => [(t, v)]
  | (k, u) :: r, t, v => if k = t then (k, v) :: r else (k, u) :: put r t v

theorem lk_put_same {α : Type} (l : List (Nat × α)) (t : Nat) (v : α) : lk (put l t v) t = some v := by
  induction l with
  | nil => simp [put, lk]
  | cons x r ih =>
    obtain ⟨k, u⟩ := x
    by_cases h : k = t
    · simp [put, lk, h]
    · simp [put, lk, h, ih]
theorem lk_put_other {α : Type} (l : List (Nat × α)) (t u : Nat) (v : α) (h : t ≠ u) : lk (put l t v) u = lk l u := by
  induction l with
  | nil => simp [put, lk, h]
  | cons x r ih =>
    obtain ⟨k, y⟩ := x
    by_cases hk : k = t
    · subst hk; simp [put, lk, h]
    · by_cases hu : k = u
      · subst hu; simp [put, lk, hk]
      · simp [put, lk, hk, hu, ih]
theorem lk_put {α : Type} (l : List (Nat × α)) (t u : Nat) (v : α) : lk (put l t v) u = if t = u then some v else lk l u := by
  split
  · rename_i h; subst h; exact lk_put_same l t v
  · rename_i h; exact lk_put_other l t u v h


/-- A name that is not used yet. -/
def cnt {α : Type} : List (Nat × α) → Nat
  | [] => 0
  | (k, _) :: r => max (k + 1) (cnt r)
theorem lt_cnt {α : Type} : ∀ {e : List (Nat × α)} {x : Nat} {v : α}, lk e x = some v → x < cnt e
  | [], _, _, h => by simp [lk] at h
  | (k, u) :: r, x, v, h => by
    simp only [lk] at h
    simp only [cnt]
    split at h
    · rename_i e0; subst e0; omega
    · have := lt_cnt h; omega
theorem lk_cnt {α : Type} {e : List (Nat × α)} {x : Nat} (h : cnt e ≤ x) : lk e x = none := by
  cases hx : lk e x with
  | none => rfl
  | some v => have := lt_cnt hx; omega
theorem cnt_put {α : Type} (v : α) : ∀ (e : List (Nat × α)) (n : Nat), cnt (put e n v) = max (cnt e) (n + 1)
  | [], n => by simp [put, cnt]
  | (k, u) :: r, n => by
    simp only [put]
    split
    · rename_i e0; subst e0; simp only [cnt]; omega
    · simp only [cnt, cnt_put v r n]; omega
theorem cnt_put_old {α : Type} {e : List (Nat × α)} {n : Nat} {u v : α} (h : lk e n = some u) : cnt (put e n v) = cnt e := by
  have := lt_cnt h
  rw [cnt_put]
  omega

/-- The cells of a slice, one behind the other. -/
theorem flatten_get {α : Type} (size : Nat) : ∀ (es : List (List α)), (∀ i (h : i < es.length), es[i].length = size) → ∀ i j, i < es.length → j < size → es.flatten[i * size + j]? = (es[i]?).bind (·[j]?)
  | [], _, i, _, hi, _ => by simp at hi
  | e :: es, hs, i, j, hi, hj => by
    have he : e.length = size := hs 0 (by simp)
    cases i with
    | zero => simp [List.getElem?_append, he, hj]
    | succ i =>
      have ih := flatten_get size es (fun i h => hs (i + 1) (by simpa using h)) i j (by simpa using hi) hj
      have e1 : (i + 1) * size + j = e.length + (i * size + j) := by rw [he, Nat.add_mul]; omega
      rw [List.flatten_cons, e1, List.getElem?_append_right (by omega)]
      simpa using ih
theorem flatten_length {α : Type} (size : Nat) : ∀ (es : List (List α)), (∀ i (h : i < es.length), es[i].length = size) → es.flatten.length = es.length * size
  | [], _ => by simp
  | e :: es, hs => by
    have he : e.length = size := hs 0 (by simp)
    have ih := flatten_length size es (fun i h => hs (i + 1) (by simpa using h))
    simp [he, ih, Nat.add_mul, Nat.add_comm]
theorem div_parts {k n size : Nat} (h : k < n * size) : k / size < n ∧ k % size < size ∧ (k / size) * size + k % size = k := by
  have hs : 0 < size := by
    rcases Nat.eq_zero_or_pos size with h0 | h0
    · subst h0; simp at h
    · exact h0
  exact ⟨(Nat.div_lt_iff_lt_mul hs).2 h, Nat.mod_lt _ hs, by rw [Nat.mul_comm]; exact Nat.div_add_mod k size⟩

/-- A slice's cells as one list. -/
theorem Rep.flat {g : Gh} {w : World} {size : Nat} {es : List (List PV)} {a : Addr} {n cap : Nat} (h : Rep g w (.sl size es) (.slice (some a) n cap)) :
    n = es.length ∧ es.length ≤ cap ∧ cap ≤ maxLen ∧ (∀ i (h : i < es.length), es[i].length = size) ∧ ∃ xs, RepAll g w es.flatten xs ∧ xs.length = es.length * size ∧
      ∀ j u, xs[j]? = some u → w.cell? (a.add j) = some u ∧ g.Fix a.block (a.off + j) ∧ u.oneCell' = true := by
  cases h with
  | sl _ _ _ _ vs hle hcap hsz hc hf h1 hr =>
    have hfl := flatten_length size es hsz
    refine ⟨rfl, hle, hcap, hsz, (List.range (es.length * size)).map (fun k => vs (k / size) (k % size)), ⟨by simp [hfl], fun k hk hk' => ?_⟩, by simp, fun k u hu => ?_⟩
    · have hk1 : k < es.length * size := by rw [← hfl]; exact hk
      obtain ⟨d1, d2, d3⟩ := div_parts hk1
      have hg := flatten_get size es hsz (k / size) (k % size) d1 d2
      rw [d3, List.getElem?_eq_getElem hk, List.getElem?_eq_getElem d1] at hg
      have hj : k % size < es[k / size].length := by rw [hsz _ d1]; exact d2
      simp only [Option.bind_some, List.getElem?_eq_getElem hj] at hg
      injection hg with hg
      rw [hg]
      simpa using hr (k / size) (k % size) d1 hj
    · have hk1 : k < es.length * size := by
        have := (List.getElem?_eq_some_iff.1 hu).1
        simpa using this
      obtain ⟨d1, d2, d3⟩ := div_parts hk1
      have e : u = vs (k / size) (k % size) := by simpa [List.getElem?_range hk1] using hu.symm
      subst e
      have := hc (k / size) (k % size) d1 d2
      rw [d3] at this
      have hf' := hf (k / size) (k % size) d1 d2
      rw [d3] at hf'
      exact ⟨this, hf', h1 _ _ d1 d2⟩
theorem Rep.of_flat {g : Gh} {w : World} {size : Nat} {es : List (List PV)} {a : Addr} {cap : Nat} {xs : List Value} (hle : es.length ≤ cap) (hcap : cap ≤ maxLen)
    (hsz : ∀ i (h : i < es.length), es[i].length = size) (hr : RepAll g w es.flatten xs) (hc : ∀ j u, xs[j]? = some u → w.cell? (a.add j) = some u ∧ g.Fix a.block (a.off + j) ∧ u.oneCell' = true) :
    Rep g w (.sl size es) (.slice (some a) es.length cap) := by
  have hfl := flatten_length size es hsz
  have key : ∀ i j, i < es.length → j < size → i * size + j < xs.length := fun i j hi hj => by
    rw [← hr.1, hfl]
    have := Nat.mul_le_mul_right size (show i + 1 ≤ es.length from hi)
    rw [Nat.add_mul] at this
    omega
  have at_ : ∀ i j (hi : i < es.length) (hj : j < size), xs[i * size + j]? = some (xs.getD (i * size + j) undef) := fun i j hi hj => by
    have := key i j hi hj
    simp [List.getD, List.getElem?_eq_getElem this]
  refine .sl size es a cap (fun i j => xs.getD (i * size + j) undef) hle hcap hsz (fun i j hi hj => (hc _ _ (at_ i j hi hj)).1) (fun i j hi hj => (hc _ _ (at_ i j hi hj)).2.1) (fun i j hi hj => (hc _ _ (at_ i j hi hj)).2.2) fun i j hi hj => ?_
  have hj' : j < size := by rw [← hsz i hi]; exact hj
  have hk := key i j hi hj'
  have hk2 : i * size + j < es.flatten.length := by rw [hr.1]; exact hk
  have hg := flatten_get size es hsz i j hi hj'
  rw [List.getElem?_eq_getElem hk2, List.getElem?_eq_getElem hi] at hg
  simp only [Option.bind_some, List.getElem?_eq_getElem hj] at hg
  injection hg with hg
  have := hr.2 _ hk2 hk
  rw [hg] at this
  simpa [List.getD, List.getElem?_eq_getElem hk] using this

end Go.Pv
