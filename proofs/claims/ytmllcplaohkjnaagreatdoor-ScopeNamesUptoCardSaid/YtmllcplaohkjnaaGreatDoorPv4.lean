/- Pure values, fourth part: stores into boxes and named objects; the owner of a slice's spare cells; append. -/
import Derived.Test.YtmllcplaohkjnaaGreatDoorPv3
set_option linter.unusedVariables false
set_option linter.unusedSimpArgs false
set_option linter.unusedSectionVars false
namespace Go.Pv
open Go.RowKit

section
variable {cx : Cx} {s : S} {g : Gh} {l : LG} {a : Act} {w : World}

/-- A block that may change as a whole is written: nothing fixed turns. -/
theorem len_setRow {b : Nat} {arr cur : Array Value} {e : TypeId} (h4 : w.heap[b]? = some (.cells cur e (0, 0))) (hs : arr.size = cur.size) : ∀ (b' : Nat) (cur : Array Value) (e : TypeId), w.heap[b']? = some (Obj.cells cur e (0, 0)) → ∃ cur' : Array Value, (w.setRow b arr).heap[b']? = some (Obj.cells cur' e (0, 0)) ∧ cur'.size = cur.size :=
  fun b' cur' e' hh => by
    by_cases hb : b' = b
    · subst hb
      rw [h4] at hh
      injection hh with hh
      injection hh with h1 h2
      subst h1 h2
      exact ⟨arr, setRow_heap w b' cur _ e _ h4, hs⟩
    · exact ⟨cur', (setRow_other w b b' arr hb).trans hh, rfl⟩
theorem mono_setRow {b : Nat} {arr cur : Array Value} {e : TypeId} (hM : g.M b = some 0) (h4 : w.heap[b]? = some (.cells cur e (0, 0))) (hs : arr.size = cur.size) : Mono g w g (w.setRow b arr) :=
  ⟨fun _ _ e => e, fun b' o v hc hf => by
    have hne : b' ≠ b := by
      rintro rfl
      exact absurd (hf 0 hM) (by omega)
    exact ⟨by rw [← hc]; exact World.cell?_of_block (setRow_other w b b' arr hne), hf⟩, len_setRow h4 hs, fun _ _ _ h => h⟩

theorem Hist.setRow {b : Nat} {arr cur : Array Value} {e : TypeId} (h : Hist cx g w) (hM : g.M b = some 0) (h4 : w.heap[b]? = some (.cells cur e (0, 0))) (hs : arr.size = cur.size) (hb : cx.w0.heap.size ≤ b ∨ cx.own0 b) : Hist cx g (w.setRow b arr) :=
  ⟨h.mono.trans (mono_setRow hM h4 hs), by simpa using h.size, fun b' hlt ho => by
    have hne : b' ≠ b := by
      rintro rfl
      rcases hb with hb | hb
      · omega
      · exact ho hb
    rw [setRow_other w b b' arr hne]
    exact h.frame b' hlt ho, h.os, h.tape, h.output, h.glb.mono (mono_setRow hM h4 hs)⟩

/-- A store into a box. -/
theorem Sim.wbox (h : Sim cx s g l a w) {i : Nat} {cs : List LV} (hi : lk s.boxes i = some cs) (off : Nat) (lvs : List LV) (vs : List Value) (hl : lvs.length = vs.length) (hfit : off + lvs.length ≤ cs.length)
    (hr : ∀ j (h : j < lvs.length) (h' : j < vs.length), lvs[j].nolp = true ∧ vs[j].oneCell' = true ∧ RepL g l w (.b i (off + j)) lvs[j] vs[j]) :
    ∃ b cur e, l.L i = some b ∧ w.heap[b]? = some (.cells cur e (0, 0)) ∧ cs.length ≤ cur.size ∧
      Sim cx { s with boxes := put s.boxes i (splice cs off lvs) } g l a (w.setRow b (splice cur.toList off vs).toArray) ∧ Mono g w g (w.setRow b (splice cur.toList off vs).toArray) := by
  obtain ⟨b, h1, h2, hM, cur, e, h4, h5, h6⟩ := h.bx i cs hi
  refine ⟨b, cur, e, h1, h4, h5, ?_, mono_setRow hM h4 (by simp [splice_length])⟩
  have hm : Mono g w g (w.setRow b (splice cur.toList off vs).toArray) := mono_setRow hM h4 (by simp [splice_length])
  have hne : ∀ {b' o}, l.O b' = some o → o ≠ .l i → b' ≠ b := fun {b' o} ho hn e => by
    subst e
    rw [h2] at ho
    injection ho with ho
    exact hn ho.symm
  have hU : ∀ {p b'}, l.U p = some b' → l.U p = some b' ∧ g.M b' = g.M b' ∧ (w.setRow b (splice cur.toList off vs).toArray).heap[b']? = w.heap[b']? := fun {p b'} hu =>
    ⟨hu, rfl, setRow_other w b b' _ (hne (h.uo _ _ hu) (by simp))⟩
  have hL : ∀ {p lv v}, RepL g l w p lv v → RepL g l (w.setRow b (splice cur.toList off vs).toArray) p lv v := fun hr => hr.keep hm (fun _ _ _ => rfl) fun b hu => hU hu
  refine ⟨h.hist.setRow hM h4 (by simp [splice_length]) (h.own b _ h2).2, h.size, h.defers, fun t lv ht => hL (h.tm t lv ht), ?_, ?_, ?_, h.uo, ?_, ?_⟩
  · intro k cs' hk
    rw [lk_put] at hk
    split at hk
    · rename_i ek
      subst ek
      injection hk with hk
      subst hk
      refine ⟨b, h1, h2, hM, _, e, setRow_heap w b cur _ e _ h4, by simp [splice_length, h5], fun j hj => ?_⟩
      rw [splice_length] at hj
      have hfit' : off + vs.length ≤ cur.toList.length := by simp only [Array.length_toList]; omega
      have g1 := splice_get cs off lvs hfit j
      have g2 := splice_get cur.toList off vs hfit' j
      have hj1 : j < (splice cs off lvs).length := by rw [splice_length]; exact hj
      rw [List.getElem?_eq_getElem hj1] at g1
      have g3 : ((splice cur.toList off vs).toArray.getD j undef) = ((splice cur.toList off vs)[j]?).getD undef := by simp [Array.getD_eq_getD_getElem?]
      by_cases hc : off ≤ j ∧ j < off + lvs.length
      · have hc' : off ≤ j ∧ j < off + vs.length := by omega
        rw [if_pos hc, List.getElem?_eq_getElem (l := lvs) (by omega)] at g1
        rw [if_pos hc', List.getElem?_eq_getElem (l := vs) (by omega)] at g2
        injection g1 with g1
        have hh := hr (j - off) (by omega) (by omega)
        rw [show off + (j - off) = j by omega] at hh
        rw [g1, g3, g2]
        exact ⟨hh.1, hh.2.1, hL hh.2.2⟩
      · have hc' : ¬ (off ≤ j ∧ j < off + vs.length) := by omega
        rw [if_neg hc, List.getElem?_eq_getElem (l := cs) hj] at g1
        rw [if_neg hc'] at g2
        injection g1 with g1
        have hh := h6 j hj
        rw [g1, g3, g2]
        refine ⟨hh.1, ?_, hL ?_⟩
        · have := hh.2.1
          simpa [Array.getD_eq_getD_getElem?] using this
        · have := hh.2.2
          simpa [Array.getD_eq_getD_getElem?] using this
    · rename_i ek
      obtain ⟨b', k1, k2, k3, cur', e', k4, k5, k6⟩ := h.bx k cs' hk
      have hn := hne k2 (by simp; exact fun e => ek e.symm)
      exact ⟨b', k1, k2, k3, cur', e', (setRow_other w b b' _ hn).trans k4, k5, fun j hj => ⟨(k6 j hj).1, (k6 j hj).2.1, hL (k6 j hj).2.2⟩⟩
  · intro k cs' hk
    obtain ⟨b', k1, k2, hE⟩ := h.ex k cs' hk
    have hn := hne k2 (by simp)
    refine ⟨b', k1, k2, ?_⟩
    rcases hE with ⟨k3, cur', e', k4, k5, k6⟩ | hE
    · exact .inl ⟨k3, cur', e', (setRow_other w b b' _ hn).trans k4, k5, fun j hj => ⟨(k6 j hj).1, (k6 j hj).2.1, hL (k6 j hj).2.2⟩⟩
    · exact .inr (hE.keep hm (fun _ _ _ h => h) rfl (setRow_other w b b' _ hn))
  · intro b' o ho
    simpa using h.own b' o ho
  · exact ⟨fun b' hb' => h.fresh.1 b' (by simpa using hb'), h.fresh.2⟩
  · intro n b' hx
    simpa using h.xlt n b' hx

/-- A store into a named object. -/
theorem Sim.wext (h : Sim cx s g l a w) {i : Nat} {cs : List LV} (hi : lk s.ext i = some cs) (off : Nat) (lvs : List LV) (vs : List Value) (hl : lvs.length = vs.length) (hfit : off + lvs.length ≤ cs.length)
    (hr : ∀ j (h : j < lvs.length) (h' : j < vs.length), lvs[j].nolp = true ∧ vs[j].oneCell' = true ∧ RepL g l w (.x i (off + j)) lvs[j] vs[j]) (hcs : plainE cs) :
    ∃ b cur e, g.X i = some b ∧ w.heap[b]? = some (.cells cur e (0, 0)) ∧ cs.length ≤ cur.size ∧
      Sim cx { s with ext := put s.ext i (splice cs off lvs) } g l a (w.setRow b (splice cur.toList off vs).toArray) ∧ Mono g w g (w.setRow b (splice cur.toList off vs).toArray) := by
  obtain ⟨b, h1, h2, hE⟩ := h.ex i cs hi
  rcases hE with hB | hE
  rotate_left
  · exact (hE.plain hcs).elim
  replace h1 := h1.plain hcs.2
  obtain ⟨hM, cur, e, h4, h5, h6⟩ := hB
  refine ⟨b, cur, e, h1, h4, h5, ?_, mono_setRow hM h4 (by simp [splice_length])⟩
  have hm : Mono g w g (w.setRow b (splice cur.toList off vs).toArray) := mono_setRow hM h4 (by simp [splice_length])
  have hne : ∀ {b' o}, l.O b' = some o → o ≠ .x i → b' ≠ b := fun {b' o} ho hn e => by
    subst e
    rw [h2] at ho
    injection ho with ho
    exact hn ho.symm
  have hU : ∀ {p b'}, l.U p = some b' → l.U p = some b' ∧ g.M b' = g.M b' ∧ (w.setRow b (splice cur.toList off vs).toArray).heap[b']? = w.heap[b']? := fun {p b'} hu =>
    ⟨hu, rfl, setRow_other w b b' _ (hne (h.uo _ _ hu) (by simp))⟩
  have hL : ∀ {p lv v}, RepL g l w p lv v → RepL g l (w.setRow b (splice cur.toList off vs).toArray) p lv v := fun hr => hr.keep hm (fun _ _ _ => rfl) fun b hu => hU hu
  refine ⟨h.hist.setRow hM h4 (by simp [splice_length]) (h.own b _ h2).2, h.size, h.defers, fun t lv ht => hL (h.tm t lv ht), ?_, ?_, ?_, h.uo, ?_, ?_⟩
  · intro k cs' hk
    obtain ⟨b', k1, k2, k3, cur', e', k4, k5, k6⟩ := h.bx k cs' hk
    have hn := hne k2 (by simp)
    exact ⟨b', k1, k2, k3, cur', e', (setRow_other w b b' _ hn).trans k4, k5, fun j hj => ⟨(k6 j hj).1, (k6 j hj).2.1, hL (k6 j hj).2.2⟩⟩
  · intro k cs' hk
    rw [lk_put] at hk
    split at hk
    · rename_i ek
      subst ek
      injection hk with hk
      subst hk
      refine ex_R h1 h2 ⟨hM, _, e, setRow_heap w b cur _ e _ h4, by simp [splice_length, h5], fun j hj => ?_⟩
      rw [splice_length] at hj
      have hfit' : off + vs.length ≤ cur.toList.length := by simp only [Array.length_toList]; omega
      have g1 := splice_get cs off lvs hfit j
      have g2 := splice_get cur.toList off vs hfit' j
      have hj1 : j < (splice cs off lvs).length := by rw [splice_length]; exact hj
      rw [List.getElem?_eq_getElem hj1] at g1
      have g3 : ((splice cur.toList off vs).toArray.getD j undef) = ((splice cur.toList off vs)[j]?).getD undef := by simp [Array.getD_eq_getD_getElem?]
      by_cases hc : off ≤ j ∧ j < off + lvs.length
      · have hc' : off ≤ j ∧ j < off + vs.length := by omega
        rw [if_pos hc, List.getElem?_eq_getElem (l := lvs) (by omega)] at g1
        rw [if_pos hc', List.getElem?_eq_getElem (l := vs) (by omega)] at g2
        injection g1 with g1
        have hh := hr (j - off) (by omega) (by omega)
        rw [show off + (j - off) = j by omega] at hh
        rw [g1, g3, g2]
        exact ⟨hh.1, hh.2.1, hL hh.2.2⟩
      · have hc' : ¬ (off ≤ j ∧ j < off + vs.length) := by omega
        rw [if_neg hc, List.getElem?_eq_getElem (l := cs) hj] at g1
        rw [if_neg hc'] at g2
        injection g1 with g1
        have hh := h6 j hj
        rw [g1, g3, g2]
        refine ⟨hh.1, ?_, hL ?_⟩
        · have := hh.2.1
          simpa [Array.getD_eq_getD_getElem?] using this
        · have := hh.2.2
          simpa [Array.getD_eq_getD_getElem?] using this
    · rename_i ek
      obtain ⟨b', k1, k2, hE⟩ := h.ex k cs' hk
      have hn := hne k2 (by simp; exact fun e => ek e.symm)
      refine ⟨b', k1, k2, ?_⟩
      rcases hE with ⟨k3, cur', e', k4, k5, k6⟩ | hE
      · exact .inl ⟨k3, cur', e', (setRow_other w b b' _ hn).trans k4, k5, fun j hj => ⟨(k6 j hj).1, (k6 j hj).2.1, hL (k6 j hj).2.2⟩⟩
      · exact .inr (hE.keep hm (fun _ _ _ h => h) rfl (setRow_other w b b' _ hn))
  · intro b' o ho
    simpa using h.own b' o ho
  · exact ⟨fun b' hb' => h.fresh.1 b' (by simpa using hb'), fun n hn => h.fresh.2.1 n (by rw [cnt_put_old hi] at hn; exact hn), fun n c hn => h.fresh.2.2 n c (by rw [cnt_put_old hi] at hn; exact hn)⟩
  · intro n b' hx
    simpa using h.xlt n b' hx

/-- Nothing that is known at this place owns. -/
def noU (s : S) : UL → Prop
  | .t d => ∀ e z es, lk s.tmps d ≠ some (.uniq e z es)
  | .b i j => ∀ cs, lk s.boxes i = some cs → ∀ e z es, cs[j]? ≠ some (.uniq e z es)
  | .x n j => ∀ cs, lk s.ext n = some cs → ∀ e z es, cs[j]? ≠ some (.uniq e z es)

theorem RepL.noU {g' : Gh} {l' : LG} {w' : World} {p : UL} {lv : LV} {v : Value} (hr : RepL g l w p lv v) (hm : Mono g w g' w') (hL : l'.L = l.L) (hlv : ∀ e z es, lv ≠ .uniq e z es) : RepL g' l' w' p lv v := by
  cases lv with
  | v q => exact Rep.mono hr hm
  | lp i off =>
    obtain ⟨b, h1, h2⟩ := hr
    exact ⟨b, by rw [hL]; exact h1, h2⟩
  | uniq e size es => exact absurd rfl (hlv e size es)
  | full size es =>
    rcases hr with h | ⟨a, h1, h2⟩
    · exact .inl h
    · exact .inr ⟨a, h1, h2.mono hm⟩
  | junk => trivial
  | mm _ => exact hr.elim
  | row _ _ => exact hr.elim

/-- The owner changes: a general step. What is known at p and q owns nothing any more. -/
theorem Sim.reown (h : Sim cx s g l a w) {p q : UL} {b : Nat} (hb : l.U p = some b) (hp : noU s p) (hq : noU s q) :
    Sim cx s g { l with U := updU (updU l.U p none) q (some b), O := upd l.O b (some (.u q)) } a w := by
  have hob := h.uo p b hb
  have hU : ∀ {r b'}, r ≠ p → r ≠ q → l.U r = some b' → updU (updU l.U p none) q (some b) r = some b' := fun {r b'} h1 h2 hu => by
    simp [updU, h1, h2, hu]
  have keep : ∀ {r lv v}, (r = p ∨ r = q → ∀ e z es, lv ≠ LV.uniq e z es) → RepL g l w r lv v → RepL g { l with U := updU (updU l.U p none) q (some b), O := upd l.O b (some (.u q)) } w r lv v := fun {r lv v} hn hr => by
    by_cases hc : r = p ∨ r = q
    · exact hr.noU (Mono.refl g w) rfl (hn hc)
    · simp only [not_or] at hc
      exact hr.keep (Mono.refl g w) (fun _ _ _ => rfl) fun b' hu => ⟨hU hc.1 hc.2 hu, rfl, rfl⟩
  have hO : ∀ {b' o}, l.O b' = some o → (∀ r, o ≠ .u r) → upd l.O b (some (.u q)) b' = some o := fun {b' o} ho hn => by
    have : b' ≠ b := by
      rintro rfl
      rw [hob] at ho
      injection ho with ho
      exact hn p ho.symm
    exact (upd_other _ _ this).trans ho
  refine ⟨h.hist, h.size, h.defers, fun t lv ht => keep ?_ (h.tm t lv ht), ?_, ?_, ?_, ?_, h.fresh, h.xlt⟩
  · rintro (e | e) e' z es rfl
    · subst e; exact hp e' z es ht
    · subst e; exact hq e' z es ht
  · intro i cs hi
    obtain ⟨b', h1, h2, h3, cur, e, h4, h5, h6⟩ := h.bx i cs hi
    refine ⟨b', h1, hO h2 (by simp), h3, cur, e, h4, h5, fun j hj => ⟨(h6 j hj).1, (h6 j hj).2.1, keep ?_ (h6 j hj).2.2⟩⟩
    rintro (e0 | e0) e' z es e1
    · subst e0; exact hp cs hi e' z es (by rw [List.getElem?_eq_getElem hj, e1])
    · subst e0; exact hq cs hi e' z es (by rw [List.getElem?_eq_getElem hj, e1])
  · intro i cs hi
    obtain ⟨b', h1, h2, hE⟩ := h.ex i cs hi
    refine ⟨b', h1, hO h2 (by simp), ?_⟩
    rcases hE with ⟨h3, cur, e, h4, h5, h6⟩ | hE
    rotate_left
    · exact .inr hE
    refine .inl ⟨h3, cur, e, h4, h5, fun j hj => ⟨(h6 j hj).1, (h6 j hj).2.1, keep ?_ (h6 j hj).2.2⟩⟩
    rintro (e0 | e0) e' z es e1
    · subst e0; exact hp cs hi e' z es (by rw [List.getElem?_eq_getElem hj, e1])
    · subst e0; exact hq cs hi e' z es (by rw [List.getElem?_eq_getElem hj, e1])
  · intro b' o ho
    simp only [upd] at ho
    split at ho
    · rename_i e; subst e; exact h.own _ _ hob
    · exact h.own b' o ho
  · intro r b' hu
    simp only [updU] at hu
    split at hu
    · rename_i e; subst e; injection hu with hu; subst hu; exact upd_same _ _ _
    · split at hu
      · cases hu
      · rename_i h1 h2
        have := h.uo r b' hu
        have hne : b' ≠ b := by
          rintro rfl
          rw [hob] at this
          injection this with this
          injection this with this
          exact h2 this.symm
        exact (upd_other _ _ hne).trans this

/-- A slice that owns its spare cells is handed to another place. -/
theorem Sim.transfer (h : Sim cx s g l a w) {p q : UL} {e : TypeId} {z : Nat} {es : List (List PV)} {v : Value} (hr : RepL g l w p (.uniq e z es) v) (hp : noU s p) (hq : noU s q) :
    ∃ l', Sim cx s g l' a w ∧ RepL g l' w q (.uniq e z es) v ∧ l'.L = l.L := by
  rcases hr with hn | ⟨b, cap, cur, h1, h2, h3, h4, h5, h6⟩
  · exact ⟨l, h, .inl hn, rfl⟩
  · refine ⟨_, h.reown h2 hp hq, .inr ⟨b, cap, cur, h1, ?_, h3, h4, h5, h6⟩, rfl⟩
    simp [updU]

/-- A new row that this frame may still append to. -/
theorem Sim.newrow (h : Sim cx s g l a w) (q : UL) (hq : noU s q) (cur : Array Value) (e : TypeId) (size cap : Nat) (es : List (List PV)) (hcs : cur.size = cap * size) (hle : es.length ≤ cap) (hcap : cap ≤ maxLen)
    (hsz : ∀ i (h : i < es.length), es[i].length = size) (xs : List Value) (hr : RepAll g w es.flatten xs) (hone : ∀ u ∈ xs, u.oneCell' = true) (htake : cur.toList.take (es.length * size) = xs) :
    ∃ g' l', Sim cx s g' l' a (w.alloc (.cells cur e)) ∧ Mono g w g' (w.alloc (.cells cur e)) ∧ RepL g' l' (w.alloc (.cells cur e)) q (.uniq e size es) (.slice (some ⟨w.heap.size, 0, none⟩) es.length cap) := by
  have hb : ∀ b, b < w.heap.size → (w.alloc (.cells cur e)).heap[b]? = w.heap[b]? := fun b hb => Below.heap_alloc w _ b hb
  have hsz' : (w.alloc (.cells cur e)).heap.size = w.heap.size + 1 := by simp
  have hm : Mono g w { g with M := upd g.M w.heap.size (some (es.length * size)) } (w.alloc (.cells cur e)) := by
    refine ⟨fun _ _ e => e, fun b o v hc hf => ?_, len_of_same hb, fun _ _ _ h => h⟩
    have hlt := World.block_lt_of_cell? w _ hc
    refine ⟨by rw [← hc]; exact World.cell?_of_block (hb b hlt), fun k hk => hf k ?_⟩
    simp only at hlt
    rw [← upd_other g.M (some (es.length * size)) (Nat.ne_of_lt hlt)]; exact hk
  have hUne : ∀ {r b'}, r ≠ q → l.U r = some b' → updU l.U q (some w.heap.size) r = some b' := fun {r b'} h1 hu => by simp [updU, h1, hu]
  have keep : ∀ {r lv v}, (r = q → ∀ e z es, lv ≠ LV.uniq e z es) → RepL g l w r lv v →
      RepL { g with M := upd g.M w.heap.size (some (es.length * size)) } { l with U := updU l.U q (some w.heap.size), O := upd l.O w.heap.size (some (.u q)) } (w.alloc (.cells cur e)) r lv v := fun {r lv v} hn hr => by
    by_cases hc : r = q
    · exact hr.noU hm rfl (hn hc)
    · refine hr.keep hm (fun _ _ _ => rfl) fun b' hu => ?_
      have hlt := (h.own b' _ (h.uo _ _ hu)).1
      exact ⟨hUne hc hu, upd_other _ _ (Nat.ne_of_lt hlt), hb b' hlt⟩
  refine ⟨{ g with M := upd g.M w.heap.size (some (es.length * size)) }, { l with U := updU l.U q (some w.heap.size), O := upd l.O w.heap.size (some (.u q)) }, ⟨⟨h.hist.mono.trans hm, by rw [hsz']; exact Nat.le_succ_of_le h.hist.size, fun b hlt ho => ?_, h.hist.os, h.hist.tape, h.hist.output, h.hist.glb.mono hm⟩, h.size, h.defers, fun t lv ht => keep ?_ (h.tm t lv ht), ?_, ?_, ?_, ?_, ?_, ?_⟩, hm, ?_⟩
  · obtain ⟨h1, h2⟩ := h.hist.frame b hlt ho
    have hlt' := Nat.lt_of_lt_of_le hlt h.hist.size
    exact ⟨(hb b hlt').trans h1, (upd_other g.M _ (Nat.ne_of_lt hlt')).trans h2⟩
  · rintro e0 e' z es' rfl
    subst e0; exact hq e' z es' ht
  · intro i cs hi
    obtain ⟨b', h1, h2, h3, cur', e', h4, h5, h6⟩ := h.bx i cs hi
    have hlt := (h.own b' _ h2).1
    refine ⟨b', h1, (upd_other _ _ (Nat.ne_of_lt hlt)).trans h2, (upd_other _ _ (Nat.ne_of_lt hlt)).trans h3, cur', e', (hb b' hlt).trans h4, h5, fun j hj => ⟨(h6 j hj).1, (h6 j hj).2.1, keep ?_ (h6 j hj).2.2⟩⟩
    rintro e0 e2 z es' e1
    subst e0; exact hq cs hi e2 z es' (by rw [List.getElem?_eq_getElem hj, e1])
  · intro i cs hi
    obtain ⟨b', h1, h2, hE⟩ := h.ex i cs hi
    have hlt := (h.own b' _ h2).1
    refine ⟨b', h1, (upd_other _ _ (Nat.ne_of_lt hlt)).trans h2, ?_⟩
    rcases hE with ⟨h3, cur', e', h4, h5, h6⟩ | hE
    rotate_left
    · exact .inr (hE.keep hm (fun _ _ _ h => h) (upd_other _ _ (Nat.ne_of_lt hlt)) (hb b' hlt))
    refine .inl ⟨(upd_other _ _ (Nat.ne_of_lt hlt)).trans h3, cur', e', (hb b' hlt).trans h4, h5, fun j hj => ⟨(h6 j hj).1, (h6 j hj).2.1, keep ?_ (h6 j hj).2.2⟩⟩
    rintro e0 e2 z es' e1
    subst e0; exact hq cs hi e2 z es' (by rw [List.getElem?_eq_getElem hj, e1])
  · intro b o ho
    simp only [upd] at ho
    split at ho
    · rename_i eb
      subst eb
      exact ⟨by rw [hsz']; omega, .inl h.hist.size⟩
    · obtain ⟨k1, k2⟩ := h.own b o ho
      exact ⟨by rw [hsz']; omega, k2⟩
  · intro r b hu
    simp only [updU] at hu
    split at hu
    · rename_i e0; subst e0; injection hu with hu; subst hu; exact upd_same _ _ _
    · have hlt := (h.own b _ (h.uo _ _ hu)).1
      exact (upd_other _ _ (Nat.ne_of_lt hlt)).trans (h.uo r b hu)
  · refine ⟨fun b hb' => ?_, h.fresh.2⟩
    rw [hsz'] at hb'
    exact (upd_other _ _ (by omega)).trans (h.fresh.1 b (by omega))
  · intro n b hx
    rw [hsz']
    exact Nat.lt_succ_of_lt (h.xlt n b hx)
  · refine .inr ⟨w.heap.size, cap, cur, rfl, by simp [updU], upd_same _ _ _, heap_alloc_new w _, hcs, ?_⟩
    refine Rep.of_flat hle hcap hsz (hr.mono hm) fun j u hu => ?_
    have hj := (List.getElem?_eq_some_iff.1 hu).1
    have hxl : xs.length = es.length * size := by rw [← hr.1, flatten_length size es hsz]
    have hcj : cur.toList[j]? = some u := by
      rw [← htake, List.getElem?_take] at hu
      split at hu
      · exact hu
      · cases hu
    have hadd : (⟨w.heap.size, 0, none⟩ : Addr).add j = ⟨w.heap.size, j, none⟩ := by unfold Addr.add; split <;> simp_all
    refine ⟨?_, fun k hk => ?_, hone u (List.mem_of_getElem? hu)⟩
    · rw [hadd]
      have := heap_alloc_new w (.cells cur e)
      simp only [World.cell?, this]
      simpa using hcj
    · have hk' : some (es.length * size) = some k := by rw [← hk]; exact (upd_same _ _ _).symm
      injection hk' with hk'
      simp only
      omega

/-- An append within the capacity. -/
theorem Sim.inplace (h : Sim cx s g l a w) {p q : UL} {b cap : Nat} {cur : Array Value} {e : TypeId} {size : Nat} {es ys : List (List PV)} (hp : noU s p) (hq : noU s q) (hU : l.U p = some b) (hM : g.M b = some (es.length * size))
    (hh : w.heap[b]? = some (.cells cur e (0, 0))) (hcs : cur.size = cap * size) (hR : Rep g w (.sl size es) (.slice (some ⟨b, 0, none⟩) es.length cap))
    (hys : ∀ i (h : i < ys.length), ys[i].length = size) (news : List Value) (hn : RepAll g w ys.flatten news) (hone : ∀ u ∈ news, u.oneCell' = true) (hroom : es.length + ys.length ≤ cap) :
    ∃ g' l', Sim cx s g' l' a (w.setRow b (cur.toList.take (es.length * size) ++ news ++ cur.toList.drop (es.length * size + news.length)).toArray) ∧
      Mono g w g' (w.setRow b (cur.toList.take (es.length * size) ++ news ++ cur.toList.drop (es.length * size + news.length)).toArray) ∧
      RepL g' l' (w.setRow b (cur.toList.take (es.length * size) ++ news ++ cur.toList.drop (es.length * size + news.length)).toArray) q (.uniq e size (es ++ ys)) (.slice (some ⟨b, 0, none⟩) (es.length + ys.length) cap) := by
  obtain ⟨-, hle, hcap, hes, xs, hxr, hxl, hxc⟩ := hR.flat
  have hnl : news.length = ys.length * size := by rw [← hn.1, flatten_length size ys hys]
  have hfit : es.length * size + news.length ≤ cur.size := by rw [hnl, hcs, ← Nat.add_mul]; exact Nat.mul_le_mul_right _ hroom
  have hxcur : cur.toList.take (es.length * size) = xs := by
    apply List.ext_getElem?
    intro j
    rw [List.getElem?_take]
    split
    · rename_i hj
      have hj' : j < xs.length := by omega
      have hc := (hxc j _ (List.getElem?_eq_getElem hj')).1
      have hadd : (⟨b, 0, none⟩ : Addr).add j = ⟨b, j, none⟩ := by unfold Addr.add; split <;> simp_all
      rw [hadd] at hc
      simp only [World.cell?, hh] at hc
      rw [List.getElem?_eq_getElem hj']
      simpa using hc
    · rename_i hj
      exact (List.getElem?_eq_none (by omega)).symm
  rw [hxcur]
  generalize harr : (xs ++ news ++ cur.toList.drop (es.length * size + news.length)).toArray = arr
  have harrs : arr.size = cap * size := by
    subst harr
    simp only [List.size_toArray, List.length_append, List.length_drop, Array.length_toList]
    omega
  have hcell : ∀ j u, (xs ++ news)[j]? = some u → (w.setRow b arr).cell? ⟨b, j, none⟩ = some u := fun j u hu => by
    have hset := setRow_heap w b cur arr e _ hh
    simp only [World.cell?, hset]
    subst harr
    have hj := (List.getElem?_eq_some_iff.1 hu).1
    simp only [Option.isSome_none, Bool.false_eq_true, ↓reduceIte, List.getElem?_toArray]
    rw [List.getElem?_append_left hj]
    exact hu
  have hm : Mono g w { g with M := upd g.M b (some ((es ++ ys).length * size)) } (w.setRow b arr) := by
    refine ⟨fun _ _ e => e, fun b' o v hc hf => ?_, len_setRow hh (harrs.trans hcs.symm), fun _ _ _ h => h⟩
    by_cases hbb : b' = b
    · subst hbb
      have ho := hf _ hM
      refine ⟨?_, fun k hk => ?_⟩
      · have hxo : xs[o]? = some v := by
          have hc' := (hxc o _ (List.getElem?_eq_getElem (by omega))).1
          have hadd : (⟨b', 0, none⟩ : Addr).add o = ⟨b', o, none⟩ := by unfold Addr.add; split <;> simp_all
          rw [hadd, hc] at hc'
          rw [List.getElem?_eq_getElem (by omega)]
          exact hc'.symm
        exact hcell o v (by rw [List.getElem?_append_left (by omega)]; exact hxo)
      · have hk' : some ((es ++ ys).length * size) = some k := by rw [← hk]; exact (upd_same _ _ _).symm
        injection hk' with hk'
        rw [List.length_append, Nat.add_mul] at hk'
        omega
    · refine ⟨by rw [← hc]; exact World.cell?_of_block (setRow_other w b b' arr hbb), fun k hk => hf k ?_⟩
      rw [← upd_other g.M (some ((es ++ ys).length * size)) hbb]; exact hk
  have hob := h.uo p b hU
  have h1 := h.reown hU hp hq
  have keep : ∀ {r lv v}, (r = q → ∀ e z es, lv ≠ LV.uniq e z es) → RepL g { l with U := updU (updU l.U p none) q (some b), O := upd l.O b (some (.u q)) } w r lv v →
      RepL { g with M := upd g.M b (some ((es ++ ys).length * size)) } { l with U := updU (updU l.U p none) q (some b), O := upd l.O b (some (.u q)) } (w.setRow b arr) r lv v := fun {r lv v} hn hr => by
    by_cases hc : r = q
    · exact hr.noU hm rfl (hn hc)
    · refine hr.keep hm (fun _ _ _ => rfl) fun b' hu => ?_
      have hne : b' ≠ b := by
        rintro rfl
        have := h1.uo r b' hu
        simp only [upd_same] at this
        injection this with this
        injection this with this
        exact hc this.symm
      exact ⟨hu, upd_other _ _ hne, setRow_other w b b' arr hne⟩
  have hOb : ∀ {b' o}, upd l.O b (some (Own.u q)) b' = some o → (∀ r, o ≠ .u r) → b' ≠ b := fun {b' o} ho hn e0 => by
    subst e0
    rw [upd_same] at ho
    injection ho with ho
    exact hn q ho.symm
  refine ⟨{ g with M := upd g.M b (some ((es ++ ys).length * size)) }, { l with U := updU (updU l.U p none) q (some b), O := upd l.O b (some (.u q)) }, ⟨⟨h.hist.mono.trans hm, by simpa using h.hist.size, fun b' hlt ho => ?_, h.hist.os, h.hist.tape, h.hist.output, h.hist.glb.mono hm⟩, h.size, h.defers, fun t lv ht => keep ?_ (h1.tm t lv ht), ?_, ?_, ?_, h1.uo, ?_, ?_⟩, hm, ?_⟩
  · have hne : b' ≠ b := by
      rintro rfl
      rcases (h.own b' _ hob).2 with hb | hb
      · omega
      · exact ho hb
    obtain ⟨k1, k2⟩ := h.hist.frame b' hlt ho
    exact ⟨(setRow_other w b b' arr hne).trans k1, (upd_other g.M _ hne).trans k2⟩
  · rintro e0 e' z es' rfl
    subst e0; exact hq e' z es' ht
  · intro i cs hi
    obtain ⟨b', k1, k2, k3, cur', e', k4, k5, k6⟩ := h1.bx i cs hi
    have hne := hOb k2 (by simp)
    refine ⟨b', k1, k2, (upd_other _ _ hne).trans k3, cur', e', (setRow_other w b b' arr hne).trans k4, k5, fun j hj => ⟨(k6 j hj).1, (k6 j hj).2.1, keep ?_ (k6 j hj).2.2⟩⟩
    rintro e0 e2 z es' e1
    subst e0; exact hq cs hi e2 z es' (by rw [List.getElem?_eq_getElem hj, e1])
  · intro i cs hi
    obtain ⟨b', k1, k2, hE⟩ := h1.ex i cs hi
    have hne := hOb k2 (by simp)
    refine ⟨b', k1, k2, ?_⟩
    rcases hE with ⟨k3, cur', e', k4, k5, k6⟩ | hE
    rotate_left
    · exact .inr (hE.keep hm (fun _ _ _ h => h) (upd_other _ _ hne) (setRow_other w b b' arr hne))
    refine .inl ⟨(upd_other _ _ hne).trans k3, cur', e', (setRow_other w b b' arr hne).trans k4, k5, fun j hj => ⟨(k6 j hj).1, (k6 j hj).2.1, keep ?_ (k6 j hj).2.2⟩⟩
    rintro e0 e2 z es' e1
    subst e0; exact hq cs hi e2 z es' (by rw [List.getElem?_eq_getElem hj, e1])
  · intro b' o ho
    simpa using h1.own b' o ho
  · refine ⟨fun b' hb' => ?_, h.fresh.2⟩
    have hb2 : w.heap.size ≤ b' := by simpa using hb'
    have hlt := (h.own b _ hob).1
    exact (upd_other _ _ (by omega)).trans (h.fresh.1 b' hb2)
  · intro n b' hx
    simpa using h.xlt n b' hx
  · refine .inr ⟨b, cap, arr, by simp, by simp [updU], upd_same _ _ _, setRow_heap w b cur arr e _ hh, harrs, ?_⟩
    rw [← List.length_append]
    refine Rep.of_flat (by simpa using hroom) hcap ?_ (xs := xs ++ news) ?_ fun j u hu => ?_
    · intro i hi
      rw [List.getElem_append]
      split
      · exact hes _ _
      · exact hys _ _
    · have h2 := hxr.mono hm
      have h3 := hn.mono hm
      refine ⟨by simp only [List.flatten_append, List.length_append, h2.1, h3.1], fun j hj hj' => ?_⟩
      simp only [List.flatten_append]
      simp only [List.getElem_append]
      have hlen : es.flatten.length = xs.length := h2.1
      split
      · rename_i hlt
        rw [dif_pos (by omega)]
        exact h2.2 _ _ _
      · rename_i hlt
        rw [dif_neg (by omega)]
        simp only [hlen]
        exact h3.2 _ _ _
    · have hj := (List.getElem?_eq_some_iff.1 hu).1
      have hadd : (⟨b, 0, none⟩ : Addr).add j = ⟨b, j, none⟩ := by unfold Addr.add; split <;> simp_all
      refine ⟨by rw [hadd]; exact hcell j u hu, fun k hk => ?_, ?_⟩
      · have hk' : some ((es ++ ys).length * size) = some k := by rw [← hk]; exact (upd_same _ _ _).symm
        injection hk' with hk'
        rw [List.length_append, Nat.add_mul] at hk'
        rw [List.length_append] at hj
        simp only
        omega
      · rcases List.mem_append.1 (List.mem_of_getElem? hu) with hx | hx
        · obtain ⟨j', hj1, hj2⟩ := List.getElem_of_mem hx
          exact (hxc j' u (by rw [List.getElem?_eq_getElem hj1, hj2])).2.2
        · exact hone u hx

/-- A row that may grow. -/
def rowOf : List LV → Option (Nat × List Int)
  | [.row c ps] => some (c, ps)
  | _ => none
theorem rowOf_inv {cs : List LV} {c : Nat} {ps : List Int} (h : rowOf cs = some (c, ps)) : cs = [.row c ps] := by
  unfold rowOf at h
  split at h
  · injection h with h; injection h with h1 h2; subst h1 h2; rfl
  · cases h
theorem row_at (h : Sim cx s g l a w) {n c : Nat} {cs : List LV} {ps : List Int} (hi : lk s.ext n = some cs) (hc : rowOf cs = some (c, ps)) :
    ∃ b, g.Y n c = some b ∧ l.O b = some (.x n) ∧ BlkY g w n b c ps := by
  have := rowOf_inv hc
  subst this
  obtain ⟨b, h1, h2, hE⟩ := h.ex n _ hi
  rcases hE with hB | ⟨es, he, -⟩ | ⟨n', c', ps', e1, e2, hY⟩
  · exact absurd rfl (hB.norow c ps)
  · have := he.inv
    injection this with h1 _
    cases h1
  · injection e2 with e2 _
    injection e2 with e2 e3
    subst e2 e3
    have : n = n' := by
      have := congrFun e1 0
      injection this
    subst this
    exact ⟨b, h1, h2, hY⟩
def updY (Y : Nat → Nat → Option Nat) (n c b : Nat) : Nat → Nat → Option Nat := fun n' c' => if n' = n ∧ c' = c then some b else Y n' c'
theorem updY_same (Y : Nat → Nat → Option Nat) (n c b : Nat) : updY Y n c b n c = some b := by simp [updY]
theorem updY_other {Y : Nat → Nat → Option Nat} {n c b n' c' : Nat} (h : ¬ (n' = n ∧ c' = c)) : updY Y n c b n' c' = Y n' c' := by simp [updY, h]
/-- A row is written where it stands; it may get a new name. -/
theorem Sim.rowset (h : Sim cx s g l a w) {n c c2 b : Nat} {ps ps' : List Int} {cur cur' : Array Value} {e : TypeId} (hi : lk s.ext n = some [.row c ps]) (hY : g.Y n c = some b) (hO : l.O b = some (.x n)) (hF : ∀ c', c < c' → g.Y n c' = none) (hM : g.M b = some 0)
    (hh : w.heap[b]? = some (.cells cur e (0, 0))) (hsz : cur'.size = cur.size) (hc : c2 = c ∨ c < c2) (hlen : ps'.length ≤ cur'.size) (hr : ∀ j (hj : j < ps'.length), (cur'.getD j undef).oneCell' = true ∧ Rep g w (.int .i64 ps'[j]) (cur'.getD j undef)) :
    Sim cx { s with ext := put s.ext n [.row c2 ps'] } { g with Y := updY g.Y n c2 b } l a (w.setRow b cur') := by
  have hYm : ∀ n' c' b', g.Y n' c' = some b' → updY g.Y n c2 b n' c' = some b' := fun n' c' b' hx => by
    by_cases hq : n' = n ∧ c' = c2
    · obtain ⟨rfl, rfl⟩ := hq
      rcases hc with rfl | hc
      · rw [hY] at hx; rw [updY_same]; exact hx
      · rw [hF _ hc] at hx; cases hx
    · rw [updY_other hq]; exact hx
  have hm0 : Mono g w g (w.setRow b cur') := mono_setRow hM hh hsz
  have hm : Mono g w { g with Y := updY g.Y n c2 b } (w.setRow b cur') := ⟨hm0.ext, hm0.cell, hm0.len, hYm⟩
  have hne : ∀ {b' o}, l.O b' = some o → o ≠ .x n → b' ≠ b := fun {b' o} ho' hn e0 => by
    subst e0
    rw [hO] at ho'
    injection ho' with ho'
    exact hn ho'.symm
  have hoth : ∀ {b'}, b' ≠ b → (w.setRow b cur').heap[b']? = w.heap[b']? := fun {b'} hn => setRow_other w b b' _ hn
  have hU : ∀ {p b'}, l.U p = some b' → l.U p = some b' ∧ g.M b' = g.M b' ∧ (w.setRow b cur').heap[b']? = w.heap[b']? := fun {p b'} hu => ⟨hu, rfl, hoth (hne (h.uo _ _ hu) (by simp))⟩
  have hL : ∀ {p lv v}, RepL g l w p lv v → RepL { g with Y := updY g.Y n c2 b } l (w.setRow b cur') p lv v := fun hr => hr.keep hm (fun _ _ _ => rfl) fun b hu => hU hu
  have hH := h.hist.setRow hM hh hsz (h.own b _ hO).2
  have hs2 : (w.setRow b cur').heap.size = w.heap.size := by simp
  refine ⟨⟨h.hist.mono.trans hm, hH.size, hH.frame, hH.os, hH.tape, hH.output, h.hist.glb.mono hm⟩, h.size, h.defers, fun t lv ht => hL (h.tm t lv ht), ?_, ?_, ?_, h.uo, ?_, ?_⟩
  · intro k cs hk
    obtain ⟨b', k1, k2, k3, cur2, e2, k4, k5, k6⟩ := h.bx k cs hk
    exact ⟨b', k1, k2, k3, cur2, e2, (hoth (hne k2 (by simp))).trans k4, k5, fun j hj => ⟨(k6 j hj).1, (k6 j hj).2.1, hL (k6 j hj).2.2⟩⟩
  · intro k cs hk
    simp only [lk_put] at hk
    split at hk
    · rename_i ek
      subst ek
      injection hk with hk
      subst hk
      refine ⟨b, updY_same _ _ _ _, hO, .inr (.inr ⟨n, c2, ps', rfl, rfl, fun c' hc' => ?_, hM, cur', e, setRow_heap w b cur cur' e _ hh, hlen, fun j hj => ⟨(hr j hj).1, (hr j hj).2.mono hm⟩⟩)⟩
      show updY g.Y n c2 b n c' = none
      rw [updY_other (by omega)]
      exact hF c' (by omega)
    · rename_i ek
      obtain ⟨b', k1, k2, hE⟩ := h.ex k cs hk
      have hn : b' ≠ b := hne k2 (fun e0 => by injection e0 with e0; exact ek e0.symm)
      refine ⟨b', k1.mono hm, k2, ?_⟩
      rcases hE with ⟨k3, cur2, e2, k4, k5, k6⟩ | hE
      · exact .inl ⟨k3, cur2, e2, (hoth hn).trans k4, k5, fun j hj => ⟨(k6 j hj).1, (k6 j hj).2.1, hL (k6 j hj).2.2⟩⟩
      · refine .inr (hE.keep hm (fun n' c' hf hx => ?_) rfl (hoth hn))
        have : n' = k := by
          have := congrFun hf 0
          injection this with h1 _
          exact h1.symm
        show updY g.Y n c2 b n' c' = none
        rw [updY_other (by rintro ⟨h1, -⟩; exact ek (h1.symm.trans this))]
        exact hx
  · intro b' o ho
    rw [hs2]; exact h.own b' o ho
  · refine ⟨fun b' hb' => h.fresh.1 b' (by rw [hs2] at hb'; exact hb'), fun k hk => h.fresh.2.1 k (by rw [cnt_put_old hi] at hk; exact hk), fun k c' hk => ?_⟩
    have hlt := lt_cnt hi
    rw [cnt_put_old hi] at hk
    show updY g.Y n c2 b k c' = none
    rw [updY_other (by omega)]
    exact h.fresh.2.2 k c' hk
  · intro k b' hx
    rw [hs2]; exact h.xlt k b' hx

/-- A row in a new block, under a new name. -/
theorem Sim.rownew (h : Sim cx s g l a w) (n c2 : Nat) (hF : ∀ c', c2 ≤ c' → g.Y n c' = none) (hn0 : n ≤ cnt s.ext) (cur : Array Value) (e : TypeId) (ps' : List Int) (hlen : ps'.length ≤ cur.size) (hr : ∀ j (hj : j < ps'.length), (cur.getD j undef).oneCell' = true ∧ Rep g w (.int .i64 ps'[j]) (cur.getD j undef)) :
    Sim cx { s with ext := put s.ext n [.row c2 ps'] } { g with M := upd g.M w.heap.size (some 0), Y := updY g.Y n c2 w.heap.size } { l with O := upd l.O w.heap.size (some (.x n)) } a (w.alloc (.cells cur e)) := by
  have hb : ∀ b, b < w.heap.size → (w.alloc (.cells cur e)).heap[b]? = w.heap[b]? := fun b hb => Below.heap_alloc w _ b hb
  have hYm : ∀ n' c' b', g.Y n' c' = some b' → updY g.Y n c2 w.heap.size n' c' = some b' := fun n' c' b' hx => by
    by_cases hq : n' = n ∧ c' = c2
    · obtain ⟨rfl, rfl⟩ := hq
      rw [hF _ (Nat.le_refl _)] at hx; cases hx
    · rw [updY_other hq]; exact hx
  have hm : Mono g w { g with M := upd g.M w.heap.size (some 0), Y := updY g.Y n c2 w.heap.size } (w.alloc (.cells cur e)) := by
    refine ⟨fun _ _ e => e, fun b o v hc hf => ?_, len_of_same hb, hYm⟩
    have hlt := World.block_lt_of_cell? w _ hc
    refine ⟨by rw [← hc]; exact World.cell?_of_block (hb b hlt), fun k hk => hf k ?_⟩
    simp only at hlt
    rw [← upd_other g.M (some 0) (Nat.ne_of_lt hlt)]; exact hk
  have hU : ∀ {p b}, l.U p = some b → l.U p = some b ∧ upd g.M w.heap.size (some 0) b = g.M b ∧ (w.alloc (.cells cur e)).heap[b]? = w.heap[b]? := fun {p b} hu => by
    have hlt := (h.own b _ (h.uo _ _ hu)).1
    exact ⟨hu, upd_other _ _ (Nat.ne_of_lt hlt), hb b hlt⟩
  have hsz : (w.alloc (.cells cur e)).heap.size = w.heap.size + 1 := by simp
  refine ⟨⟨h.hist.mono.trans hm, by rw [hsz]; exact Nat.le_succ_of_le h.hist.size, fun b hlt ho => ?_, h.hist.os, h.hist.tape, h.hist.output, h.hist.glb.mono hm⟩, h.size, h.defers, ?_, ?_, ?_, ?_, ?_, ?_, ?_⟩
  · obtain ⟨h1, h2⟩ := h.hist.frame b hlt ho
    have hlt' := Nat.lt_of_lt_of_le hlt h.hist.size
    exact ⟨(hb b hlt').trans h1, (upd_other g.M (some 0) (Nat.ne_of_lt hlt')).trans h2⟩
  · intro t lv ht
    exact (h.tm t lv ht).keep hm (fun _ _ _ => rfl) fun b hu => hU hu
  · intro k cs hk
    obtain ⟨b, h1, h2, h3, cur', e', h4, h5, h6⟩ := h.bx k cs hk
    have hlt := (h.own b _ h2).1
    refine ⟨b, h1, (upd_other _ _ (Nat.ne_of_lt hlt)).trans h2, (upd_other _ _ (Nat.ne_of_lt hlt)).trans h3, cur', e', (hb b hlt).trans h4, h5, fun j hj => ⟨(h6 j hj).1, (h6 j hj).2.1, (h6 j hj).2.2.keep hm (fun _ _ _ => rfl) fun b hu => hU hu⟩⟩
  · intro k cs' hk
    simp only [lk_put] at hk
    split at hk
    · rename_i ek
      subst ek
      injection hk with hk
      subst hk
      refine ⟨w.heap.size, updY_same _ _ _ _, upd_same _ _ _, .inr (.inr ⟨n, c2, ps', rfl, rfl, fun c' hc' => ?_, upd_same _ _ _, cur, e, heap_alloc_new w _, hlen, fun j hj => ⟨(hr j hj).1, (hr j hj).2.mono hm⟩⟩)⟩
      show updY g.Y n c2 w.heap.size n c' = none
      rw [updY_other (by omega)]
      exact hF c' (by omega)
    · rename_i ek
      obtain ⟨b, h1, h2, hE⟩ := h.ex k cs' hk
      have hlt := (h.own b _ h2).1
      refine ⟨b, h1.mono hm, (upd_other _ _ (Nat.ne_of_lt hlt)).trans h2, ?_⟩
      rcases hE with ⟨h3, cur', e', h4, h5, h6⟩ | hE
      · exact .inl ⟨(upd_other _ _ (Nat.ne_of_lt hlt)).trans h3, cur', e', (hb b hlt).trans h4, h5, fun j hj => ⟨(h6 j hj).1, (h6 j hj).2.1, (h6 j hj).2.2.keep hm (fun _ _ _ => rfl) fun b hu => hU hu⟩⟩
      · refine .inr (hE.keep hm (fun n' c' hf hx => ?_) (upd_other _ _ (Nat.ne_of_lt hlt)) (hb b hlt))
        have : n' = k := by
          have := congrFun hf 0
          injection this with h1 _
          exact h1.symm
        show updY g.Y n c2 w.heap.size n' c' = none
        rw [updY_other (by rintro ⟨h1, -⟩; exact ek (h1.symm.trans this))]
        exact hx
  · intro b o ho
    simp only [upd] at ho
    split at ho
    · rename_i eb
      subst eb
      exact ⟨by rw [hsz]; omega, .inl h.hist.size⟩
    · obtain ⟨k1, k2⟩ := h.own b o ho
      exact ⟨by rw [hsz]; omega, k2⟩
  · intro p b hu
    have hlt := (h.own b _ (h.uo _ _ hu)).1
    exact (upd_other _ _ (Nat.ne_of_lt hlt)).trans (h.uo p b hu)
  · refine ⟨fun b hb' => ?_, fun k hk => h.fresh.2.1 k (by simp only [cnt_put] at hk; omega), fun k c' hk => ?_⟩
    · rw [hsz] at hb'
      exact (upd_other _ _ (by omega)).trans (h.fresh.1 b (by omega))
    · simp only [cnt_put] at hk
      show updY g.Y n c2 w.heap.size k c' = none
      rw [updY_other (by omega)]
      exact h.fresh.2.2 k c' (by omega)
  · intro k b hx
    rw [hsz]
    exact Nat.lt_succ_of_lt (h.xlt k b hx)
end
end Go.Pv
