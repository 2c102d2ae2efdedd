/- Pure values, twenty-second part: new named objects, panics. -/
import Derived.Test.YtmllcplaohkjnaaGreatDoorPv21
set_option linter.unusedVariables false
set_option linter.unusedSimpArgs false
set_option linter.unusedSectionVars false
namespace Go.Pv
open Go.RowKit

section
variable {P : Program} {cx : Cx} {s t : S} {g : Gh} {l : LG} {a : Act} {w : World} {o : Oper}

/-- A new named object; its name is the first that was never used. -/
theorem Sim.newext (h : Sim cx s g l a w) (cur : Array Value) (e : TypeId) (cs : List LV) (hlen : cs.length ≤ cur.size) (hr : ∀ j (hj : j < cs.length), cs[j] = .junk ∨ ∃ p, cs[j] = .v p ∧ Rep g w p (cur.getD j undef)) (hone : ∀ u ∈ cur.toList, u.oneCell' = true) :
    Sim cx { s with ext := put s.ext (cnt s.ext) cs } { g with M := upd g.M w.heap.size (some 0), X := upd g.X (cnt s.ext) (some w.heap.size) }
      { l with O := upd l.O w.heap.size (some (.x (cnt s.ext))) } a (w.alloc (.cells cur e)) ∧
    Mono g w { g with M := upd g.M w.heap.size (some 0), X := upd g.X (cnt s.ext) (some w.heap.size) } (w.alloc (.cells cur e)) := by
  have hb : ∀ b, b < w.heap.size → (w.alloc (.cells cur e)).heap[b]? = w.heap[b]? := fun b hb => Below.heap_alloc w _ b hb
  have hX : ∀ n b, g.X n = some b → upd g.X (cnt s.ext) (some w.heap.size) n = some b := fun n b hx => by
    rw [upd_other]
    · exact hx
    · intro e0
      rw [e0, h.fresh.2.1 _ (Nat.le_refl _)] at hx
      cases hx
  have hm : Mono g w { g with M := upd g.M w.heap.size (some 0), X := upd g.X (cnt s.ext) (some w.heap.size) } (w.alloc (.cells cur e)) := by
    refine ⟨hX, fun b o v hc hf => ?_, len_of_same hb, fun _ _ _ h => h⟩
    have hlt := World.block_lt_of_cell? w _ hc
    refine ⟨by rw [← hc]; exact World.cell?_of_block (hb b hlt), fun k hk => hf k ?_⟩
    simp only at hlt
    rw [← upd_other g.M (some 0) (Nat.ne_of_lt hlt)]; exact hk
  have hU : ∀ {p b}, l.U p = some b → l.U p = some b ∧ upd g.M w.heap.size (some 0) b = g.M b ∧ (w.alloc (.cells cur e)).heap[b]? = w.heap[b]? := fun {p b} hu => by
    have hlt := (h.own b _ (h.uo _ _ hu)).1
    exact ⟨hu, upd_other _ _ (Nat.ne_of_lt hlt), hb b hlt⟩
  have hsz : (w.alloc (.cells cur e)).heap.size = w.heap.size + 1 := by simp
  refine ⟨⟨⟨h.hist.mono.trans hm, by rw [hsz]; exact Nat.le_succ_of_le h.hist.size, fun b hlt ho => ?_, h.hist.os, h.hist.tape, h.hist.output, h.hist.glb.mono hm⟩, h.size, h.defers, ?_, ?_, ?_, ?_, ?_, ?_, ?_⟩, hm⟩
  · obtain ⟨h1, h2⟩ := h.hist.frame b hlt ho
    have hlt' := Nat.lt_of_lt_of_le hlt h.hist.size
    exact ⟨(hb b hlt').trans h1, (upd_other g.M (some 0) (Nat.ne_of_lt hlt')).trans h2⟩
  · intro t lv ht
    exact (h.tm t lv ht).keep hm (fun _ _ _ => rfl) fun b hu => hU hu
  · intro k cs hk
    obtain ⟨b, h1, h2, h3, cur', e', h4, h5, h6⟩ := h.bx k cs hk
    have hlt := (h.own b _ h2).1
    refine ⟨b, h1, (upd_other _ _ (Nat.ne_of_lt hlt)).trans h2, (upd_other _ _ (Nat.ne_of_lt hlt)).trans h3, cur', e', (hb b hlt).trans h4, h5, fun j hj => ⟨(h6 j hj).1, (h6 j hj).2.1, (h6 j hj).2.2.keep hm (fun _ _ _ => rfl) fun b hu => hU hu⟩⟩
  · intro k cs' hk
    simp only [lk_put] at hk
    split at hk
    · rename_i ek
      subst ek
      injection hk with hk
      subst hk
      refine ex_R (upd_same _ _ _) (upd_same _ _ _) ⟨upd_same _ _ _, cur, e, heap_alloc_new w _, hlen, fun j hj => ?_⟩
      have hj3 : j < cur.size := by omega
      have ho1 : (cur.getD j undef).oneCell' = true := hone _ (by simp [hj3])
      rcases hr j hj with hx | ⟨p, hx, hrp⟩
      · rw [hx]; exact ⟨rfl, ho1, trivial⟩
      · rw [hx]; exact ⟨rfl, ho1, hrp.mono hm⟩
    · obtain ⟨b, h1, h2, hE⟩ := h.ex k cs' hk
      have hlt := (h.own b _ h2).1
      refine ⟨b, h1.mono hm, (upd_other _ _ (Nat.ne_of_lt hlt)).trans h2, ?_⟩
      rcases hE with ⟨h3, cur', e', h4, h5, h6⟩ | hE
      · exact .inl ⟨(upd_other _ _ (Nat.ne_of_lt hlt)).trans h3, cur', e', (hb b hlt).trans h4, h5, fun j hj => ⟨(h6 j hj).1, (h6 j hj).2.1, (h6 j hj).2.2.keep hm (fun _ _ _ => rfl) fun b hu => hU hu⟩⟩
      · exact .inr (hE.keep hm (fun _ _ _ h => h) (upd_other _ _ (Nat.ne_of_lt hlt)) (hb b hlt))
  · intro b o ho
    simp only [upd] at ho
    split at ho
    · rename_i eb
      subst eb
      exact ⟨by rw [hsz]; omega, .inl h.hist.size⟩
    · obtain ⟨k1, k2⟩ := h.own b o ho
      exact ⟨by rw [hsz]; omega, k2⟩
  · intro p b hu
    have hlt := (h.own b _ (h.uo _ _ hu)).1
    exact (upd_other _ _ (Nat.ne_of_lt hlt)).trans (h.uo p b hu)
  · refine ⟨fun b hb' => ?_, fun n hn => ?_, fun n c hn => ?_⟩
    · rw [hsz] at hb'
      exact (upd_other _ _ (by omega)).trans (h.fresh.1 b (by omega))
    · simp only [cnt_put] at hn
      exact (upd_other _ _ (by omega)).trans (h.fresh.2.1 n (by omega))
    · simp only [cnt_put] at hn
      exact h.fresh.2.2 n c (by omega)
  · intro n b hx
    rw [hsz]
    simp only [upd] at hx
    split at hx
    · injection hx with hx; omega
    · exact Nat.lt_succ_of_lt (h.xlt n b hx)

/-- A new map; its name is the first that was never used. -/
theorem Sim.newmap (h : Sim cx s g l a w) :
    Sim cx { s with ext := put s.ext (cnt s.ext) [.mm []] } { g with M := upd g.M w.heap.size (some 0), X := upd g.X (cnt s.ext) (some w.heap.size) }
      { l with O := upd l.O w.heap.size (some (.x (cnt s.ext))) } a (w.alloc (.map #[] 0)) ∧
    Mono g w { g with M := upd g.M w.heap.size (some 0), X := upd g.X (cnt s.ext) (some w.heap.size) } (w.alloc (.map #[] 0)) := by
  have hb : ∀ b, b < w.heap.size → (w.alloc (.map #[] 0)).heap[b]? = w.heap[b]? := fun b hb => Below.heap_alloc w _ b hb
  have hX : ∀ n b, g.X n = some b → upd g.X (cnt s.ext) (some w.heap.size) n = some b := fun n b hx => by
    rw [upd_other]
    · exact hx
    · intro e0
      rw [e0, h.fresh.2.1 _ (Nat.le_refl _)] at hx
      cases hx
  have hm : Mono g w { g with M := upd g.M w.heap.size (some 0), X := upd g.X (cnt s.ext) (some w.heap.size) } (w.alloc (.map #[] 0)) := by
    refine ⟨hX, fun b o v hc hf => ?_, len_of_same hb, fun _ _ _ h => h⟩
    have hlt := World.block_lt_of_cell? w _ hc
    refine ⟨by rw [← hc]; exact World.cell?_of_block (hb b hlt), fun k hk => hf k ?_⟩
    simp only at hlt
    rw [← upd_other g.M (some 0) (Nat.ne_of_lt hlt)]; exact hk
  have hU : ∀ {p b}, l.U p = some b → l.U p = some b ∧ upd g.M w.heap.size (some 0) b = g.M b ∧ (w.alloc (.map #[] 0)).heap[b]? = w.heap[b]? := fun {p b} hu => by
    have hlt := (h.own b _ (h.uo _ _ hu)).1
    exact ⟨hu, upd_other _ _ (Nat.ne_of_lt hlt), hb b hlt⟩
  have hsz : (w.alloc (.map #[] 0)).heap.size = w.heap.size + 1 := by simp
  refine ⟨⟨⟨h.hist.mono.trans hm, by rw [hsz]; exact Nat.le_succ_of_le h.hist.size, fun b hlt ho => ?_, h.hist.os, h.hist.tape, h.hist.output, h.hist.glb.mono hm⟩, h.size, h.defers, ?_, ?_, ?_, ?_, ?_, ?_, ?_⟩, hm⟩
  · obtain ⟨h1, h2⟩ := h.hist.frame b hlt ho
    have hlt' := Nat.lt_of_lt_of_le hlt h.hist.size
    exact ⟨(hb b hlt').trans h1, (upd_other g.M (some 0) (Nat.ne_of_lt hlt')).trans h2⟩
  · intro t lv ht
    exact (h.tm t lv ht).keep hm (fun _ _ _ => rfl) fun b hu => hU hu
  · intro k cs hk
    obtain ⟨b, h1, h2, h3, cur', e', h4, h5, h6⟩ := h.bx k cs hk
    have hlt := (h.own b _ h2).1
    refine ⟨b, h1, (upd_other _ _ (Nat.ne_of_lt hlt)).trans h2, (upd_other _ _ (Nat.ne_of_lt hlt)).trans h3, cur', e', (hb b hlt).trans h4, h5, fun j hj => ⟨(h6 j hj).1, (h6 j hj).2.1, (h6 j hj).2.2.keep hm (fun _ _ _ => rfl) fun b hu => hU hu⟩⟩
  · intro k cs' hk
    simp only [lk_put] at hk
    split at hk
    · rename_i ek
      subst ek
      injection hk with hk
      subst hk
      exact ⟨w.heap.size, upd_same _ _ _, upd_same _ _ _, .inr (.inl ⟨[], rfl, upd_same _ _ _, #[], 0, heap_alloc_new w _, MapKept.stamped_empty 0, rfl, fun j hj => by simp at hj⟩)⟩
    · obtain ⟨b, h1, h2, hE⟩ := h.ex k cs' hk
      have hlt := (h.own b _ h2).1
      refine ⟨b, h1.mono hm, (upd_other _ _ (Nat.ne_of_lt hlt)).trans h2, ?_⟩
      rcases hE with ⟨h3, cur', e', h4, h5, h6⟩ | hE
      · exact .inl ⟨(upd_other _ _ (Nat.ne_of_lt hlt)).trans h3, cur', e', (hb b hlt).trans h4, h5, fun j hj => ⟨(h6 j hj).1, (h6 j hj).2.1, (h6 j hj).2.2.keep hm (fun _ _ _ => rfl) fun b hu => hU hu⟩⟩
      · exact .inr (hE.keep hm (fun _ _ _ h => h) (upd_other _ _ (Nat.ne_of_lt hlt)) (hb b hlt))
  · intro b o ho
    simp only [upd] at ho
    split at ho
    · rename_i eb
      subst eb
      exact ⟨by rw [hsz]; omega, .inl h.hist.size⟩
    · obtain ⟨k1, k2⟩ := h.own b o ho
      exact ⟨by rw [hsz]; omega, k2⟩
  · intro p b hu
    have hlt := (h.own b _ (h.uo _ _ hu)).1
    exact (upd_other _ _ (Nat.ne_of_lt hlt)).trans (h.uo p b hu)
  · refine ⟨fun b hb' => ?_, fun n hn => ?_, fun n c hn => ?_⟩
    · rw [hsz] at hb'
      exact (upd_other _ _ (by omega)).trans (h.fresh.1 b (by omega))
    · simp only [cnt_put] at hn
      exact (upd_other _ _ (by omega)).trans (h.fresh.2.1 n (by omega))
    · simp only [cnt_put] at hn
      exact h.fresh.2.2 n c (by omega)
  · intro n b hx
    rw [hsz]
    simp only [upd] at hx
    split at hx
    · injection hx with hx; omega
    · exact Nat.lt_succ_of_lt (h.xlt n b hx)

def LV.plain : LV → Bool
  | .v _ => true
  | .junk => true
  | _ => false

/-- `new` and variables that are named. -/
theorem PL_allocX {ty : TypeId} {all : Array Oper} {rest : List Oper} {Q : PExit → S → Prop} {d : Nat} {zs : List PV} (ho : o.op = .alloc ty) (hg : o.guard = none) (hd : o.dst = some d) (hn : d < cx.n) (hz : zro P ty = some zs)
    (h : PL P cx all rest { s with tmps := put s.tmps d (.v (.xp (cnt s.ext) 0)), ext := put s.ext (cnt s.ext) (zs.map .v) } Q) : PL P cx all (o :: rest) s Q := fun g l a w hs => by
  refine wpList_plain hg fun K hK => ?_
  obtain ⟨i, z, h1, h2, h3⟩ := zro_inv hz
  obtain ⟨hr, hone, -⟩ := cvs_rep (g := g) (w := w) h3
  have hrun : (execOp a.eval o).run P w = .ok (.value (.pointer (some ⟨w.heap.size, 0, none⟩))) (w.alloc (.cells z.cells ty)) := by
    simp [execOp, ho, Instr.alloc, zeroValue, typeInfo, h1, h2, newVar, newRow]
  unfold Oper.wp
  rw [hrun, Oper.upon_value, hd]
  obtain ⟨k1, -⟩ := hs.newext z.cells ty (zs.map .v) (by simp [hr.1]) (fun j hj => .inr ⟨zs[j]'(by simpa using hj), by simp, by
    have hj1 : j < zs.length := by simpa using hj
    have hj2 : j < z.cells.toList.length := by rw [← hr.1]; exact hj1
    have := hr.2 j hj1 hj2
    have hj3 : j < z.cells.size := by simpa using hj2
    simpa [hj3] using this⟩) hone
  exact hK _ _ (h _ _ _ _ (k1.set hn (.xp _ _ _ (upd_same _ _ _))))

theorem PL_boxX {ty : TypeId} {x : Operand} {all : Array Oper} {rest : List Oper} {Q : PExit → S → Prop} {d : Nat} (ho : o.op = .box ty x) (hg : o.guard = none) (hd : o.dst = some d) (hn : d < cx.n)
    (h : (evP x fun p => match p.cel with | some cs => .ret cs | none => .fail).wp s fun cs => PL P cx all rest { s with tmps := put s.tmps d (.v (.xp (cnt s.ext) 0)), ext := put s.ext (cnt s.ext) (cs.map .v) } Q) : PL P cx all (o :: rest) s Q := fun g l a w hs => by
  refine wpList_plain hg fun K hK => ?_
  obtain ⟨p, h1, r1⟩ := evP_sound hs h
  split at h1
  · rename_i cs hc
    obtain ⟨hr, hone⟩ := cel_rep hc r1
    have hrun : (execOp a.eval o).run P w = .ok (.value (.pointer (some ⟨w.heap.size, 0, none⟩))) (w.alloc (.cells (a.eval x).cells ty)) := by
      simp [execOp, ho, Instr.box, newVar, newRow]
    unfold Oper.wp
    rw [hrun, Oper.upon_value, hd]
    generalize a.eval x = vx at hr hone
    obtain ⟨k1, -⟩ := hs.newext vx.cells ty (cs.map .v) (by simp [hr.1]) (fun j hj => .inr ⟨cs[j]'(by simpa using hj), by simp, by
      have hj1 : j < cs.length := by simpa using hj
      have hj2 : j < vx.cells.toList.length := by rw [← hr.1]; exact hj1
      have := hr.2 j hj1 hj2
      have hj3 : j < vx.cells.size := by simpa using hj2
      simpa [hj3] using this⟩) hone
    exact hK _ _ (h1 _ _ _ _ (k1.set hn (.xp _ _ _ (upd_same _ _ _))))
  · exact h1.elim

theorem mem_zeroCells' {z : Array Value} {n : Nat} {u : Value} (h : u ∈ (Builtin.zeroCells z n).toList) : u ∈ z.toList := by
  simp only [Builtin.zeroCells, Array.toList_map, List.mem_map] at h
  obtain ⟨k, hk, rfl⟩ := h
  have hk' : k < n * z.size := by simpa using hk
  have hpos : 0 < z.size := by
    rcases Nat.eq_zero_or_pos z.size with h0 | h0
    · rw [h0] at hk'; simp at hk'
    · exact h0
  have := Nat.mod_lt k hpos
  simp [this]
/-- Append to nil; the row is named. -/
theorem PL_appNilX {ty e : TypeId} {x y : Operand} {all : Array Oper} {rest : List Oper} {Q : PExit → S → Prop} {d m B : Nat} {zs : List PV} (ho : o.op = .call ⟨.builtin .append, #[x, y], #[ty, ty]⟩) (hg : o.guard = none) (hd : o.dst = some d) (hn : d < cx.n)
    (he : elemT P ty = some e) (hm : csz P e = some (m + 1)) (hB : cbytes P e = some (B + 1)) (hz : zro P e = some zs) (hzl : zs.length = m + 1)
    (h : (ev x fun lx => ev y fun ly => match lx, elsOf ly with | .v .nilsl, some (y0 :: ys) => if okZ (m + 1) ly = true then .ret (y0 :: ys) else .fail | _, _ => .fail).wp s fun ys => ys.length * (B + 1) ≤ 140737488355328 ∧
      PL P cx all rest { s with tmps := put s.tmps d (.v (.xsl (cnt s.ext) (m + 1) ys.length)), ext := put s.ext (cnt s.ext) (ys.flatten.map .v) } Q) : PL P cx all (o :: rest) s Q := fun g l a w hs => by
  refine wpList_plain hg fun K hK => ?_
  have hu := elemT_inv he
  obtain ⟨i, zv, z1, z2, z3⟩ := zro_inv hz
  have hsz : i.size = m + 1 := by simpa [csz, z1] using hm
  have hby : i.bytes = B + 1 := by simpa [cbytes, z1] using hB
  have hzs : zv.cells.size = m + 1 := by rw [← Array.length_toList, ← cvs_length z3]; exact hzl
  obtain ⟨-, hzone, -⟩ := cvs_rep (g := g) (w := w) z3
  obtain ⟨lx, ux, h1, r1, -⟩ := ev_sound hs h
  obtain ⟨ly, uy, h2, r2, -⟩ := ev_sound hs h1
  split at h2
  · rename_i y0 ys hys
    split at h2
    · rename_i hok
      obtain ⟨hb, h2⟩ := h2
      have hvx : a.eval x = .slice none 0 0 := by generalize a.eval x = v at r1; cases r1; rfl
      obtain ⟨ay, c, hvy, hYR⟩ : ∃ ay c, a.eval y = .slice (some ay) (y0 :: ys).length c ∧ Rep g w (.sl (m + 1) (y0 :: ys)) (a.eval y) := by
        rcases els_rep hys hok r2 with ⟨h, -⟩ | h
        · cases h
        · exact h
      rw [hvy] at hYR
      obtain ⟨-, -, -, hyz, news, hnr, hnl, hnc⟩ := hYR.flat
      generalize hY : (y0 :: ys) = Y at *
      have hpos : 0 < Y.length := by rw [← hY]; simp
      have hn1 : ∀ u ∈ news, u.oneCell' = true := fun u hu => by
        obtain ⟨j, hj, e⟩ := List.getElem_of_mem hu
        exact (hnc j u (by rw [List.getElem?_eq_getElem hj, e])).2.2
      have hlen : Y.length ≤ 140737488355328 := by
        have := Nat.le_mul_of_pos_right Y.length (Nat.succ_pos B)
        simp only [Nat.succ_eq_add_one] at this
        omega
      have h63 : Y.length ≤ maxLen := by simp only [maxLen]; omega
      have hr := run_append_nil (P := P) w ty o.type e i zv hu z1 z2 ay Y.length c news (by rw [hsz]; exact hnl) (fun j v hj => (hnc j v hj).1) hpos (by omega) (by rw [hby]; omega)
      have hge := grownCap_ge w Y.length 0 e
      have hcm := grownCap_le_maxLen w Y.length 0 e (by simpa using h63)
      have hex : ∀ v' w', (Builtin.append_ #[ty, ty] o.type #[a.eval x, a.eval y]).run P w = .ok v' w' → (execOp a.eval o).run P w = .ok (.value v') w' := by
        intro v' w' hr
        simp only [execOp, ho, resolve, invoke, builtin, Sem.run_bind, Sem.run_pure, Result.andThen_ok, List.map_toArray, List.map_cons, List.map_nil, hr]
      rw [← hvx, ← hvy] at hr
      unfold Oper.wp
      rw [hex _ _ hr, Oper.upon_value, hd]
      obtain ⟨hs1, hm1⟩ := hs.drew
      have hsize : w.drew.heap.size = w.heap.size := rfl
      obtain ⟨k1, -⟩ := hs1.newext (news.toArray ++ Builtin.zeroCells zv.cells (grownCap w Y.length 0 e - Y.length)) e (Y.flatten.map .v)
        (by simp only [Array.size_append, List.size_toArray, size_zeroCells, hzs, hnl, List.length_map, flatten_length _ Y hyz]; omega) (fun j hj => by
          have hlt : j < Y.flatten.length := by rw [List.length_map] at hj; exact hj
          refine .inr ⟨Y.flatten[j], List.getElem_map _, ?_⟩
          have hlt' : j < news.length := by rw [← hnr.1]; exact hlt
          have := (hnr.2 j hlt hlt').mono hm1
          simpa [Array.getD_eq_getD_getElem?, Array.getElem?_append, hlt'] using this) (fun u hu => by
          simp only [Array.toList_append, List.mem_append] at hu
          rcases hu with hu | hu
          · exact hn1 u hu
          · exact hzone u (mem_zeroCells' hu))
      rw [hsize] at k1
      refine hK _ _ (h2 _ _ _ _ (k1.set hn (.xsl _ _ _ _ _ _ _ (upd_same _ _ _) (heap_alloc_new w.drew _) ?_ (by simpa using hge) hcm)))
      simp only [Array.size_append, List.size_toArray, size_zeroCells, hzs, hnl, ← Nat.add_mul]
      congr 1
      omega
    · exact h2.elim
  · exact h2.elim

/-- A panic with a value that is not nil. -/
theorem PL_panic {x : Operand} {all : Array Oper} {rest : List Oper} {Q : PExit → S → Prop} (ho : o.op = .panic x) (hg : o.guard = none)
    (h : (evP x fun p => match p with | .iface t q => .ret (PV.iface t q) | _ => .fail).wp s fun p => Q (.panic p) s) : PL P cx all (o :: rest) s Q := fun g l a w hs => by
  refine wpList_plain hg fun K hK => ?_
  obtain ⟨p, h1, r1⟩ := evP_sound hs h
  split at h1
  · rename_i t q
    have hrun : ∀ v, a.eval x = .iface t v → (execOp a.eval o).run P w = .halt (.panic (.iface t v)) w := fun v hv => by
      simp [execOp, ho, hv, Instr.panic, goPanic]
    generalize a.eval x = vx at r1 hrun
    cases r1 with
    | iface _ _ v hv =>
      unfold Oper.wp
      rw [hrun v rfl, Oper.upon_panic]
      exact ⟨.panic (.iface t q), s, g, l, h1, ⟨_, rfl, .iface _ _ _ hv⟩, hs⟩
  · exact h1.elim
end
end Go.Pv
