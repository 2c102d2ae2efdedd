/- Pure values, ninth part: operations that make, read and write memory. -/
import Derived.Test.YtmllcplaohkjnaaGreatDoorPv8
import Derived.Laws.Tables
set_option linter.unusedVariables false
set_option linter.unusedSimpArgs false
set_option linter.unusedSectionVars false
namespace Go.Pv
open Go.RowKit

section
variable {P : Program} {cx : Cx} {s t : S} {g : Gh} {l : LG} {a : Act} {w : World} {o : Oper} {K : List Wr → Prop}

/-! ### cells of a value -/
def PV.cel : PV → Option (List PV)
  | .agg cs => some cs
  | .tup _ => none
  | p => some [p]
theorem cel_one {p : PV} (h : p.one = true) : p.cel = some [p] := by cases p <;> first | rfl | cases h
theorem cel_rep {p : PV} {v : Value} {cs : List PV} (h : p.cel = some cs) (hr : Rep g w p v) : RepAll g w cs v.cells.toList ∧ ∀ u ∈ v.cells.toList, u.oneCell' = true := by
  unfold PV.cel at h
  split at h
  · injection h with h
    subst h
    cases hr with
    | agg _ vs hl ho hr => exact ⟨⟨hl, hr⟩, ho⟩
  · cases h
  · rename_i n1 n2
    injection h with h
    subst h
    have hone : v.oneCell' = true := hr.one (by cases p <;> first | rfl | exact absurd rfl (n1 _) | exact absurd rfl (n2 _))
    have : v.cells = #[v] := by cases v <;> first | rfl | cases hone
    rw [this]
    exact ⟨.cons hr .nil, by simpa using hone⟩

theorem zro_inv {ty : TypeId} {zs : List PV} (h : zro P ty = some zs) : ∃ i z, P.info? ty = some i ∧ i.zero = some z ∧ cvs z.cells.toList = some zs := by
  unfold zro at h
  simp only [Option.bind_eq_some_iff] at h
  obtain ⟨z, ⟨i, h1, h2⟩, h3⟩ := h
  exact ⟨i, z, h1, h2, h3⟩

/-- A new box, and the slot that points to it. -/
theorem Sim.box (h : Sim cx s g l a w) {d : Nat} (hd : d < cx.n) (cur : Array Value) (e : TypeId) (ps : List PV) (hr : RepAll g w ps cur.toList) (hone : ∀ u ∈ cur.toList, u.oneCell' = true) :
    ∃ g' l', Sim cx (s.wrs [.newbox d ps, .tmp d (.lp d 0)]) g' l' (a.put (some d) (.pointer (some ⟨w.heap.size, 0, none⟩))) (w.alloc (.cells cur e)) := by
  obtain ⟨h1, -⟩ := h.newbox d cur e ps hr hone
  exact ⟨_, _, h1.set hd ⟨w.heap.size, upd_same _ _ _, rfl⟩⟩

def actAlloc (P : Program) (n : Nat) (o : Oper) (ty : TypeId) : RM (List Wr) := match zro P ty, o.dst with
  | some zs, some d => if d < n then .ret [.newbox d zs, .tmp d (.lp d 0)] else .fail
  | _, _ => .fail
theorem actAlloc_sound {ty : TypeId} (ho : o.op = .alloc ty) (h : Sim cx s g l a w) (hw : (actAlloc P cx.n o ty).wp s K) : OpOK P cx s o K a w := by
  unfold actAlloc at hw
  split at hw
  · rename_i zs d hz hd
    split at hw
    · rename_i hlt
      obtain ⟨i, z, h1, h2, h3⟩ := zro_inv hz
      intro Q
      unfold Oper.wp
      have hrun : (execOp a.eval o).run P w = .ok (.value (.pointer (some ⟨w.heap.size, 0, none⟩))) (w.alloc (.cells z.cells ty)) := by
        simp [execOp, ho, Instr.alloc, zeroValue, typeInfo, h1, h2, newVar, newRow]
      rw [hrun, Oper.upon_value, hd]
      obtain ⟨g', l', hs⟩ := h.box hlt z.cells ty zs (cvs_rep h3).1 (cvs_rep (g := g) (w := w) h3).2.1
      exact ⟨_, g', l', hw, hs⟩
    · exact hw.elim
  · exact hw.elim

def actBox (ro : TypeId → Option Bool) (n : Nat) (o : Oper) (ty : TypeId) (x : Operand) : RM (List Wr) := evP x fun p => match p.cel, o.dst with
  | some cs, some d => if d < n then (match ro ty with | some true => .ret [.tmp d (.v (.ro cs 0))] | some false => .ret [.newbox d cs, .tmp d (.lp d 0)] | none => .fail) else .fail
  | _, _ => .fail
theorem actBox_sound {ro : TypeId → Option Bool} {ty : TypeId} {x : Operand} (ho : o.op = .box ty x) (h : Sim cx s g l a w) (hw : (actBox ro cx.n o ty x).wp s K) : OpOK P cx s o K a w := by
  obtain ⟨p, h1, r1⟩ := evP_sound h hw
  have hrun : (execOp a.eval o).run P w = .ok (.value (.pointer (some ⟨w.heap.size, 0, none⟩))) (w.alloc (.cells (a.eval x).cells ty)) := by
    simp [execOp, ho, Instr.box, newVar, newRow]
  generalize a.eval x = vx at r1 hrun
  split at h1
  · rename_i cs d hc hd
    obtain ⟨hr, hone⟩ := cel_rep hc r1
    split at h1
    · rename_i hlt
      split at h1
      · obtain ⟨h2, hm⟩ := h.alloc (.cells vx.cells ty)
        refine OpOK.value (lv := .v (.ro cs 0)) (by unfold wv; rw [hd]; simp only [hlt, if_true]; exact h1) h2 (fun _ => ?_) hrun
        have hcell : ∀ j (hj : j < cs.length), (w.alloc (.cells vx.cells ty)).cell? ⟨w.heap.size, 0 + j, none⟩ = some (vx.cells.getD j undef) := fun j hj => by
          have := heap_alloc_new w (.cells vx.cells ty)
          have hj' : j < vx.cells.size := by rw [← Array.length_toList, ← hr.1]; exact hj
          simp only [World.cell?, this]
          simp [hj']
        refine .ro cs 0 w.heap.size 0 (fun j => vx.cells.getD j undef) hcell (fun j hj k hk => ?_) (fun j hj => ?_) fun j hj => ?_
        · rw [h.fresh.1 _ (Nat.le_refl _)] at hk; cases hk
        · have hj' : j < vx.cells.size := by rw [← Array.length_toList, ← hr.1]; exact hj
          refine hone _ ?_
          simp [hj']
        · have hj' : j < vx.cells.toList.length := by rw [← hr.1]; exact hj
          have := (hr.2 j hj hj').mono hm
          have hj3 : j < vx.cells.size := by simpa using hj'
          simpa [hj3] using this
      · intro Q
        unfold Oper.wp
        rw [hrun, Oper.upon_value, hd]
        obtain ⟨g', l', hs⟩ := h.box hlt vx.cells ty cs hr hone
        exact ⟨_, g', l', h1, hs⟩
      · exact h1.elim
    · exact h1.elim
  · exact h1.elim

/-! ### composite values -/
def plc (P : Program) (ty : TypeId) : Option (List (Nat × Nat)) := match P.underlying ty with
  | some (.struct fs) => fs.toList.mapM (fun f => (P.info? f.type).map fun i => (f.offset, i.size))
  | _ => none
def fillP (places : List (Nat × Nat)) (cells : List PV) : List (Nat × PV) → Option (List PV)
  | [] => some cells
  | (i, p) :: r => match places[i]?, p.cel with
    | some (off, size), some pc => if pc.length = size ∧ off + size ≤ cells.length then fillP places (splice cells off pc) r else none
    | _, _ => none
theorem splice_set {α : Type} (cs : List α) (k : Nat) (v : α) (r : List α) (h : k + (r.length + 1) ≤ cs.length) : splice (cs.set k v) (k + 1) r = splice cs k (v :: r) := by
  apply List.ext_getElem?
  intro j
  rw [splice_get _ _ _ (by simp; omega), splice_get _ _ _ (by simpa using h)]
  by_cases hj : j = k
  · subst hj
    rw [if_neg (by omega), if_pos (by simp)]
    simp [show j < cs.length by omega]
  · by_cases hj2 : k + 1 ≤ j ∧ j < k + 1 + r.length
    · rw [if_pos hj2, if_pos (by simp; omega)]
      rw [show j - k = (j - (k + 1)) + 1 by omega]
      simp
    · rw [if_neg hj2, if_neg (by simp; omega), List.getElem?_set_ne (by omega)]
theorem zipIdx_fold (off : Nat) : ∀ (vs : List Value) (k : Nat) (cells : Array Value), off + k + vs.length ≤ cells.size →
    ((vs.zipIdx k).foldl (fun (cs : Array Value) (x : Value × Nat) => cs.setIfInBounds (off + x.2) x.1) cells).toList = splice cells.toList (off + k) vs
  | [], k, cells, _ => by simp [splice_eq cells.toList (off + k) [] (by simp; omega)]
  | v :: r, k, cells, h => by
    simp only [List.zipIdx_cons, List.foldl_cons]
    rw [zipIdx_fold off r (k + 1) _ (by simp at h ⊢; omega)]
    simp only [Array.toList_setIfInBounds]
    exact splice_set cells.toList (off + k) v r (by simp at h ⊢; omega)
theorem RepAll.splice {cs ds : List PV} {vs us : List Value} {off : Nat} (h : RepAll g w cs vs) (k : RepAll g w ds us) (hf : off + ds.length ≤ cs.length) : RepAll g w (Pv.splice cs off ds) (Pv.splice vs off us) := by
  have hf' : off + us.length ≤ vs.length := by rw [← h.1, ← k.1]; exact hf
  rw [splice_eq _ _ _ hf, splice_eq _ _ _ hf']
  have hl := h.1
  have kl := k.1
  refine ⟨by simp [hl, kl], fun j hj hj' => ?_⟩
  simp only [List.getElem_append]
  by_cases h1 : j < off
  · have e1 : j < ((List.take off cs) ++ ds).length := by simp; omega
    have e2 : j < ((List.take off vs) ++ us).length := by simp; omega
    rw [dif_pos e1, dif_pos e2]
    rw [dif_pos (by simp; omega), dif_pos (by simp; omega)]
    simp only [List.getElem_take]
    exact h.2 _ _ _
  · by_cases h2 : j < off + ds.length
    · have e1 : j < ((List.take off cs) ++ ds).length := by simp; omega
      have e2 : j < ((List.take off vs) ++ us).length := by simp; omega
      rw [dif_pos e1, dif_pos e2]
      rw [dif_neg (by simp; omega), dif_neg (by simp; omega)]
      have e3 : (List.take off cs).length = (List.take off vs).length := by simp [hl]
      simp only [e3]
      exact k.2 _ _ _
    · have e1 : ¬ j < ((List.take off cs) ++ ds).length := by simp; omega
      have e2 : ¬ j < ((List.take off vs) ++ us).length := by simp; omega
      rw [dif_neg e1, dif_neg e2]
      have e3 : ((List.take off cs) ++ ds).length = ((List.take off vs) ++ us).length := by simp [hl, kl]
      simp only [e3, List.getElem_drop, kl]
      exact h.2 _ _ _
theorem mem_splice {α : Type} {cs vs : List α} {off : Nat} (hf : off + vs.length ≤ cs.length) {x : α} (hx : x ∈ splice cs off vs) : x ∈ cs ∨ x ∈ vs := by
  rw [splice_eq _ _ _ hf] at hx
  simp only [List.mem_append] at hx
  rcases hx with (hx | hx) | hx
  · exact .inl (List.mem_of_mem_take hx)
  · exact .inr hx
  · exact .inl (List.mem_of_mem_drop hx)
theorem fill_rep {places : List (Nat × Nat)} : ∀ {parts : List (Nat × PV)} {vals : List (Nat × Value)} {cells r : List PV} {cv : Array Value}, fillP places cells parts = some r →
    RepAll g w cells cv.toList → (∀ u ∈ cv.toList, u.oneCell' = true) → parts.map (·.1) = vals.map (·.1) → RepAll g w (parts.map (·.2)) (vals.map (·.2)) →
    ∃ c, Instr.fill (places.toArray[·]?) cv vals = some c ∧ RepAll g w r c.toList ∧ ∀ u ∈ c.toList, u.oneCell' = true
  | [], vals, cells, r, cv, h, hr, hone, hi, _ => by
    simp only [fillP, Option.some.injEq] at h
    subst h
    have : vals = [] := by simpa using hi.symm
    subst this
    exact ⟨cv, rfl, hr, hone⟩
  | (i, p) :: parts, vals, cells, r, cv, h, hr, hone, hi, hp => by
    cases vals with
    | nil => simp at hi
    | cons x vals =>
      obtain ⟨i', v⟩ := x
      simp only [List.map_cons, List.cons.injEq] at hi
      obtain ⟨rfl, hi⟩ := hi
      simp only [List.map_cons] at hp
      obtain ⟨v', vs', e, hv, hvs⟩ := hp.inv_cons
      injection e with e1 e2
      subst e1 e2
      simp only [fillP] at h
      split at h
      · rename_i off size pc hpl hpc
        split at h
        · rename_i hc
          obtain ⟨k1, k2⟩ := cel_rep hpc hv
          have hsz : v.cells.size = size := by rw [← Array.length_toList, ← k1.1]; exact hc.1
          have hcs : cells.length = cv.size := by rw [hr.1]; simp
          have hfold := zipIdx_fold off v.cells.toList 0 cv (by simp; omega)
          have e3 : (v.cells.zipIdx.foldl (fun cs (x : Value × Nat) => cs.setIfInBounds (off + x.2) x.1) cv).toList = Pv.splice cv.toList off v.cells.toList := by
            rw [← Array.foldl_toList, Array.toList_zipIdx]
            simpa using hfold
          have hr' : RepAll g w (Pv.splice cells off pc) (v.cells.zipIdx.foldl (fun cs (x : Value × Nat) => cs.setIfInBounds (off + x.2) x.1) cv).toList := by
            rw [e3]
            exact hr.splice k1 (by rw [hc.1]; exact hc.2)
          obtain ⟨c, m1, m2, m3⟩ := fill_rep (places := places) h hr' (by
            intro u hu
            rw [e3] at hu
            rcases mem_splice (by simp; omega) hu with hu | hu
            · exact hone u hu
            · exact k2 u hu) hi hvs
          refine ⟨c, ?_, m2, m3⟩
          simp only [Instr.fill]
          rw [show (places.toArray[i]? : Option (Nat × Nat)) = some (off, size) by simpa using hpl]
          simp only [hsz, ne_eq, not_true_eq_false, decide_false, Bool.false_or]
          rw [if_neg (by simp; omega)]
          exact m1
        · cases h
      · cases h

def evParts {α : Type} : List (Nat × Operand) → (List (Nat × PV) → RM α) → RM α
  | [], k => k []
  | (i, x) :: r, k => evP x fun p => evParts r fun ps => k ((i, p) :: ps)
theorem evParts_sound {α : Type} : ∀ {xs : List (Nat × Operand)} {k : List (Nat × PV) → RM α} {K : α → Prop}, Sim cx s g l a w → (evParts xs k).wp s K →
    ∃ ps, (k ps).wp s K ∧ ps.map (·.1) = xs.map (·.1) ∧ RepAll g w (ps.map (·.2)) (xs.map fun x => a.eval x.2)
  | [], k, K, _, hw => ⟨[], hw, rfl, .nil⟩
  | (i, x) :: r, k, K, h, hw => by
    obtain ⟨p, h1, h2⟩ := evP_sound h hw
    obtain ⟨ps, h3, h4, h5⟩ := evParts_sound h h1
    exact ⟨(i, p) :: ps, h3, by simp [h4], .cons h2 h5⟩

def actBuild (P : Program) (n : Nat) (o : Oper) (ty : TypeId) (parts : Array (Nat × Operand)) : RM (List Wr) := match plc P ty, zro P ty with
  | some places, some zs => evParts parts.toList fun ps => match fillP places zs ps with
    | some cs => wv n o (.v (.agg cs))
    | none => .fail
  | _, _ => .fail
theorem actBuild_sound {ty : TypeId} {parts : Array (Nat × Operand)} (ho : o.op = .build ty parts) (h : Sim cx s g l a w) (hw : (actBuild P cx.n o ty parts).wp s K) : OpOK P cx s o K a w := by
  unfold actBuild at hw
  split at hw
  · rename_i places zs hp hz
    obtain ⟨ps, h1, h2, h3⟩ := evParts_sound h hw
    split at h1
    · rename_i cs hcs
      obtain ⟨i, z, k1, k2, k3⟩ := zro_inv hz
      have hzr := cvs_rep (g := g) (w := w) k3
      obtain ⟨c, m1, m2, m3⟩ := fill_rep (g := g) (w := w) (vals := parts.toList.map fun x => (x.1, a.eval x.2)) hcs hzr.1 hzr.2.1 (by rw [List.map_map]; exact h2) (by rw [List.map_map]; exact h3)
      have hb : P.built ty (parts.map fun (i, x) => (i, a.eval x)).toList = some c := by
        unfold plc at hp
        split at hp
        · rename_i fs hu
          unfold Program.built
          simp only [k1, hu, k2, hp]
          simpa using m1
        · cases hp
      refine OpOK.pure (v := .agg c) h h1 ?_ ?_
      · have := m2.agg m3
        simpa using this
      · simp only [execOp, ho, Sem.run_bind, run_build w ty _ c hb, Result.andThen_ok, Sem.run_pure]
    · exact h1.elim
  · exact hw.elim
end
end Go.Pv
