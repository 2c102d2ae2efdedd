/- Pure values, tenth part: slices that are written out, loads, stores. -/
import Derived.Test.YtmllcplaohkjnaaGreatDoorPv9
set_option linter.unusedVariables false
set_option linter.unusedSimpArgs false
set_option linter.unusedSectionVars false
namespace Go.Pv
open Go.RowKit

section
variable {P : Program} {cx : Cx} {s t : S} {g : Gh} {l : LG} {a : Act} {w : World} {o : Oper} {K : List Wr → Prop}

/-! ### slices written out -/
def celsOf (size : Nat) : Nat → List (Nat × PV) → Option (List (List PV))
  | _, [] => some []
  | k, (i, p) :: r => match p.cel, celsOf size (k + 1) r with
    | some pc, some es => if i = k ∧ pc.length = size then some (pc :: es) else none
    | _, _ => none
theorem celsOf_rep {size : Nat} : ∀ {ps : List (Nat × PV)} {vals : List (Nat × Value)} {k : Nat} {es : List (List PV)}, celsOf size k ps = some es → ps.map (·.1) = vals.map (·.1) → RepAll g w (ps.map (·.2)) (vals.map (·.2)) →
    vals.map (·.1) = List.range' k vals.length ∧ (∀ x ∈ vals, x.2.cells.size = size) ∧ es.length = vals.length ∧ (∀ i (h : i < es.length), es[i].length = size) ∧ RepAll g w es.flatten (vals.map fun x => x.2.cells.toList).flatten ∧
      ∀ u ∈ (vals.map fun x => x.2.cells.toList).flatten, u.oneCell' = true
  | [], vals, k, es, h, hi, _ => by
    simp only [celsOf, Option.some.injEq] at h
    subst h
    have : vals = [] := by simpa using hi.symm
    subst this
    exact ⟨rfl, by simp, rfl, fun i h => by simp at h, .nil, by simp⟩
  | (i, p) :: ps, vals, k, es, h, hi, hp => by
    cases vals with
    | nil => simp at hi
    | cons x vals =>
      obtain ⟨i', v⟩ := x
      simp only [List.map_cons, List.cons.injEq] at hi
      obtain ⟨rfl, hi⟩ := hi
      simp only [List.map_cons] at hp
      obtain ⟨v', vs', e, hv, hvs⟩ := hp.inv_cons
      injection e with e1 e2
      subst e1 e2
      simp only [celsOf] at h
      split at h
      · rename_i pc es' hpc hes
        split at h
        · rename_i hc
          injection h with h
          subst h
          obtain ⟨h1, h2, h3, h4, h5, h6⟩ := celsOf_rep hes hi hvs
          obtain ⟨k1, k2⟩ := cel_rep hpc hv
          have hsz : v.cells.size = size := by rw [← Array.length_toList, ← k1.1]; exact hc.2
          refine ⟨by simp [h1, hc.1, List.range'_succ], ?_, by simp [h3], ?_, ?_, ?_⟩
          · simp only [List.mem_cons, forall_eq_or_imp]
            exact ⟨hsz, h2⟩
          · intro j hj
            cases j with
            | zero => exact hc.2
            | succ j => exact h4 j (by simpa using hj)
          · simp only [List.flatten_cons, List.map_cons]
            refine ⟨by simp [k1.1, h5.1], fun j hj hj' => ?_⟩
            simp only [List.getElem_append]
            have hl : pc.length = v.cells.toList.length := k1.1
            split
            · rw [dif_pos (by omega)]; exact k1.2 _ _ _
            · rw [dif_neg (by omega)]
              simp only [hl]
              exact h5.2 _ _ _
          · simp only [List.flatten_cons, List.map_cons, List.mem_append]
            rintro u (hu | hu)
            · exact k2 u hu
            · exact h6 u hu
        · cases h
      · cases h
theorem fill_row (size : Nat) : ∀ (vals : List (Nat × Value)) (k : Nat) (cells : Array Value), (∀ x ∈ vals, x.2.cells.size = size) → vals.map (·.1) = List.range' k vals.length → (k + vals.length) * size ≤ cells.size →
    ∃ c, Instr.fill (fun i => some (i * size, size)) cells vals = some c ∧ c.toList = cells.toList.take (k * size) ++ (vals.map fun x => x.2.cells.toList).flatten ++ cells.toList.drop ((k + vals.length) * size)
  | [], k, cells, _, _, _ => ⟨cells, rfl, by simp⟩
  | (i, v) :: vals, k, cells, hs, hi, hl => by
    simp only [List.map_cons, List.length_cons, List.range'_succ, List.cons.injEq] at hi
    obtain ⟨rfl, hi⟩ := hi
    have hv : v.cells.size = size := hs (i, v) (by simp)
    have hfold := zipIdx_fold (i * size) v.cells.toList 0 cells (by
      simp only [List.length_cons] at hl
      rw [Nat.add_mul] at hl
      have : (vals.length + 1) * size = vals.length * size + size := by rw [Nat.add_mul, Nat.one_mul]
      simp
      omega)
    have e3 : (v.cells.zipIdx.foldl (fun cs (x : Value × Nat) => cs.setIfInBounds (i * size + x.2) x.1) cells).toList = Pv.splice cells.toList (i * size) v.cells.toList := by
      rw [← Array.foldl_toList, Array.toList_zipIdx]
      simpa using hfold
    have hfit : i * size + v.cells.toList.length ≤ cells.toList.length := by
      simp only [List.length_cons] at hl
      rw [Nat.add_mul] at hl
      have : (vals.length + 1) * size = vals.length * size + size := by rw [Nat.add_mul, Nat.one_mul]
      simp
      omega
    have hsz : (v.cells.zipIdx.foldl (fun cs (x : Value × Nat) => cs.setIfInBounds (i * size + x.2) x.1) cells).size = cells.size := by
      rw [← Array.length_toList, e3, splice_length]
      simp
    obtain ⟨c, h1, h2⟩ := fill_row size vals (i + 1) (v.cells.zipIdx.foldl (fun cs (x : Value × Nat) => cs.setIfInBounds (i * size + x.2) x.1) cells) (fun x hx => hs x (by simp [hx])) hi (by
      rw [hsz]
      simp only [List.length_cons] at hl
      rw [show i + 1 + vals.length = i + (vals.length + 1) by omega]
      exact hl)
    refine ⟨c, ?_, ?_⟩
    · simp only [Instr.fill, hv, ne_eq, not_true_eq_false, decide_false, Bool.false_or]
      rw [if_neg (by simp only [Array.length_toList] at hfit; simp; omega)]
      exact h1
    · rw [h2, e3, splice_eq _ _ _ hfit]
      have hlen : v.cells.toList.length = size := by simpa using hv
      have e4 : (i + 1) * size = i * size + size := by rw [Nat.add_mul, Nat.one_mul]
      have e5 : (cells.toList.take (i * size)).length = i * size := by rw [List.length_take]; omega
      have e6 : (cells.toList.take (i * size) ++ v.cells.toList).length = (i + 1) * size := by rw [List.length_append, e5, hlen, e4]
      have e7 : i + 1 + vals.length = i + (vals.length + 1) := by omega
      simp only [List.map_cons, List.flatten_cons, List.length_cons]
      have e8 : (i + (vals.length + 1)) * size = (i + 1) * size + vals.length * size := by rw [← e7, Nat.add_mul]
      rw [← List.append_assoc (cells.toList.take (i * size)) v.cells.toList]
      generalize cells.toList.take (i * size) ++ v.cells.toList = A at e6 ⊢
      rw [e7, e8, List.drop_append, List.drop_eq_nil_of_le (as := A) (by omega), List.nil_append, e6, List.take_left' e6]
      simp only [List.append_assoc, hlen, List.drop_drop]
      congr 3
      omega

def actBS (P : Program) (n : Nat) (o : Oper) (ty : TypeId) (len : Nat) (parts : Array (Nat × Operand)) : RM (List Wr) := match elemT P ty with
  | some e => match csz P e, zro P e with
    | some (m + 1), some _ => evParts parts.toList fun ps => match celsOf (m + 1) 0 ps with
      | some es => if es.length = len ∧ len * (m + 1) ≤ 16777216 then wv n o (.full (m + 1) es) else .fail
      | none => .fail
    | _, _ => .fail
  | none => .fail
theorem actBS_sound {ty : TypeId} {len : Nat} {parts : Array (Nat × Operand)} (ho : o.op = .buildSlice ty len parts) (h : Sim cx s g l a w) (hw : (actBS P cx.n o ty len parts).wp s K) : OpOK P cx s o K a w := by
  unfold actBS at hw
  split at hw
  · rename_i e he
    have hu := elemT_inv he
    split at hw
    · rename_i m zs hm hz
      obtain ⟨ps, h1, h2, h3⟩ := evParts_sound h hw
      split at h1
      · rename_i es hes
        split at h1
        · rename_i hc
          obtain ⟨hlen, hbig⟩ := hc
          obtain ⟨k1, k2, k3, k4, k5, k6⟩ := celsOf_rep (g := g) (w := w) (vals := parts.toList.map fun x => (x.1, a.eval x.2)) hes (by rw [List.map_map]; exact h2) (by rw [List.map_map]; exact h3)
          obtain ⟨i, z, z1, z2, z3⟩ := zro_inv hz
          generalize hvals : (parts.toList.map fun x => (x.1, a.eval x.2)) = vals at k1 k2 k3 k4 k5 k6
          have hlv : vals.length = len := by rw [← k3, hlen]
          have hfill : ∀ zc : Array Value, ∃ c, Instr.fill (fun i => some (i * (m + 1), m + 1)) ((Array.range (len * (m + 1))).map (zc[· % zc.size]!)) vals = some c ∧ c.toList = (vals.map fun x => x.2.cells.toList).flatten := by
            intro zc
            obtain ⟨c, c1, c2⟩ := fill_row (m + 1) vals 0 ((Array.range (len * (m + 1))).map (zc[· % zc.size]!)) k2 k1 (by simp [hlv])
            refine ⟨c, c1, ?_⟩
            rw [c2, hlv]
            simp
          have hrun : ∃ c, (execOp a.eval o).run P w = .ok (.value (.slice (some ⟨w.heap.size, 0, none⟩) len len)) (w.alloc (.cells c e)) ∧ c.toList = (vals.map fun x => x.2.cells.toList).flatten := by
            have hvt : (parts.map fun (x : Nat × Operand) => (x.1, a.eval x.2)).toList = vals := by rw [← hvals]; simp
            have hbig' : ¬ (len * (m + 1) > 2 ^ 24) := by omega
            have hsz := run_sizeOf (w := w) hm
            by_cases h0 : len * (m + 1) = 0
            · have hl0 : len = 0 := by
                rcases Nat.mul_eq_zero.1 h0 with h | h
                · exact h
                · omega
              subst hl0
              have hv0 : vals = [] := List.eq_nil_of_length_eq_zero hlv
              refine ⟨#[], ?_, by simp [hv0]⟩
              simp only [execOp, ho, Instr.buildSlice, Sem.run_bind, run_underlying hu, Result.andThen_ok, hsz, h0, if_true, Sem.run_pure, hvt, hv0]
              have hr0 : Array.range 0 = #[] := Array.eq_empty_of_size_eq_zero (by simp)
              simp [Instr.fill, newRow, hr0]
            · obtain ⟨c, c1, c2⟩ := hfill z.cells
              refine ⟨c, ?_, c2⟩
              simp only [execOp, ho, Instr.buildSlice, Sem.run_bind, run_underlying hu, Result.andThen_ok, hsz, if_neg hbig', if_neg h0, Sem.run_pure, hvt, zeroValue, typeInfo, run_program, z1, z2]
              simp [c1, newRow]
          obtain ⟨c, hrun, hct⟩ := hrun
          obtain ⟨h4, hm4⟩ := h.alloc (.cells c e)
          refine OpOK.value h1 h4 (fun _ => .inr ⟨⟨w.heap.size, 0, none⟩, by rw [hlen], ?_⟩) hrun
          rw [← hlen]
          refine Rep.of_flat (Nat.le_refl _) (by simp only [maxLen]; have := Nat.le_mul_of_pos_right len (Nat.succ_pos m); simp only [Nat.succ_eq_add_one] at this; omega) k4 (k5.mono hm4) fun j u hu' => ?_
          have hadd : (⟨w.heap.size, 0, none⟩ : Addr).add j = ⟨w.heap.size, j, none⟩ := by unfold Addr.add; split <;> simp_all
          refine ⟨?_, fun k hk => ?_, k6 u (List.mem_of_getElem? hu')⟩
          · rw [hadd]
            have := heap_alloc_new w (.cells c e)
            simp only [World.cell?, this]
            rw [← hct] at hu'
            simpa using hu'
          · rw [h.fresh.1 _ (Nat.le_refl _)] at hk; cases hk
        · exact h1.elim
      · exact h1.elim
    · exact hw.elim
  · exact hw.elim

/-! ### loads -/
def ldC (P : Program) (n : Nat) (ops : List Oper) (o : Oper) (ty : TypeId) (mk : List LV → Wr) (cs : List LV) (off : Nat) : RM (List Wr) := match aggT P ty with
  | some true => match csz P ty with
    | some m => if off + m ≤ cs.length then (match toPs ((cs.drop off).take m) with
      | some ps => wv n o (.v (.agg ps))
      | none => .fail) else .fail
    | none => .fail
  | some false => match cs[off]? with
    | some (.uniq e z es) => match o.dst with
      | some d => if d < n then (if feeds ops d = true then .ret [mk [.v (.sl z es)], .tmp d (.uniq e z es)] else .ret [.tmp d (.v (.sl z es))]) else .fail
      | none => .fail
    | some .junk => .fail
    | some (.mm _) => .fail
    | some (.row _ _) => .fail
    | some lv => wv n o lv
    | none => .fail
  | none => .fail
def actLoad (P : Program) (n : Nat) (ops : List Oper) (o : Oper) (ty : TypeId) (x : Operand) : RM (List Wr) := ev x fun lv => match lv with
  | .lp i off => .getB i fun cs => ldC P n ops o ty (.cells i off) cs off
  | .v (.xp m off) => .getX m fun cs => if notMM cs = true then ldC P n ops o ty (.ext m off) cs off else .fail
  | .v (.yp m c off) => .getX m fun cs => match rowOf cs with
    | some (c', ps) => if aggT P ty = some false then .assume (decide (c = c' ∧ off < ps.length)) (wv n o (.v (.int .i64 (ps.getD off 0)))) else .fail
    | none => .fail
  | .v (.ro cs off) => match segP P ty cs off with
    | some p => wv n o (.v p)
    | none => .fail
  | _ => .fail

theorem toPs_rep {f : Nat → UL} : ∀ {cs : List LV} {ps : List PV} {vs : List Value}, toPs cs = some ps → cs.length = vs.length → (∀ j (h : j < cs.length) (h' : j < vs.length), RepL g l w (f j) cs[j] vs[j]) → RepAll g w ps vs := by
  intro cs
  induction cs generalizing f with
  | nil =>
    intro ps vs h hl _
    simp only [toPs, Option.some.injEq] at h
    subst h
    have : vs = [] := List.eq_nil_of_length_eq_zero hl.symm
    subst this
    exact .nil
  | cons c cs ih =>
    intro ps vs h hl hr
    cases vs with
    | nil => simp at hl
    | cons v vs =>
      simp only [toPs] at h
      split at h
      · rename_i p qs h1 h2
        injection h with h
        subst h
        refine .cons (toP_rep h1 (hr 0 (by simp) (by simp))) (ih (f := fun j => f (j + 1)) h2 (by simpa using hl) fun j hj hj' => ?_)
        exact hr (j + 1) (by simpa using hj) (by simpa using hj')
      · cases h

/-- What a load from a block of one's own comes to. -/
theorem run_load_one {ty : TypeId} {b off : Nat} {cur : Array Value} {e : TypeId} (hh : w.heap[b]? = some (.cells cur e (0, 0))) (ha : aggT P ty = some false) (hlt : off < cur.size) :
    (loadVar ty ⟨b, off, none⟩).run P w = .ok (cur.getD off undef) w := by
  have hc : w.cell? ⟨b, off, none⟩ = some (cur.getD off undef) := by simp [World.cell?, hh, hlt]
  simp [loadVar, run_isAgg ha, hc]
theorem run_load_agg {ty : TypeId} {b off m : Nat} {vs : Nat → Value} (ha : aggT P ty = some true) (hm : csz P ty = some m) (hc : ∀ j, j < m → w.cell? ⟨b, off + j, none⟩ = some (vs j)) :
    (loadVar ty ⟨b, off, none⟩).run P w = .ok (.agg ((List.range m).map vs).toArray) w := by
  have hadd : ∀ j, (⟨b, off, none⟩ : Addr).add j = ⟨b, off + j, none⟩ := fun j => by unfold Addr.add; split <;> simp_all
  have hl := run_loadCells (P := P) w ⟨b, off, none⟩ m vs (fun j hj => by rw [hadd]; exact hc j hj)
  simp [loadVar, run_isAgg ha, run_sizeOf hm, hl]

theorem exec_load {ty : TypeId} {x : Operand} {b off : Nat} {v : Value} (ho : o.op = .load ty x) (hx : a.eval x = .pointer (some ⟨b, off, none⟩)) (hl : (loadVar ty ⟨b, off, none⟩).run P w = .ok v w) : (execOp a.eval o).run P w = .ok (.value v) w := by
  simp [execOp, ho, hx, Instr.loadAt, Instr.sureAddr, hl]

theorem WLs.splice1 : ∀ {cs : List LV} {off : Nat} {x y : LV}, cs[off]? = some x → WL y x → WLs (Pv.splice cs off [y]) cs
  | [], off, x, y, h, _ => by simp at h
  | c :: cs, 0, x, y, h, hw => by
    simp only [List.getElem?_cons_zero, Option.some.injEq] at h
    subst h
    simp only [Pv.splice]
    exact ⟨hw, WLs.refl cs⟩
  | c :: cs, off + 1, x, y, h, hw => by
    simp only [List.getElem?_cons_succ] at h
    exact ⟨WL.refl c, WLs.splice1 h hw⟩

theorem ldB_sound {ty : TypeId} {x : Operand} {ops : List Oper} {i off : Nat} {cs : List LV} (ho : o.op = .load ty x) (h : Sim cx s g l a w) (hi : lk s.boxes i = some cs) (hx : ∀ b, l.L i = some b → a.eval x = .pointer (some ⟨b, off, none⟩))
    (hw : (ldC P cx.n ops o ty (.cells i off) cs off).wp s K) : OpOK P cx s o K a w := by
  obtain ⟨b, h1, h2, hM, cur, e, h4, h5, h6⟩ := h.bx i cs hi
  have hxv := hx b h1
  unfold ldC at hw
  split at hw
  · rename_i ha
    split at hw
    · rename_i m hm
      split at hw
      · rename_i hle
        split at hw
        · rename_i ps hps
          have hc : ∀ j, j < m → w.cell? ⟨b, off + j, none⟩ = some (cur.getD (off + j) undef) := fun j hj => by
            have : off + j < cur.size := by omega
            simp [World.cell?, h4, this]
          have hrun := exec_load ho hxv (run_load_agg (P := P) ha hm hc)
          refine OpOK.pure h hw (RepAll.agg ?_ ?_) hrun
          · refine toPs_rep (l := l) (f := fun j => .b i (off + j)) hps (by simp; omega) fun j hj hj' => ?_
            simp only [List.getElem_take, List.getElem_drop, List.getElem_map, List.getElem_range]
            exact (h6 (off + j) _).2.2
          · intro v hv
            simp only [List.mem_map, List.mem_range] at hv
            obtain ⟨j, hj, rfl⟩ := hv
            exact (h6 (off + j) (by omega)).2.1
        · exact hw.elim
      · exact hw.elim
    · exact hw.elim
  · rename_i ha
    cases hcs : cs[off]? with
    | none => rw [hcs] at hw; exact hw.elim
    | some lv =>
      rw [hcs] at hw
      have hlt := (List.getElem?_eq_some_iff.1 hcs).1
      have hrun := exec_load ho hxv (run_load_one (P := P) h4 ha (by omega))
      have hcell := h6 off hlt
      have hlv : cs[off] = lv := by rw [List.getElem?_eq_getElem hlt] at hcs; injection hcs
      rw [hlv] at hcell
      obtain ⟨hc1, hc2, hc3⟩ := hcell
      generalize cur.getD off undef = v at hrun hc2 hc3
      cases lv with
      | uniq e' z es =>
        cases hd : o.dst with
        | none => simp only [hd] at hw; exact hw.elim
        | some d =>
          simp only [hd] at hw
          split at hw
          · rename_i hlt'
            split at hw
            · -- handed on
              have hs1 : Sim cx { s with boxes := put s.boxes i (splice cs off [.v (.sl z es)]), tmps := put s.tmps d .junk } g l a w := by
                refine h.leF (fun k u hk => ?_) (fun k u hk => by
                  simp only [lk_put] at hk
                  split at hk
                  · rename_i e2
                    subst e2
                    injection hk with hk
                    subst hk
                    exact ⟨cs, hi, WLs.splice1 hcs (.inr ⟨rfl, rfl⟩)⟩
                  · exact ⟨u, hk, WLs.refl u⟩) (same_le WLs.refl _)
                simp only [lk_put] at hk
                split at hk
                · injection hk with hk; exact .inl hk.symm
                · exact .inr ⟨u, hk, WL.refl u⟩
              have hwr : s.wrs [.cells i off [.v (.sl z es)], .tmp d (.uniq e' z es)] = { s with boxes := put s.boxes i (splice cs off [.v (.sl z es)]), tmps := put s.tmps d (.uniq e' z es) } := by
                simp only [S.wrs, S.wr, hi]
              obtain ⟨l', k1, k2, -⟩ := hs1.transfer (p := .b i off) (q := .t d) hc3 (fun ds hds e2 z2 es2 he => by
                  simp only [lk_put, if_true, Option.some.injEq] at hds
                  subst hds
                  rw [splice_get _ _ _ (by simp; omega)] at he
                  simp at he)
                (fun e2 z2 es2 he => by simp only [lk_put, if_true] at he; injection he with he; cases he)
              intro Q
              unfold Oper.wp
              rw [hrun, Oper.upon_value, hd]
              refine ⟨_, g, l', hw, ?_⟩
              rw [hwr]
              refine (k1.set hlt' k2).congr (fun k => ?_) (fun _ => rfl) (fun _ => rfl)
              simp only [lk_put]
              split <;> rfl
            · refine OpOK.value (lv := .v (.sl z es)) (v := v) (by unfold wv; rw [hd]; simp only [hlt', if_true]; exact hw) h (fun _ => toP_rep rfl hc3) hrun
          · exact hw.elim
      | v p => exact OpOK.value hw h (fun _ => hc3) hrun
      | full z es => exact OpOK.value hw h (fun _ => hc3) hrun
      | lp j oo => cases hc1
      | junk => exact hw.elim
      | mm _ => exact hw.elim
      | row _ _ => exact hw.elim
  · exact hw.elim

theorem ldX_sound {ty : TypeId} {x : Operand} {ops : List Oper} {i off : Nat} {cs : List LV} (ho : o.op = .load ty x) (h : Sim cx s g l a w) (hi : lk s.ext i = some cs) (hx : ∀ b, g.X i = some b → a.eval x = .pointer (some ⟨b, off, none⟩)) (hcs : notMM cs = true)
    (hw : (ldC P cx.n ops o ty (.ext i off) cs off).wp s K) : OpOK P cx s o K a w := by
  obtain ⟨b, h1, h2, hE⟩ := h.ex i cs hi
  rcases hE with hB | hE
  rotate_left
  · exact (hE.plain (notMM_not hcs)).elim
  replace h1 := h1.plain hB.norow
  obtain ⟨hM, cur, e, h4, h5, h6⟩ := hB
  have hxv := hx b h1
  unfold ldC at hw
  split at hw
  · rename_i ha
    split at hw
    · rename_i m hm
      split at hw
      · rename_i hle
        split at hw
        · rename_i ps hps
          have hc : ∀ j, j < m → w.cell? ⟨b, off + j, none⟩ = some (cur.getD (off + j) undef) := fun j hj => by
            have : off + j < cur.size := by omega
            simp [World.cell?, h4, this]
          have hrun := exec_load ho hxv (run_load_agg (P := P) ha hm hc)
          refine OpOK.pure h hw (RepAll.agg ?_ ?_) hrun
          · refine toPs_rep (l := l) (f := fun j => .x i (off + j)) hps (by simp; omega) fun j hj hj' => ?_
            simp only [List.getElem_take, List.getElem_drop, List.getElem_map, List.getElem_range]
            exact (h6 (off + j) _).2.2
          · intro v hv
            simp only [List.mem_map, List.mem_range] at hv
            obtain ⟨j, hj, rfl⟩ := hv
            exact (h6 (off + j) (by omega)).2.1
        · exact hw.elim
      · exact hw.elim
    · exact hw.elim
  · rename_i ha
    cases hcs : cs[off]? with
    | none => rw [hcs] at hw; exact hw.elim
    | some lv =>
      rw [hcs] at hw
      have hlt := (List.getElem?_eq_some_iff.1 hcs).1
      have hrun := exec_load ho hxv (run_load_one (P := P) h4 ha (by omega))
      have hcell := h6 off hlt
      have hlv : cs[off] = lv := by rw [List.getElem?_eq_getElem hlt] at hcs; injection hcs
      rw [hlv] at hcell
      obtain ⟨hc1, hc2, hc3⟩ := hcell
      generalize cur.getD off undef = v at hrun hc2 hc3
      cases lv with
      | uniq e' z es =>
        cases hd : o.dst with
        | none => simp only [hd] at hw; exact hw.elim
        | some d =>
          simp only [hd] at hw
          split at hw
          · rename_i hlt'
            split at hw
            · -- handed on
              have hs1 : Sim cx { s with ext := put s.ext i (splice cs off [.v (.sl z es)]), tmps := put s.tmps d .junk } g l a w := by
                refine h.leF (fun k u hk => ?_) (same_le WLs.refl _) (fun k u hk => by
                  simp only [lk_put] at hk
                  split at hk
                  · rename_i e2
                    subst e2
                    injection hk with hk
                    subst hk
                    exact ⟨cs, hi, WLs.splice1 hcs (.inr ⟨rfl, rfl⟩)⟩
                  · exact ⟨u, hk, WLs.refl u⟩) (by simp only [cnt_put_old hi]; exact Nat.le_refl _)
                simp only [lk_put] at hk
                split at hk
                · injection hk with hk; exact .inl hk.symm
                · exact .inr ⟨u, hk, WL.refl u⟩
              have hwr : s.wrs [.ext i off [.v (.sl z es)], .tmp d (.uniq e' z es)] = { s with ext := put s.ext i (splice cs off [.v (.sl z es)]), tmps := put s.tmps d (.uniq e' z es) } := by
                simp only [S.wrs, S.wr, hi]
              obtain ⟨l', k1, k2, -⟩ := hs1.transfer (p := .x i off) (q := .t d) hc3 (fun ds hds e2 z2 es2 he => by
                  simp only [lk_put, if_true, Option.some.injEq] at hds
                  subst hds
                  rw [splice_get _ _ _ (by simp; omega)] at he
                  simp at he)
                (fun e2 z2 es2 he => by simp only [lk_put, if_true] at he; injection he with he; cases he)
              intro Q
              unfold Oper.wp
              rw [hrun, Oper.upon_value, hd]
              refine ⟨_, g, l', hw, ?_⟩
              rw [hwr]
              refine (k1.set hlt' k2).congr (fun k => ?_) (fun _ => rfl) (fun _ => rfl)
              simp only [lk_put]
              split <;> rfl
            · refine OpOK.value (lv := .v (.sl z es)) (v := v) (by unfold wv; rw [hd]; simp only [hlt', if_true]; exact hw) h (fun _ => toP_rep rfl hc3) hrun
          · exact hw.elim
      | v p => exact OpOK.value hw h (fun _ => hc3) hrun
      | full z es => exact OpOK.value hw h (fun _ => hc3) hrun
      | lp j oo => cases hc1
      | junk => exact hw.elim
      | mm _ => exact hw.elim
      | row _ _ => exact hw.elim
  · exact hw.elim

theorem actLoad_sound {ty : TypeId} {x : Operand} {ops : List Oper} (ho : o.op = .load ty x) (h : Sim cx s g l a w) (hw : (actLoad P cx.n ops o ty x).wp s K) : OpOK P cx s o K a w := by
  obtain ⟨lv, u, h1, r1, -⟩ := ev_sound h hw
  split at h1
  · rename_i i off
    simp only [RM.wp] at h1
    split at h1
    · rename_i cs hcs
      refine ldB_sound ho h hcs (fun b hb => ?_) h1
      obtain ⟨b', k1, k2⟩ := r1
      rw [k1] at hb
      injection hb with hb
      rw [← hb]; exact k2
    · exact h1.elim
  · rename_i m off
    simp only [RM.wp] at h1
    split at h1
    · rename_i cs hcs
      split at h1
      rotate_left
      · exact h1.elim
      rename_i hnm
      refine ldX_sound ho h hcs (fun b hb => ?_) hnm h1
      generalize a.eval x = vx at r1
      cases r1 with
      | xp _ _ b' hx =>
        rw [hx] at hb
        injection hb with hb
        rw [hb]
    · exact h1.elim
  · rename_i m c off
    simp only [RM.wp] at h1
    split at h1
    · rename_i cs hcs
      split at h1
      · rename_i c' ps hrow
        split at h1
        · rename_i ha
          simp only [RM.wp] at h1
          obtain ⟨hd, h1⟩ := h1
          obtain ⟨rfl, hlt⟩ := of_decide_eq_true hd
          obtain ⟨b, hY, -, -, hM, cur, e, h4, h5, h6⟩ := row_at h hcs hrow
          have hxv : a.eval x = .pointer (some ⟨b, off, none⟩) := by
            generalize a.eval x = vx at r1
            cases r1 with
            | yp _ _ _ b' hx =>
              rw [hx] at hY
              injection hY with hY
              rw [hY]
          refine OpOK.value h1 h (fun _ => ?_) (exec_load ho hxv (run_load_one (P := P) h4 ha (by omega)))
          have h7 := (h6 off hlt).2
          have e7 : ps.getD off 0 = ps[off] := by simp [List.getD, hlt]
          rw [e7]
          exact h7
        · exact h1.elim
      · exact h1.elim
    · exact h1.elim
  · rename_i cs off
    split at h1
    · rename_i p hp
      have hex : ∀ b oo v, a.eval x = .pointer (some ⟨b, oo, none⟩) → (loadVar ty ⟨b, oo, none⟩).run P w = .ok v w → (execOp a.eval o).run P w = .ok (.value v) w := fun b oo v hv hl => exec_load ho hv hl
      generalize a.eval x = vx at r1 hex
      cases r1 with
      | ro _ off' b oo vs hc hf hone hr =>
        unfold segP at hp
        split at hp
        · rename_i ha
          split at hp
          · rename_i m hm
            split at hp
            · rename_i hle
              injection hp with hp
              subst hp
              refine OpOK.pure h h1 (RepAll.agg (vs := (List.range m).map fun j => vs (off + j)) ⟨by simp; omega, fun j hj hj' => ?_⟩ ?_) (hex _ _ _ rfl (run_load_agg ha hm fun j hj => ?_))
              · simp only [List.getElem_take, List.getElem_drop, List.getElem_map, List.getElem_range]
                exact hr _ _
              · intro v hv
                simp only [List.mem_map, List.mem_range] at hv
                obtain ⟨j, hj, rfl⟩ := hv
                exact hone _ (by omega)
              · have := hc (off + j) (by omega)
                rw [Nat.add_assoc]
                exact this
            · cases hp
          · cases hp
        · rename_i ha
          have hlt := (List.getElem?_eq_some_iff.1 hp).1
          have hcc := hc off hlt
          refine OpOK.pure (v := vs off) h h1 ?_ (hex _ _ _ rfl (by simp [loadVar, run_isAgg ha, hcc]))
          rw [List.getElem?_eq_getElem hlt] at hp
          injection hp with hp
          rw [← hp]
          exact hr off hlt
        · cases hp
    · exact h1.elim
  · exact h1.elim

end
end Go.Pv
