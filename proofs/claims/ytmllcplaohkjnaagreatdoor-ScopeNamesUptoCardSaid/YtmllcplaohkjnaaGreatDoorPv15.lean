/- Pure values, fifteenth part: entering a function, calling one. -/
import Derived.Test.YtmllcplaohkjnaaGreatDoorPv14
set_option linter.unusedVariables false
set_option linter.unusedSimpArgs false
set_option linter.unusedSectionVars false
namespace Go.Pv
open Go.RowKit

section
variable {P : Program} {cx : Cx} {s t : S} {g : Gh} {l : LG} {a : Act} {w : World} {o : Oper}

/-- A row that nobody owns is taken over by a slot. -/
theorem Sim.adopt (h : Sim cx s g l a w) {q : UL} {b : Nat} (hq : noU s q) (hb : l.O b = none) (hlt : b < w.heap.size) (hok : cx.w0.heap.size ≤ b ∨ cx.own0 b) :
    Sim cx s g { l with U := updU l.U q (some b), O := upd l.O b (some (.u q)) } a w := by
  have hne : ∀ {b' o}, l.O b' = some o → b' ≠ b := fun {b' o} ho e0 => by subst e0; rw [hb] at ho; cases ho
  have keep : ∀ {r lv v}, (r = q → ∀ e z es, lv ≠ LV.uniq e z es) → RepL g l w r lv v → RepL g { l with U := updU l.U q (some b), O := upd l.O b (some (.u q)) } w r lv v := fun {r lv v} hn hr => by
    by_cases hc : r = q
    · exact hr.noU (Mono.refl g w) rfl (hn hc)
    · exact hr.keep (Mono.refl g w) (fun _ _ _ => rfl) fun b' hu => ⟨by simp [updU, hc, hu], rfl, rfl⟩
  refine ⟨h.hist, h.size, h.defers, fun t lv ht => keep ?_ (h.tm t lv ht), ?_, ?_, ?_, ?_, h.fresh, h.xlt⟩
  · rintro e0 e' z es rfl
    subst e0; exact hq e' z es ht
  · intro i cs hi
    obtain ⟨b', h1, h2, h3, cur, e, h4, h5, h6⟩ := h.bx i cs hi
    refine ⟨b', h1, (upd_other _ _ (hne h2)).trans h2, h3, cur, e, h4, h5, fun j hj => ⟨(h6 j hj).1, (h6 j hj).2.1, keep ?_ (h6 j hj).2.2⟩⟩
    rintro e0 e' z es e1
    subst e0; exact hq cs hi e' z es (by rw [List.getElem?_eq_getElem hj, e1])
  · intro i cs hi
    obtain ⟨b', h1, h2, hE⟩ := h.ex i cs hi
    refine ⟨b', h1, (upd_other _ _ (hne h2)).trans h2, ?_⟩
    rcases hE with ⟨h3, cur, e, h4, h5, h6⟩ | hE
    rotate_left
    · exact .inr hE
    refine .inl ⟨h3, cur, e, h4, h5, fun j hj => ⟨(h6 j hj).1, (h6 j hj).2.1, keep ?_ (h6 j hj).2.2⟩⟩
    rintro e0 e' z es e1
    subst e0; exact hq cs hi e' z es (by rw [List.getElem?_eq_getElem hj, e1])
  · intro b' o ho
    simp only [upd] at ho
    split at ho
    · rename_i e0; subst e0; exact ⟨hlt, hok⟩
    · exact h.own b' o ho
  · intro r b' hu
    simp only [updU] at hu
    split at hu
    · rename_i e0; subst e0; injection hu with hu; subst hu; exact upd_same _ _ _
    · exact (upd_other _ _ (hne (h.uo r b' hu))).trans (h.uo r b' hu)

/-! ### the call -/
def actCall (f : Operand) (args : List Operand) : RM (FuncId × List PV) := ev f fun lv => match lv with
  | .v (.fn (.func fid) first captured) => evs args fun ps => .ret (fid, first ++ ps ++ captured)
  | _ => .fail
def isFn (P : Program) (f : FuncId) : Bool := match P.funcs[f]? with
  | some fn => fn.body.isSome && !(fn.name == "runtime.NumGoroutine")
  | none => false
def S.setD (s : S) (dst : Option Nat) (lv : LV) (e : Ext) : S := { s with tmps := match dst with | some d => put s.tmps d lv | none => s.tmps, ext := e }
/-- What must hold behind a call. -/
def behind (K : S → Prop) (Q : PExit → S → Prop) (s : S) (dst : Option Nat) : CRes → Ext → Prop
  | .ret p, e => K (s.setD dst (.v p) e)
  | .own te z es, e => K (s.setD dst (.uniq te z es) e)
  | .panic p, e => Q (.panic p) { s with ext := e }

theorem run_callFunc {f : FuncId} {vs : Array Value} (h : isFn P f = true) : (callFunc f vs).run P w = .ok (.enter f vs) w := by
  unfold isFn at h
  split at h
  · rename_i fn hf
    simp only [Bool.and_eq_true] at h
    obtain ⟨h1, h2⟩ := h
    have h2' : (fn.name == "runtime.NumGoroutine") = false := by simpa using h2
    have h1' : fn.body.isNone = false := by cases hb : fn.body <;> simp_all
    simp only [callFunc, Sem.run_bind, run_program, Result.andThen_ok, hf, h2', Bool.false_eq_true, if_false, h1']
    rfl
  · cases h

theorem enter_sound {fid : FuncId} {vl : List Value} {ps : List PV} {K : S → Prop} {Q : PExit → S → Prop} (hrun : (execOp a.eval o).run P w = .ok (.enter fid vl.toArray) w) (hall : RepAll g w ps vl) (hd : ∀ d, o.dst = some d → d < cx.n) (h : Sim cx s g l a w)
    (hc : CallC P fid ps s.ext (behind K Q s o.dst)) : o.wp P a w (fun a' w' => ∃ s' g' l', K s' ∧ Sim cx s' g' l' a' w') (post cx Q) := by
  unfold Oper.wp
  rw [hrun, Oper.upon_enter]
  refine (hc _ g (lx l) w hall h.ent).mono ?_
  rintro en w' ⟨res, e', g', l', hR, hres, hent, hm, hsz, hfr, hown, os, tape, output⟩
  have hb := h.back hent hm hsz hfr hown os tape output
  cases res with
  | ret p =>
    cases en with
    | returned v =>
      refine ⟨_, g', lback l l', hR, ?_⟩
      cases hdd : o.dst with
      | none => exact hb
      | some d => exact hb.set (hd d hdd) hres
    | panicked ch => exact hres.elim
    | outgrown => exact hres.elim
  | own te z es =>
    cases en with
    | returned v =>
      cases hdd : o.dst with
      | none => exact ⟨_, g', lback l l', hR, by rw [hdd]; exact hb⟩
      | some d =>
        have hj : Sim cx { s with ext := e', tmps := put s.tmps d .junk } g' (lback l l') a w' := by
          refine hb.leF (fun k v hk => ?_) (same_le WLs.refl _) (same_le WLs.refl _)
          simp only [lk_put] at hk
          split at hk
          · injection hk with hk; exact .inl hk.symm
          · exact .inr ⟨v, hk, WL.refl v⟩
        rcases hres with hfull | ⟨b, cap, cur, k1, k2, k3, k4, k5, k6, k7, k8⟩
        · refine ⟨_, g', lback l l', hR, ?_⟩
          rw [hdd]
          refine (hj.set (lv := .uniq te z es) (hd d hdd) (.inl hfull)).congr (fun k => ?_) (fun _ => rfl) (fun _ => rfl)
          simp only [S.setD, lk_put]
          split <;> rfl
        · have hO : (lback l l').O b = none := by
            simp only [lback, k4]
            rcases k2 with hc2 | hc2
            · have : l.O b = none := by
                cases hx : l.O b with
                | none => rfl
                | some o' => exact absurd (h.own b o' hx).1 (by omega)
              rw [this]
            · simp only [lx] at hc2
              split at hc2
              · first | rfl | (rename_i hn; rw [hn])
              · first | rfl | (rename_i hn; rw [hn])
              · cases hc2
          have hok : cx.w0.heap.size ≤ b ∨ cx.own0 b := by
            rcases k2 with hc2 | hc2
            · exact .inl (Nat.le_trans h.hist.size hc2)
            · have : (l.O b).isSome = true := by
                simp only [lx] at hc2
                split at hc2
                · rename_i hn; rw [hn]; rfl
                · rename_i hn; rw [hn]; rfl
                · cases hc2
              obtain ⟨o2, ho2⟩ := Option.isSome_iff_exists.1 this
              exact (h.own b o2 ho2).2
          have ha := hj.adopt (q := .t d) (fun e2 z2 es2 he => by simp only [lk_put, if_true] at he; injection he with he; cases he) hO k3 hok
          refine ⟨_, g', { lback l l' with U := updU (lback l l').U (.t d) (some b), O := upd (lback l l').O b (some (.u (.t d))) }, hR, ?_⟩
          rw [hdd]
          refine (ha.set (lv := .uniq te z es) (hd d hdd) (.inr ⟨b, cap, cur, k1, by simp [updU], k5, k6, k7, k8⟩)).congr (fun k => ?_) (fun _ => rfl) (fun _ => rfl)
          simp only [S.setD, lk_put]
          split <;> rfl
    | panicked ch => exact hres.elim
    | outgrown => exact hres.elim
  | panic p =>
    cases en with
    | returned v => exact hres.elim
    | panicked ch => exact ⟨.panic p, _, g', lback l l', hR, hres, hb⟩
    | outgrown => exact hres.elim

theorem call_sound {f : Operand} {args : Array Operand} {ts : Array TypeId} {K : S → Prop} {Q : PExit → S → Prop} (ho : o.op = .call ⟨.value f, args, ts⟩) (hd : ∀ d, o.dst = some d → d < cx.n) (h : Sim cx s g l a w)
    (hw : (actCall f args.toList).wp s fun x => isFn P x.1 = true ∧ CallC P x.1 x.2 s.ext (behind K Q s o.dst)) :
    o.wp P a w (fun a' w' => ∃ s' g' l', K s' ∧ Sim cx s' g' l' a' w') (post cx Q) := by
  obtain ⟨lv, u, h1, r1, -⟩ := ev_sound h hw
  split at h1
  · rename_i fid first captured
    obtain ⟨ps, h2, r2⟩ := evs_sound h h1
    obtain ⟨hfn, hc⟩ := h2
    have hex : ∀ fv cv, a.eval f = .func (.func fid) fv cv → (execOp a.eval o).run P w = .ok (.enter fid ((fv ++ (args.map a.eval)) ++ cv)) w := by
      intro fv cv hf
      simp only [execOp, ho, resolve, hf, Deferred.ofValue, Sem.run_bind, Sem.run_pure, Result.andThen_ok, invoke, run_callFunc hfn]
    generalize a.eval f = vf at r1 hex
    cases r1 with
    | fn _ _ _ fv cv l1 l2 r3 r4 =>
      have hrun := hex _ _ rfl
      have hargs : (fv.toArray ++ args.map a.eval) ++ cv.toArray = (fv ++ args.toList.map a.eval ++ cv).toArray := by
        apply Array.ext'
        simp
      rw [hargs] at hrun
      exact enter_sound hrun ((RepAll.app ⟨l1, r3⟩ r2).app ⟨l2, r4⟩) hd h hc
  · exact h1.elim

theorem run_method {t : TypeId} {name : String} {f : FuncId} {v : Value} (h : methT P t name = some f) : (method (P.types.size + Made.depth) t v name).run P w = .ok (f, v) w := by
  unfold methT at h
  split at h
  · rename_i i hi
    split at h
    · rename_i m hm
      split at h
      · rename_i hp
        have hp' : m.path.toList = [] := by simpa using hp
        have hd : P.types.size + Made.depth = (P.types.size + (Made.depth - 1)) + 1 := by
          have : 0 < Made.depth := by decide
          omega
        rw [hd]
        split at h
        · cases h
        · rename_i f' u hn hf hu
          injection h with h
          subst h
          simp only [method, Sem.run_bind, typeInfo, run_program, Result.andThen_ok, hi, Sem.run_pure, hm, hp', follow, hf, receiverAt, run_underlying hu]
          cases u <;> first | (exact (hn _ rfl).elim) | (simp [Place.get]; done)
        · rename_i f' hf hu
          injection h with h
          subst h
          simp [method, typeInfo, hi, hm, hp', follow, hf, receiverAt, run_underlying hu, Place.get]
        · cases h
      · cases h
    · cases h
  · cases h
def actInv (P : Program) (r : Operand) (name : String) (args : List Operand) : RM (FuncId × List PV) := ev r fun lv => match lv with
  | .v (.iface t p) => match methT P t name with
    | some f => evs args fun ps => .ret (f, p :: ps)
    | none => .fail
  | .v (.ifm t f p) => .assume (decide (methT P t name = some f)) (evs args fun ps => .ret (f, p :: ps))
  | _ => .fail
theorem inv_sound {r : Operand} {name : String} {args : Array Operand} {ts : Array TypeId} {K : S → Prop} {Q : PExit → S → Prop} (ho : o.op = .call ⟨.invoke r name, args, ts⟩) (hd : ∀ d, o.dst = some d → d < cx.n) (h : Sim cx s g l a w)
    (hw : (actInv P r name args.toList).wp s fun x => isFn P x.1 = true ∧ CallC P x.1 x.2 s.ext (behind K Q s o.dst)) :
    o.wp P a w (fun a' w' => ∃ s' g' l', K s' ∧ Sim cx s' g' l' a' w') (post cx Q) := by
  obtain ⟨lv, u, h1, r1, -⟩ := ev_sound h hw
  split at h1
  · rename_i t p
    split at h1
    · rename_i f hm
      obtain ⟨ps, h2, r2⟩ := evs_sound h h1
      obtain ⟨hfn, hc⟩ := h2
      have hex : ∀ v, a.eval r = .iface t v → (execOp a.eval o).run P w = .ok (.enter f (v :: args.toList.map a.eval).toArray) w := by
        intro v hv
        have e1 : (#[Value.iface t v] ++ args.map a.eval).extract 1 (#[Value.iface t v] ++ args.map a.eval).size = args.map a.eval := by
          apply Array.ext'
          simp
          exact List.take_of_length_le (by simp)
        have e2 : #[v] ++ args.map a.eval = (v :: args.toList.map a.eval).toArray := by apply Array.ext'; simp
        have e0 : (#[Value.iface t v] ++ args.map a.eval)[0]? = some (.iface t v) := by rw [Array.getElem?_append]; simp
        simp only [execOp, ho, resolve, hv, Sem.run_bind, Sem.run_pure, Result.andThen_ok, invoke, e0, e1, callMethod, run_program, run_method hm, run_callFunc hfn, e2]
      generalize a.eval r = vr at r1 hex
      cases r1 with
      | iface _ _ v hv => exact enter_sound (hex v rfl) (RepAll.cons hv r2) hd h hc
    · exact h1.elim
  · rename_i t f p
    obtain ⟨hm0, h1⟩ := h1
    have hm := of_decide_eq_true hm0
    obtain ⟨ps, h2, r2⟩ := evs_sound h h1
    obtain ⟨hfn, hc⟩ := h2
    have hex : ∀ v, a.eval r = .iface t v → (execOp a.eval o).run P w = .ok (.enter f (v :: args.toList.map a.eval).toArray) w := by
      intro v hv
      have e1 : (#[Value.iface t v] ++ args.map a.eval).extract 1 (#[Value.iface t v] ++ args.map a.eval).size = args.map a.eval := by
        apply Array.ext'
        simp
        exact List.take_of_length_le (by simp)
      have e2 : #[v] ++ args.map a.eval = (v :: args.toList.map a.eval).toArray := by apply Array.ext'; simp
      have e0 : (#[Value.iface t v] ++ args.map a.eval)[0]? = some (.iface t v) := by rw [Array.getElem?_append]; simp
      simp only [execOp, ho, resolve, hv, Sem.run_bind, Sem.run_pure, Result.andThen_ok, invoke, e0, e1, callMethod, run_program, run_method hm, run_callFunc hfn, e2]
    generalize a.eval r = vr at r1 hex
    cases r1 with
    | ifm _ _ _ v hv => exact enter_sound (hex v rfl) (RepAll.cons hv r2) hd h hc
  · exact h1.elim

/-- Whom a call calls, and with what. -/
def callee (P : Program) (o : Oper) : Option (RM (FuncId × List PV)) := match o.op with
  | .call ⟨.value f, args, _⟩ => some (actCall f args.toList)
  | .call ⟨.invoke r name, args, _⟩ => some (actInv P r name args.toList)
  | _ => none
theorem callee_sound {r : RM (FuncId × List PV)} {K : S → Prop} {Q : PExit → S → Prop} (ho : callee P o = some r) (hd : ∀ d, o.dst = some d → d < cx.n) (h : Sim cx s g l a w)
    (hw : r.wp s fun x => isFn P x.1 = true ∧ CallC P x.1 x.2 s.ext (behind K Q s o.dst)) : o.wp P a w (fun a' w' => ∃ s' g' l', K s' ∧ Sim cx s' g' l' a' w') (post cx Q) := by
  unfold callee at ho
  split at ho
  · rename_i hop; injection ho with ho; subst ho; exact call_sound hop hd h hw
  · rename_i hop; injection ho with ho; subst ho; exact inv_sound hop hd h hw
  · cases ho

theorem PL_call {r : RM (FuncId × List PV)} {all : Array Oper} {rest : List Oper} {Q : PExit → S → Prop} (ho : callee P o = some r) (hg : o.guard = none) (hd : ∀ d, o.dst = some d → d < cx.n)
    (hw : r.wp s fun x => isFn P x.1 = true ∧ CallC P x.1 x.2 s.ext (behind (fun s' => PL P cx all rest s' Q) Q s o.dst)) : PL P cx all (o :: rest) s Q := fun g l a w hs => by
  refine wpList_plain hg fun K hK => ?_
  refine upon_mono ?_ (callee_sound ho hd hs hw)
  rintro a' w' ⟨s', g', l', hp, sm⟩
  exact hK _ _ (hp g' l' a' w' sm)
theorem PL_callG {r : RM (FuncId × List PV)} {all : Array Oper} {rest : List Oper} {Q : PExit → S → Prop} {j dj : Nat} {want b : Bool} {lv : LV} (ho : callee P o = some r) (hg : o.guard = some (j, want))
    (hdj : (all[j]?).bind (·.dst) = some dj) (hn : dj < cx.n) (hl : lk s.tmps dj = some lv) (hb : wantP want lv = some b) (hd : ∀ d, o.dst = some d → d < cx.n)
    (ht : b = true → r.wp s fun x => isFn P x.1 = true ∧ CallC P x.1 x.2 s.ext (behind (fun s' => PL P cx all rest s' Q) Q s o.dst)) (hf : b = false → PL P cx all rest (s.skip o) Q) : PL P cx all (o :: rest) s Q := fun g l a w hs => by
  have hy := yielded_of hdj hn hs hl hb
  have hwant : Region.wanted o (yielded all a.tmps) = b := by simp only [Region.wanted, hg]; exact hy
  cases b with
  | true =>
    refine wpList_step fun K hK => ?_
    rw [if_pos hwant]
    refine upon_mono ?_ (callee_sound ho hd hs (ht rfl))
    rintro a' w' ⟨s', g', l', hp, sm⟩
    exact hK _ _ (hp g' l' a' w' sm)
  | false =>
    refine wpList_step fun K hK => ?_
    rw [if_neg (by rw [hwant]; simp)]
    refine hK _ _ (hf rfl g l _ w ?_)
    cases hdd : o.dst with
    | none => simp only [S.skip, hdd, Act.put]; exact hs
    | some d =>
      simp only [S.skip, hdd]
      exact hs.set (hd d hdd) (.tup [] [] rfl fun j h => by simp at h)

/-! ### entering -/
def argT : Nat → List PV → List (Nat × LV)
  | _, [] => []
  | k, p :: r => (k, .v p) :: argT (k + 1) r
theorem lk_argT : ∀ {ps : List PV} {k t : Nat} {lv : LV}, lk (argT k ps) t = some lv → ∃ j p, t = k + j ∧ ps[j]? = some p ∧ lv = .v p
  | [], k, t, lv, h => by simp [argT, lk] at h
  | p :: r, k, t, lv, h => by
    simp only [argT, lk] at h
    split at h
    · rename_i e; subst e; injection h with h; exact ⟨0, p, rfl, rfl, h.symm⟩
    · obtain ⟨j, q, h1, h2, h3⟩ := lk_argT h
      exact ⟨j + 1, q, by omega, by simpa using h2, h3⟩

/-- The value of a result variable. -/
def ldP (P : Program) (ty : TypeId) (cs : List LV) (off : Nat) : Option PV := match aggT P ty with
  | some true => match csz P ty with
    | some m => if off + m ≤ cs.length then (toPs ((cs.drop off).take m)).map .agg else none
    | none => none
  | some false => (cs[off]?).bind toP
  | none => none
def resV (P : Program) (s : S) : ResultVar → Option PV
  | .tmp t => (lk s.tmps t).bind toP
  | .cell a ty => match lk s.tmps a with
    | some (.lp i off) => (lk s.boxes i).bind fun cs => ldP P ty cs off
    | some (.v (.xp m off)) => (lk s.ext m).bind fun cs => if notMM cs = true then ldP P ty cs off else none
    | _ => none
def resVs (P : Program) (s : S) : List ResultVar → Option (List PV)
  | [] => some []
  | r :: rs => match resV P s r, resVs P s rs with
    | some p, some ps => some (p :: ps)
    | _, _ => none
def resP (P : Program) (s : S) (rs : List ResultVar) : Option PV := match resVs P s rs with
  | some [p] => some p
  | some ps => some (.tup ps)
  | none => none

theorem ldP_sound {ty : TypeId} {cs : List LV} {off b : Nat} {p : PV} {f : Nat → UL} (hp : ldP P ty cs off = some p) (hb : BlkR g l w f b cs) : ∃ v, (loadVar ty ⟨b, off, none⟩).run P w = .ok v w ∧ Rep g w p v := by
  obtain ⟨hM, cur, e, h4, h5, h6⟩ := hb
  unfold ldP at hp
  split at hp
  · rename_i ha
    split at hp
    · rename_i m hm
      split at hp
      · rename_i hle
        simp only [Option.map_eq_some_iff] at hp
        obtain ⟨ps, hps, rfl⟩ := hp
        have hc : ∀ j, j < m → w.cell? ⟨b, off + j, none⟩ = some (cur.getD (off + j) undef) := fun j hj => by
          have : off + j < cur.size := by omega
          simp [World.cell?, h4, this]
        refine ⟨_, run_load_agg (P := P) ha hm hc, RepAll.agg ?_ ?_⟩
        · refine toPs_rep (l := l) (f := fun j => f (off + j)) hps (by simp; omega) fun j hj hj' => ?_
          simp only [List.getElem_take, List.getElem_drop, List.getElem_map, List.getElem_range]
          exact (h6 (off + j) _).2.2
        · intro v hv
          simp only [List.mem_map, List.mem_range] at hv
          obtain ⟨j, hj, rfl⟩ := hv
          exact (h6 (off + j) (by omega)).2.1
      · cases hp
    · cases hp
  · rename_i ha
    simp only [Option.bind_eq_some_iff] at hp
    obtain ⟨lv, hlv, hp⟩ := hp
    have hlt := (List.getElem?_eq_some_iff.1 hlv).1
    refine ⟨_, run_load_one (P := P) h4 ha (by omega), ?_⟩
    have := (h6 off hlt).2.2
    rw [List.getElem?_eq_getElem hlt] at hlv
    injection hlv with hlv
    rw [hlv] at this
    exact toP_rep hp this
  · cases hp

def resOne (tmps : Array Value) : ResultVar → Sem Value
  | .tmp t => pure (tmps.getD t undef)
  | .cell a t => do loadVar t (← asAddr (tmps.getD a undef))
theorem resV_sound {r : ResultVar} {p : PV} (h : Sim cx s g l a w) (hp : resV P s r = some p) : ∃ v, (resOne a.tmps r).run P w = .ok v w ∧ Rep g w p v := by
  cases r with
  | tmp t =>
    simp only [resV, Option.bind_eq_some_iff] at hp
    obtain ⟨lv, hlv, hp⟩ := hp
    exact ⟨_, rfl, toP_rep hp (h.tm t lv hlv)⟩
  | cell x ty =>
    simp only [resV] at hp
    split at hp
    · rename_i i off hl
      simp only [Option.bind_eq_some_iff] at hp
      obtain ⟨cs, hcs, hp⟩ := hp
      obtain ⟨b, k1, k2⟩ := h.tm x _ hl
      obtain ⟨b', m1, m2, m3⟩ := h.bx i cs hcs
      rw [k1] at m1
      injection m1 with m1
      subst m1
      obtain ⟨v, v1, v2⟩ := ldP_sound hp m3
      exact ⟨v, by simp [resOne, k2, asAddr, v1], v2⟩
    · rename_i m off hl
      simp only [Option.bind_eq_some_iff] at hp
      obtain ⟨cs, hcs, hp⟩ := hp
      have hr := h.tm x _ hl
      obtain ⟨b', m1, m2, hE⟩ := h.ex m cs hcs
      split at hp
      rotate_left
      · cases hp
      rename_i hnm
      rcases hE with m3 | hE
      rotate_left
      · exact (hE.plain (notMM_not hnm)).elim
      replace m1 := m1.plain m3.norow
      obtain ⟨v, v1, v2⟩ := ldP_sound hp m3
      refine ⟨v, ?_, v2⟩
      simp only [resOne]
      generalize a.tmps.getD x undef = vx at hr
      cases hr with
      | xp _ _ b hx =>
        rw [m1] at hx
        injection hx with hx
        subst hx
        simp [asAddr, v1]
    · cases hp
theorem resVs_sound (h : Sim cx s g l a w) : ∀ {rs : List ResultVar} {ps : List PV}, resVs P s rs = some ps → ∃ vs, (rs.mapM (resOne a.tmps)).run P w = .ok vs w ∧ RepAll g w ps vs
  | [], ps, hp => by
    simp only [resVs, Option.some.injEq] at hp
    subst hp
    exact ⟨[], by simp, .nil⟩
  | r :: rs, ps, hp => by
    simp only [resVs] at hp
    split at hp
    · rename_i p qs h1 h2
      injection hp with hp
      subst hp
      obtain ⟨v, v1, v2⟩ := resV_sound h h1
      obtain ⟨vs, w1, w2⟩ := resVs_sound h h2
      exact ⟨v :: vs, by simp [List.mapM_cons, v1, w1], .cons v2 w2⟩
    · cases hp
theorem resP_sound {fn : Func} {p : PV} (h : Sim cx s g l a w) (hp : resP P s fn.results.toList = some p) : ∃ v, (results fn a.tmps).run P w = .ok v w ∧ Rep g w p v := by
  have hres : ∀ vs, (fn.results.toList.mapM (resOne a.tmps)).run P w = .ok vs w → (results fn a.tmps).run P w = .ok (if h : vs.toArray.size = 1 then vs.toArray[0] else .tuple vs.toArray) w := by
    intro vs hv
    have e : results fn a.tmps = (do let vs ← fn.results.mapM (resOne a.tmps); pure (if h : vs.size = 1 then vs[0] else .tuple vs)) := by
      unfold results
      have : (fun (r : ResultVar) => (match r with | .tmp t => (pure (a.tmps.getD t undef) : Sem Value) | .cell x t => (do loadVar t (← asAddr (a.tmps.getD x undef))))) = resOne a.tmps := by
        funext r
        cases r <;> rfl
      rw [← this]
      rfl
    rw [e]
    simp only [Array.mapM_eq_mapM_toList, Sem.run_bind, Sem.run_map, hv, Result.andThen_ok, Sem.run_pure]
  unfold resP at hp
  split at hp
  · rename_i q hq
    injection hp with hp
    subst hp
    obtain ⟨vs, w1, w2⟩ := resVs_sound h hq
    obtain ⟨v, vs', rfl, hv, hn⟩ := w2.inv_cons
    have := hn.inv_nil
    subst this
    exact ⟨v, by rw [hres _ w1]; rfl, hv⟩
  · rename_i ps hps hne
    injection hp with hp
    subst hp
    obtain ⟨vs, w1, w2⟩ := resVs_sound h hne
    refine ⟨.tuple vs.toArray, ?_, .tup _ _ w2.1 w2.2⟩
    rw [hres _ w1, dif_neg]
    intro hl
    have : ps.length = 1 := by rw [w2.1]; simpa using hl
    match ps, this with
    | [q], _ => exact hps q rfl
  · cases hp

/-- The state in which a function begins. -/
def enterS (ps : List PV) (e : Ext) : S := ⟨argT 0 ps, [], e⟩
/-- How a function may end. -/
def endQ (P : Program) (rs : List ResultVar) (R : CRes → Ext → Prop) : PExit → S → Prop
  | .normal, s => ∃ p, resP P s rs = some p ∧ R (.ret p) s.ext
  | .ret, s => (∃ p, resP P s rs = some p ∧ R (.ret p) s.ext) ∨ ∃ t e z es, rs = [.tmp t] ∧ lk s.tmps t = some (.uniq e z es) ∧ R (.own e z es) s.ext
  | .panic p, s => R (.panic p) s.ext
  | .exit _, _ => False

theorem CallC.enter {f : FuncId} {fn : Func} {c : Code} {ps : List PV} {e : Ext} {R : CRes → Ext → Prop} (hf : P.funcs[f]? = some fn) (hb : fn.body = some c) (hn : ps.length ≤ fn.ntmps)
    (h : ∀ cx : Cx, cx.n = fn.ntmps → cx.ds = [] → PW P cx c (enterS ps e) (endQ P fn.results.toList R)) : CallC P f ps e R := by
  intro vs g l w ha he
  refine calls_of_wp hf hb ?_
  have hs : Sim ⟨fn.ntmps, [], g, w, fun b => (l.O b).isSome = true⟩ (enterS ps e) g l { tmps := vs.toArray ++ Array.replicate (fn.ntmps - vs.toArray.size) undef, defers := [] } w := by
    have hl := ha.1
    refine ⟨⟨Mono.refl g w, Nat.le_refl _, fun _ _ _ => ⟨rfl, rfl⟩, rfl, rfl, rfl, he.glb⟩, ?_, rfl, ?_, ?_, he.ex, ?_, he.uo, he.fresh, he.xlt⟩
    · simp
      omega
    · intro t lv ht
      obtain ⟨j, p, rfl, hj, rfl⟩ := lk_argT ht
      have hlt := (List.getElem?_eq_some_iff.1 hj).1
      have hlt' : j < vs.length := by omega
      have := ha.2 j hlt hlt'
      rw [List.getElem?_eq_getElem hlt] at hj
      injection hj with hj
      rw [hj] at this
      have e1 : (vs.toArray ++ Array.replicate (fn.ntmps - vs.toArray.size) undef).getD (0 + j) undef = vs[j] := by
        simp [Array.getD_eq_getD_getElem?, Array.getElem?_append, hlt']
      show Rep g w p _
      rw [e1]
      exact this
    · intro i cs hi
      simp [enterS, lk] at hi
    · intro b o' ho
      exact ⟨he.olt b o' ho, .inr (by show (l.O b).isSome = true; rw [ho]; rfl)⟩
  refine wp_mono (h _ rfl rfl g l _ w hs) ?_
  rintro ex a' w' ⟨pe, s', g', l', hq, er, sm⟩
  have common : Ent s'.ext g' (lx l') w' ∧ Mono g w g' w' ∧ w.heap.size ≤ w'.heap.size ∧ (∀ b, b < w.heap.size → l.O b = none → w'.heap[b]? = w.heap[b]? ∧ g'.M b = g.M b) ∧
      (∀ b o, (lx l').O b = some o → w.heap.size ≤ b ∨ (l.O b).isSome = true) ∧ w'.os = w.os ∧ w'.tape = w.tape ∧ w'.output = w.output := by
    refine ⟨sm.ent, sm.hist.mono, sm.hist.size, fun b hlt ho => sm.hist.frame b hlt (by show ¬ (l.O b).isSome = true; rw [ho]; simp), fun b o' ho => ?_, sm.hist.os, sm.hist.tape, sm.hist.output⟩
    have : ∃ o2, l'.O b = some o2 := by
      simp only [lx] at ho
      split at ho
      · rename_i hn2; exact ⟨_, hn2⟩
      · rename_i hn2; exact ⟨_, hn2⟩
      · cases ho
    obtain ⟨o2, ho2⟩ := this
    exact (sm.own b o2 ho2).2
  have plain : ∀ p, resP P s' fn.results.toList = some p → R (.ret p) s'.ext → a'.defers = [] ∧ ∃ v, (results fn a'.tmps).run P w' = .ok v w' ∧ ∃ res e' g'' l'', R res e' ∧ ResOK g'' l'' (fun b => w.heap.size ≤ b ∨ (l.O b).isSome = true) w' res (.returned v) ∧ Ent e' g'' l'' w' ∧ Mono g w g'' w' ∧
      w.heap.size ≤ w'.heap.size ∧ (∀ b, b < w.heap.size → l.O b = none → w'.heap[b]? = w.heap[b]? ∧ g''.M b = g.M b) ∧ (∀ b o, l''.O b = some o → w.heap.size ≤ b ∨ (l.O b).isSome = true) ∧ w'.os = w.os ∧ w'.tape = w.tape ∧ w'.output = w.output := by
    intro p hp hR
    obtain ⟨v, v1, v2⟩ := resP_sound sm hp
    exact ⟨sm.defers, v, v1, .ret p, s'.ext, g', lx l', hR, v2, common⟩
  cases pe with
  | normal =>
    cases ex <;> first | exact er.elim | skip
    obtain ⟨p, hp, hR⟩ := hq
    exact plain p hp hR
  | ret =>
    cases ex <;> first | exact er.elim | skip
    rcases hq with ⟨p, hp, hR⟩ | ⟨t, te, z, es, hrs, ht, hR⟩
    · exact plain p hp hR
    · have hr := sm.tm t _ ht
      refine ⟨sm.defers, a'.tmps.getD t undef, results_tmp (by rw [← Array.toArray_toList (xs := fn.results), hrs]) _ _ _, .own te z es, s'.ext, g', lx l', hR, ?_, common⟩
      rcases hr with hfull | ⟨b, cap, cur, k1, k2, k3, k4, k5, k6⟩
      · exact .inl hfull
      · have ho := sm.uo _ _ k2
        exact .inr ⟨b, cap, cur, k1, (sm.own b _ ho).2, (sm.own b _ ho).1, by simp [lx, ho], k3, k4, k5, k6⟩
  | exit id => exact hq.elim
  | panic p =>
    cases ex <;> first | exact er.elim | skip
    exact ⟨sm.defers, .panic p, s'.ext, g', lx l', hq, er, common⟩
end
end Go.Pv
