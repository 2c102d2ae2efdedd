/- Pure values, twenty-third part: functions with one deferred call, deferred functions that recover. -/
import Derived.Test.YtmllcplaohkjnaaGreatDoorPv22
import Derived.Recover
set_option linter.unusedVariables false
set_option linter.unusedSimpArgs false
set_option linter.unusedSectionVars false
namespace Go.Pv
open Go.RowKit

/-- What stands behind a call, as its caller sees it. -/
def After (g : Gh) (l : LG) (w : World) (e' : Ext) (g' : Gh) (l' : LG) (w' : World) : Prop :=
  Ent e' g' l' w' ∧ Mono g w g' w' ∧ w.heap.size ≤ w'.heap.size ∧ (∀ b, b < w.heap.size → l.O b = none → w'.heap[b]? = w.heap[b]? ∧ g'.M b = g.M b) ∧
    (∀ b o, l'.O b = some o → w.heap.size ≤ b ∨ (l.O b).isSome = true) ∧ w'.os = w.os ∧ w'.tape = w.tape ∧ w'.output = w.output

/-- How the frame that defers goes on. -/
inductive PM where
  | ret
  | pan (p : PV)
  | rcv
def PMOK (g : Gh) (w : World) : PM → FrameMode → Prop
  | .ret, u => u = .returning
  | .pan p, u => ∃ v, u = .panicking [{ v, recovered := false }] ∧ Rep g w p v
  | .rcv, u => ∃ v, u = .panicking [{ v, recovered := true }]

/-- The contract of a deferred function. -/
def CallCD (P : Program) (f : FuncId) (args : List PV) (e : Ext) (m : PM) (R : PM → Ext → Prop) : Prop :=
  ∀ vs g l w u, RepAll g w args vs → Ent e g l w → PMOK g w m u → CallsD P f vs.toArray u w fun en u' w' => ∃ v m' e' g' l', en = .returned v ∧ R m' e' ∧ PMOK g' w' m' u' ∧ After g l w e' g' l' w'

section
variable {P : Program} {cx : Cx} {s t : S} {g : Gh} {l : LG} {a : Act} {w : World}

theorem Sim.after {n : Nat} {ds : List Deferred} {s' : S} {g' : Gh} {l' : LG} {a' : Act} {w' : World} (sm : Sim ⟨n, ds, g, w, fun b => (l.O b).isSome = true⟩ s' g' l' a' w') : After g l w s'.ext g' (lx l') w' := by
  refine ⟨sm.ent, sm.hist.mono, sm.hist.size, fun b hlt ho => sm.hist.frame b hlt (by show ¬ (l.O b).isSome = true; rw [ho]; simp), fun b o' ho => ?_, sm.hist.os, sm.hist.tape, sm.hist.output⟩
  have : ∃ o2, l'.O b = some o2 := by
    simp only [lx] at ho
    split at ho
    · rename_i hn2; exact ⟨_, hn2⟩
    · rename_i hn2; exact ⟨_, hn2⟩
    · cases ho
  obtain ⟨o2, ho2⟩ := this
  exact (sm.own b o2 ho2).2

theorem Sim.enter {n : Nat} {ps : List PV} {e : Ext} {vs : List Value} (ha : RepAll g w ps vs) (he : Ent e g l w) (hn : ps.length ≤ n) :
    Sim ⟨n, [], g, w, fun b => (l.O b).isSome = true⟩ (enterS ps e) g l { tmps := vs.toArray ++ Array.replicate (n - vs.toArray.size) undef, defers := [] } w := by
  have hl := ha.1
  refine ⟨⟨Mono.refl g w, Nat.le_refl _, fun _ _ _ => ⟨rfl, rfl⟩, rfl, rfl, rfl, he.glb⟩, ?_, rfl, ?_, ?_, he.ex, ?_, he.uo, he.fresh, he.xlt⟩
  · simp
    omega
  · intro t lv ht
    obtain ⟨j, p, rfl, hj, rfl⟩ := lk_argT ht
    have hlt := (List.getElem?_eq_some_iff.1 hj).1
    have hlt' : j < vs.length := by omega
    have := ha.2 j hlt hlt'
    rw [List.getElem?_eq_getElem hlt] at hj
    injection hj with hj
    rw [hj] at this
    have e1 : (vs.toArray ++ Array.replicate (n - vs.toArray.size) undef).getD (0 + j) undef = vs[j] := by
      simp [Array.getD_eq_getD_getElem?, Array.getElem?_append, hlt']
    show Rep g w p _
    rw [e1]
    exact this
  · intro i cs hi
    simp [enterS, lk] at hi
  · intro b o' ho
    exact ⟨he.olt b o' ho, .inr (by show (l.O b).isSome = true; rw [ho]; rfl)⟩

theorem Sim.defer {ds : List Deferred} (h : Sim cx s g l a w) : Sim { cx with ds := ds } s g l { a with defers := ds } w where
  hist := ⟨h.hist.mono, h.hist.size, h.hist.frame, h.hist.os, h.hist.tape, h.hist.output, h.hist.glb⟩
  size := h.size
  defers := rfl
  tm := h.tm
  bx := h.bx
  ex := h.ex
  own := h.own
  uo := h.uo
  fresh := h.fresh
  xlt := h.xlt

/-- The history may be begun anew, and put behind the old one again. -/
theorem Sim.anew {ds : List Deferred} (h : Sim cx s g l a w) (hd : a.defers = ds) : Sim ⟨cx.n, ds, g, w, fun b => (l.O b).isSome = true⟩ s g l a w where
  hist := ⟨Mono.refl g w, Nat.le_refl _, fun _ _ _ => ⟨rfl, rfl⟩, rfl, rfl, rfl, h.hist.glb⟩
  size := h.size
  defers := hd
  tm := h.tm
  bx := h.bx
  ex := h.ex
  own := fun b o ho => ⟨(h.own b o ho).1, .inr (by show (l.O b).isSome = true; rw [ho]; rfl)⟩
  uo := h.uo
  fresh := h.fresh
  xlt := h.xlt
theorem Sim.rebase {n : Nat} {ds : List Deferred} {s' : S} {g' : Gh} {l' : LG} {a' : Act} {w' : World} (h : Sim cx s g l a w) (h' : Sim ⟨n, ds, g, w, fun b => (l.O b).isSome = true⟩ s' g' l' a' w') :
    Sim ⟨n, ds, cx.g0, cx.w0, cx.own0⟩ s' g' l' a' w' where
  hist := ⟨h.hist.mono.trans h'.hist.mono, Nat.le_trans h.hist.size h'.hist.size, fun b hlt ho => by
    obtain ⟨k1, k2⟩ := h.hist.frame b hlt ho
    have hn : ¬ (l.O b).isSome = true := fun hs => by
      obtain ⟨o, ho'⟩ := Option.isSome_iff_exists.1 hs
      have hlt' : b < cx.w0.heap.size := hlt
      rcases (h.own b o ho').2 with hc | hc
      · omega
      · exact ho hc
    obtain ⟨k3, k4⟩ := h'.hist.frame b (Nat.lt_of_lt_of_le hlt h.hist.size) hn
    exact ⟨k3.trans k1, k4.trans k2⟩, h'.hist.os.trans h.hist.os, h'.hist.tape.trans h.hist.tape, h'.hist.output.trans h.hist.output, h'.hist.glb⟩
  size := h'.size
  defers := h'.defers
  tm := h'.tm
  bx := h'.bx
  ex := h'.ex
  own := fun b o ho => by
    obtain ⟨k1, k2⟩ := h'.own b o ho
    refine ⟨k1, ?_⟩
    rcases k2 with hc | hc
    · exact .inl (Nat.le_trans h.hist.size hc)
    · obtain ⟨o', ho'⟩ := Option.isSome_iff_exists.1 hc
      exact (h.own b o' ho').2
  uo := h'.uo
  fresh := h'.fresh
  xlt := h'.xlt

/-- How a function with one deferred call may end. -/
def endD (P : Program) (rs : List ResultVar) (R : CRes → Ext → Prop) (fid : FuncId) (dargs : List PV) : PExit → S → Prop
  | .exit _, _ => False
  | .panic p, s => CallCD P fid dargs s.ext (.pan p) fun m e' => m = .rcv ∧ ∃ q, resP P { s with ext := e' } rs = some q ∧ R (.ret q) e'
  | _, s => CallCD P fid dargs s.ext .ret fun m e' => m = .ret ∧ ∃ q, resP P { s with ext := e' } rs = some q ∧ R (.ret q) e'

theorem CallC.enterD {f : FuncId} {fn : Func} {r0 y : Code} {id : Nat} {mk df : Oper} {t : Nat} {ts : Array TypeId} {ps : List PV} {e : Ext} {R : CRes → Ext → Prop} (ro : TypeId → Option Bool) (hf : P.funcs[f]? = some fn)
    (hb : fn.body = some (.seq r0 (.seq (.region id #[mk, df] false) y))) (hn : ps.length ≤ fn.ntmps) (hdf : df.op = .defer ⟨.value (.tmp t), #[], ts⟩) (hgm : mk.guard = none) (hgd : df.guard = none) (hdd : df.dst = none)
    (h : ∀ cx : Cx, cx.n = fn.ntmps → cx.ds = [] → PW P cx r0 (enterS ps e) fun pe s => pe = .normal ∧ (act P ro fn.ntmps [mk, df] mk).wp s fun wr => ∃ fid first cap, lk (s.wrs wr).tmps t = some (.v (.fn (.func fid) first cap)) ∧ isFn P fid = true ∧
      ∀ cx' : Cx, cx'.n = fn.ntmps → PW P cx' y (s.wrs wr) (endD P fn.results.toList R fid (first ++ cap))) : CallC P f ps e R := by
  intro vs g l w ha he
  refine calls_of_wp_defers hf hb ?_
  have hs := Sim.enter (n := fn.ntmps) ha he hn
  refine wp_seq (wp_mono (h _ rfl rfl g l _ w hs) ?_)
  rintro ex a1 w1 ⟨pe, s1, g1, l1, ⟨rfl, hw⟩, er, sm1⟩
  cases ex <;> first | exact er.elim | skip
  refine wp_seq ?_
  refine wp_region_lit (l := [mk, df]) ?_
  refine wpList_plain hgm fun K hK => ?_
  refine upon_mono ?_ (act_sound sm1 hw _)
  rintro a2 w2 ⟨wr, g2, l2, ⟨fid, first, cap, hlk, hfn, hY⟩, sm2⟩
  refine hK _ _ ?_
  refine wpList_plain hgd fun K hK => ?_
  have hv := sm2.tm t _ hlk
  have hex : ∀ fv cv, a2.eval (.tmp t) = .func (.func fid) fv cv → (execOp a2.eval df).run P w2 = .ok (.defer { target := .fn (.func fid) cv, args := fv ++ #[] }) w2 := by
    intro fv cv hf'
    simp only [execOp, hdf, resolve, hf', Deferred.ofValue, Sem.run_bind, Sem.run_pure, Result.andThen_ok, List.map_toArray, List.map_nil]
  have hv' : Rep g2 w2 (.fn (.func fid) first cap) (a2.eval (.tmp t)) := hv
  generalize a2.eval (.tmp t) = vf at hv' hex
  cases hv' with
  | fn _ _ _ fv cv l1' l2' r3 r4 =>
    unfold Oper.wp
    rw [hex _ _ rfl, Oper.upon_defer, hdd]
    refine hK _ _ ?_
    refine wpList_nil ?_
    have hd0 : a2.defers = [] := sm2.defers
    rw [hd0]
    have sm3 := sm2.defer (ds := [{ target := .fn (.func fid) cv.toArray, args := fv.toArray ++ #[] }])
    show (Code.wp P y _ _ _)
    refine wp_mono (hY _ rfl g2 l2 _ w2 (sm3.anew rfl)) ?_
    rintro ex a4 w4 ⟨pe, s4, g4, l4, hq, er, sm4⟩
    have hd4 : a4.defers = [{ target := .fn (.func fid) cv.toArray, args := fv.toArray ++ #[] }] := sm4.defers
    have hargs : (fv.toArray ++ #[]) ++ cv.toArray = (fv ++ cv).toArray := by apply Array.ext'; simp
    have hinv : (invoke (.fn (.func fid) cv.toArray) (fv.toArray ++ #[])).run P w4 = .ok (.enter fid (fv ++ cv).toArray) w4 := by
      simp only [invoke, hargs, run_callFunc hfn]
    have hall : RepAll g4 w4 (first ++ cap) (fv ++ cv) := (RepAll.app ⟨l1', r3⟩ ⟨l2', r4⟩).mono sm4.hist.mono
    have fin : ∀ {e' : Ext} {g5 : Gh} {l5 : LG} {w5 : World} {q : PV}, After g4 (lx l4) w4 e' g5 l5 w5 → resP P { s4 with ext := e' } fn.results.toList = some q → R (.ret q) e' →
        ∃ v, (results fn a4.tmps).run P w5 = .ok v w5 ∧ ∃ res e' g' l', R res e' ∧ ResOK g' l' (fun b => w.heap.size ≤ b ∨ (l.O b).isSome = true) w5 res (.returned v) ∧ After g l w e' g' l' w5 := by
      intro e' g5 l5 w5 q haf hq hR
      obtain ⟨h1, h2, h3, h4, h5, h6, h7, h8⟩ := haf
      have sm5 := sm4.back h1 h2 h3 h4 h5 h6 h7 h8
      have sm6 := sm2.rebase sm5
      obtain ⟨v, v1, v2⟩ := resP_sound sm6 hq
      exact ⟨v, v1, .ret q, e', g5, _, hR, v2, sm6.after⟩
    have norm : CallCD P fid (first ++ cap) s4.ext .ret (fun m e' => m = .ret ∧ ∃ q, resP P { s4 with ext := e' } fn.results.toList = some q ∧ R (.ret q) e') → Leaves P fn a4.tmps (fun en w' => ∃ res e' g' l', R res e' ∧ ResOK g' l' (fun b => w.heap.size ≤ b ∨ (l.O b).isSome = true) w' res en ∧ After g l w e' g' l' w') a4.defers .returning w4 := by
      intro hC
      rw [hd4]
      refine leaves_cons (by simp) hinv ((hC _ g4 (lx l4) w4 .returning hall sm4.ent rfl).mono ?_)
      rintro en u' w5 ⟨v, m', e', g5, l5, rfl, ⟨rfl, q, hq, hR⟩, hpm, haf⟩
      have hu : u' = .returning := hpm
      subst hu
      exact fin haf hq hR
    cases pe with
    | normal =>
      cases ex <;> first | exact er.elim | skip
      exact norm hq
    | ret =>
      cases ex <;> first | exact er.elim | skip
      exact norm hq
    | exit _ => exact hq.elim
    | panic p =>
      cases ex <;> first | exact er.elim | skip
      obtain ⟨v, rfl, hv⟩ := er
      show Leaves P fn a4.tmps _ a4.defers _ w4
      rw [hd4]
      refine leaves_cons (by simp) hinv ((hq _ g4 (lx l4) w4 _ hall sm4.ent ⟨v, rfl, hv⟩).mono ?_)
      rintro en u' w5 ⟨v, m', e', g5, l5, rfl, ⟨rfl, q, hq, hR⟩, ⟨v', hu⟩, haf⟩
      subst hu
      exact fin haf hq hR

/-- Several pieces of code, one after the other. -/
def seqs : List Code → Code → Code
  | [], c => c
  | x :: r, c => .seq x (seqs r c)
def PWs (P : Program) (cx : Cx) : List Code → S → (S → Prop) → Prop
  | [], s, K => K s
  | x :: r, s, K => PW P cx x s fun pe s' => pe = .normal ∧ PWs P cx r s' K
theorem wp_pre {rest : Code} {Qc : Exit → Act → World → Prop} {cx : Cx} {K : S → Prop} : ∀ {xs : List Code} {s : S}, PWs P cx xs s K → (∀ s' g l a w, K s' → Sim cx s' g l a w → rest.wp P Qc a w) → ∀ g l a w, Sim cx s g l a w → (seqs xs rest).wp P Qc a w
  | [], s, h, hr => fun g l a w hs => hr s g l a w h hs
  | x :: r, s, h, hr => fun g l a w hs => by
    refine wp_seq (wp_mono (h g l a w hs) ?_)
    rintro ex a1 w1 ⟨pe, s1, g1, l1, ⟨rfl, hw⟩, er, sm1⟩
    cases ex <;> first | exact er.elim | skip
    exact wp_pre hw hr g1 l1 a1 w1 sm1
theorem CallC.enterDs {f : FuncId} {fn : Func} {r0 : List Code} {y : Code} {id : Nat} {mk df : Oper} {t : Nat} {ts : Array TypeId} {ps : List PV} {e : Ext} {R : CRes → Ext → Prop} (ro : TypeId → Option Bool) (hf : P.funcs[f]? = some fn)
    (hb : fn.body = some (seqs r0 (.seq (.region id #[mk, df] false) y))) (hn : ps.length ≤ fn.ntmps) (hdf : df.op = .defer ⟨.value (.tmp t), #[], ts⟩) (hgm : mk.guard = none) (hgd : df.guard = none) (hdd : df.dst = none)
    (h : ∀ cx : Cx, cx.n = fn.ntmps → cx.ds = [] → PWs P cx r0 (enterS ps e) fun s => (act P ro fn.ntmps [mk, df] mk).wp s fun wr => ∃ fid first cap, lk (s.wrs wr).tmps t = some (.v (.fn (.func fid) first cap)) ∧ isFn P fid = true ∧
      ∀ cx' : Cx, cx'.n = fn.ntmps → PW P cx' y (s.wrs wr) (endD P fn.results.toList R fid (first ++ cap))) : CallC P f ps e R := by
  intro vs g l w ha he
  refine calls_of_wp_defers hf hb ?_
  have hs := Sim.enter (n := fn.ntmps) ha he hn
  refine wp_pre (h _ rfl rfl) (fun s1 g1 l1 a1 w1 hw sm1 => ?_) g l _ w hs
  refine wp_seq ?_
  refine wp_region_lit (l := [mk, df]) ?_
  refine wpList_plain hgm fun K hK => ?_
  refine upon_mono ?_ (act_sound sm1 hw _)
  rintro a2 w2 ⟨wr, g2, l2, ⟨fid, first, cap, hlk, hfn, hY⟩, sm2⟩
  refine hK _ _ ?_
  refine wpList_plain hgd fun K hK => ?_
  have hv := sm2.tm t _ hlk
  have hex : ∀ fv cv, a2.eval (.tmp t) = .func (.func fid) fv cv → (execOp a2.eval df).run P w2 = .ok (.defer { target := .fn (.func fid) cv, args := fv ++ #[] }) w2 := by
    intro fv cv hf'
    simp only [execOp, hdf, resolve, hf', Deferred.ofValue, Sem.run_bind, Sem.run_pure, Result.andThen_ok, List.map_toArray, List.map_nil]
  have hv' : Rep g2 w2 (.fn (.func fid) first cap) (a2.eval (.tmp t)) := hv
  generalize a2.eval (.tmp t) = vf at hv' hex
  cases hv' with
  | fn _ _ _ fv cv l1' l2' r3 r4 =>
    unfold Oper.wp
    rw [hex _ _ rfl, Oper.upon_defer, hdd]
    refine hK _ _ ?_
    refine wpList_nil ?_
    have hd0 : a2.defers = [] := sm2.defers
    rw [hd0]
    have sm3 := sm2.defer (ds := [{ target := .fn (.func fid) cv.toArray, args := fv.toArray ++ #[] }])
    show (Code.wp P y _ _ _)
    refine wp_mono (hY _ rfl g2 l2 _ w2 (sm3.anew rfl)) ?_
    rintro ex a4 w4 ⟨pe, s4, g4, l4, hq, er, sm4⟩
    have hd4 : a4.defers = [{ target := .fn (.func fid) cv.toArray, args := fv.toArray ++ #[] }] := sm4.defers
    have hargs : (fv.toArray ++ #[]) ++ cv.toArray = (fv ++ cv).toArray := by apply Array.ext'; simp
    have hinv : (invoke (.fn (.func fid) cv.toArray) (fv.toArray ++ #[])).run P w4 = .ok (.enter fid (fv ++ cv).toArray) w4 := by
      simp only [invoke, hargs, run_callFunc hfn]
    have hall : RepAll g4 w4 (first ++ cap) (fv ++ cv) := (RepAll.app ⟨l1', r3⟩ ⟨l2', r4⟩).mono sm4.hist.mono
    have fin : ∀ {e' : Ext} {g5 : Gh} {l5 : LG} {w5 : World} {q : PV}, After g4 (lx l4) w4 e' g5 l5 w5 → resP P { s4 with ext := e' } fn.results.toList = some q → R (.ret q) e' →
        ∃ v, (results fn a4.tmps).run P w5 = .ok v w5 ∧ ∃ res e' g' l', R res e' ∧ ResOK g' l' (fun b => w.heap.size ≤ b ∨ (l.O b).isSome = true) w5 res (.returned v) ∧ After g l w e' g' l' w5 := by
      intro e' g5 l5 w5 q haf hq hR
      obtain ⟨h1, h2, h3, h4, h5, h6, h7, h8⟩ := haf
      have sm5 := sm4.back h1 h2 h3 h4 h5 h6 h7 h8
      have sm6 := sm2.rebase sm5
      obtain ⟨v, v1, v2⟩ := resP_sound sm6 hq
      exact ⟨v, v1, .ret q, e', g5, _, hR, v2, sm6.after⟩
    have norm : CallCD P fid (first ++ cap) s4.ext .ret (fun m e' => m = .ret ∧ ∃ q, resP P { s4 with ext := e' } fn.results.toList = some q ∧ R (.ret q) e') → Leaves P fn a4.tmps (fun en w' => ∃ res e' g' l', R res e' ∧ ResOK g' l' (fun b => w.heap.size ≤ b ∨ (l.O b).isSome = true) w' res en ∧ After g l w e' g' l' w') a4.defers .returning w4 := by
      intro hC
      rw [hd4]
      refine leaves_cons (by simp) hinv ((hC _ g4 (lx l4) w4 .returning hall sm4.ent rfl).mono ?_)
      rintro en u' w5 ⟨v, m', e', g5, l5, rfl, ⟨rfl, q, hq, hR⟩, hpm, haf⟩
      have hu : u' = .returning := hpm
      subst hu
      exact fin haf hq hR
    cases pe with
    | normal =>
      cases ex <;> first | exact er.elim | skip
      exact norm hq
    | ret =>
      cases ex <;> first | exact er.elim | skip
      exact norm hq
    | exit _ => exact hq.elim
    | panic p =>
      cases ex <;> first | exact er.elim | skip
      obtain ⟨v, rfl, hv⟩ := er
      show Leaves P fn a4.tmps _ a4.defers _ w4
      rw [hd4]
      refine leaves_cons (by simp) hinv ((hq _ g4 (lx l4) w4 _ hall sm4.ent ⟨v, rfl, hv⟩).mono ?_)
      rintro en u' w5 ⟨v, m', e', g5, l5, rfl, ⟨rfl, q, hq, hR⟩, ⟨v', hu⟩, haf⟩
      subst hu
      exact fin haf hq hR

/-- A deferred function that recovers first. -/
theorem CallCD.enter {f : FuncId} {fn : Func} {id : Nat} {o0 o1 : Oper} {y : Code} {t0 t1 : Nat} {ts : Array TypeId} {ps : List PV} {e : Ext} {m : PM} {R : PM → Ext → Prop} (hf : P.funcs[f]? = some fn)
    (hb : fn.body = some (.seq (.region id #[o0, o1] false) y)) (hn : ps.length ≤ fn.ntmps) (h0 : o0.op = .call ⟨.builtin .recover, #[], ts⟩) (hg0 : o0.guard = none) (hd0 : o0.dst = some t0) (h1 : o1.op = .assign (.tmp t0)) (hg1 : o1.guard = none) (hd1 : o1.dst = some t1)
    (hn0 : t0 < fn.ntmps) (hn1 : t1 < fn.ntmps) (p : PV) (m' : PM) (hm : (m = .ret ∧ p = .nilif ∧ m' = .ret) ∨ (m = .pan p ∧ m' = .rcv))
    (h : ∀ cx : Cx, cx.n = fn.ntmps → cx.ds = [] → PW P cx y ⟨put (put (argT 0 ps) t0 (.v p)) t1 (.v p), [], e⟩ fun pe s => (pe = .normal ∨ pe = .ret) ∧ (∃ q, resP P s fn.results.toList = some q) ∧ R m' s.ext) : CallCD P f ps e m R := by
  intro vs g l w u ha he hu
  refine callsD_of_wpS hf hb fun c₀ cs hc₀ => ?_
  have hs := Sim.enter (n := fn.ntmps) ha he hn
  obtain ⟨v, u', hv, hpm, hrec⟩ : ∃ v u', Rep g w p v ∧ (∀ g' w', PMOK g' w' m' u') ∧ ((recoverD (c₀ :: cs) = none ∧ v = .nilIface ∧ u' = u) ∨ recoverD (c₀ :: cs) = some (v, { c₀ with mode := u' } :: cs)) := by
    rcases hm with ⟨rfl, rfl, rfl⟩ | ⟨rfl, rfl⟩
    · have hu' : u = .returning := hu
      subst hu'
      exact ⟨.nilIface, .returning, .nilif, fun _ _ => rfl, .inl ⟨by simp [recoverD, hc₀], rfl, rfl⟩⟩
    · obtain ⟨v, rfl, hv⟩ := hu
      exact ⟨v, .panicking [{ v, recovered := true }], hv, fun _ _ => ⟨v, rfl⟩, .inr (by simp [recoverD, hc₀])⟩
  have hcs : ({ c₀ with mode := u } : Frame) = c₀ := by rw [← hc₀]
  refine wpS_seq (wpS_region ?_)
  have hr0 : ∀ (a : Act) (w : World), (execOp a.eval o0).run P w = .ok .recover w := fun a w => by simp [execOp, h0, resolve, invoke, builtin]
  have hr1 : ∀ (a : Act) (w : World), (execOp a.eval o1).run P w = .ok (.value (a.eval (.tmp t0))) w := fun a w => by simp [execOp, h1]
  have s1 := hs.set (d := t0) (lv := .v p) (v := v) hn0 hv
  have ev0 : (Act.put { tmps := vs.toArray ++ Array.replicate (fn.ntmps - vs.toArray.size) undef, defers := [] } (some t0) v).eval (.tmp t0) = v := by
    have := s1.size
    show (Act.put _ (some t0) v).tmps.getD t0 undef = v
    rw [eval_put _ t0 t0 v (by rw [hs.size]; exact hn0)]
    simp
  have s2 := s1.set (d := t1) (lv := .v p) (v := v) hn1 hv
  have fin : y.wpS P (bodyPostS P fn c₀ cs fun en u' w' => ∃ v m' e' g' l', en = .returned v ∧ R m' e' ∧ PMOK g' w' m' u' ∧ After g l w e' g' l' w')
      ((Act.put { tmps := vs.toArray ++ Array.replicate (fn.ntmps - vs.toArray.size) undef, defers := [] } (some t0) v).put (some t1) v) ({ c₀ with mode := u' } :: cs) w := by
    refine wpS_of_wp (wp_mono (h _ rfl rfl g l _ w s2) ?_)
    rintro ex a' w' ⟨pe, s', g', l', ⟨hpe, ⟨q, hq⟩, hR⟩, er, sm⟩
    obtain ⟨v', v1, v2⟩ := resP_sound sm hq
    have key : a'.defers = [] ∧ ∃ u'', ({ c₀ with mode := u' } :: cs : List Frame) = { c₀ with mode := u'' } :: cs ∧ ∃ v, (results fn a'.tmps).run P w' = .ok v w' ∧ ∃ v0 m' e' g' l', (Ending.returned v) = .returned v0 ∧ R m' e' ∧ PMOK g' w' m' u'' ∧ After g l w e' g' l' w' :=
      ⟨sm.defers, u', rfl, v', v1, v', m', s'.ext, g', lx l', rfl, hR, hpm _ _, sm.after⟩
    rcases hpe with rfl | rfl
    · cases ex <;> first | exact er.elim | exact key
    · cases ex <;> first | exact er.elim | exact key
  have hw0 : Region.wanted o0 = fun _ => true := by funext y; simp [Region.wanted, hg0]
  have hw1 : Region.wanted o1 = fun _ => true := by funext y; simp [Region.wanted, hg1]
  have hrange : List.range (#[o0, o1] : Array Oper).size = [0, 1] := rfl
  rw [hrange]
  have e0 : (#[o0, o1] : Array Oper)[0]? = some o0 := rfl
  have e1 : (#[o0, o1] : Array Oper)[1]? = some o1 := rfl
  rcases hrec with ⟨hrc, rfl, rfl⟩ | hrc
  · rw [hcs] at fin
    simp only [wpOpsS, e0, e1, hw0, hw1, if_true, hr0, hr1, hrc, Oper.upon_value, hd0, hd1, Exit.thenS]
    rw [ev0]
    exact fin
  · simp only [wpOpsS, e0, e1, hw0, hw1, if_true, hr0, hr1, hrc, Oper.upon_value, hd0, hd1, Exit.thenS]
    rw [ev0]
    exact fin
end
end Go.Pv
