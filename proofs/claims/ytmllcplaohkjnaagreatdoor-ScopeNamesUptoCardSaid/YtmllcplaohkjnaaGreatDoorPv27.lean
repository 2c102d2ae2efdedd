/- Pure values, twenty-seventh part: the evaluator for code and functions. -/
import Derived.Test.YtmllcplaohkjnaaGreatDoorPv26
set_option linter.unusedVariables false
set_option linter.unusedSimpArgs false
set_option linter.unusedSectionVars false
namespace Go.Pv
open Go.RowKit

def loopN (body : S → Option (PExit × S)) : Nat → S → Option (PExit × S)
  | 0, _ => none
  | n + 1, s => match body s with
    | some (.normal, s') => loopN body n s'
    | r => r
def evC (P : Program) (md : Md) (orc : Orc) (n fl : Nat) : Code → S → Option (PExit × S)
  | .skip, s => some (.normal, s)
  | .region _ ops draw, s => evR P md orc n ops.toList draw s
  | .seq a b, s => match evC P md orc n fl a s with
    | some (.normal, s') => evC P md orc n fl b s'
    | r => r
  | .cond (.tmp t) x y, s => match lk s.tmps t with
    | some (.v (.bool true)) => evC P md orc n fl x s
    | some (.v (.bool false)) => evC P md orc n fl y s
    | _ => none
  | .block id c, s => match evC P md orc n fl c s with
    | some (.exit id', s') => if id' = id then some (.normal, s') else some (.exit id', s')
    | r => r
  | .loop c, s => loopN (evC P md orc n fl c) fl s
  | .exit id, s => some (.exit id, s)
  | .ret, s => some (.ret, s)
  | _, _ => none
def codeOK (n : Nat) : Code → Bool
  | .region _ ops _ => dstOK n ops.toList
  | .seq a b => codeOK n a && codeOK n b
  | .cond _ x y => codeOK n x && codeOK n y
  | .block _ c => codeOK n c
  | .loop c => codeOK n c
  | _ => true

section
variable {P : Program} {cx : Cx} {md : Md} {orc : Orc} {fl : Nat}

theorem PW_loopE {α : Type} {c : Code} {s : S} {Q : PExit → S → Prop} (I : α → S) (μ : α → Nat) (x₀ : α) (h₀ : I x₀ = s)
    (round : ∀ x, PW P cx c (I x) (thenQ (fun s' => ∃ y, μ y < μ x ∧ I y = s') Q)) : PW P cx (.loop c) s Q := fun g l a w hs => by
  refine wp_loop_ghost (fun n a w => ∃ x g l, μ x = n ∧ Sim cx (I x) g l a w) (μ x₀) ⟨x₀, g, l, rfl, by rw [h₀]; exact hs⟩ ?_
  rintro n a w ⟨x, g, l, rfl, sm⟩
  refine wp_mono (round x g l a w sm) ?_
  rintro e a' w' ⟨pe, s', g', l', q, er, sm'⟩
  cases pe <;> cases e <;> first | exact er.elim | skip
  · obtain ⟨y, hlt, rfl⟩ := q
    exact ⟨μ y, hlt, y, g', l', rfl, sm'⟩
  · exact ⟨_, s', g', l', q, er, sm'⟩
  · exact ⟨_, s', g', l', q, er, sm'⟩
  · exact ⟨_, s', g', l', q, er, sm'⟩
theorem loopN_sound {c : Code} {body : S → Option (PExit × S)} (hbody : ∀ {s : S} {pe : PExit} {s' : S} {Q : PExit → S → Prop}, body s = some (pe, s') → Q pe s' → PW P cx c s Q) {n : Nat} {s s' : S} {pe : PExit} {Q : PExit → S → Prop}
    (h : loopN body n s = some (pe, s')) (hq : Q pe s') : PW P cx (.loop c) s Q := by
  refine PW_loopE (α := { x : Nat × S // loopN body x.1 x.2 = some (pe, s') }) (fun x => x.1.2) (fun x => x.1.1) ⟨(n, s), h⟩ rfl ?_
  rintro ⟨⟨n, s⟩, h⟩
  cases n with
  | zero => cases h
  | succ n =>
    simp only [loopN] at h
    split at h
    · rename_i s1 h1
      exact hbody h1 ⟨⟨(n, s1), h⟩, Nat.lt_succ_self _, rfl⟩
    · rename_i hne
      refine hbody h ?_
      cases pe with
      | normal => exact absurd h (hne _)
      | _ => exact hq
theorem evC_sound (horc : OrcOK P orc) (hm : P.follows .mixedOrders = true) : ∀ (c : Code) {s s' : S} {pe : PExit} {Q : PExit → S → Prop}, codeOK cx.n c = true → evC P md orc cx.n fl c s = some (pe, s') → Q pe s' → PW P cx c s Q
  | .skip, s, s', pe, Q, _, h, hq => by
    simp only [evC, Option.some.injEq, Prod.mk.injEq] at h
    obtain ⟨rfl, rfl⟩ := h
    exact PW_skip hq
  | .region _ ops draw, s, s', pe, Q, hc, h, hq => evR_sound horc hm hc h hq
  | .seq a b, s, s', pe, Q, hc, h, hq => by
    simp only [codeOK, Bool.and_eq_true] at hc
    simp only [evC] at h
    refine PW_seq ?_
    split at h
    · rename_i s1 h1
      exact evC_sound horc hm a hc.1 h1 (evC_sound horc hm b hc.2 h hq)
    · rename_i hne
      refine evC_sound horc hm a hc.1 h ?_
      cases pe with
      | normal => exact absurd h (hne _)
      | _ => exact hq
  | .cond x a b, s, s', pe, Q, hc, h, hq => by
    simp only [codeOK, Bool.and_eq_true] at hc
    cases x with
    | tmp t =>
      simp only [evC] at h
      split at h
      · rename_i ht
        exact PW_cond ht (fun _ => evC_sound horc hm a hc.1 h hq) (fun e => by cases e)
      · rename_i ht
        exact PW_cond ht (fun e => by cases e) (fun _ => evC_sound horc hm b hc.2 h hq)
      · cases h
    | const _ => simp only [evC] at h; cases h
    | global _ => simp only [evC] at h; cases h
    | func _ => simp only [evC] at h; cases h
  | .block id c, s, s', pe, Q, hc, h, hq => by
    simp only [codeOK] at hc
    simp only [evC] at h
    refine PW_block ?_
    split at h
    · rename_i id' s1 h1
      refine evC_sound horc hm c hc h1 ?_
      simp only [blockQ]
      split at h
      · rename_i e
        simp only [Option.some.injEq, Prod.mk.injEq] at h
        obtain ⟨rfl, rfl⟩ := h
        rw [if_pos e]
        exact hq
      · rename_i e
        simp only [Option.some.injEq, Prod.mk.injEq] at h
        obtain ⟨rfl, rfl⟩ := h
        rw [if_neg e]
        exact hq
    · rename_i hne
      refine evC_sound horc hm c hc h ?_
      cases pe with
      | exit i => exact absurd h (hne _ _)
      | _ => exact hq
  | .loop c, s, s', pe, Q, hc, h, hq => by
    simp only [codeOK] at hc
    simp only [evC] at h
    exact loopN_sound (fun h hq => evC_sound horc hm c hc h hq) h hq
  | .exit id, s, s', pe, Q, _, h, hq => by
    simp only [evC, Option.some.injEq, Prod.mk.injEq] at h
    obtain ⟨rfl, rfl⟩ := h
    exact PW_exit hq
  | .ret, s, s', pe, Q, _, h, hq => by
    simp only [evC, Option.some.injEq, Prod.mk.injEq] at h
    obtain ⟨rfl, rfl⟩ := h
    exact PW_ret hq
  | .rangeFunc _ _ _ _, _, _, _, _, _, h, _ => by simp only [evC] at h; cases h
  | .scope _, _, _, _, _, _, h, _ => by simp only [evC] at h; cases h
  | .label _, _, _, _, _, _, h, _ => by simp only [evC] at h; cases h
  | .goto _, _, _, _, _, _, h, _ => by simp only [evC] at h; cases h
  | .refuse _, _, _, _, _, _, h, _ => by simp only [evC] at h; cases h
end

/-! ## Functions -/
def isU : LV → Bool
  | .uniq _ _ _ => true
  | _ => false
def endV (P : Program) (res : List ResultVar) : PExit → S → Option (CRes × Ext)
  | .panic p, s => some (.panic p, s.ext)
  | .exit _, _ => none
  | .normal, s => match resP P s res with
    | some p => some (.ret p, s.ext)
    | none => none
  | .ret, s => match res with
    | [.tmp t] => match lk s.tmps t with
      | some (.uniq e z es) => some (.own e z es, s.ext)
      | some lv => match toP lv with
        | some p => some (.ret p, s.ext)
        | none => none
      | none => none
    | res => match resP P s res with
      | some p => some (.ret p, s.ext)
      | none => none
theorem endV_sound {P : Program} {res : List ResultVar} {pe : PExit} {s : S} {r : CRes} {e : Ext} (h : endV P res pe s = some (r, e)) : endQ P res (fun r1 e1 => r1 = r ∧ e1 = e) pe s := by
  cases pe with
  | panic p =>
    simp only [endV, Option.some.injEq, Prod.mk.injEq] at h
    obtain ⟨rfl, rfl⟩ := h
    exact ⟨rfl, rfl⟩
  | exit _ => cases h
  | normal =>
    simp only [endV] at h
    split at h
    · rename_i p hp
      simp only [Option.some.injEq, Prod.mk.injEq] at h
      obtain ⟨rfl, rfl⟩ := h
      exact ⟨p, hp, rfl, rfl⟩
    · cases h
  | ret =>
    simp only [endV] at h
    split at h
    · rename_i t
      split at h
      · rename_i e0 z es hl
        simp only [Option.some.injEq, Prod.mk.injEq] at h
        obtain ⟨rfl, rfl⟩ := h
        exact .inr ⟨t, e0, z, es, rfl, hl, rfl, rfl⟩
      · rename_i lv _ hl
        split at h
        · rename_i p hp
          simp only [Option.some.injEq, Prod.mk.injEq] at h
          obtain ⟨rfl, rfl⟩ := h
          exact .inl ⟨p, by simp [resP, resVs, resV, hl, hp], rfl, rfl⟩
        · cases h
      · cases h
    · split at h
      · rename_i p hp
        simp only [Option.some.injEq, Prod.mk.injEq] at h
        obtain ⟨rfl, rfl⟩ := h
        exact .inl ⟨p, hp, rfl, rfl⟩
      · cases h

/-- Deferred calls. -/
abbrev Dfr := FuncId → List PV → Ext → PM → Option (PM × Ext)
def DfrOK (P : Program) (dfr : Dfr) : Prop := ∀ f args e m m' e', dfr f args e m = some (m', e') → isFn P f = true ∧ CallCD P f args e m fun m1 e1 => m1 = m' ∧ e1 = e'

/-- The shapes of bodies. -/
inductive Shape where
  | plain
  | defers (r0 : Code) (mk df : Oper) (t : Nat) (y : Code)
def shape : Code → Shape
  | .seq r0 (.seq (.region _ ⟨[mk, df]⟩ false) y) => match df.op with
    | .defer ⟨.value (.tmp t), ⟨[]⟩, _⟩ => .defers r0 mk df t y
    | _ => .plain
  | _ => .plain
theorem shape_inv {c r0 y : Code} {mk df : Oper} {t : Nat} (h : shape c = .defers r0 mk df t y) : ∃ id ts, c = .seq r0 (.seq (.region id #[mk, df] false) y) ∧ df.op = .defer ⟨.value (.tmp t), #[], ts⟩ := by
  unfold shape at h
  split at h
  · split at h
    · rename_i hop
      simp only [Shape.defers.injEq] at h
      obtain ⟨rfl, rfl, rfl, rfl, rfl⟩ := h
      exact ⟨_, _, rfl, hop⟩
    · cases h
  · cases h
def resD (P : Program) (res : List ResultVar) (s : S) (e : Ext) : Option (CRes × Ext) := match resP P { s with ext := e } res with
  | some q => some (.ret q, e)
  | none => none
def evFn (P : Program) (md : Md) (orc : Orc) (dfr : Dfr) (fl : Nat) (fn : Func) (args : List PV) (e : Ext) : Option (CRes × Ext) := match fn.body with
  | none => none
  | some c => if args.length ≤ fn.ntmps then (match shape c with
    | .plain => match evC P md orc fn.ntmps fl c (enterS args e) with
      | some (pe, s) => endV P fn.results.toList pe s
      | none => none
    | .defers r0 mk df t y => if mk.guard.isNone && df.guard.isNone && df.dst.isNone then (match evC P md orc fn.ntmps fl r0 (enterS args e) with
      | some (.normal, s) => match (act P md.ro fn.ntmps [mk, df] mk).run s with
        | some wr => match lk (s.wrs wr).tmps t with
          | some (.v (.fn (.func fid) first cap)) => match evC P md orc fn.ntmps fl y (s.wrs wr) with
            | some (.panic p, s2) => match dfr fid (first ++ cap) s2.ext (.pan p) with
              | some (.rcv, e') => resD P fn.results.toList s2 e'
              | _ => none
            | some (.exit _, _) => none
            | some (_, s2) => match dfr fid (first ++ cap) s2.ext .ret with
              | some (.ret, e') => resD P fn.results.toList s2 e'
              | _ => none
            | none => none
          | _ => none
        | none => none
      | _ => none) else none) else none
def recShape : Code → Option (Nat × Nat × Code)
  | .seq (.region _ ⟨[o0, o1]⟩ false) y => match o0.op, o1.op, o0.dst, o1.dst with
    | .call ⟨.builtin .recover, ⟨[]⟩, _⟩, .assign (.tmp t), some t0, some t1 => if t = t0 ∧ o0.guard.isNone = true ∧ o1.guard.isNone = true then some (t0, t1, y) else none
    | _, _, _, _ => none
  | _ => none
def evGn (P : Program) (md : Md) (orc : Orc) (fl : Nat) (fn : Func) (args : List PV) (e : Ext) (m : PM) : Option (PM × Ext) := match fn.body with
  | none => none
  | some c => match recShape c with
    | none => none
    | some (t0, t1, y) => if args.length ≤ fn.ntmps ∧ t0 < fn.ntmps ∧ t1 < fn.ntmps then (match m with
      | .rcv => none
      | .ret => match evC P md orc fn.ntmps fl y ⟨put (put (argT 0 args) t0 (.v .nilif)) t1 (.v .nilif), [], e⟩ with
        | some (.normal, s) => if (resP P s fn.results.toList).isSome = true then some (.ret, s.ext) else none
        | some (.ret, s) => if (resP P s fn.results.toList).isSome = true then some (.ret, s.ext) else none
        | _ => none
      | .pan p => match evC P md orc fn.ntmps fl y ⟨put (put (argT 0 args) t0 (.v p)) t1 (.v p), [], e⟩ with
        | some (.normal, s) => if (resP P s fn.results.toList).isSome = true then some (.rcv, s.ext) else none
        | some (.ret, s) => if (resP P s fn.results.toList).isSome = true then some (.rcv, s.ext) else none
        | _ => none) else none

section
variable {P : Program} {md : Md} {orc : Orc} {dfr : Dfr} {fl : Nat} {f : FuncId} {fn : Func} {args : List PV} {e e' : Ext} {r : CRes}

def fnOK (fn : Func) : Bool := match fn.body with
  | some c => codeOK fn.ntmps c
  | none => false

theorem evFn_sound (horc : OrcOK P orc) (hdfr : DfrOK P dfr) (hm : P.follows .mixedOrders = true) (hf : P.funcs[f]? = some fn) (hok : fnOK fn = true) (h : evFn P md orc dfr fl fn args e = some (r, e')) : CallC P f args e fun r1 e1 => r1 = r ∧ e1 = e' := by
  unfold evFn at h
  unfold fnOK at hok
  split at h
  · cases h
  · rename_i c hb
    rw [hb] at hok
    simp only at hok
    split at h
    · rename_i hn
      split at h
      · split at h
        · rename_i pe s he
          refine CallC.enter hf hb hn fun cx hcx hds => ?_
          rw [← hcx] at hok he
          exact evC_sound horc hm c hok he (endV_sound h)
        · cases h
      · rename_i r0 mk df t y hsh
        obtain ⟨id, ts, rfl, hdf⟩ := shape_inv hsh
        simp only [codeOK, Bool.and_eq_true] at hok
        split at h
        · rename_i hg
          simp only [Bool.and_eq_true, Option.isNone_iff_eq_none] at hg
          split at h
          · rename_i s he
            split at h
            · rename_i wr hwr
              split at h
              · rename_i fid first cap hlk
                have hgo : ∀ {m : PM} {m' : PM} {e1 : Ext}, dfr fid (first ++ cap) e1 m = some (m', e') → isFn P fid = true := fun h => (hdfr _ _ _ _ _ _ h).1
                have key : isFn P fid = true ∧ ∀ cx' : Cx, cx'.n = fn.ntmps → PW P cx' y (s.wrs wr) (endD P fn.results.toList (fun r1 e1 => r1 = r ∧ e1 = e') fid (first ++ cap)) := by
                  have hres : ∀ {s2 : S} {e1 : Ext}, resD P fn.results.toList s2 e1 = some (r, e') → ∃ q, resP P { s2 with ext := e1 } fn.results.toList = some q ∧ r = .ret q ∧ e' = e1 := by
                    intro s2 e1 h
                    unfold resD at h
                    split at h
                    · rename_i q hq
                      simp only [Option.some.injEq, Prod.mk.injEq] at h
                      exact ⟨q, hq, h.1.symm, h.2.symm⟩
                    · cases h
                  split at h
                  · rename_i p s2 hy
                    split at h
                    · rename_i e1 hd
                      obtain ⟨q, h1, rfl, rfl⟩ := hres h
                      obtain ⟨k1, k2⟩ := hdfr _ _ _ _ _ _ hd
                      refine ⟨k1, fun cx' hcx' => ?_⟩
                      rw [← hcx'] at hok hy
                      refine evC_sound horc hm y hok.2.2 hy ?_
                      exact fun vs g l w u ha he hu => (k2 vs g l w u ha he hu).mono fun en u' w' ⟨v, m', e2, g', l', k3, ⟨k4, k5⟩, k6⟩ => ⟨v, m', e2, g', l', k3, ⟨k4, q, by rw [k5]; exact h1, rfl, k5⟩, k6⟩
                    · cases h
                  · cases h
                  · rename_i pe s2 hne1 hne2 hy
                    split at h
                    · rename_i e1 hd
                      obtain ⟨q, h1, rfl, rfl⟩ := hres h
                      obtain ⟨k1, k2⟩ := hdfr _ _ _ _ _ _ hd
                      refine ⟨k1, fun cx' hcx' => ?_⟩
                      rw [← hcx'] at hok hy
                      refine evC_sound horc hm y hok.2.2 hy ?_
                      have hend : CallCD P fid (first ++ cap) s2.ext .ret fun m e1' => m = .ret ∧ ∃ q', resP P { s2 with ext := e1' } fn.results.toList = some q' ∧ (CRes.ret q' = .ret q ∧ e1' = e') :=
                        fun vs g l w u ha he hu => (k2 vs g l w u ha he hu).mono fun en u' w' ⟨v, m', e2, g', l', k3, ⟨k4, k5⟩, k6⟩ => ⟨v, m', e2, g', l', k3, ⟨k4, q, by rw [k5]; exact h1, rfl, k5⟩, k6⟩
                      cases pe with
                      | normal => exact hend
                      | ret => exact hend
                      | exit i => exact absurd rfl (hne2 i)
                      | panic p => exact absurd rfl (hne1 p)
                    · cases h
                  · cases h
                refine CallC.enterD md.ro hf hb hn hdf hg.1.1 hg.1.2 hg.2 fun cx hcx hds => ?_
                have he' := he
                rw [← hcx] at he'
                have hok1 := hok.1
                rw [← hcx] at hok1
                refine evC_sound horc hm r0 hok1 he' ⟨rfl, RM.run_wp hwr ⟨fid, first, cap, hlk, key.1, key.2⟩⟩
              · cases h
            · cases h
          · cases h
        · cases h
    · cases h
theorem recShape_inv {c y : Code} {t0 t1 : Nat} (h : recShape c = some (t0, t1, y)) : ∃ id o0 o1 ts, c = .seq (.region id #[o0, o1] false) y ∧ o0.op = .call ⟨.builtin .recover, #[], ts⟩ ∧ o1.op = .assign (.tmp t0) ∧ o0.dst = some t0 ∧ o1.dst = some t1 ∧ o0.guard = none ∧ o1.guard = none := by
  unfold recShape at h
  split at h
  · rename_i id o0 o1 y'
    split at h
    · rename_i ts t a b h0 h1 h2 h3
      split at h
      · rename_i hc
        obtain ⟨rfl, g0, g1⟩ := hc
        simp only [Option.some.injEq, Prod.mk.injEq] at h
        obtain ⟨rfl, rfl, rfl⟩ := h
        exact ⟨id, o0, o1, ts, rfl, h0, h1, h2, h3, by simpa using g0, by simpa using g1⟩
      · cases h
    · cases h
  · cases h
theorem evGn_sound {m m' : PM} (horc : OrcOK P orc) (hm : P.follows .mixedOrders = true) (hf : P.funcs[f]? = some fn) (hok : fnOK fn = true) (h : evGn P md orc fl fn args e m = some (m', e')) : CallCD P f args e m fun m1 e1 => m1 = m' ∧ e1 = e' := by
  unfold evGn at h
  unfold fnOK at hok
  split at h
  · cases h
  · rename_i c hb
    rw [hb] at hok
    simp only at hok
    split at h
    · cases h
    · rename_i t0 t1 y hsh
      obtain ⟨id, o0, o1, ts, rfl, h0, h1, h2, h3, g0, g1⟩ := recShape_inv hsh
      simp only [codeOK, Bool.and_eq_true] at hok
      split at h
      · rename_i hc
        obtain ⟨c1, c2, c3⟩ := hc
        split at h
        · cases h
        · refine CallCD.enter hf hb c1 h0 g0 h2 h1 g1 h3 c2 c3 .nilif .ret (.inl ⟨rfl, rfl, rfl⟩) fun cx hcx hds => ?_
          split at h
          · rename_i s hs
            split at h
            · rename_i hres
              simp only [Option.some.injEq, Prod.mk.injEq] at h
              obtain ⟨rfl, rfl⟩ := h
              rw [← hcx] at hok hs
              exact evC_sound horc hm y hok.2 hs ⟨.inl rfl, Option.isSome_iff_exists.1 hres, rfl, rfl⟩
            · cases h
          · rename_i s hs
            split at h
            · rename_i hres
              simp only [Option.some.injEq, Prod.mk.injEq] at h
              obtain ⟨rfl, rfl⟩ := h
              rw [← hcx] at hok hs
              exact evC_sound horc hm y hok.2 hs ⟨.inr rfl, Option.isSome_iff_exists.1 hres, rfl, rfl⟩
            · cases h
          · cases h
        · rename_i p
          refine CallCD.enter hf hb c1 h0 g0 h2 h1 g1 h3 c2 c3 p .rcv (.inr ⟨rfl, rfl⟩) fun cx hcx hds => ?_
          split at h
          · rename_i s hs
            split at h
            · rename_i hres
              simp only [Option.some.injEq, Prod.mk.injEq] at h
              obtain ⟨rfl, rfl⟩ := h
              rw [← hcx] at hok hs
              exact evC_sound horc hm y hok.2 hs ⟨.inl rfl, Option.isSome_iff_exists.1 hres, rfl, rfl⟩
            · cases h
          · rename_i s hs
            split at h
            · rename_i hres
              simp only [Option.some.injEq, Prod.mk.injEq] at h
              obtain ⟨rfl, rfl⟩ := h
              rw [← hcx] at hok hs
              exact evC_sound horc hm y hok.2 hs ⟨.inr rfl, Option.isSome_iff_exists.1 hres, rfl, rfl⟩
            · cases h
          · cases h
      · cases h
end

/-! ## Programs -/
mutual
def evF (P : Program) (ok : FuncId → Bool) (md : FuncId → Md) (fl : Nat) : Nat → Orc
  | 0, _, _, _ => none
  | d + 1, f, args, e => match ok f with
    | false => none
    | true => match P.funcs[f]? with
      | some fn => evFn P (md f) (evF P ok md fl d) (evG P ok md fl d) fl fn args e
      | none => none
def evG (P : Program) (ok : FuncId → Bool) (md : FuncId → Md) (fl : Nat) : Nat → Dfr
  | 0, _, _, _, _ => none
  | d + 1, f, args, e, m => match ok f with
    | false => none
    | true => match P.funcs[f]? with
      | some fn => evGn P (md f) (evF P ok md fl d) fl fn args e m
      | none => none
end
def okFn (P : Program) (f : FuncId) : Bool := match P.funcs[f]? with
  | some fn => isFn P f && fnOK fn
  | none => false
theorem evF_sound {P : Program} {ok : FuncId → Bool} {md : FuncId → Md} {fl : Nat} (hok : ∀ f, ok f = true → okFn P f = true) (hm : P.follows .mixedOrders = true) : ∀ d, OrcOK P (evF P ok md fl d) ∧ DfrOK P (evG P ok md fl d) := by
  intro d
  induction d with
  | zero => exact ⟨fun f args e r e' h => by simp [evF] at h, fun f args e m m' e' h => by simp [evG] at h⟩
  | succ d ih =>
    refine ⟨fun f args e r e' h => ?_, fun f args e m m' e' h => ?_⟩
    · simp only [evF] at h
      split at h
      · cases h
      · rename_i ho
        split at h
        · rename_i fn hf
          have := hok f ho
          simp only [okFn, hf, Bool.and_eq_true] at this
          exact ⟨this.1, evFn_sound ih.1 ih.2 hm hf this.2 h⟩
        · cases h
    · simp only [evG] at h
      split at h
      · cases h
      · rename_i ho
        split at h
        · rename_i fn hf
          have := hok f ho
          simp only [okFn, hf, Bool.and_eq_true] at this
          exact ⟨this.1, evGn_sound ih.1 hm hf this.2 h⟩
        · cases h
end Go.Pv
