/- Pure values, twenty-first part: drawn regions are reckoned in the order of the text. -/
import Derived.Test.YtmllcplaohkjnaaGreatDoorPv20
set_option linter.unusedVariables false
set_option linter.unusedSimpArgs false
set_option linter.unusedSectionVars false
namespace Go.Pv
open Go.RowKit

/-! ## Writes with and without forgetting -/
def isXW : Wr → Bool
  | .ext _ _ _ => true
  | _ => false
def extW : Ext → List Wr → Ext
  | e, [] => e
  | e, .ext n off vs :: r => extW (match lk e n with | some cs => put e n (splice cs off vs) | none => e) r
  | e, _ :: r => extW e r
theorem extW_noX : ∀ {r : List Wr} {e : Ext}, r.any isXW = false → extW e r = e
  | [], _, _ => rfl
  | x :: r, e, h => by
    simp only [List.any_cons, Bool.or_eq_false_iff] at h
    cases x with
    | ext _ _ _ => cases h.1
    | _ => simp only [extW]; exact extW_noX (r := r) h.2
theorem plain_noX : ∀ {r : List Wr}, r.any isXW = false → r.filter plainW = r
  | [], _ => rfl
  | x :: r, h => by
    simp only [List.any_cons, Bool.or_eq_false_iff] at h
    have := plain_noX h.2
    cases x with
    | ext _ _ _ => cases h.1
    | _ => rw [List.filter_cons_of_pos rfl, this]
theorem wqs_plain : ∀ {r : List Wr} {s : S}, s.wqs (r.filter plainW) = s.wqs r
  | [], _ => rfl
  | x :: r, s => by
    cases x with
    | ext n off vs => simp only [List.filter_cons, plainW, Bool.false_eq_true, if_false, S.wqs, S.wq]; exact wqs_plain
    | tmp _ _ => simp only [List.filter_cons, plainW, if_true, S.wqs]; exact wqs_plain
    | newbox _ _ => simp only [List.filter_cons, plainW, if_true, S.wqs]; exact wqs_plain
    | cells _ _ _ => simp only [List.filter_cons, plainW, if_true, S.wqs]; exact wqs_plain
theorem wqs_get_congr {s t : S} {l : Loc} (h : s.get l = t.get l) (L : List Wr) : (s.wqs L).get l = (t.wqs L).get l := by rw [wqs_get, wqs_get, h]
theorem wr_ext (s : S) (x : Wr) : (s.wr x).ext = extW s.ext [x] := by
  cases x with
  | tmp _ _ => rfl
  | newbox _ _ => rfl
  | cells i off vs => simp only [S.wr, extW]; split <;> rfl
  | ext n off vs => simp only [S.wr, extW]; cases lk s.ext n <;> rfl
theorem extW_cons (e : Ext) (x : Wr) (r : List Wr) : extW e (x :: r) = extW (extW e [x]) r := by cases x <;> rfl
theorem wrs_ext : ∀ (r : List Wr) (s : S), (s.wrs r).ext = extW s.ext r
  | [], _ => rfl
  | x :: r, s => by rw [extW_cons, ← wr_ext]; exact wrs_ext r _
theorem wr_get {s t : S} {x : Wr} (hx : newW x = none) (h : ∀ l, isX l = false → s.get l = t.get l) : ∀ l, isX l = false → (s.wr x).get l = (t.wq x).get l := fun l hl => by
  have hb : ∀ i, lk s.boxes i = lk t.boxes i := fun i => get_b (h (.b i) rfl)
  cases x with
  | tmp u v =>
    cases l with
    | t k => have := get_t (h (.t k) rfl); simp [S.wr, S.wq, S.get, lk_put, this]
    | b k => have := hb k; simp [S.wr, S.wq, S.get, this]
    | x k => cases hl
  | newbox _ _ => cases hx
  | cells i off vs =>
    simp only [S.wr, S.wq, hb i]
    cases hi : lk t.boxes i with
    | none => exact h l hl
    | some cs =>
      cases l with
      | t k => exact h (.t k) rfl
      | b k => simp [S.get, lk_put, hb k]
      | x k => cases hl
  | ext n off vs =>
    have : (s.wr (.ext n off vs)).get l = s.get l := by
      cases l with
      | t k => simp only [S.wr]; split <;> rfl
      | b k => simp only [S.wr]; split <;> rfl
      | x k => cases hl
    rw [this]
    exact h l hl
theorem wrs_noNew : ∀ {r : List Wr} {s t : S}, (∀ x ∈ r, newW x = none) → (∀ l, isX l = false → s.get l = t.get l) → ∀ l, isX l = false → (s.wrs r).get l = (t.wqs r).get l
  | [], _, _, _, h => h
  | x :: r, s, t, hn, h => wrs_noNew (r := r) (fun y hy => hn y (List.mem_cons_of_mem _ hy)) (wr_get (hn x (by simp)) h)
theorem newFirst_rest {x : Wr} {r : List Wr} (hx : plainW x = true) (h : newFirst ((x :: r).filter plainW) = true) : ∀ y ∈ r, newW y = none := fun y hy => by
  simp only [List.filter_cons, hx, if_true, newFirst, List.all_eq_true] at h
  cases hp : plainW y with
  | true => exact Option.isNone_iff_eq_none.1 (h y (List.mem_filter.2 ⟨hy, hp⟩))
  | false => cases y <;> first | rfl | cases hp
/-- Where no pointer to the new box is around, forgetting changes nothing. -/
theorem wrs_wqs : ∀ {ws : List Wr} {s : S}, newFirst (ws.filter plainW) = true → (∀ b ∈ ws.filterMap newW, ∀ t off, lk s.tmps t ≠ some (.lp b off)) → ∀ l, isX l = false → (s.wrs ws).get l = (s.wqs ws).get l
  | [], _, _, _ => fun _ _ => rfl
  | x :: r, s, hf, hn => by
    cases hx : newW x with
    | none =>
      cases hp : plainW x with
      | true => exact wrs_noNew (r := x :: r) (fun y hy => by rcases List.mem_cons.1 hy with rfl | hy; exact hx; exact newFirst_rest hp hf y hy) fun _ _ => rfl
      | false =>
        cases x with
        | ext n off vs =>
          intro l hl
          have e1 : ∀ l, isX l = false → (s.wr (.ext n off vs)).get l = s.get l := fun l hl => wr_get rfl (fun _ _ => rfl) l hl
          have et : (s.wr (.ext n off vs)).tmps = s.tmps := by simp only [S.wr]; split <;> rfl
          have := wrs_wqs (ws := r) (s := s.wr (.ext n off vs)) (by simpa [List.filter_cons, plainW] using hf) (fun b hb t off => by rw [et]; exact hn b (by simpa [newW, List.filterMap_cons] using hb) t off) l hl
          show ((s.wr (.ext n off vs)).wrs r).get l = (s.wqs r).get l
          rw [this]
          exact wqs_get_congr (e1 l hl) r
        | _ => cases hp
    | some d =>
      cases x with
      | newbox i ps =>
        injection hx with hx
        subst hx
        have hr := newFirst_rest (x := .newbox i ps) rfl hf
        refine wrs_noNew (r := r) (s := s.wr (.newbox i ps)) (t := s.wq (.newbox i ps)) hr fun l hl => ?_
        cases l with
        | t k =>
          simp only [S.wr, S.wq, S.get, lk_kill]
          cases hk : lk s.tmps k with
          | none => rfl
          | some lv =>
            simp only [Option.map_some]
            rcases kl_rep (i := i) (lv := lv) with hj | ⟨he, -⟩
            · cases lv with
              | lp j o =>
                simp only [kl] at hj ⊢
                split
                · rename_i e0; subst e0; exact absurd hk (hn j (by simp [newW, List.filterMap_cons]) k o)
                · rfl
              | _ => rfl
            · rw [he]
        | b k => rfl
        | x k => cases hl
      | _ => cases hx

/-! ## The plan, from the order of the text -/
def CRes.lv : CRes → Option LV
  | .ret p => some (.v p)
  | .own e z es => some (.uniq e z es)
  | .panic _ => none
def dstW (o : Oper) (lv : LV) : List Wr := match o.dst with
  | some d => [.tmp d lv]
  | none => []

section
variable {P : Program} {cx : Cx} {Q : PExit → S → Prop}

def stepR (P : Program) (ro : TypeId → Option Bool) (n : Nat) (all : List Oper) (o : Oper) (gr : List Loc) (s : S) (K : DS → Option Ext → S → Prop) : Prop := match callee P o with
  | some r => r.wpR s fun x rd => isFn P x.1 = true ∧ ((∃ r lv, r.lv = some lv ∧ (∀ e, CallC P x.1 x.2 e fun r' e' => r' = r ∧ e' = e) ∧ K ⟨gr ++ rd, dstW o lv, false⟩ none (s.wqs (dstW o lv)))
      ∨ ∃ r lv e', r.lv = some lv ∧ CallC P x.1 x.2 s.ext (fun r' e'' => r' = r ∧ e'' = e') ∧ K ⟨gr ++ rd, dstW o lv, true⟩ (some e') { s.wqs (dstW o lv) with ext := e' })
  | none => (act P ro n all o).wpR s fun wr rd => if wr.any isXW = true then K ⟨gr ++ rd, wr.filter plainW, true⟩ (some (extW s.ext wr)) { s.wqs (wr.filter plainW) with ext := extW s.ext wr }
      else K ⟨gr ++ rd, wr, false⟩ none (s.wqs wr)

def drL (P : Program) (ro : TypeId → Option Bool) (n : Nat) (all : List Oper) : List Oper → S → (List DS → List Ext → S → Prop) → Prop
  | [], s, K => K [] [] s
  | o :: rest, s, K => match o.guard with
    | none => stepR P ro n all o [] s fun d x s' => drL P ro n all rest s' fun ds xs t => K (d :: ds) (x.toList ++ xs) t
    | some (j, want) => match (all[j]?).bind (·.dst) with
      | some dj => match (lk s.tmps dj).bind (wantP want) with
        | some b => if b = true then stepR P ro n all o [.t dj] s fun d x s' => drL P ro n all rest s' fun ds xs t => K (d :: ds) (x.toList ++ xs) t
          else drL P ro n all rest (s.wqs (dstW o (.v (.tup [])))) fun ds xs t => K (⟨[.t dj], dstW o (.v (.tup [])), false⟩ :: ds) xs t
        | none => False
      | none => False

/-- What one operation owes, by the order of the text. -/
def Loc1 (P : Program) (cx : Cx) (all : Array Oper) (Q : PExit → S → Prop) (o : Oper) (d : DS) (si : S) (e' : Ext) : Prop :=
  newFirst d.ws = true → ∀ s, (∀ l ∈ d.rd, s.get l = si.get l) → (d.xf = true → s.ext = si.ext) → (∀ b ∈ d.ws.filterMap newW, ∀ t off, lk s.tmps t ≠ some (.lp b off)) → StepOK P cx all Q o s { s.wqs d.ws with ext := if d.eff = true then e' else s.ext }

def Chain (P : Program) (cx : Cx) (all : Array Oper) (Q : PExit → S → Prop) : List Oper → List DS → List Ext → S → S → Prop
  | [], [], [], s, t => t = s
  | o :: rest, d :: ds, xs, s, t => ∃ (x : Option Ext) (xs' : List Ext), xs = x.toList ++ xs' ∧ d.eff = x.isSome ∧ Loc1 P cx all Q o d s (x.getD s.ext) ∧ Chain P cx all Q rest ds xs' { s.wqs d.ws with ext := x.getD s.ext } t
  | _, _, _, _, _ => False

theorem StepOK.of {all : Array Oper} {o : Oper} {s s' t : S} (hg : ∀ p, isX p = false → t.get p = s'.get p) (hx : t.ext = s'.ext) (h : StepOK P cx all Q o s s') : StepOK P cx all Q o s t := fun g l a w hs => by
  have := h g l a w hs
  split
  · rename_i hw
    rw [if_pos hw] at this
    exact upon_mono (fun a' w' ⟨g', l', sm⟩ => ⟨g', l', sm.of_get hg hx⟩) this
  · rename_i hw
    rw [if_neg hw] at this
    obtain ⟨g', l', sm⟩ := this
    exact ⟨g', l', sm.of_get hg hx⟩

/-- A step that is wanted. -/
theorem stepR_sound {ro : TypeId → Option Bool} {all : List Oper} {o : Oper} {gr : List Loc} {si : S} {K : DS → Option Ext → S → Prop} (hd : ∀ d, o.dst = some d → d < cx.n)
    (hwant : ∀ s, (∀ l ∈ gr, s.get l = si.get l) → ∀ g l a w, Sim cx s g l a w → Region.wanted o (yielded all.toArray a.tmps) = true) (h : stepR P ro cx.n all o gr si K) :
    ∃ d x s', K d x s' ∧ d.eff = x.isSome ∧ s' = { si.wqs d.ws with ext := x.getD si.ext } ∧ Loc1 P cx all.toArray Q o d si (x.getD si.ext) := by
  have hcall : ∀ {r : RM (FuncId × List PV)} {x : FuncId × List PV} {rd : List Loc} {res : CRes} {lv : LV} {eff : Bool} {e' : Ext}, callee P o = some r → (∀ s', (∀ l ∈ rd, s'.get l = si.get l) → r.wp s' fun y => y = x) → isFn P x.1 = true → res.lv = some lv →
      (∀ s : S, (eff = true → s.ext = si.ext) → CallC P x.1 x.2 s.ext (fun r' e'' => r' = res ∧ e'' = if eff = true then e' else s.ext)) → Loc1 P cx all.toArray Q o ⟨gr ++ rd, dstW o lv, eff⟩ si e' := by
    intro r x rd res lv eff e' hr hloc hfn hlv hC _ s hag hxs _ g l a w hs
    rw [if_pos (hwant s (fun l hl => hag l (List.mem_append_left _ hl)) g l a w hs)]
    have hC' := hC s fun he => hxs (by simp [DS.xf, he])
    have := callee_sound (Q := Q) (K := fun s' => s' = s.setD o.dst lv (if eff = true then e' else s.ext)) hr hd hs (RM.wp_mono (fun y hy => by
      subst hy
      refine ⟨hfn, hC'.mono ?_⟩
      rintro r' e'' ⟨rfl, rfl⟩
      cases r' with
      | ret p => simp only [CRes.lv, Option.some.injEq] at hlv; subst hlv; rfl
      | own te z es => simp only [CRes.lv, Option.some.injEq] at hlv; subst hlv; rfl
      | panic p => cases hlv) (hloc s fun l hl => hag l (List.mem_append_right _ hl)))
    refine upon_mono ?_ this
    rintro a' w' ⟨s', g', l', rfl, sm⟩
    refine ⟨g', l', ?_⟩
    have e1 : ({ s.wqs (dstW o lv) with ext := if eff = true then e' else s.ext } : S) = s.setD o.dst lv (if eff = true then e' else s.ext) := by
      unfold dstW S.setD
      cases o.dst <;> rfl
    show Sim cx { s.wqs (dstW o lv) with ext := if eff = true then e' else s.ext } g' l' a' w'
    rw [e1]
    exact sm
  unfold stepR at h
  split at h
  · rename_i r hr
    obtain ⟨x, rd, ⟨hfn, hk⟩, hloc⟩ := RM.wpR_local h
    rcases hk with hk | hk
    · obtain ⟨res, lv, hlv, hC, hK⟩ := hk
      refine ⟨_, _, _, hK, rfl, ?_, hcall hr hloc hfn hlv fun s _ => ?_⟩
      · have := wqs_ext (dstW o lv) si
        show si.wqs (dstW o lv) = { si.wqs (dstW o lv) with ext := si.ext }
        rw [← this]
      · exact hC s.ext
    · obtain ⟨res, lv, e', hlv, hC, hK⟩ := hk
      refine ⟨_, _, _, hK, rfl, rfl, hcall hr hloc hfn hlv fun s hs => ?_⟩
      rw [hs rfl]
      exact hC
  · obtain ⟨wr, rd, hk, hloc⟩ := RM.wpR_local h
    have hact : ∀ {eff : Bool}, eff = wr.any isXW → Loc1 P cx all.toArray Q o ⟨gr ++ rd, wr.filter plainW, eff⟩ si (extW si.ext wr) := by
      intro eff heff hnf s hag hxs hnl g l a w hs
      rw [if_pos (hwant s (fun l hl => hag l (List.mem_append_left _ hl)) g l a w hs)]
      have := act_sound hs (hloc s fun l hl => hag l (List.mem_append_right _ hl)) (post cx Q)
      refine upon_mono ?_ this
      rintro a' w' ⟨wr', g', l', rfl, sm⟩
      refine ⟨g', l', sm.of_get (fun p hp => ?_) ?_⟩
      · have hnl' : ∀ b ∈ wr'.filterMap newW, ∀ t off, lk s.tmps t ≠ some (.lp b off) := fun b hb => hnl b (by
          simp only [List.mem_filterMap] at hb ⊢
          obtain ⟨y, hy, hyb⟩ := hb
          exact ⟨y, List.mem_filter.2 ⟨hy, by cases y <;> first | rfl | cases hyb⟩, hyb⟩)
        have e1 := wrs_wqs hnf hnl' p hp
        rw [e1]
        simp only [wqs_plain]
        cases p <;> first | rfl | cases hp
      · rw [wrs_ext]
        simp only
        cases eff with
        | true => simp only [if_true]; rw [hxs (by simp [DS.xf])]
        | false => simp only [Bool.false_eq_true, if_false]; exact (extW_noX heff.symm).symm
    split at hk
    · rename_i hx
      exact ⟨_, _, _, hk, rfl, rfl, hact hx.symm⟩
    · rename_i hx
      have hx' : wr.any isXW = false := by simpa using hx
      have := hact hx'.symm
      rw [plain_noX hx'] at this
      refine ⟨_, _, _, hk, rfl, ?_, ?_⟩
      · have := wqs_ext wr si
        show si.wqs wr = { si.wqs wr with ext := si.ext }
        rw [← this]
      · have e2 := extW_noX (e := si.ext) hx'
        rw [e2] at this
        exact this

theorem drL_sound {ro : TypeId → Option Bool} {all : List Oper} (hall : dstOK cx.n all = true) : ∀ {ls : List Oper} {s : S} {K : List DS → List Ext → S → Prop}, (∀ o ∈ ls, o ∈ all) → drL P ro cx.n all ls s K →
    ∃ sts xs t, K sts xs t ∧ Chain P cx all.toArray Q ls sts xs s t
  | [], s, K, _, h => ⟨[], [], s, h, rfl⟩
  | o :: rest, s, K, hm, h => by
    have hd : ∀ d, o.dst = some d → d < cx.n := dstOK_mem hall (hm o (by simp))
    have hm' : ∀ o ∈ rest, o ∈ all := fun o ho => hm o (List.mem_cons_of_mem _ ho)
    simp only [drL] at h
    split at h
    · rename_i hg
      obtain ⟨d, x, s', hk, he, rfl, hl⟩ := stepR_sound (Q := Q) (o := o) (all := all) (gr := []) hd (fun s _ g l a w _ => by simp [Region.wanted, hg]) h
      obtain ⟨sts, xs, t, h1, h2⟩ := drL_sound hall hm' hk
      exact ⟨d :: sts, x.toList ++ xs, t, h1, x, xs, rfl, he, hl, h2⟩
    · rename_i j want hg
      split at h
      · rename_i dj hdj
        have hdjn : dj < cx.n := by
          simp only [Option.bind_eq_some_iff] at hdj
          obtain ⟨oj, h1, h2⟩ := hdj
          exact dstOK_mem hall (List.mem_of_getElem? h1) dj h2
        split at h
        · rename_i b hb
          simp only [Option.bind_eq_some_iff] at hb
          obtain ⟨lv, hlv, hb⟩ := hb
          have hwant : ∀ s', (∀ l ∈ [Loc.t dj], s'.get l = s.get l) → ∀ g l a w, Sim cx s' g l a w → Region.wanted o (yielded all.toArray a.tmps) = b := fun s' hs' g l a w sm => by
            have h1 : lk s'.tmps dj = some lv := by rw [get_t (hs' (.t dj) (by simp))]; exact hlv
            simp only [Region.wanted, hg]
            exact yielded_of (by simpa using hdj) hdjn sm h1 hb
          split at h
          · rename_i hbt
            subst hbt
            obtain ⟨d, x, s', hk, he, rfl, hl⟩ := stepR_sound (Q := Q) (o := o) (all := all) (gr := [.t dj]) hd hwant h
            obtain ⟨sts, xs, t, h1, h2⟩ := drL_sound hall hm' hk
            exact ⟨d :: sts, x.toList ++ xs, t, h1, x, xs, rfl, he, hl, h2⟩
          · rename_i hbf
            have hbf' : b = false := by simpa using hbf
            subst hbf'
            obtain ⟨sts, xs, t, h1, h2⟩ := drL_sound hall hm' h
            refine ⟨_ :: sts, xs, t, h1, none, xs, rfl, rfl, ?_, ?_⟩
            · intro _ s' hag hxs _ g l a w sm
              rw [if_neg (by rw [hwant s' hag g l a w sm]; simp)]
              refine ⟨g, l, ?_⟩
              show Sim cx { s'.wqs (dstW o (.v (.tup []))) with ext := s'.ext } g l (a.put o.dst undef) w
              unfold dstW
              cases hdd : o.dst with
              | none => exact sm
              | some d => exact sm.set (hd d hdd) (.tup [] [] rfl fun j h => by simp at h)
            · have := wqs_ext (dstW o (.v (.tup []))) s
              have e2 : s.wqs (dstW o (.v (.tup []))) = { s.wqs (dstW o (.v (.tup []))) with ext := s.ext } := by rw [← this]
              rw [e2] at h2
              exact h2
        · exact h.elim
      · exact h.elim

theorem wqs_append : ∀ (A B : List Wr) (s : S), s.wqs (A ++ B) = (s.wqs A).wqs B
  | [], _, _ => rfl
  | x :: r, B, s => by simp only [List.cons_append, S.wqs]; exact wqs_append r B _
theorem wq_with (s : S) (e : Ext) (x : Wr) : ({ s with ext := e } : S).wq x = { s.wq x with ext := e } := by
  cases x with
  | cells i off vs => simp only [S.wq]; split <;> rfl
  | _ => rfl
theorem wqs_with : ∀ (A : List Wr) (s : S) (e : Ext), ({ s with ext := e } : S).wqs A = { s.wqs A with ext := e }
  | [], _, _ => rfl
  | x :: r, s, e => by simp only [S.wqs, wq_with]; exact wqs_with r _ e
theorem wsel_take : ∀ (sts : List DS) (k i : Nat), wsel (fun j => decide (j < k + i)) k sts = (sts.take i).flatMap (·.ws)
  | [], _, _ => by simp [wsel]
  | d :: r, k, 0 => by
    have := wsel_take r (k + 1) 0
    have h2 : wsel (fun j => decide (j < k + 0)) (k + 1) r = wsel (fun j => decide (j < k + 1 + 0)) (k + 1) r := wsel_congr fun j h1 _ => by simp; omega
    simp only [wsel, h2, this]
    simp
  | d :: r, k, i + 1 => by
    have := wsel_take r (k + 1) i
    rw [show k + 1 + i = k + (i + 1) by omega] at this
    simp only [wsel, this]
    simp
theorem ecnt_take : ∀ (sts : List DS) (k i : Nat), ecnt (fun j => decide (j < k + i)) k sts = (sts.take i).countP (·.eff)
  | [], _, _ => by simp [ecnt]
  | d :: r, k, 0 => by
    have := ecnt_take r (k + 1) 0
    have h2 : ecnt (fun j => decide (j < k + 0)) (k + 1) r = ecnt (fun j => decide (j < k + 1 + 0)) (k + 1) r := ecnt_congr fun j d' _ _ => by
      have h3 : ¬ k + 1 + j < k + 0 := by omega
      have h4 : ¬ k + 1 + j < k + 1 + 0 := by omega
      simp only [h3, h4]
    simp only [ecnt, h2, this]
    simp
  | d :: r, k, i + 1 => by
    have := ecnt_take r (k + 1) i
    rw [show k + 1 + i = k + (i + 1) by omega] at this
    simp only [ecnt, this]
    simp only [List.take_succ_cons, List.countP_cons]
    cases d.eff <;> simp <;> omega

def stA (s : S) (sts : List DS) (xs : List Ext) (i : Nat) : S := { s.wqs ((sts.take i).flatMap (·.ws)) with ext := (s.ext :: xs).getD ((sts.take i).countP (·.eff)) [] }
theorem Chain.at_ {all : Array Oper} : ∀ {ls : List Oper} {sts : List DS} {xs : List Ext} {s t : S}, Chain P cx all Q ls sts xs s t → sts.length = ls.length ∧ t = stA s sts xs sts.length ∧
    ∀ i o d, ls[i]? = some o → sts[i]? = some d → ∃ e', Loc1 P cx all Q o d (stA s sts xs i) e' ∧ (d.eff = true → e' = (s.ext :: xs).getD ((sts.take i).countP (·.eff) + 1) [])
  | [], [], [], s, t, h => ⟨rfl, by
      have : t = s := h
      subst this; rfl, fun i o d ho => by simp at ho⟩
  | o0 :: rest, d0 :: ds, xs, s, t, h => by
    obtain ⟨x, xs', rfl, he, hl, hc⟩ := h
    obtain ⟨k1, k2, k3⟩ := Chain.at_ hc
    have key : ∀ i, stA { s.wqs d0.ws with ext := x.getD s.ext } ds xs' i = stA s (d0 :: ds) (x.toList ++ xs') (i + 1) := fun i => by
      unfold stA
      rw [wqs_with]
      simp only [List.take_succ_cons, List.flatMap_cons, wqs_append, List.countP_cons, he]
      cases x with
      | none => simp
      | some e1 => simp
    have kn : ∀ i, (({ s.wqs d0.ws with ext := x.getD s.ext } : S).ext :: xs').getD ((ds.take i).countP (·.eff) + 1) [] = (s.ext :: (x.toList ++ xs')).getD (((d0 :: ds).take (i + 1)).countP (·.eff) + 1) [] := fun i => by
      simp only [List.take_succ_cons, List.countP_cons, he]
      cases x with
      | none => simp
      | some e1 => simp
    refine ⟨by simp [k1], by rw [k2, key]; rfl, fun i o d ho hd => ?_⟩
    cases i with
    | zero =>
      simp only [List.getElem?_cons_zero, Option.some.injEq] at ho hd
      subst ho hd
      refine ⟨x.getD s.ext, ?_, fun hef => ?_⟩
      · have : stA s (d0 :: ds) (x.toList ++ xs') 0 = s := by unfold stA; simp [S.wqs]
        rw [this]
        exact hl
      · rw [he] at hef
        cases x with
        | none => cases hef
        | some e1 => simp
    | succ i =>
      simp only [List.getElem?_cons_succ] at ho hd
      obtain ⟨e', h1, h2⟩ := k3 i o d ho hd
      rw [key] at h1
      exact ⟨e', h1, fun hef => by rw [h2 hef]; exact kn i⟩
  | [], _ :: _, _, _, _, h => h.elim
  | _ :: _, [], _, _, _, h => h.elim
  | [], [], _ :: _, _, _, h => h.elim

/-- A region whose order is drawn: it is reckoned in the order of the text, and the plan is checked. -/
theorem PW_drawn (ro : TypeId → Option Bool) (n : Nat) {id : Nat} {ops : List Oper} {s : S} (hm : P.follows .mixedOrders = true) (hn : cx.n = n) (hall : dstOK n ops = true)
    (h : drL P ro n ops ops s fun sts _ t => chk ops sts s.tmps = true ∧ Q .normal t) : PW P cx (.region id ops.toArray true) s Q := by
  subst hn
  obtain ⟨sts, xs, t, ⟨hc, hq⟩, hch⟩ := drL_sound (Q := Q) hall (fun _ h => h) h
  obtain ⟨k1, k2, k3⟩ := hch.at_
  have hT : ∀ i, sT s sts (fun k => (s.ext :: xs).getD k []) i = stA s sts xs i := fun i => by
    unfold sT stA
    have h1 := wsel_take sts 0 i
    have h2 := ecnt_take sts 0 i
    simp only [Nat.zero_add] at h1 h2
    rw [h1, h2]
  refine PW_draw (sts := sts) (e := fun k => (s.ext :: xs).getD k []) hm hc k1 rfl ?_ fun i o d ho hd => ?_
  · have h1 := hT sts.length
    have h2 : sD s sts (fun k => (s.ext :: xs).getD k []) (fun _ => true) = sT s sts (fun k => (s.ext :: xs).getD k []) sts.length := by
      unfold sD sT
      rw [wsel_congr (D := fun _ => true) (D' := fun j => decide (j < sts.length)) (sts := sts) (k := 0) fun j _ hj => by simp at hj; simp [hj]]
      rw [ecnt_congr (D := fun _ => true) (D' := fun j => decide (j < sts.length)) (sts := sts) (k := 0) fun j d' hj _ => by
        have := (List.getElem?_eq_some_iff.1 hj).1
        simp [this]]
    rw [h2, h1, ← k2]
    exact hq
  · obtain ⟨e', h1, h2⟩ := k3 i o d ho hd
    rw [hT]
    have hk : ecnt (fun j => decide (j < i)) 0 sts = (sts.take i).countP (·.eff) := by
      have := ecnt_take sts 0 i
      simpa using this
    rw [hk]
    intro s' k hag hxk hse hnl
    obtain ⟨-, hnf, -⟩ := chk_at hc hd
    have := h1 hnf s' hag (fun hx => by rw [hse, hxk hx]; rfl) hnl
    refine this.of (fun p hp => ?_) ?_
    · cases p <;> first | rfl | cases hp
    · simp only
      cases hef : d.eff with
      | true =>
        have hkk := hxk (by simp [DS.xf, hef])
        rw [hkk, h2 hef]
        rfl
      | false => simp only [Bool.false_eq_true, if_false, Nat.add_zero]; exact hse.symm
end
end Go.Pv
