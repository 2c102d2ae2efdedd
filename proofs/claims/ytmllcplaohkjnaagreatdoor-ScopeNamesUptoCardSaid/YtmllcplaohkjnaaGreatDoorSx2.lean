/- The evaluator with a script, second part: regions whose order is drawn, code, functions. -/
import Derived.Test.YtmllcplaohkjnaaGreatDoorSx1
set_option linter.unusedVariables false
set_option linter.unusedSimpArgs false
set_option linter.unusedSectionVars false
namespace Go.Pv
open Go.RowKit

/-! ## A state that cannot be -/
def absL : LV := .v (.sl 1 [[]])
def absE : Ext := [(0, [absL])]
theorem abs_false {cx : Cx} {s : S} {g : Gh} {l : LG} {a : Act} {w : World} (h : Sim cx s g l a w) (he : s.ext = absE) : False := by
  obtain ⟨b, -, -, hE⟩ := h.ex 0 [absL] (by rw [he]; rfl)
  rcases hE with ⟨-, cur, t, -, -, k⟩ | ⟨es, hE, -⟩ | ⟨n, c, ps, -, hE, -⟩
  rotate_left
  · exact hE
  · injection hE with hE _; cases hE
  have := (k 0 (by simp)).2.2
  have h2 : Rep g w (.sl 1 [[]]) (cur.getD 0 undef) := this
  generalize cur.getD 0 undef = v at h2
  cases h2 with
  | sl _ _ _ _ _ _ _ hsz => exact absurd (hsz 0 (by simp)) (by simp)
theorem Sim.bare {cx : Cx} {s : S} {g : Gh} {l : LG} {a : Act} {w : World} (h : Sim cx s g l a w) : Sim cx ⟨[], [], s.ext⟩ g l a w where
  hist := h.hist
  size := h.size
  defers := h.defers
  tm t lv ht := by simp [lk] at ht
  bx i cs hi := by simp [lk] at hi
  ex := h.ex
  own := h.own
  uo := h.uo
  fresh := h.fresh
  xlt := h.xlt
/-- Ends that may be forgotten in part. -/
def Qx (cx : Cx) (Q : PExit → S → Prop) : PExit → S → Prop
  | .panic p, s => ∃ t, (∀ g l a w, Sim cx s g l a w → Sim cx t g l a w) ∧ Q (.panic p) t
  | .normal, s => s.ext = absE ∨ Q .normal s
  | pe, s => Q pe s
theorem PW_of_Qx {P : Program} {cx : Cx} {c : Code} {s : S} {Q : PExit → S → Prop} (h : PW P cx c s (Qx cx Q)) : PW P cx c s Q := fun g l a w hs => by
  refine wp_mono (h g l a w hs) ?_
  rintro e a' w' ⟨pe, s', g', l', q, er, sm⟩
  cases pe with
  | normal =>
    rcases q with q | q
    · exact (abs_false sm q).elim
    · exact ⟨.normal, s', g', l', q, er, sm⟩
  | exit i => exact ⟨.exit i, s', g', l', q, er, sm⟩
  | ret => exact ⟨.ret, s', g', l', q, er, sm⟩
  | panic p =>
    obtain ⟨t, h1, h2⟩ := q
    exact ⟨.panic p, t, g', l', h2, er, h1 _ _ _ _ sm⟩

section
variable {P : Program} {cx : Cx} {s s' : S} {Q : PExit → S → Prop} {o : Oper} {md : Md} {all : List Oper} {sc sc' : List Ans}

theorem PW_chain {id : Nat} {ops : List Oper} {sts : List DS} {xs : List Ext} {t : S} (hm : P.follows .mixedOrders = true) (hch : Chain P cx ops.toArray Q ops sts xs s t) (hc : chk ops sts s.tmps = true) (hq : Q .normal t) : PW P cx (.region id ops.toArray true) s Q := by
  obtain ⟨k1, k2, k3⟩ := hch.at_
  have hT : ∀ i, sT s sts (fun k => (s.ext :: xs).getD k []) i = stA s sts xs i := fun i => by
    unfold sT stA
    have h1 := wsel_take sts 0 i
    have h2 := ecnt_take sts 0 i
    simp only [Nat.zero_add] at h1 h2
    rw [h1, h2]
  refine PW_draw (sts := sts) (e := fun k => (s.ext :: xs).getD k []) hm hc k1 rfl ?_ fun i o d ho hd => ?_
  · have h1 := hT sts.length
    have h2 : sD s sts (fun k => (s.ext :: xs).getD k []) (fun _ => true) = sT s sts (fun k => (s.ext :: xs).getD k []) sts.length := by
      unfold sD sT
      rw [wsel_congr (D := fun _ => true) (D' := fun j => decide (j < sts.length)) (sts := sts) (k := 0) fun j _ hj => by simp at hj; simp [hj]]
      rw [ecnt_congr (D := fun _ => true) (D' := fun j => decide (j < sts.length)) (sts := sts) (k := 0) fun j d' hj _ => by
        have := (List.getElem?_eq_some_iff.1 hj).1
        simp [this]]
    rw [h2, h1, ← k2]
    exact hq
  · obtain ⟨e', h1, h2⟩ := k3 i o d ho hd
    rw [hT]
    have hk : ecnt (fun j => decide (j < i)) 0 sts = (sts.take i).countP (·.eff) := by
      have := ecnt_take sts 0 i
      simpa using this
    rw [hk]
    intro s' k hag hxk hse hnl
    obtain ⟨-, hnf, -⟩ := chk_at hc hd
    have := h1 hnf s' hag (fun hx => by rw [hse, hxk hx]; rfl) hnl
    refine this.of (fun p hp => ?_) ?_
    · cases p <;> first | rfl | cases hp
    · simp only
      cases hef : d.eff with
      | true =>
        have hkk := hxk (by simp [DS.xf, hef])
        rw [hkk, h2 hef]
        rfl
      | false => simp only [Bool.false_eq_true, if_false, Nat.add_zero]; exact hse.symm

/-! ## Steps -/
abbrev Pk := Option (PV × Ext)
def stepX (P : Program) (ro : TypeId → Option Bool) (n : Nat) (all : List Oper) (o : Oper) (gr : List Loc) (s : S) : SM (DS × Option Ext × S × Pk) := match callee P o with
  | some r => (r.runMR s).bnd fun x => (askC x.1.1 x.1.2 s.ext).bnd fun y => match y with
    | (.ret p, e, true) => .ret (⟨gr ++ x.2, dstW o (.v p), false⟩, none, s.wqs (dstW o (.v p)), none)
    | (.ret p, e, false) => .ret (⟨gr ++ x.2, dstW o (.v p), true⟩, some e, { s.wqs (dstW o (.v p)) with ext := e }, none)
    | (.own te z es, e, true) => .ret (⟨gr ++ x.2, dstW o (.uniq te z es), false⟩, none, s.wqs (dstW o (.uniq te z es)), none)
    | (.own te z es, e, false) => .ret (⟨gr ++ x.2, dstW o (.uniq te z es), true⟩, some e, { s.wqs (dstW o (.uniq te z es)) with ext := e }, none)
    | (.panic p, e, _) => .ret (⟨gr ++ x.2, [], true⟩, some absE, { s with ext := absE }, some (p, e))
  | none => (actM P ro n all o s).bnd fun x => if x.1.any isXW = true then .ret (⟨gr ++ x.2, x.1.filter plainW, true⟩, some (extW s.ext x.1), { s.wqs (x.1.filter plainW) with ext := extW s.ext x.1 }, none)
      else .ret (⟨gr ++ x.2, x.1, false⟩, none, s.wqs x.1, none)
theorem RM.wpR_det {α : Type} : ∀ {r : RM α} {K : α → List Loc → Prop}, r.wpR s K → ∃ a rd, K a rd ∧ ∀ K' : α → List Loc → Prop, K' a rd → r.wpR s K'
  | .ret a, K, h => ⟨a, [], h, fun _ h => h⟩
  | .fail, _, h => h.elim
  | .getT t k, K, h => by
    simp only [RM.wpR] at h ⊢
    split at h
    · obtain ⟨a, rd, h1, h2⟩ := RM.wpR_det h
      exact ⟨a, _, h1, fun K' hk => h2 _ hk⟩
    · exact h.elim
  | .getB t k, K, h => by
    simp only [RM.wpR] at h ⊢
    split at h
    · obtain ⟨a, rd, h1, h2⟩ := RM.wpR_det h
      exact ⟨a, _, h1, fun K' hk => h2 _ hk⟩
    · exact h.elim
  | .getX t k, K, h => by
    simp only [RM.wpR] at h ⊢
    split at h
    · obtain ⟨a, rd, h1, h2⟩ := RM.wpR_det h
      exact ⟨a, _, h1, fun K' hk => h2 _ hk⟩
    · exact h.elim
  | .assume p k, K, h => by
    obtain ⟨a, rd, h1, h2⟩ := RM.wpR_det h.2
    exact ⟨a, rd, h1, fun K' hk => ⟨h.1, h2 _ hk⟩⟩
theorem stepX_sound {gr : List Loc} {ro : TypeId → Option Bool} {K' : DS × Option Ext × S × Pk → List Ans → Prop} (hd : ∀ d, o.dst = some d → d < cx.n)
    (hwant : ∀ s', (∀ l ∈ gr, s'.get l = s.get l) → ∀ g l a w, Sim cx s' g l a w → Region.wanted o (yielded all.toArray a.tmps) = true) (h : (stepX P ro cx.n all o gr s).wp P sc K') :
    ∃ d x s' pk sc', K' (d, x, s', pk) sc' ∧ d.eff = x.isSome ∧ s' = { s.wqs d.ws with ext := x.getD s.ext } ∧ (pk.isSome = true → x = some absE) ∧ ((∀ p e, pk = some (p, e) → Q (.panic p) ⟨[], [], e⟩) → Loc1 P cx all.toArray (Qx cx Q) o d s (x.getD s.ext)) := by
  have plain : (∃ sc', stepR P ro cx.n all o gr s fun d x s' => K' (d, x, s', none) sc') ∨ stepR P ro cx.n all o gr s (fun d x s' => ∃ sc', K' (d, x, s', none) sc') → ∃ d x s' pk sc', K' (d, x, s', pk) sc' ∧ d.eff = x.isSome ∧ s' = { s.wqs d.ws with ext := x.getD s.ext } ∧ (pk.isSome = true → x = some absE) ∧ ((∀ p e, pk = some (p, e) → Q (.panic p) ⟨[], [], e⟩) → Loc1 P cx all.toArray (Qx cx Q) o d s (x.getD s.ext)) := by
    rintro (⟨sc', hst⟩ | hst)
    · obtain ⟨d, x, s', hk, he, hs', hl⟩ := stepR_sound (Q := Qx cx Q) hd hwant hst
      exact ⟨d, x, s', none, sc', hk, he, hs', fun h => by simp at h, fun _ => hl⟩
    · obtain ⟨d, x, s', ⟨sc', hk⟩, he, hs', hl⟩ := stepR_sound (Q := Qx cx Q) hd hwant hst
      exact ⟨d, x, s', none, sc', hk, he, hs', fun h => by simp at h, fun _ => hl⟩
  unfold stepX at h
  split at h
  · rename_i r hr
    obtain ⟨⟨f, args⟩, rd, ⟨sc1, h1⟩, hdet⟩ := RM.wpR_det (RM.runMR_wp (SM.wp_bnd h))
    obtain ⟨res, e', pu, sc', hK, hfn, hC, hpu⟩ := askC_wp (SM.wp_bnd h1)
    cases res with
    | panic p =>
      refine ⟨_, _, _, _, _, SM.wp_ret hK, rfl, rfl, fun _ => rfl, fun hQ => ?_⟩
      obtain ⟨_, _, ⟨rfl, rfl⟩, hloc⟩ := RM.wpR_local (hdet (fun a r => a = (f, args) ∧ r = rd) ⟨rfl, rfl⟩)
      intro _ s1 hag hxs _ g l a w hs
      rw [if_pos (hwant s1 (fun l hl => hag l (List.mem_append_left _ hl)) g l a w hs)]
      have hC' : CallC P f args s1.ext fun r1 e1 => r1 = .panic p ∧ e1 = e' := by rw [hxs (by simp [DS.xf])]; exact hC
      refine upon_mono ?_ (callee_sound (Q := Qx cx Q) (K := fun _ => False) hr hd hs (RM.wp_mono (fun y hy => ?_) (hloc s1 fun l hl => hag l (List.mem_append_right _ hl))))
      · rintro a' w' ⟨s', g', l', hf, sm⟩; exact hf.elim
      · subst hy
        refine ⟨hfn, hC'.mono ?_⟩
        rintro _ _ ⟨rfl, rfl⟩
        exact ⟨⟨[], [], _⟩, fun g l a w sm => sm.bare, hQ _ _ rfl⟩
    | ret p =>
      cases pu with
      | true => exact plain (.inl ⟨sc', by unfold stepR; rw [hr]; exact hdet _ ⟨hfn, .inl ⟨.ret p, .v p, rfl, (hpu rfl).2, SM.wp_ret hK⟩⟩⟩)
      | false => exact plain (.inl ⟨sc', by unfold stepR; rw [hr]; exact hdet _ ⟨hfn, .inr ⟨.ret p, .v p, e', rfl, hC, SM.wp_ret hK⟩⟩⟩)
    | own te z es =>
      cases pu with
      | true => exact plain (.inl ⟨sc', by unfold stepR; rw [hr]; exact hdet _ ⟨hfn, .inl ⟨.own te z es, .uniq te z es, rfl, (hpu rfl).2, SM.wp_ret hK⟩⟩⟩)
      | false => exact plain (.inl ⟨sc', by unfold stepR; rw [hr]; exact hdet _ ⟨hfn, .inr ⟨.own te z es, .uniq te z es, e', rfl, hC, SM.wp_ret hK⟩⟩⟩)
  · rename_i hr
    refine plain (.inr ?_)
    unfold stepR
    rw [hr]
    refine RM.wpR_mono' (actM_wp (SM.wp_bnd h)) ?_
    rintro wr rd ⟨sc2, h2⟩
    simp only at h2
    split at h2
    · rename_i hx; rw [if_pos hx]; exact ⟨sc2, SM.wp_ret h2⟩
    · rename_i hx; rw [if_neg hx]; exact ⟨sc2, SM.wp_ret h2⟩

def wantD (all : List Oper) (o : Oper) (s : S) : SM (Bool × List Loc) := match o.guard with
  | none => .ret (true, [])
  | some (j, want) => match (all[j]?).bind (·.dst) with
    | some dj => match lk s.tmps dj with
      | some (.v (.bool b)) => (askB b).bnd fun v => .ret (v == want, [.t dj])
      | some (.v (.tup _)) => .ret (false, [.t dj])
      | _ => .bad 22
    | none => .bad 23
theorem wantD_wp {K' : Bool × List Loc → List Ans → Prop} (hall : dstOK cx.n all = true) (h : (wantD all o s).wp P sc K') : ∃ b gr sc', K' (b, gr) sc' ∧ ∀ s', (∀ l ∈ gr, s'.get l = s.get l) → ∀ g l a w, Sim cx s' g l a w → Region.wanted o (yielded all.toArray a.tmps) = b := by
  unfold wantD at h
  split at h
  · rename_i hg
    exact ⟨_, _, _, SM.wp_ret h, fun s' _ g l a w _ => by simp [Region.wanted, hg]⟩
  · rename_i j want hg
    split at h
    · rename_i dj hdj
      have hdjn : dj < cx.n := by
        simp only [Option.bind_eq_some_iff] at hdj
        obtain ⟨oj, h1, h2⟩ := hdj
        exact dstOK_mem hall (List.mem_of_getElem? h1) dj h2
      have key : ∀ {lv : LV} {b : Bool}, lk s.tmps dj = some lv → wantP want lv = some b → ∀ s', (∀ l ∈ [Loc.t dj], s'.get l = s.get l) → ∀ g l a w, Sim cx s' g l a w → Region.wanted o (yielded all.toArray a.tmps) = b := fun {lv b} hlv hb s' hs' g l a w sm => by
        have h1 : lk s'.tmps dj = some lv := by rw [get_t (hs' (.t dj) (by simp))]; exact hlv
        simp only [Region.wanted, hg]
        exact yielded_of (by simpa using hdj) hdjn sm h1 hb
      split at h
      · rename_i b hb
        obtain ⟨sc', h1⟩ := askB_wp (SM.wp_bnd h)
        exact ⟨_, _, _, SM.wp_ret h1, key hb rfl⟩
      · rename_i vs hb
        exact ⟨_, _, _, SM.wp_ret h, key hb rfl⟩
      · exact h.elim
    · exact h.elim

/-- The place of the operation that panicked, with what it leaves. -/
abbrev Pki := Option (Nat × PV × Ext)
def dead (an : List (List Nat)) (k : Nat) : Pki → Bool
  | some (i, _) => (an.getD k []).contains i
  | none => false
def joinP (k : Nat) (pk : Pki) (x : Option Ext) (pp : Pk) : Option Pki := match pk with
  | none => some (pp.map fun y => (k, y))
  | some q => if x.isSome = true then none else some (some q)
def evDX (P : Program) (ro : TypeId → Option Bool) (n : Nat) (all : List Oper) (an : List (List Nat)) : List Oper → Nat → Pki → S → SM (List DS × S × Pki × List Ext)
  | [], _, pk, s => .ret ([], s, pk, [])
  | o :: rest, k, pk, s => match dead an k pk with
    | true => (evDX P ro n all an rest (k + 1) pk s).bnd fun x => .ret (⟨[], [], true⟩ :: x.1, x.2.1, x.2.2.1, absE :: x.2.2.2)
    | false => (wantD all o s).bnd fun b => match b with
      | (true, gr) => (SM.tag o s (stepX P ro n all o gr s)).bnd fun y => match joinP k pk y.2.1 y.2.2.2 with
        | some pk' => (evDX P ro n all an rest (k + 1) pk' y.2.2.1).bnd fun x => .ret (y.1 :: x.1, x.2.1, x.2.2.1, y.2.1.toList ++ x.2.2.2)
        | none => .bad 24
      | (false, gr) => (evDX P ro n all an rest (k + 1) pk (s.wqs (dstW o (.v (.tup []))))).bnd fun x => .ret (⟨gr, dstW o (.v (.tup [])), false⟩ :: x.1, x.2)
theorem evDX_sound {ro : TypeId → Option Bool} {an : List (List Nat)} (hall : dstOK cx.n all = true) : ∀ {ls : List Oper} {k : Nat} {pk : Pki} {s : S} {sc : List Ans} {K' : List DS × S × Pki × List Ext → List Ans → Prop}, (∀ o ∈ ls, o ∈ all) → (pk.isSome = true → s.ext = absE) → (evDX P ro cx.n all an ls k pk s).wp P sc K' →
    ∃ sts xs t pk' sc', K' (sts, t, pk', xs) sc' ∧ (pk.isSome = true → pk' = pk) ∧ (pk'.isSome = true → t.ext = absE) ∧ ((∀ i p e, pk' = some (i, p, e) → Q (.panic p) ⟨[], [], e⟩) → Chain P cx all.toArray (Qx cx Q) ls sts xs s t)
  | [], k, pk, s, sc, K', _, hpk, h => ⟨[], [], s, pk, sc, SM.wp_ret h, fun _ => rfl, hpk, fun _ => rfl⟩
  | o :: rest, k, pk, s, sc, K', hm, hpk, h => by
    have hd : ∀ d, o.dst = some d → d < cx.n := dstOK_mem hall (hm o (by simp))
    have hm' : ∀ o ∈ rest, o ∈ all := fun o ho => hm o (List.mem_cons_of_mem _ ho)
    simp only [evDX] at h
    split at h
    · rename_i hdead
      have hps : pk.isSome = true := by cases pk <;> first | rfl | cases hdead
      have hse := hpk hps
      obtain ⟨sts, xs, t, pk', sc', h1, h2, h3, h4⟩ := evDX_sound hall hm' hpk (SM.wp_bnd h)
      refine ⟨_ :: sts, (some absE).toList ++ xs, t, pk', sc', SM.wp_ret h1, h2, h3, fun hQ => ⟨some absE, xs, rfl, rfl, ?_, ?_⟩⟩
      · intro _ s1 _ hxs _ g l a w hs
        exact (abs_false hs ((hxs (by simp [DS.xf])).trans hse)).elim
      · have : ({ s.wqs [] with ext := (some absE).getD s.ext } : S) = s := by
          show ({ s with ext := absE } : S) = s
          rw [← hse]
        rw [this]
        exact h4 hQ
    · obtain ⟨b, gr, sc1, h1, hwant⟩ := wantD_wp (cx := cx) hall (SM.wp_bnd h)
      cases b with
      | true =>
        obtain ⟨d, x, s', pp, sc2, h2, he, rfl, hpp, hl⟩ := stepX_sound (Q := Q) hd hwant (SM.wp_tag (SM.wp_bnd h1))
        simp only at h2
        split at h2
        · rename_i pk' hj
          have hpk' : pk'.isSome = true → ({ s.wqs d.ws with ext := x.getD s.ext } : S).ext = absE := fun hs => by
            show x.getD s.ext = absE
            unfold joinP at hj
            split at hj
            · injection hj with hj
              subst hj
              have : pp.isSome = true := by cases pp <;> first | rfl | (simp at hs)
              rw [hpp this]; rfl
            · split at hj
              · cases hj
              · rename_i hx
                have : x = none := by cases x <;> first | rfl | simp at hx
                subst this
                exact hpk rfl
          obtain ⟨sts, xs, t, pk2, sc', h3, h4, h5, h6⟩ := evDX_sound hall hm' hpk' (SM.wp_bnd h2)
          refine ⟨d :: sts, x.toList ++ xs, t, pk2, sc', SM.wp_ret h3, fun hs => ?_, h5, fun hQ => ⟨x, xs, rfl, he, hl fun p e hp => ?_, h6 hQ⟩⟩
          · unfold joinP at hj
            split at hj
            · simp at hs
            · split at hj
              · cases hj
              · injection hj with hj
                subst hj
                exact h4 rfl
          · unfold joinP at hj
            split at hj
            · injection hj with hj
              subst hj
              rw [hp] at h4
              exact hQ k p e (h4 rfl)
            · split at hj
              · cases hj
              · rename_i hx
                have : x = none := by cases x <;> first | rfl | simp at hx
                subst this
                have := hpp (by rw [hp]; rfl)
                cases this
        · exact h2.elim
      | false =>
        have hext := wqs_ext (dstW o (.v (.tup []))) s
        obtain ⟨sts, xs, t, pk', sc', h3, h4, h5, h6⟩ := evDX_sound hall hm' (s := s.wqs (dstW o (.v (.tup [])))) (fun hs => by rw [hext]; exact hpk hs) (SM.wp_bnd h1)
        refine ⟨_ :: sts, (none : Option Ext).toList ++ xs, t, pk', sc', SM.wp_ret h3, h4, h5, fun hQ => ⟨none, xs, rfl, rfl, ?_, ?_⟩⟩
        · intro _ s' hag hxs _ g l a w sm
          rw [if_neg (by rw [hwant s' hag g l a w sm]; simp)]
          refine ⟨g, l, ?_⟩
          show Sim cx { s'.wqs (dstW o (.v (.tup []))) with ext := s'.ext } g l (a.put o.dst undef) w
          unfold dstW
          cases hdd : o.dst with
          | none => exact sm
          | some d => exact sm.set (hd d hdd) (.tup [] [] rfl fun j h => by simp at h)
        · have e2 : s.wqs (dstW o (.v (.tup []))) = { s.wqs (dstW o (.v (.tup []))) with ext := s.ext } := by rw [← hext]
          have := h6 hQ
          rw [e2] at this
          exact this

/-! ## Reads of objects that no call changes -/
/-- May an operation's reads of named objects be left out? -/
def relD (P : Program) (o : Oper) (d : DS) : Bool := !d.eff && d.rd.any isX && (callee P o).isNone && o.guard.isNone
def relx (P : Program) (o : Oper) (d : DS) : DS := match relD P o d with
  | true => ⟨d.rd.filter (fun l => !isX l), d.ws, d.eff⟩
  | false => d
def relL (P : Program) : List Oper → List DS → List DS
  | o :: ops, d :: ds => relx P o d :: relL P ops ds
  | _, ds => ds
theorem relx_ws (P : Program) (o : Oper) (d : DS) : (relx P o d).ws = d.ws ∧ (relx P o d).eff = d.eff := by unfold relx; split <;> exact ⟨rfl, rfl⟩
theorem relL_get (P : Program) : ∀ {ops : List Oper} {sts : List DS} {i : Nat} {o : Oper} {d' : DS}, ops[i]? = some o → (relL P ops sts)[i]? = some d' → ∃ d, sts[i]? = some d ∧ d' = relx P o d
  | [], _, _, _, _, h, _ => by simp at h
  | o :: ops, [], i, _, _, _, h => by simp [relL] at h
  | o :: ops, d :: ds, 0, _, _, h, h' => by
    simp only [relL, List.getElem?_cons_zero, Option.some.injEq] at h h' ⊢
    subst h
    exact ⟨d, rfl, h'.symm⟩
  | o :: ops, d :: ds, i + 1, _, _, h, h' => by
    simp only [relL, List.getElem?_cons_succ] at h h' ⊢
    exact relL_get P h h'
theorem relL_len (P : Program) : ∀ (ops : List Oper) (sts : List DS), (relL P ops sts).length = sts.length
  | [], _ => rfl
  | _ :: _, [] => rfl
  | o :: ops, d :: ds => by simp [relL, relL_len P ops ds]
theorem relL_wsel (P : Program) (D : Nat → Bool) : ∀ (ops : List Oper) (sts : List DS) (k : Nat), wsel D k (relL P ops sts) = wsel D k sts
  | [], _, _ => rfl
  | _ :: _, [], _ => rfl
  | o :: ops, d :: ds, k => by simp only [relL, wsel, relL_wsel P D ops ds, (relx_ws P o d).1]
theorem relL_ecnt (P : Program) (D : Nat → Bool) : ∀ (ops : List Oper) (sts : List DS) (k : Nat), ecnt D k (relL P ops sts) = ecnt D k sts
  | [], _, _ => rfl
  | _ :: _, [], _ => rfl
  | o :: ops, d :: ds, k => by simp only [relL, ecnt, relL_ecnt P D ops ds, (relx_ws P o d).2]
theorem Chain.cnt {all : Array Oper} : ∀ {ls : List Oper} {sts : List DS} {xs : List Ext} {s t : S}, Chain P cx all Q ls sts xs s t → xs.length = sts.countP (·.eff)
  | [], [], [], _, _, _ => rfl
  | o :: rest, d :: ds, xs, s, t, h => by
    obtain ⟨x, xs', rfl, hx, -, hr⟩ := h
    have ih := Chain.cnt hr
    cases x with
    | none => simp only [Option.isSome_none] at hx; simp [hx, ih]
    | some e => simp only [Option.isSome_some] at hx; simp [hx, ih]
  | [], _ :: _, _, _, _, h => h.elim
  | _ :: _, [], _, _, _, h => h.elim
  | [], [], _ :: _, _, _, h => h.elim
/-- Is it the state that cannot be? -/
def isAbs : Ext → Bool
  | [(0, [lv])] => match lv with
    | .v (.sl 1 [[]]) => true
    | _ => false
  | _ => false
theorem isAbs_eq {e : Ext} (h : isAbs e = true) : e = absE := by
  unfold isAbs at h
  split at h
  · split at h
    · rfl
    · cases h
  · cases h
/-- One operation at one state of the objects: the same writes. -/
def stab1 (P : Program) (ro : TypeId → Option Bool) (n : Nat) (all : List Oper) (o : Oper) (d : DS) (s : S) : SM Unit := ((act P ro n all o).runMR s).bnd fun x => match x.1, d.ws with
  | [.tmp t lv], [.tmp t' lv'] => if t = t' ∧ (x.2.filter (fun l => !isX l)).all (fun l => d.rd.contains l) = true then SM.owe (.eqv lv lv') () else .bad 60
  | _, _ => .bad 61
def stabE (P : Program) (ro : TypeId → Option Bool) (n : Nat) (all : List Oper) (o : Oper) (d : DS) (s : S) : List Ext → SM Unit
  | [] => .ret ()
  | e :: r => match isAbs e with
    | true => stabE P ro n all o d s r
    | false => (stab1 P ro n all o d { s with ext := e }).bnd fun _ => stabE P ro n all o d s r
def stabX (P : Program) (ro : TypeId → Option Bool) (n : Nat) (all : List Oper) (es : List Ext) : List Oper → List DS → S → SM Unit
  | o :: ops, d :: ds, s => match relD P o d with
    | true => (stabE P ro n all o d s es).bnd fun _ => stabX P ro n all es ops ds (s.wqs d.ws)
    | false => stabX P ro n all es ops ds (s.wqs d.ws)
  | _, _, _ => .ret ()
def Stab (P : Program) (ro : TypeId → Option Bool) (n : Nat) (all : List Oper) (o : Oper) (d : DS) (s : S) : Prop := (act P ro n all o).wpR s fun wr rd => wr = d.ws ∧ ∀ l ∈ rd, isX l = false → l ∈ d.rd
theorem stab1_wp {ro : TypeId → Option Bool} {n : Nat} {d : DS} {K' : Unit → List Ans → Prop} (h : (stab1 P ro n all o d s).wp P sc K') : Stab P ro n all o d s ∧ ∃ sc', K' () sc' := by
  obtain ⟨wr, rd, ⟨sc1, h1⟩, hdet⟩ := RM.wpR_det (RM.runMR_wp (SM.wp_bnd h))
  simp only at h1
  split at h1
  · rename_i t lv t' lv' hd
    split at h1
    · rename_i hc
      obtain ⟨h2, h3⟩ := SM.wp_owe h1
      refine ⟨hdet _ ⟨?_, fun l hl hx => ?_⟩, sc1, h3⟩
      · have h2' : lv = lv' := h2
        rw [hd, hc.1, h2']
      · have := hc.2
        simp only [List.all_eq_true, List.mem_filter, Bool.not_eq_true', and_imp] at this
        simpa using this l hl hx
    · exact h1.elim
  · exact h1.elim
theorem stabE_wp {ro : TypeId → Option Bool} {n : Nat} {d : DS} : ∀ {es : List Ext} {sc : List Ans} {K' : Unit → List Ans → Prop}, (stabE P ro n all o d s es).wp P sc K' → (∀ e ∈ es, isAbs e = false → Stab P ro n all o d { s with ext := e }) ∧ ∃ sc', K' () sc'
  | [], sc, K', h => ⟨fun e he => by simp at he, sc, SM.wp_ret h⟩
  | e :: r, sc, K', h => by
    simp only [stabE] at h
    split at h
    · rename_i ha
      obtain ⟨h3, h4⟩ := stabE_wp h
      refine ⟨fun e' he hb => ?_, h4⟩
      rcases List.mem_cons.1 he with rfl | he
      · rw [ha] at hb; cases hb
      · exact h3 e' he hb
    · obtain ⟨h1, sc1, h2⟩ := stab1_wp (SM.wp_bnd h)
      obtain ⟨h3, h4⟩ := stabE_wp h2
      refine ⟨fun e' he hb => ?_, h4⟩
      rcases List.mem_cons.1 he with rfl | he
      · exact h1
      · exact h3 e' he hb
theorem stabX_wp {ro : TypeId → Option Bool} {n : Nat} {es : List Ext} : ∀ {ops : List Oper} {ds : List DS} {s : S} {sc : List Ans} {K' : Unit → List Ans → Prop}, (stabX P ro n all es ops ds s).wp P sc K' →
    (∀ i o d, ops[i]? = some o → ds[i]? = some d → relD P o d = true → ∀ e ∈ es, isAbs e = false → Stab P ro n all o d { s.wqs ((ds.take i).flatMap (·.ws)) with ext := e }) ∧ ∃ sc', K' () sc'
  | [], [], s, sc, K', h => ⟨fun i o d ho => by simp at ho, sc, SM.wp_ret h⟩
  | [], _ :: _, s, sc, K', h => ⟨fun i o d ho => by simp at ho, sc, SM.wp_ret h⟩
  | _ :: _, [], s, sc, K', h => ⟨fun i o d _ hd => by simp at hd, sc, SM.wp_ret h⟩
  | o :: ops, d :: ds, s, sc, K', h => by
    have key : (∀ e ∈ es, isAbs e = false → relD P o d = true → Stab P ro n all o d { s with ext := e }) ∧ ∃ sc1, (stabX P ro n all es ops ds (s.wqs d.ws)).wp P sc1 K' := by
      simp only [stabX] at h
      split at h
      · obtain ⟨h1, sc1, h2⟩ := stabE_wp (SM.wp_bnd h)
        exact ⟨fun e he hb _ => h1 e he hb, sc1, h2⟩
      · rename_i hr
        exact ⟨fun e _ _ hc => absurd hc (by rw [hr]; simp), ⟨sc, h⟩⟩
    obtain ⟨k1, sc1, k2⟩ := key
    obtain ⟨h3, h4⟩ := stabX_wp k2
    refine ⟨fun i o' d' ho hd hr e he hb => ?_, h4⟩
    cases i with
    | zero =>
      simp only [List.getElem?_cons_zero, Option.some.injEq] at ho hd
      subst ho hd
      exact k1 e he hb hr
    | succ i =>
      simp only [List.getElem?_cons_succ] at ho hd
      have := h3 i o' d' ho hd hr e he hb
      simp only [List.take_succ_cons, List.flatMap_cons, wqs_append]
      exact this
theorem PW_chainS {id : Nat} {ops : List Oper} {sts : List DS} {xs : List Ext} {t : S} {ro : TypeId → Option Bool} (hm : P.follows .mixedOrders = true) (hall : dstOK cx.n ops = true) (hch : Chain P cx ops.toArray Q ops sts xs s t) (hst : ∀ i o d, ops[i]? = some o → sts[i]? = some d → relD P o d = true → ∀ e ∈ s.ext :: xs, isAbs e = false → Stab P ro cx.n ops o d { s.wqs ((sts.take i).flatMap (·.ws)) with ext := e })
    (hc : chk ops (relL P ops sts) s.tmps = true) (hq : Q .normal t) : PW P cx (.region id ops.toArray true) s Q := by
  obtain ⟨k1, k2, k3⟩ := hch.at_
  have hcnt := hch.cnt
  let ef : Nat → Ext := fun k => (s.ext :: xs).getD (min k xs.length) []
  have hef : ∀ k, ef k ∈ s.ext :: xs := fun k => by
    show (s.ext :: xs).getD (min k xs.length) [] ∈ s.ext :: xs
    have : min k xs.length < (s.ext :: xs).length := by simp; omega
    rw [List.getD_eq_getElem?_getD, List.getElem?_eq_getElem this]
    exact List.getElem_mem this
  have hle : ∀ i, (sts.take i).countP (·.eff) ≤ xs.length := fun i => by
    rw [hcnt]
    have := List.countP_append (p := fun d : DS => d.eff) (l₁ := sts.take i) (l₂ := sts.drop i)
    rw [List.take_append_drop] at this
    omega
  have hfe : ∀ k, k ≤ xs.length → ef k = (s.ext :: xs).getD k [] := fun k hk => by show (s.ext :: xs).getD (min k xs.length) [] = _; rw [Nat.min_eq_left hk]
  have hT : ∀ i, sT s (relL P ops sts) ef i = stA s sts xs i := fun i => by
    unfold sT stA
    have h1 := wsel_take sts 0 i
    have h2 := ecnt_take sts 0 i
    simp only [Nat.zero_add] at h1 h2
    rw [relL_wsel, relL_ecnt, h1, h2, hfe _ (hle i)]
  have hk0 : ∀ i, ecnt (fun j => decide (j < i)) 0 (relL P ops sts) = (sts.take i).countP (·.eff) := fun i => by
    rw [relL_ecnt]
    have := ecnt_take sts 0 i
    simpa using this
  refine PW_draw (sts := relL P ops sts) (e := ef) hm hc (by rw [relL_len]; exact k1) (by rw [hfe 0 (Nat.zero_le _)]; rfl) ?_ fun i o d' ho hd' => ?_
  · have h1 := hT sts.length
    have h2 : sD s (relL P ops sts) ef (fun _ => true) = sT s (relL P ops sts) ef sts.length := by
      unfold sD sT
      rw [wsel_congr (D := fun _ => true) (D' := fun j => decide (j < sts.length)) (sts := relL P ops sts) (k := 0) fun j _ hj => by rw [relL_len] at hj; simp at hj; simp [hj]]
      rw [ecnt_congr (D := fun _ => true) (D' := fun j => decide (j < sts.length)) (sts := relL P ops sts) (k := 0) fun j d' hj _ => by
        have := (List.getElem?_eq_some_iff.1 hj).1
        rw [relL_len] at this
        simp [this]]
    rw [h2, h1, ← k2]
    exact hq
  · obtain ⟨d, hd, rfl⟩ := relL_get P ho hd'
    obtain ⟨hnf1, hnf, -⟩ := chk_at hc hd'
    rw [hT, hk0]
    cases hrel : relD P o d with
    | false =>
      have hrx : relx P o d = d := by unfold relx; rw [hrel]
      rw [hrx] at hnf ⊢
      obtain ⟨e', h1, h2⟩ := k3 i o d ho hd
      intro s' k hag hxk hse hnl
      have := h1 hnf s' hag (fun hx => by
        rw [hse, hxk hx, hfe _ (hle i)]; rfl) hnl
      refine this.of (fun p hp => ?_) ?_
      · cases p <;> first | rfl | cases hp
      · simp only
        cases hef' : d.eff with
        | true =>
          have hkk := hxk (by simp [DS.xf, hef'])
          have hlt : (sts.take i).countP (·.eff) + 1 ≤ xs.length := by
            have h5 := hle (i + 1)
            rw [List.take_add_one, hd] at h5
            simp [hef'] at h5
            exact h5
          rw [hkk, h2 hef', hfe _ (by simpa using hlt)]
          rfl
        | false => simp only [Bool.false_eq_true, if_false, Nat.add_zero]; exact hse.symm
    | true =>
      have hst' := hst i o d ho hd hrel
      have hrx : relx P o d = ⟨d.rd.filter (fun l => !isX l), d.ws, d.eff⟩ := by unfold relx; rw [hrel]
      have heff : d.eff = false := by
        simp only [relD, Bool.and_eq_true, Bool.not_eq_true'] at hrel
        exact hrel.1.1.1
      have hcal : callee P o = none := by
        simp only [relD, Bool.and_eq_true, Option.isNone_iff_eq_none] at hrel
        exact hrel.1.2
      have hgrd : o.guard = none := by
        simp only [relD, Bool.and_eq_true, Option.isNone_iff_eq_none] at hrel
        exact hrel.2
      rw [hrx] at hnf hnf1 ⊢
      simp only at hnf hnf1
      intro s' k hag _ hse hnl
      cases hab : isAbs (ef k) with
      | true => exact fun g l a w sm => (abs_false sm (hse.trans (isAbs_eq hab))).elim
      | false =>
      have hS := hst' (ef k) (hef k) hab
      have hdst : ∀ d0, o.dst = some d0 → d0 < cx.n := dstOK_mem hall (List.mem_of_getElem? ho)
      have hstep : stepR P ro cx.n ops o [] { s.wqs ((sts.take i).flatMap (·.ws)) with ext := ef k } fun d1 x _ => d1.ws = d.ws ∧ d1.eff = false ∧ x = none ∧ ∀ l ∈ d1.rd, isX l = false → l ∈ d.rd := by
        unfold stepR
        rw [hcal]
        refine RM.wpR_mono' hS ?_
        rintro wr rd ⟨rfl, hrd⟩
        have hno : d.ws.any isXW = false := by
          rw [Bool.eq_false_iff]
          intro hany
          obtain ⟨x, hx, hxw⟩ := List.any_eq_true.1 hany
          have := List.all_eq_true.1 hnf1 x hx
          cases x <;> first | (simp [isXW] at hxw; done) | (simp [plainW] at this; done)
        rw [if_neg (by rw [hno]; simp)]
        exact ⟨rfl, rfl, rfl, by simpa using hrd⟩
      obtain ⟨d1, x, s1, ⟨hws, he1, hx1, hrd1⟩, -, -, hL⟩ := stepR_sound (Q := Q) hdst (fun s'' _ g l a w _ => by simp [Region.wanted, hgrd]) hstep
      have := hL (by rw [hws]; exact hnf) s' (fun l hl => by
        by_cases hx : isX l = true
        · cases l with
          | t _ => cases hx
          | b _ => cases hx
          | x n => simp only [S.get]; rw [hse]
        · have hx' : isX l = false := by simpa using hx
          have h6 := hag l (List.mem_filter.2 ⟨hrd1 l hl hx', by simp [hx']⟩)
          rw [h6]
          unfold stA
          cases l <;> first | rfl | exact absurd rfl hx) (fun hxf => hse) (by rw [hws]; exact hnl)
      refine this.of (fun p hp => ?_) ?_
      · rw [hws]
        cases p <;> first | rfl | cases hp
      · simp only [heff, he1, Bool.false_eq_true, if_false, Nat.add_zero]
        exact hse.symm

/-! ## Code -/
def evRX (P : Program) (md : Md) (n : Nat) (ops : List Oper) (draw : Bool) (s : S) : SM (PExit × S) := match draw with
  | false => evLX P md n ops ops s
  | true => (evDX P md.ro n ops (ancs ops []) ops 0 none s).bnd fun x => match chk ops x.1 s.tmps with
    | true => match x.2.2.1 with
      | none => .ret (.normal, x.2.1)
      | some (_, p, e) => .ret (.panic p, ⟨[], [], e⟩)
    | false => match chk ops (relL P ops x.1) s.tmps with
      | true => (stabX P md.ro n ops (s.ext :: x.2.2.2) ops x.1 s).bnd fun _ => match x.2.2.1 with
        | none => .ret (.normal, x.2.1)
        | some (_, p, e) => .ret (.panic p, ⟨[], [], e⟩)
      | false => .bad 25
theorem evRX_sound {id : Nat} {ops : Array Oper} {draw : Bool} {K' : PExit × S → List Ans → Prop} (hm : P.follows .mixedOrders = true) (hall : dstOK cx.n ops.toList = true) (h : (evRX P md cx.n ops.toList draw s).wp P sc K') (hk : ∀ pe s' sc', K' (pe, s') sc' → Q pe s') : PW P cx (.region id ops draw) s Q := by
  obtain ⟨ops⟩ := ops
  cases draw with
  | false => exact fun g l0 a w hs => wp_region_lit (evLX_sound hall hk (fun _ h => h) h g l0 a w hs)
  | true =>
    simp only [evRX] at h
    obtain ⟨sts, xs, t, pk, sc', h1, -, h3, h4⟩ := evDX_sound (Q := Q) hall (fun _ h => h) (fun h => by simp at h) (SM.wp_bnd h)
    simp only at h1
    split at h1
    rotate_left
    · split at h1
      · rename_i hc
        refine PW_of_Qx ?_
        obtain ⟨hst, sc2, h5⟩ := stabX_wp (SM.wp_bnd h1)
        cases pk with
        | none => exact PW_chainS hm hall (h4 fun i p e he => by cases he) hst hc (.inr (hk _ _ _ (SM.wp_ret h5)))
        | some v =>
          obtain ⟨i, p, e⟩ := v
          refine PW_chainS hm hall (h4 fun i p e he => ?_) hst hc (.inl (h3 rfl))
          injection he with he
          injection he with h5' h6
          injection h6 with h6 h7
          subst h6 h7
          exact hk _ _ _ (SM.wp_ret h5)
      · exact h1.elim
    · rename_i hc
      refine PW_of_Qx ?_
      cases pk with
      | none =>
        refine PW_chain hm (h4 fun i p e he => ?_) hc (.inr (hk _ _ _ (SM.wp_ret h1)))
        cases he
      | some v =>
        obtain ⟨i, p, e⟩ := v
        refine PW_chain hm (h4 fun i p e he => ?_) hc (.inl (h3 rfl))
        injection he with he
        injection he with h5 h6
        injection h6 with h6 h7
        subst h6 h7
        exact hk _ _ _ (SM.wp_ret h1)
end
def loopX (body : S → SM (PExit × S)) : Nat → S → SM (PExit × S)
  | 0, _ => .bad 26
  | n + 1, s => (body s).bnd fun r => match r with
    | (.normal, s') => loopX body n s'
    | r => .ret r
def askL (n : Nat) (c : Code) (body : S → SM (PExit × S)) (fl : Nat) (s : S) : SM (PExit × S)
  | .loop s0 pe s1 :: sc => .ok (pe, s1) sc [.le s0 s, .loop n c s0 pe s1]
  | .unroll :: sc => loopX body fl s sc
  | _ => .no (.loop n c s)
def evCX (P : Program) (md : Md) (n fl : Nat) : Code → S → SM (PExit × S)
  | .skip, s => .ret (.normal, s)
  | .region _ ops draw, s => evRX P md n ops.toList draw s
  | .seq a b, s => (evCX P md n fl a s).bnd fun r => match r with
    | (.normal, s') => evCX P md n fl b s'
    | r => .ret r
  | .cond (.tmp t) x y, s => match lk s.tmps t with
    | some (.v (.bool b)) => (askB b).bnd fun v => match v with
      | true => evCX P md n fl x s
      | false => evCX P md n fl y s
    | _ => .bad 27
  | .cond (.const v) x y, s => match v with
    | .bool true => evCX P md n fl x s
    | .bool false => evCX P md n fl y s
    | _ => .bad 29
  | .block id c, s => (evCX P md n fl c s).bnd fun r => match r with
    | (.exit id', s') => if id' = id then .ret (.normal, s') else .ret (.exit id', s')
    | r => .ret r
  | .loop c, s => askL n c (evCX P md n fl c) fl s
  | .exit id, s => .ret (.exit id, s)
  | .ret, s => .ret (.ret, s)
  | _, _ => .bad 28
section
variable {P : Program} {cx : Cx} {md : Md} {fl : Nat}
theorem loopX_sound {c : Code} {body : S → SM (PExit × S)} {Q : PExit → S → Prop} {K' : PExit × S → List Ans → Prop} (hbody : ∀ {s : S} {sc : List Ans} {K' : PExit × S → List Ans → Prop} {Q : PExit → S → Prop}, (body s).wp P sc K' → (∀ pe s' sc', K' (pe, s') sc' → Q pe s') → PW P cx c s Q)
    {n : Nat} {s : S} {sc : List Ans} (h : (loopX body n s).wp P sc K') (hk : ∀ pe s' sc', K' (pe, s') sc' → Q pe s') : PW P cx (.loop c) s Q := by
  refine PW_loopE (α := { x : Nat × S × List Ans // (loopX body x.1 x.2.1).wp P x.2.2 K' }) (fun x => x.1.2.1) (fun x => x.1.1) ⟨(n, s, sc), h⟩ rfl ?_
  rintro ⟨⟨n, s, sc⟩, h⟩
  cases n with
  | zero => exact h.elim
  | succ n =>
    refine hbody (SM.wp_bnd h) fun pe s' sc' h1 => ?_
    cases pe with
    | normal => exact ⟨⟨(n, s', sc'), h1⟩, Nat.lt_succ_self _, rfl⟩
    | exit i => exact hk _ _ _ (SM.wp_ret h1)
    | ret => exact hk _ _ _ (SM.wp_ret h1)
    | panic p => exact hk _ _ _ (SM.wp_ret h1)
theorem evCX_sound (hm : P.follows .mixedOrders = true) : ∀ (c : Code) {s : S} {sc : List Ans} {K' : PExit × S → List Ans → Prop} {Q : PExit → S → Prop}, codeOK cx.n c = true → (evCX P md cx.n fl c s).wp P sc K' → (∀ pe s' sc', K' (pe, s') sc' → Q pe s') → PW P cx c s Q
  | .skip, s, sc, K', Q, _, h, hk => PW_skip (hk _ _ _ (SM.wp_ret h))
  | .region _ ops draw, s, sc, K', Q, hc, h, hk => evRX_sound hm hc h hk
  | .seq a b, s, sc, K', Q, hc, h, hk => by
    simp only [codeOK, Bool.and_eq_true] at hc
    simp only [evCX] at h
    refine PW_seq (evCX_sound hm a hc.1 (SM.wp_bnd h) fun pe s' sc' h1 => ?_)
    cases pe with
    | normal => exact evCX_sound hm b hc.2 h1 hk
    | exit i => exact hk _ _ _ (SM.wp_ret h1)
    | ret => exact hk _ _ _ (SM.wp_ret h1)
    | panic p => exact hk _ _ _ (SM.wp_ret h1)
  | .cond x a b, s, sc, K', Q, hc, h, hk => by
    simp only [codeOK, Bool.and_eq_true] at hc
    cases x with
    | tmp t =>
      simp only [evCX] at h
      split at h
      · rename_i v ht
        obtain ⟨sc', h1⟩ := askB_wp (SM.wp_bnd h)
        refine PW_cond ht (fun e => ?_) (fun e => ?_)
        · subst e; exact evCX_sound hm a hc.1 h1 hk
        · subst e; exact evCX_sound hm b hc.2 h1 hk
      · exact h.elim
    | const v =>
      simp only [evCX] at h
      split at h
      · exact fun g l a' w hs => wp_cond_split (show a'.eval (.const (.bool true)) = .bool true from rfl) (fun _ => evCX_sound hm a hc.1 h hk g l a' w hs) (fun e => Bool.noConfusion e)
      · exact fun g l a' w hs => wp_cond_split (show a'.eval (.const (.bool false)) = .bool false from rfl) (fun e => Bool.noConfusion e) (fun _ => evCX_sound hm b hc.2 h hk g l a' w hs)
      · exact h.elim
    | global _ => simp only [evCX] at h; exact h.elim
    | func _ => simp only [evCX] at h; exact h.elim
  | .block id c, s, sc, K', Q, hc, h, hk => by
    simp only [codeOK] at hc
    simp only [evCX] at h
    refine PW_block (evCX_sound hm c hc (SM.wp_bnd h) fun pe s' sc' h1 => ?_)
    cases pe with
    | normal => exact hk _ _ _ (SM.wp_ret h1)
    | exit i =>
      simp only [blockQ]
      simp only at h1
      split at h1
      · rename_i e; rw [if_pos e]; exact hk _ _ _ (SM.wp_ret h1)
      · rename_i e; rw [if_neg e]; exact hk _ _ _ (SM.wp_ret h1)
    | ret => exact hk _ _ _ (SM.wp_ret h1)
    | panic p => exact hk _ _ _ (SM.wp_ret h1)
  | .loop c, s, sc, K', Q, hc, h, hk => by
    simp only [codeOK] at hc
    simp only [evCX] at h
    unfold SM.wp askL at h
    split at h
    · obtain ⟨⟨h1, h2, -⟩, h3⟩ := h
      refine PW.leX h1 ((h2 cx rfl).mono ?_)
      rintro _ _ ⟨rfl, rfl⟩
      exact hk _ _ _ h3
    · exact loopX_sound (fun h hk => evCX_sound hm c hc h hk) h hk
    · exact h.elim
  | .exit id, s, sc, K', Q, _, h, hk => PW_exit (hk _ _ _ (SM.wp_ret h))
  | .ret, s, sc, K', Q, _, h, hk => PW_ret (hk _ _ _ (SM.wp_ret h))
  | .rangeFunc _ _ _ _, _, _, _, _, _, h, _ => by simp only [evCX] at h; exact h.elim
  | .scope _, _, _, _, _, _, h, _ => by simp only [evCX] at h; exact h.elim
  | .label _, _, _, _, _, _, h, _ => by simp only [evCX] at h; exact h.elim
  | .goto _, _, _, _, _, _, h, _ => by simp only [evCX] at h; exact h.elim
  | .refuse _, _, _, _, _, _, h, _ => by simp only [evCX] at h; exact h.elim

/-- A piece of code, by its script. -/
theorem PW_run (md : Md) (n fl : Nat) (sc : List Ans) {c : Code} {s s' : S} {pe : PExit} {sc' : List Ans} {l : List Ob} {Q : PExit → S → Prop} (hm : P.follows .mixedOrders = true) (hn : cx.n = n) (hc : codeOK n c = true) (h : evCX P md n fl c s sc = .ok (pe, s') sc' l) (hl : Obs P l) (hq : Q pe s') : PW P cx c s Q := by
  subst hn
  refine evCX_sound (K' := fun r _ => r = (pe, s')) hm c hc (show SM.wp P _ sc _ from by unfold SM.wp; rw [h]; exact ⟨hl, rfl⟩) ?_
  rintro _ _ _ ⟨rfl, rfl⟩
  exact hq
/-- What the end knows may be forgotten in part. -/
theorem PW.postLe {c : Code} {s : S} {Q : PExit → S → Prop} (h : PW P cx c s fun pe s' => ∃ t, LeX t s' ∧ Q pe t) : PW P cx c s Q := fun g l a w hs => by
  refine wp_mono (h g l a w hs) ?_
  rintro e a' w' ⟨pe, s', g', l', ⟨t, h1, h2⟩, er, sm⟩
  exact ⟨pe, t, g', l', h2, er, sm.leX h1⟩
/-- Only some entries. -/
def keepL {α : Type} (l : List (Nat × α)) : List Nat → List (Nat × α)
  | [] => []
  | k :: r => match lk l k with
    | some v => (k, v) :: keepL l r
    | none => keepL l r
def keepS (ks bs : List Nat) (s : S) : S := ⟨keepL s.tmps ks, keepL s.boxes bs, s.ext⟩
theorem keepL_leT (l : List (Nat × LV)) : ∀ ks, LeT (keepL l ks) l
  | [] => trivial
  | k :: r => by
    simp only [keepL]
    split
    · rename_i v hv
      refine ⟨?_, keepL_leT l r⟩
      rw [hv]
      exact WL.refl v
    · exact keepL_leT l r
theorem keepL_leB (l : List (Nat × List LV)) : ∀ ks, LeB (keepL l ks) l
  | [] => trivial
  | k :: r => by
    simp only [keepL]
    split
    · rename_i v hv
      refine ⟨?_, keepL_leB l r⟩
      rw [hv]
      exact WLs.refl v
    · exact keepL_leB l r
def SR.keep (ks bs : List Nat) : SR (PExit × S) → SR (PExit × S)
  | .ok (pe, s) sc l => .ok (pe, keepS ks bs s) sc l
  | .no n => .no n
theorem PW_runK (md : Md) (n fl : Nat) (sc : List Ans) (ks bs : List Nat) {c : Code} {s s' : S} {pe : PExit} {sc' : List Ans} {l : List Ob} {Q : PExit → S → Prop} (hm : P.follows .mixedOrders = true) (hn : cx.n = n) (hc : codeOK n c = true) (h : (evCX P md n fl c s sc).keep ks bs = .ok (pe, s') sc' l) (hl : Obs P l) (hq : Q pe s') : PW P cx c s Q := by
  cases he : evCX P md n fl c s sc with
  | no _ => rw [he] at h; cases h
  | ok a sc1 l1 =>
    obtain ⟨pe1, s1⟩ := a
    rw [he] at h
    simp only [SR.keep, SR.ok.injEq, Prod.mk.injEq] at h
    obtain ⟨⟨rfl, rfl⟩, rfl, rfl⟩ := h
    exact PW.postLe (PW_run md n fl sc hm hn hc he hl ⟨keepS ks bs s1, ⟨keepL_leT _ _, keepL_leB _ _, rfl⟩, hq⟩)
/-- A loop: the state of each round, a number that falls, and how it ends. -/
theorem Ob.loop_of {α : Type} {n : Nat} {c : Code} (I : α → S) (μ : α → Nat) (res : α → PExit × S)
    (round : ∀ x (cx : Cx), cx.n = n → PW P cx c (I x) fun pe s' => (pe = .normal ∧ ∃ y, μ y < μ x ∧ LeX (I y) s' ∧ res y = res x) ∨ (pe ≠ .normal ∧ pe = (res x).1 ∧ LeX (res x).2 s')) (x : α) : (Ob.loop n c (I x) (res x).1 (res x).2).ok P := by
  intro cx hcx
  refine PW.postLe ?_
  refine PW_loopE (α := { y : α × S // res y.1 = res x ∧ (y.2 = I y.1 ∨ LeX (I y.1) y.2) }) (fun y => y.1.2) (fun y => μ y.1.1) ⟨(x, I x), rfl, .inl rfl⟩ rfl ?_
  · rintro ⟨⟨y, s⟩, hy, hle⟩
    have go : ∀ {Q : PExit → S → Prop}, PW P cx c (I y) Q → PW P cx c s Q := fun hp => by
      rcases hle with h0 | hle
      · have h0' : s = I y := h0
        rw [h0']; exact hp
      · exact PW.leX hle hp
    refine go ((round y cx hcx).mono ?_)
    rintro pe s' (⟨rfl, z, h1, h2, h3⟩ | ⟨h1, h2, h3⟩)
    · exact ⟨⟨(z, s'), h3.trans hy, .inr h2⟩, h1, rfl⟩
    · rw [hy] at h2 h3
      cases pe with
      | normal => exact absurd rfl h1
      | _ => exact ⟨_, h3, h2, rfl⟩
end

/-- The loops of a piece of code, as they stand. -/
def loopsC : Code → List Code
  | .seq a b => loopsC a ++ loopsC b
  | .cond _ a b => loopsC a ++ loopsC b
  | .block _ c => loopsC c
  | .loop c => c :: loopsC c
  | _ => []
def loopF (fn : Func) (k : Nat) : Code := match fn.body with
  | some c => (loopsC c).getD k .skip
  | none => .skip

/-! ## Functions -/
def endX (P : Program) (res : List ResultVar) (pe : PExit) (s : S) : SM (CRes × Ext) := match endV P res pe s with
  | some x => .ret x
  | none => .bad 30
def resX (P : Program) (res : List ResultVar) (s : S) (e : Ext) : SM (CRes × Ext) := match resP P { s with ext := e } res with
  | some q => .ret (.ret q, e)
  | none => .bad 31
/-- A function that defers one closure: what comes before, how the closure is made, what comes behind. -/
def preD : Code → Option (List Code × Oper × Oper × Nat × Code)
  | .seq (.region i ⟨[mk, df]⟩ false) y => match df.op with
    | .defer ⟨.value (.tmp t), ⟨[]⟩, _⟩ => some ([], mk, df, t, y)
    | _ => (preD y).map fun x => (.region i ⟨[mk, df]⟩ false :: x.1, x.2)
  | .seq a b => (preD b).map fun x => (a :: x.1, x.2)
  | _ => none
theorem preD_inv : ∀ {c : Code} {xs : List Code} {mk df : Oper} {t : Nat} {y : Code}, preD c = some (xs, mk, df, t, y) → ∃ id ts, c = seqs xs (.seq (.region id #[mk, df] false) y) ∧ df.op = .defer ⟨.value (.tmp t), #[], ts⟩ := by
  intro c
  induction c using preD.induct with
  | case1 i mk df y t ts hop =>
    intro xs mk' df' t' y' h
    simp only [preD, hop, Option.some.injEq, Prod.mk.injEq] at h
    obtain ⟨rfl, rfl, rfl, rfl, rfl⟩ := h
    exact ⟨i, ts, rfl, hop⟩
  | case2 i mk df y hne ih =>
    intro xs mk' df' t' y' h
    unfold preD at h
    split at h
    · rename_i t ts hop
      exact absurd hop (hne t ts)
    · simp only [Option.map_eq_some_iff] at h
      obtain ⟨⟨xs1, mk1, df1, t1, y1⟩, h1, h2⟩ := h
      simp only [Prod.mk.injEq] at h2
      obtain ⟨rfl, rfl, rfl, rfl, rfl⟩ := h2
      obtain ⟨id, ts, h3, h4⟩ := ih h1
      exact ⟨id, ts, by rw [h3]; rfl, h4⟩
  | case3 a b hne ih =>
    intro xs mk' df' t' y' h
    rw [preD] at h
    · simp only [Option.map_eq_some_iff] at h
      obtain ⟨⟨xs1, mk1, df1, t1, y1⟩, h1, h2⟩ := h
      simp only [Prod.mk.injEq] at h2
      obtain ⟨rfl, rfl, rfl, rfl, rfl⟩ := h2
      obtain ⟨id, ts, h3, h4⟩ := ih h1
      exact ⟨id, ts, by rw [h3]; rfl, h4⟩
    · exact hne
  | case4 c h1 h2 =>
    intro xs mk' df' t' y' h
    unfold preD at h
    split at h
    · exact absurd rfl (h1 _ _ _ _)
    · exact absurd rfl (h2 _ _)
    · cases h
/-- Pieces of code, one after the other. -/
def evPX (P : Program) (md : Md) (n fl : Nat) : List Code → S → SM S
  | [], s => .ret s
  | c :: r, s => (evCX P md n fl c s).bnd fun x => match x with
    | (.normal, s') => evPX P md n fl r s'
    | _ => .bad 37
theorem evPX_sound {P : Program} {cx : Cx} {md : Md} {fl : Nat} (hm : P.follows .mixedOrders = true) {K : S → Prop} : ∀ {xs : List Code} {s : S} {sc : List Ans} {K' : S → List Ans → Prop}, (∀ c ∈ xs, codeOK cx.n c = true) → (evPX P md cx.n fl xs s).wp P sc K' → (∀ s' sc', K' s' sc' → K s') → PWs P cx xs s K
  | [], s, sc, K', _, h, hk => hk _ _ (SM.wp_ret h)
  | c :: r, s, sc, K', hc, h, hk => by
    refine evCX_sound hm c (hc c List.mem_cons_self) (SM.wp_bnd h) fun pe s' sc' h1 => ?_
    cases pe with
    | normal => exact ⟨rfl, evPX_sound hm (fun c hc' => hc c (List.mem_cons_of_mem _ hc')) h1 hk⟩
    | exit i => exact h1.elim
    | ret => exact h1.elim
    | panic p => exact h1.elim
theorem codeOK_seqs {n : Nat} : ∀ {xs : List Code} {c : Code}, codeOK n (seqs xs c) = true → (∀ x ∈ xs, codeOK n x = true) ∧ codeOK n c = true
  | [], c, h => ⟨fun x hx => by simp at hx, h⟩
  | x :: r, c, h => by
    simp only [seqs, codeOK, Bool.and_eq_true] at h
    obtain ⟨h1, h2⟩ := codeOK_seqs h.2
    refine ⟨fun y hy => ?_, h2⟩
    rcases List.mem_cons.1 hy with rfl | hy
    · exact h.1
    · exact h1 y hy
def evFX (P : Program) (md : Md) (fl : Nat) (fn : Func) (args : List PV) (e : Ext) : SM (CRes × Ext) := match fn.body with
  | none => .bad 32
  | some c => if args.length ≤ fn.ntmps then (match preD c with
    | none => (evCX P md fn.ntmps fl c (enterS args e)).bnd fun r => endX P fn.results.toList r.1 r.2
    | some (r0, mk, df, t, y) => if mk.guard.isNone && df.guard.isNone && df.dst.isNone then ((evPX P md fn.ntmps fl r0 (enterS args e)).bnd fun s => ((act P md.ro fn.ntmps [mk, df] mk).runM s).bnd fun wr => match lk (s.wrs wr).tmps t with
        | some (.v (.fn (.func fid) first cap)) => if isFn P fid = true then (evCX P md fn.ntmps fl y (s.wrs wr)).bnd fun r2 => match r2 with
          | (.panic p, s2) => (askD fid (first ++ cap) s2.ext (.pan p)).bnd fun d => match d with
            | (.rcv, e') => resX P fn.results.toList s2 e'
            | _ => .bad 33
          | (.exit _, _) => .bad 34
          | (_, s2) => (askD fid (first ++ cap) s2.ext .ret).bnd fun d => match d with
            | (.ret, e') => resX P fn.results.toList s2 e'
            | _ => .bad 35 else .bad 41
        | _ => .bad 36) else .bad 38) else .bad 39
def evGX (P : Program) (md : Md) (fl : Nat) (fn : Func) (args : List PV) (e : Ext) (m : PM) : SM (PM × Ext) := match fn.body with
  | none => .bad 50
  | some c => match recShape c with
    | none => .bad 51
    | some (t0, t1, y) => if args.length ≤ fn.ntmps ∧ t0 < fn.ntmps ∧ t1 < fn.ntmps then (match m with
      | .rcv => .bad 52
      | .ret => (evCX P md fn.ntmps fl y ⟨put (put (argT 0 args) t0 (.v .nilif)) t1 (.v .nilif), [], e⟩).bnd fun r => match r with
        | (.normal, s) => if (resP P s fn.results.toList).isSome = true then .ret (.ret, s.ext) else .bad 53
        | (.ret, s) => if (resP P s fn.results.toList).isSome = true then .ret (.ret, s.ext) else .bad 54
        | _ => .bad 55
      | .pan p => (evCX P md fn.ntmps fl y ⟨put (put (argT 0 args) t0 (.v p)) t1 (.v p), [], e⟩).bnd fun r => match r with
        | (.normal, s) => if (resP P s fn.results.toList).isSome = true then .ret (.rcv, s.ext) else .bad 56
        | (.ret, s) => if (resP P s fn.results.toList).isSome = true then .ret (.rcv, s.ext) else .bad 57
        | _ => .bad 58) else .bad 59
section
variable {P : Program} {md : Md} {fl : Nat} {f : FuncId} {fn : Func} {args : List PV} {e : Ext}
theorem evFX_sound {sc : List Ans} {R : CRes → Ext → Prop} (hm : P.follows .mixedOrders = true) (hf : P.funcs[f]? = some fn) (hok : fnOK fn = true) (h : (evFX P md fl fn args e).wp P sc fun r _ => R r.1 r.2) : CallC P f args e R := by
  unfold evFX at h
  unfold fnOK at hok
  split at h
  · exact h.elim
  · rename_i c hb
    rw [hb] at hok
    simp only at hok
    split at h
    · rename_i hn
      split at h
      · refine CallC.enter hf hb hn fun cx hcx hds => ?_
        rw [← hcx] at hok h
        refine evCX_sound hm c hok (SM.wp_bnd h) fun pe s' sc' h1 => ?_
        unfold endX at h1
        split at h1
        · rename_i x hx
          have := endV_sound (r := x.1) (e := x.2) hx
          have h2 := SM.wp_ret h1
          cases pe with
          | panic p => obtain ⟨h3, h4⟩ := this; show R _ _; rw [h3, h4]; exact h2
          | exit i => exact this
          | normal => obtain ⟨q, h3, h4, h5⟩ := this; refine ⟨q, h3, ?_⟩; rw [h4, h5]; exact h2
          | ret =>
            rcases this with ⟨q, h3, h4, h5⟩ | ⟨t, e0, z, es, h3, h4, h5, h6⟩
            · refine .inl ⟨q, h3, ?_⟩; rw [h4, h5]; exact h2
            · refine .inr ⟨t, e0, z, es, h3, h4, ?_⟩; rw [h5, h6]; exact h2
        · exact h1.elim
      · rename_i r0 mk df t y hsh
        obtain ⟨id, ts, rfl, hdf⟩ := preD_inv hsh
        obtain ⟨hokp, hokr⟩ := codeOK_seqs hok
        simp only [codeOK, Bool.and_eq_true] at hokr
        split at h
        · rename_i hg
          simp only [Bool.and_eq_true, Option.isNone_iff_eq_none] at hg
          refine CallC.enterDs md.ro hf hb hn hdf hg.1.1 hg.1.2 hg.2 fun cx hcx hds => ?_
          have h0 := SM.wp_bnd h
          rw [← hcx] at h0 hokp
          refine evPX_sound hm hokp h0 fun s sc1 h1 => ?_
          have h1' := h1
          try rw [hcx] at h1'
          refine RM.wp_mono ?_ (RM.runM_wp (SM.wp_bnd h1'))
          rintro wr ⟨sc2, h2⟩
          · skip
            split at h2
            · rename_i fid first cap hlk
              split at h2
              · rename_i hfid
                refine ⟨fid, first, cap, hlk, hfid, fun cx' hcx' => ?_⟩
                have hok2 := hokr.2
                have h3 := SM.wp_bnd h2
                rw [← hcx'] at hok2 h3
                refine evCX_sound hm y hok2 h3 fun pe s2 sc3 h4 => ?_
                have hres : ∀ {s2 : S} {e1 : Ext} {sc : List Ans}, (resX P fn.results.toList s2 e1).wp P sc (fun r _ => R r.1 r.2) → ∃ q, resP P { s2 with ext := e1 } fn.results.toList = some q ∧ R (.ret q) e1 := by
                  intro s2 e1 sc h
                  unfold resX at h
                  split at h
                  · rename_i q hq; exact ⟨q, hq, SM.wp_ret h⟩
                  · exact h.elim
                have fin : ∀ {m m' : PM} {e1 : Ext}, CallCD P fid (first ++ cap) s2.ext m (fun m1 e1' => m1 = m' ∧ e1' = e1) → (∃ q, resP P { s2 with ext := e1 } fn.results.toList = some q ∧ R (.ret q) e1) → CallCD P fid (first ++ cap) s2.ext m fun m1 e1' => m1 = m' ∧ ∃ q, resP P { s2 with ext := e1' } fn.results.toList = some q ∧ R (.ret q) e1' := by
                  intro m m' e1 k2 hq vs g l w u ha he hu
                  refine (k2 vs g l w u ha he hu).mono ?_
                  rintro en u' w' ⟨v, m2, e2, g', l', k3, ⟨k4, k5⟩, k6⟩
                  exact ⟨v, m2, e2, g', l', k3, ⟨k4, by rw [k5]; exact hq⟩, k6⟩
                cases pe with
                | panic p =>
                  obtain ⟨m', e1, sc4, h5, -, h6⟩ := askD_wp (SM.wp_bnd h4)
                  split at h5
                  · rename_i e2 heq
                    injection heq with e3 e4
                    subst e3 e4
                    exact fin h6 (hres h5)
                  · exact h5.elim
                | exit i => exact h4.elim
                | normal =>
                  obtain ⟨m', e1, sc4, h5, -, h6⟩ := askD_wp (SM.wp_bnd h4)
                  split at h5
                  · rename_i e2 heq
                    injection heq with e3 e4
                    subst e3 e4
                    exact fin h6 (hres h5)
                  · exact h5.elim
                | ret =>
                  obtain ⟨m', e1, sc4, h5, -, h6⟩ := askD_wp (SM.wp_bnd h4)
                  split at h5
                  · rename_i e2 heq
                    injection heq with e3 e4
                    subst e3 e4
                    exact fin h6 (hres h5)
                  · exact h5.elim
              · exact h2.elim
            · exact h2.elim
        · exact h.elim
    · exact h.elim
theorem evGX_sound {sc : List Ans} {m : PM} {R : PM → Ext → Prop} (hm : P.follows .mixedOrders = true) (hf : P.funcs[f]? = some fn) (hok : fnOK fn = true) (h : (evGX P md fl fn args e m).wp P sc fun r _ => R r.1 r.2) : CallCD P f args e m R := by
  unfold evGX at h
  unfold fnOK at hok
  split at h
  · exact h.elim
  · rename_i c hb
    rw [hb] at hok
    simp only at hok
    split at h
    · exact h.elim
    · rename_i t0 t1 y hsh
      obtain ⟨id, o0, o1, ts, rfl, h0, h1, h2, h3, g0, g1⟩ := recShape_inv hsh
      simp only [codeOK, Bool.and_eq_true] at hok
      split at h
      · rename_i hc
        obtain ⟨c1, c2, c3⟩ := hc
        cases m with
        | rcv => exact h.elim
        | ret =>
          refine CallCD.enter hf hb c1 h0 g0 h2 h1 g1 h3 c2 c3 .nilif .ret (.inl ⟨rfl, rfl, rfl⟩) fun cx hcx hds => ?_
          have h4 := SM.wp_bnd h
          have hok2 := hok.2
          rw [← hcx] at h4 hok2
          refine evCX_sound hm y hok2 h4 fun pe s sc1 h5 => ?_
          cases pe with
          | normal =>
            simp only at h5
            split at h5
            · rename_i hres; exact ⟨.inl rfl, Option.isSome_iff_exists.1 hres, SM.wp_ret h5⟩
            · exact h5.elim
          | ret =>
            simp only at h5
            split at h5
            · rename_i hres; exact ⟨.inr rfl, Option.isSome_iff_exists.1 hres, SM.wp_ret h5⟩
            · exact h5.elim
          | exit i => exact h5.elim
          | panic p => exact h5.elim
        | pan p =>
          refine CallCD.enter hf hb c1 h0 g0 h2 h1 g1 h3 c2 c3 p .rcv (.inr ⟨rfl, rfl⟩) fun cx hcx hds => ?_
          have h4 := SM.wp_bnd h
          have hok2 := hok.2
          rw [← hcx] at h4 hok2
          refine evCX_sound hm y hok2 h4 fun pe s sc1 h5 => ?_
          cases pe with
          | normal =>
            simp only at h5
            split at h5
            · rename_i hres; exact ⟨.inl rfl, Option.isSome_iff_exists.1 hres, SM.wp_ret h5⟩
            · exact h5.elim
          | ret =>
            simp only at h5
            split at h5
            · rename_i hres; exact ⟨.inr rfl, Option.isSome_iff_exists.1 hres, SM.wp_ret h5⟩
            · exact h5.elim
          | exit i => exact h5.elim
          | panic p => exact h5.elim
      · exact h.elim

/-! ## Contracts by scripts -/
theorem Ob.pur_of (md : Md) (fl : Nat) (sc : Ext → List Ans) {r : CRes} {sc' : Ext → List Ans} {l : Ext → List Ob} (hm : P.follows .mixedOrders = true) (hf : P.funcs[f]? = some fn) (hok : (isFn P f && fnOK fn) = true) (h : ∀ e, evFX P md fl fn args e (sc e) = .ok (r, e) (sc' e) (l e)) (hl : ∀ e, Obs P (l e)) : (Ob.pur f args r).ok P := by
  simp only [Bool.and_eq_true] at hok
  refine ⟨hok.1, fun e => evFX_sound hm hf hok.2 (sc := sc e) (md := md) (fl := fl) ?_⟩
  unfold SM.wp
  rw [h e]
  exact ⟨hl e, rfl, rfl⟩
theorem Ob.eff_of (md : Md) (fl : Nat) (sc : List Ans) {r : CRes} {e' : Ext} {sc' : List Ans} {l : List Ob} (hm : P.follows .mixedOrders = true) (hf : P.funcs[f]? = some fn) (hok : (isFn P f && fnOK fn) = true) (h : evFX P md fl fn args e sc = .ok (r, e') sc' l) (hl : Obs P l) : (Ob.eff f args e r e').ok P := by
  simp only [Bool.and_eq_true] at hok
  refine ⟨hok.1, evFX_sound hm hf hok.2 (sc := sc) (md := md) (fl := fl) ?_⟩
  unfold SM.wp
  rw [h]
  exact ⟨hl, rfl, rfl⟩
theorem Ob.dfr_of (md : Md) (fl : Nat) (sc : List Ans) {m m' : PM} {e' : Ext} {sc' : List Ans} {l : List Ob} (hm : P.follows .mixedOrders = true) (hf : P.funcs[f]? = some fn) (hok : (isFn P f && fnOK fn) = true) (h : evGX P md fl fn args e m sc = .ok (m', e') sc' l) (hl : Obs P l) : (Ob.dfr f args e m m' e').ok P := by
  simp only [Bool.and_eq_true] at hok
  refine ⟨hok.1, evGX_sound hm hf hok.2 (sc := sc) (md := md) (fl := fl) ?_⟩
  unfold SM.wp
  rw [h]
  exact ⟨hl, rfl, rfl⟩
end
end Go.Pv
