/- Pure values, nineteenth part: the theorem on drawn orders. -/
import Derived.Test.YtmllcplaohkjnaaGreatDoorPv18
set_option linter.unusedVariables false
set_option linter.unusedSimpArgs false
set_option linter.unusedSectionVars false
namespace Go.Pv
open Go.RowKit

theorem ecnt_mono {p q : Nat → Bool} : ∀ {sts : List DS} {k : Nat}, (∀ j, k ≤ j → j < k + sts.length → p j = true → q j = true) → ecnt p k sts ≤ ecnt q k sts
  | [], _, _ => Nat.le_refl _
  | d :: r, k, h => by
    have ih := ecnt_mono (p := p) (q := q) (sts := r) (k := k + 1) fun j h1 h2 => h j (by omega) (by simp at h2 ⊢; omega)
    have h0 := h k (Nat.le_refl _) (by simp)
    simp only [ecnt]
    cases hp : p k <;> cases hq : q k <;> cases d.eff <;> simp_all <;> omega
theorem ecnt_insert {D D' : Nat → Bool} {i : Nat} (hD : ∀ j, j ≠ i → D' j = D j) (hi : D i = false) (hi' : D' i = true) : ∀ {sts : List DS} {k : Nat} {d : DS}, k ≤ i → sts[i - k]? = some d → ecnt D' k sts = ecnt D k sts + (if d.eff = true then 1 else 0)
  | [], k, d, _, h => by simp at h
  | d0 :: r, k, d, hk, h => by
    by_cases hki : k = i
    · subst hki
      simp only [Nat.sub_self, List.getElem?_cons_zero, Option.some.injEq] at h
      subst h
      have : ∀ (l : List DS) (m : Nat), k < m → ecnt D' m l = ecnt D m l := by
        intro l
        induction l with
        | nil => intro m _; rfl
        | cons x r ih => intro m hm; simp only [ecnt, hD m (by omega), ih (m + 1) (by omega)]
      simp only [ecnt, hi, hi', this r (k + 1) (by omega)]
      cases d0.eff <;> simp <;> omega
    · have h' : r[i - (k + 1)]? = some d := by
        rw [show i - k = (i - (k + 1)) + 1 by omega, List.getElem?_cons_succ] at h
        exact h
      have ih := ecnt_insert hD hi hi' (by omega : k + 1 ≤ i) h'
      simp only [ecnt, hD k hki, ih]
      omega

theorem ecnt_congr {D D' : Nat → Bool} : ∀ {sts : List DS} {k : Nat}, (∀ j d, sts[j]? = some d → d.eff = true → D (k + j) = D' (k + j)) → ecnt D k sts = ecnt D' k sts
  | [], _, _ => rfl
  | d :: r, k, h => by
    have ih := ecnt_congr (D := D) (D' := D') (sts := r) (k := k + 1) fun j d' hj he => by
      have := h (j + 1) d' (by simpa using hj) he
      rw [show k + 1 + j = k + (j + 1) by omega]
      exact this
    simp only [ecnt, ih]
    cases he : d.eff with
    | false => simp
    | true => have := h 0 d rfl he; simp only [Nat.add_zero] at this; rw [this]

section
variable {P : Program} {cx : Cx} {Q : PExit → S → Prop} {ops : List Oper} {sts : List DS} {s0 : S} {e : Nat → Ext}

def sT (s0 : S) (sts : List DS) (e : Nat → Ext) (i : Nat) : S := { s0.wqs (wsel (fun j => decide (j < i)) 0 sts) with ext := e (ecnt (fun j => decide (j < i)) 0 sts) }
def sD (s0 : S) (sts : List DS) (e : Nat → Ext) (D : Nat → Bool) : S := { s0.wqs (wsel D 0 sts) with ext := e (ecnt D 0 sts) }

/-- One operation, from one state to another. -/
def StepOK (P : Program) (cx : Cx) (all : Array Oper) (Q : PExit → S → Prop) (o : Oper) (s s' : S) : Prop := ∀ g l a w, Sim cx s g l a w →
  if Region.wanted o (yielded all a.tmps) = true then o.wp P a w (fun a' w' => ∃ g' l', Sim cx s' g' l' a' w') (post cx Q) else ∃ g' l', Sim cx s' g' l' (a.put o.dst undef) w

/-- What is owed of an operation: from whatever state that agrees with the text's on what it reads. -/
def LocOK (P : Program) (cx : Cx) (all : Array Oper) (Q : PExit → S → Prop) (e : Nat → Ext) (o : Oper) (d : DS) (si : S) (kt : Nat) : Prop :=
  ∀ s k, (∀ l ∈ d.rd, s.get l = si.get l) → (d.xf = true → k = kt) → s.ext = e k → (∀ b ∈ d.ws.filterMap newW, ∀ t off, lk s.tmps t ≠ some (.lp b off)) → StepOK P cx all Q o s { s.wqs d.ws with ext := e (k + if d.eff = true then 1 else 0) }

theorem Sim.of_get {s t : S} {g : Gh} {l : LG} {a : Act} {w : World} (h : Sim cx s g l a w) (hg : ∀ p, isX p = false → t.get p = s.get p) (hx : t.ext = s.ext) : Sim cx t g l a w :=
  h.congr (fun k => get_t (hg (.t k) rfl)) (fun k => get_b (hg (.b k) rfl)) (fun k => by rw [hx]) (by rw [hx]; exact Nat.le_refl _)
theorem noLp_spec {d : Nat} : ∀ {tm : List (Nat × LV)}, noLp d tm = true → ∀ t off, lk tm t ≠ some (.lp d off)
  | [], _, t, off => by simp [lk]
  | (k, lv) :: r, h, t, off => by
    have hr : noLp d r = true ∧ ∀ off, lv ≠ .lp d off := by
      cases lv with
      | lp j o =>
        simp only [noLp, Bool.and_eq_true, bne_iff_ne] at h
        exact ⟨h.2, fun off e => by injection e with e1 e2; exact h.1 e1⟩
      | _ => exact ⟨h, fun off e => by cases e⟩
    simp only [lk]
    split
    · intro e; injection e with e; exact hr.2 off e
    · exact noLp_spec hr.1 t off
theorem get_tmp_of {s : S} {t : Nat} {lv : LV} (h : lk s.tmps t = some lv) : s.get (.t t) = some (.inl lv) := by simp [S.get, h]

/-- A slot that holds a pointer had it from the beginning, or from a write. -/
theorem wqs_lp {b t off : Nat} : ∀ {L : List Wr} {s : S}, lk (s.wqs L).tmps t = some (.lp b off) → lk s.tmps t = some (.lp b off) ∨ ∃ x ∈ L, lpW b x = true
  | [], s, h => .inl h
  | x :: r, s, h => by
    rcases wqs_lp (L := r) (s := s.wq x) h with h1 | ⟨y, hy, hl⟩
    · cases x with
      | tmp u v =>
        simp only [S.wq, lk_put] at h1
        split at h1
        · injection h1 with h1
          subst h1
          exact .inr ⟨.tmp u (.lp b off), by simp, by simp [lpW]⟩
        · exact .inl h1
      | newbox i ps => exact .inl h1
      | cells i o vs =>
        simp only [S.wq] at h1
        split at h1
        · exact .inl h1
        · exact .inl h1
      | ext _ _ _ => exact .inl h1
    · exact .inr ⟨y, List.mem_cons_of_mem _ hy, hl⟩

theorem step_at (hchk : chk ops sts s0.tmps = true) {D D' : Nat → Bool} {i : Nat} {o : Oper} {d : DS} (hc : Closed ops D) (ho : ops[i]? = some o) (hd : sts[i]? = some d) (hi : D i = false) (hi' : D' i = true)
    (hD : ∀ j, j ≠ i → D' j = D j) (hdir : ∀ m ∈ dirs o, D m = true) (hloc : LocOK P cx ops.toArray Q e o d (sT s0 sts e i) (ecnt (fun j => decide (j < i)) 0 sts)) : StepOK P cx ops.toArray Q o (sD s0 sts e D) (sD s0 sts e D') := by
  obtain ⟨A, C, h1, h2, h3, h4⟩ := wsel_insert hD hi hi' (Nat.zero_le i) (by simpa using hd)
  have hanc : ∀ j ∈ anc ops i, D j = true := fun j hj => hc.reach (anc_reach hj) fun o' ho' m hm => by rw [ho] at ho'; injection ho' with ho'; subst ho'; exact hdir m hm
  have hnot : ∀ j, D j = true → i ∉ anc ops j := fun j hj hmem => by
    have : D i = true := hc.reach (anc_reach hmem) fun o' ho' m hm => hc j o' ho' hj m hm
    rw [hi] at this; cases this
  obtain ⟨-, -, c3, -, c5⟩ := chk_at hchk hd
  -- pairs that no edge orders
  have hlow : ∀ j dj, sts[j]? = some dj → j < i → D j = false → pairOK (anc ops i) j dj d = true ∧ j ∉ anc ops i := fun j dj hj hlt hDj =>
    ⟨(c5 j dj hj (by omega)).2 hlt, fun hm => by have := hanc j hm; rw [hDj] at this; cases this⟩
  have hhigh : ∀ j dj, sts[j]? = some dj → i < j → D j = true → disj (wl d.ws) (dj.rd ++ wl dj.ws) = true ∧ disj (wl dj.ws) d.rd = true ∧ (dj.eff && d.xf) = false := fun j dj hj hlt hDj => by
    have := ((chk_at hchk hj).2.2.2.2 i d hd (by omega)).2 hlt
    simp only [pairOK, Bool.or_eq_true, Bool.and_eq_true, List.contains_eq_mem, decide_eq_true_eq, Bool.not_eq_true'] at this
    rcases this with hm | hm
    · exact absurd hm (hnot j hDj)
    · exact ⟨hm.1.1.1, hm.1.1.2, hm.2⟩
  have hkt : d.xf = true → ecnt D 0 sts = ecnt (fun j => decide (j < i)) 0 sts := fun hxf => ecnt_congr fun j dj hj heff => by
    simp only [Nat.zero_add]
    by_cases hlt : j < i
    · simp only [hlt, decide_true]
      cases hv : D j with
      | true => rfl
      | false =>
        obtain ⟨hp, hna⟩ := hlow j dj hj hlt hv
        simp only [pairOK, Bool.or_eq_true, Bool.and_eq_true, List.contains_eq_mem, decide_eq_true_eq, Bool.not_eq_true'] at hp
        rcases hp with hm | hm
        · exact absurd hm hna
        · have := hm.1.2; rw [heff, hxf] at this; cases this
    · simp only [hlt, decide_false]
      cases hv : D j with
      | false => rfl
      | true =>
        have hne' : j ≠ i := fun e0 => by subst e0; rw [hi] at hv; cases hv
        have := (hhigh j dj hj (by omega) hv).2.2
        rw [heff, hxf] at this; cases this
  have hrd : ∀ l ∈ d.rd, (sD s0 sts e D).get l = (sT s0 sts e i).get l := fun l hl => by
    by_cases hx : isX l = true
    · have hxf : d.xf = true := by simp only [DS.xf, Bool.or_eq_true, List.any_eq_true]; exact .inr ⟨l, hl, hx⟩
      cases l with
      | t _ => cases hx
      | b _ => cases hx
      | x n => simp only [S.get, sD, sT, hkt hxf]
    have : (sD s0 sts e D).get l = (s0.wqs (wsel D 0 sts)).get l := by cases l <;> first | rfl | exact absurd rfl hx
    rw [this]
    have : (sT s0 sts e i).get l = (s0.wqs (wsel (fun j => decide (j < i)) 0 sts)).get l := by cases l <;> first | rfl | exact absurd rfl hx
    rw [this]
    refine wqs_get_of s0 (wsel_filter fun j dj hj hne x hx => ?_)
    simp only [Nat.zero_add] at hne
    by_cases hlt : j < i
    · have hDj : D j = false := by
        cases hv : D j with
        | false => rfl
        | true => exact absurd (by rw [hv]; simp [hlt]) hne
      obtain ⟨hp, hna⟩ := hlow j dj hj hlt hDj
      simp only [pairOK, Bool.or_eq_true, Bool.and_eq_true, List.contains_eq_mem, decide_eq_true_eq] at hp
      rcases hp with hm | hm
      · exact absurd hm hna
      · exact disj_touch hm.1.1.1 hx (List.mem_append_left _ hl)
    · have hDj : D j = true := by
        cases hv : D j with
        | true => rfl
        | false => exact absurd (by rw [hv]; simp; omega) hne
      have hne' : j ≠ i := fun e0 => by subst e0; rw [hi] at hDj; cases hDj
      exact disj_touch (hhigh j dj hj (by omega) hDj).2.1 hx hl
  have hnl : ∀ b ∈ d.ws.filterMap newW, ∀ t off, lk (sD s0 sts e D).tmps t ≠ some (.lp b off) := fun b hb t off hlk => by
    rcases wqs_lp (s := s0) (L := wsel D 0 sts) hlk with hs | ⟨x, hx, hlp⟩
    · exact noLp_spec (c3 b hb) t off hs
    · obtain ⟨j, dj, hDj, hj, hxj⟩ := mem_wsel hx
      simp only [Nat.zero_add] at hDj
      have hne' : i ≠ j := fun e0 => by subst e0; rw [hi] at hDj; cases hDj
      have := ((chk_at hchk hj).2.2.2.2 i d hd hne').1
      simp only [lpOK, List.all_eq_true, Bool.or_eq_true, List.contains_eq_mem, decide_eq_true_eq, Bool.not_eq_true'] at this
      rcases this b hb with hm | hm
      · exact hnot j hDj hm
      · rw [hm x hxj] at hlp; cases hlp
  have hstep := hloc (sD s0 sts e D) (ecnt D 0 sts) hrd hkt rfl hnl
  have hfin : ∀ p, isX p = false → (sD s0 sts e D').get p = ({ (sD s0 sts e D).wqs d.ws with ext := e (ecnt D 0 sts + if d.eff = true then 1 else 0) } : S).get p := fun p hpx => by
    have e1 : (sD s0 sts e D').get p = (s0.wqs (wsel D' 0 sts)).get p := by cases p <;> first | rfl | cases hpx
    have e2 : ({ (sD s0 sts e D).wqs d.ws with ext := e (ecnt D 0 sts + if d.eff = true then 1 else 0) } : S).get p = ((sD s0 sts e D).wqs d.ws).get p := by cases p <;> first | rfl | cases hpx
    have e3 : (sD s0 sts e D).get p = (s0.wqs (wsel D 0 sts)).get p := by cases p <;> first | rfl | cases hpx
    rw [e1, e2, wqs_get p d.ws, e3, wqs_get p, wqs_get p, ← List.foldl_append, ← List.filter_append, h1, h2]
    congr 1
    simp only [List.filter_append, List.append_assoc]
    congr 1
    -- the two parts in the midst do not touch one place
    by_cases hB : d.ws.filter (touches p) = []
    · simp [hB]
    · have hC : C.filter (touches p) = [] := by
        refine List.filter_eq_nil_iff.2 fun x hx => ?_
        rw [h4] at hx
        obtain ⟨j, dj, hDj, hj, hxj⟩ := mem_wsel hx
        simp only [Nat.zero_add, Bool.and_eq_true, decide_eq_true_eq] at hDj
        obtain ⟨y, hy, hty⟩ : ∃ y ∈ d.ws, touches p y = true := by
          rcases List.exists_mem_of_ne_nil _ hB with ⟨y, hy⟩
          exact ⟨y, (List.mem_filter.1 hy).1, (List.mem_filter.1 hy).2⟩
        intro htx
        have hpx : x.loc = some p := of_decide_eq_true htx
        have hmem : p ∈ dj.rd ++ wl dj.ws := List.mem_append_right _ (List.mem_filterMap.2 ⟨x, hxj, hpx⟩)
        have := disj_touch (hhigh j dj hj hDj.2 hDj.1).1 hy hmem
        rw [hty] at this; cases this
      simp [hC]
  have hext : (sD s0 sts e D').ext = e (ecnt D 0 sts + if d.eff = true then 1 else 0) := by
    show e (ecnt D' 0 sts) = _
    rw [ecnt_insert hD hi hi' (Nat.zero_le i) (by simpa using hd)]
  intro g l a w hs
  have := hstep g l a w hs
  split at this
  · rename_i hw
    rw [if_pos hw]
    refine upon_mono ?_ this
    rintro a' w' ⟨g', l', sm⟩
    exact ⟨g', l', sm.of_get hfin hext⟩
  · rename_i hw
    rw [if_neg hw]
    obtain ⟨g', l', sm⟩ := this
    exact ⟨g', l', sm.of_get hfin hext⟩
end
end Go.Pv
