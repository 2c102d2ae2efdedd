/- Pure values, sixth part: the single operations. -/
import Derived.Test.YtmllcplaohkjnaaGreatDoorPv5
set_option linter.unusedVariables false
set_option linter.unusedSimpArgs false
set_option linter.unusedSectionVars false
namespace Go.Pv
open Go.RowKit

section
variable {cx : Cx} {s t : S} {g : Gh} {l : LG} {a : Act} {w : World}

theorem Sim.leF (h : Sim cx s g l a w) (h1 : ∀ k v, lk t.tmps k = some v → v = .junk ∨ ∃ u, lk s.tmps k = some u ∧ WL v u) (h2 : ∀ k v, lk t.boxes k = some v → ∃ u, lk s.boxes k = some u ∧ WLs v u)
    (h3 : ∀ k v, lk t.ext k = some v → ∃ u, lk s.ext k = some u ∧ WLs v u) (h4 : cnt s.ext ≤ cnt t.ext := by exact Nat.le_refl _) : Sim cx t g l a w where
  hist := h.hist
  size := h.size
  defers := h.defers
  tm k v hk := by
    rcases h1 k v hk with rfl | ⟨_, hu, hw⟩
    · trivial
    · exact hw.rep (h.tm k _ hu)
  bx k v hk := by
    obtain ⟨u, hu, hw⟩ := h2 k v hk
    obtain ⟨b, k1, k2, k3⟩ := h.bx k u hu
    exact ⟨b, k1, k2, k3.le hw⟩
  ex k v hk := by
    obtain ⟨u, hu, hw⟩ := h3 k v hk
    obtain ⟨b, k1, k2, k3⟩ := h.ex k u hu
    exact ⟨b, k1.le hw, k2, k3.le hw⟩
  own := h.own
  uo := h.uo
  fresh := ⟨h.fresh.1, fun n hn => h.fresh.2.1 n (Nat.le_trans h4 hn), fun n c hn => h.fresh.2.2 n c (Nat.le_trans h4 hn)⟩
  xlt := h.xlt
theorem same_le {α : Type} {W : α → α → Prop} (hW : ∀ x, W x x) (x : List (Nat × α)) : ∀ k v, lk x k = some v → ∃ u, lk x k = some u ∧ W v u := fun _ v h => ⟨v, h, hW v⟩

/-- The state is known only up to what it says of each place. -/
theorem Sim.congr (h : Sim cx s g l a w) (h1 : ∀ k, lk t.tmps k = lk s.tmps k) (h2 : ∀ k, lk t.boxes k = lk s.boxes k) (h3 : ∀ k, lk t.ext k = lk s.ext k) (h4 : cnt s.ext ≤ cnt t.ext := by exact Nat.le_refl _) : Sim cx t g l a w :=
  h.leF (fun k v e => .inr ⟨v, by rw [← h1]; exact e, WL.refl v⟩) (fun k v e => ⟨v, by rw [← h2]; exact e, WLs.refl v⟩) (fun k v e => ⟨v, by rw [← h3]; exact e, WLs.refl v⟩) h4

/-- What an operation must do: every write list that it may yield leads to a state that stands. -/
def OpOK (P : Program) (cx : Cx) (s : S) (o : Oper) (K : List Wr → Prop) (a : Act) (w : World) : Prop :=
  ∀ Q, o.wp P a w (fun a' w' => ∃ wr g' l', K wr ∧ Sim cx (s.wrs wr) g' l' a' w') Q

def wv (n : Nat) (o : Oper) (lv : LV) : RM (List Wr) := match o.dst with
  | some d => if d < n then .ret [.tmp d lv] else .fail
  | none => .ret []

theorem OpOK.value {P : Program} {o : Oper} {K : List Wr → Prop} {lv : LV} {v : Value} {g' : Gh} {l' : LG} {w' : World} (hw : (wv cx.n o lv).wp s K) (hs : Sim cx s g' l' a w')
    (hr : ∀ d, RepL g' l' w' (.t d) lv v) (hrun : (execOp a.eval o).run P w = .ok (.value v) w') : OpOK P cx s o K a w := by
  intro Q
  unfold Oper.wp
  rw [hrun, Oper.upon_value]
  unfold wv at hw
  split at hw
  · rename_i d hd
    split at hw
    · rename_i hlt
      refine ⟨_, g', l', hw, ?_⟩
      rw [hd]
      exact hs.set hlt (hr d)
    · exact hw.elim
  · rename_i hd
    refine ⟨_, g', l', hw, ?_⟩
    rw [hd]
    exact hs

/-! ### moves -/
def feeds : List Oper → Nat → Bool
  | [], _ => false
  | o :: r, d => (match o.op with
    | .call { callee := .builtin .append, args, .. } => (match args.toList with | .tmp t :: _ => t == d | _ => false)
    | .assign (.tmp t) => t == d
    | _ => false) || feeds r d
def mv (n : Nat) (ops : List Oper) (o : Oper) (take : Bool) (x : Operand) : RM (List Wr) := match x with
  | .tmp t => .getT t fun lv => match lv, o.dst with
    | .uniq e z es, some d => if d < n ∧ t ≠ d then (if take || feeds ops d then .ret [.tmp t (.v (.sl z es)), .tmp d (.uniq e z es)] else .ret [.tmp d (.v (.sl z es))]) else .fail
    | .uniq _ _ _, none => .fail
    | lv, _ => wv n o lv
  | x => ev x fun lv => match lv with
    | .uniq _ _ _ => .fail
    | lv => wv n o lv

theorem noU_put {t : Nat} {lv : LV} (h : ∀ e z es, lv ≠ .uniq e z es) : noU { s with tmps := put s.tmps t lv } (.t t) := fun e z es he => by
  rw [lk_put_same] at he
  injection he with he
  exact h e z es he

/-- A slot hands its slice, with the spare cells, to another slot. -/
theorem Sim.take (h : Sim cx s g l a w) {t d : Nat} {e : TypeId} {z : Nat} {es : List (List PV)} (hd : d < cx.n) (hne : t ≠ d) (ht : lk s.tmps t = some (.uniq e z es)) :
    ∃ l', Sim cx { s with tmps := put (put s.tmps t (.v (.sl z es))) d (.uniq e z es) } g l' (a.put (some d) (a.tmps.getD t undef)) w := by
  have hr := h.tm t _ ht
  have h1 : Sim cx { s with tmps := put (put s.tmps t (.v (.sl z es))) d .junk } g l a w := by
    refine h.leF (fun k v hk => ?_) (same_le WLs.refl _) (same_le WLs.refl _)
    simp only [lk_put] at hk
    split at hk
    · injection hk with hk
      exact .inl hk.symm
    · split at hk
      · rename_i e0
        subst e0
        injection hk with hk
        subst hk
        exact .inr ⟨_, ht, .inr ⟨rfl, rfl⟩⟩
      · exact .inr ⟨v, hk, WL.refl v⟩
  obtain ⟨l', h2, h3, -⟩ := h1.transfer (p := .t t) (q := .t d) hr (fun e z es he => by simp only [lk_put, if_neg (Ne.symm hne), if_true] at he; injection he with he; cases he)
    (fun e z es he => by simp only [lk_put, if_true] at he; injection he with he; cases he)
  refine ⟨l', (h2.set hd h3).congr (fun k => ?_) (fun _ => rfl) (fun _ => rfl)⟩
  simp only [lk_put]
  split <;> rfl

theorem mv_sound {P : Program} {ops : List Oper} {o : Oper} {K : List Wr → Prop} {tk : Bool} {x : Operand} (h : Sim cx s g l a w) (hw : (mv cx.n ops o tk x).wp s K)
    (hrun : (execOp a.eval o).run P w = .ok (.value (a.eval x)) w) : OpOK P cx s o K a w := by
  unfold mv at hw
  split at hw
  · rename_i t
    simp only [RM.wp] at hw
    split at hw
    · rename_i lv hlv
      have hr := h.tm t lv hlv
      split at hw
      · rename_i e z es d hd
        split at hw
        · rename_i hc
          split at hw
          · intro Q
            unfold Oper.wp
            rw [hrun, Oper.upon_value, hd]
            obtain ⟨l', h2⟩ := h.take hc.1 hc.2 hlv
            exact ⟨_, g, l', hw, h2⟩
          · refine OpOK.value (lv := .v (.sl z es)) (v := a.eval (.tmp t)) ?_ h (fun d => toP_rep rfl hr) hrun
            unfold wv
            rw [hd]
            simp only [hc.1, if_true]
            exact hw
        · exact hw.elim
      · exact hw.elim
      · rename_i lv1 lv2 x2 hn1 hnu
        refine OpOK.value hw h (fun d => ?_) hrun
        refine hr.free ?_
        cases lv1 with
        | uniq e z es =>
          cases hdst : o.dst with
          | none => exact (hnu e z es rfl hdst).elim
          | some d => exact (hn1 e z es d rfl hdst).elim
        | _ => rfl
    · exact hw.elim
  · obtain ⟨lv, u, h1, h2, h3⟩ := ev_sound h hw
    split at h1
    · exact h1.elim
    · rename_i hnu
      refine OpOK.value h1 h (fun d => ?_) hrun
      refine h2.free ?_
      cases lv with
      | uniq e z es => exact (hnu e z es rfl).elim
      | _ => rfl
end
end Go.Pv
