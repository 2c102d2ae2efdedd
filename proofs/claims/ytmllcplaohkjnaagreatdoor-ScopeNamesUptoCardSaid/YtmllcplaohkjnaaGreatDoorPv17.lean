/- Pure values, seventeenth part: regions whose order is drawn. -/
import Derived.Test.YtmllcplaohkjnaaGreatDoorPv16
import Derived.Orders
set_option linter.unusedVariables false
set_option linter.unusedSimpArgs false
set_option linter.unusedSectionVars false
namespace Go.Pv
open Go.RowKit

/-- Places of a frame. -/
inductive Loc where
  | t (i : Nat)
  | b (i : Nat)
  | x (n : Nat)
  deriving DecidableEq

/-- A reading program with the places that it reads. -/
def RM.wpR {α : Type} : RM α → S → (α → List Loc → Prop) → Prop
  | .ret a, _, K => K a []
  | .fail, _, _ => False
  | .getT t k, s, K => match lk s.tmps t with
    | some v => (k v).wpR s fun a r => K a (.t t :: r)
    | none => False
  | .getB i k, s, K => match lk s.boxes i with
    | some v => (k v).wpR s fun a r => K a (.b i :: r)
    | none => False
  | .getX n k, s, K => match lk s.ext n with
    | some v => (k v).wpR s fun a r => K a (.x n :: r)
    | none => False
  | .assume p k, s, K => p = true ∧ k.wpR s K

def S.get (s : S) : Loc → Option (LV ⊕ List LV)
  | .t t => (lk s.tmps t).map .inl
  | .b i => (lk s.boxes i).map .inr
  | .x n => (lk s.ext n).map .inr

theorem get_t {s s' : S} {t : Nat} (h : s'.get (.t t) = s.get (.t t)) : lk s'.tmps t = lk s.tmps t := by
  simp only [S.get] at h
  cases h1 : lk s'.tmps t <;> cases h2 : lk s.tmps t <;> simp_all
theorem get_b {s s' : S} {t : Nat} (h : s'.get (.b t) = s.get (.b t)) : lk s'.boxes t = lk s.boxes t := by
  simp only [S.get] at h
  cases h1 : lk s'.boxes t <;> cases h2 : lk s.boxes t <;> simp_all

theorem get_x {s s' : S} {t : Nat} (h : s'.get (.x t) = s.get (.x t)) : lk s'.ext t = lk s.ext t := by
  simp only [S.get] at h
  cases h1 : lk s'.ext t <;> cases h2 : lk s.ext t <;> simp_all

/-- What a reading program yields hangs on what it reads alone. -/
theorem RM.wpR_local {α : Type} {s : S} : ∀ {r : RM α} {K : α → List Loc → Prop}, r.wpR s K → ∃ a rd, K a rd ∧ ∀ s' : S, (∀ l ∈ rd, s'.get l = s.get l) → r.wp s' fun b => b = a
  | .ret a, K, h => ⟨a, [], h, fun _ _ => rfl⟩
  | .fail, _, h => h.elim
  | .getT t k, K, h => by
    simp only [RM.wpR] at h
    split at h
    · rename_i v hv
      obtain ⟨a, rd, h1, h2⟩ := RM.wpR_local h
      refine ⟨a, .t t :: rd, h1, fun s' hl => ?_⟩
      simp only [RM.wp, get_t (hl (.t t) (by simp)), hv]
      exact h2 s' fun l hm => hl l (List.mem_cons_of_mem _ hm)
    · exact h.elim
  | .getB t k, K, h => by
    simp only [RM.wpR] at h
    split at h
    · rename_i v hv
      obtain ⟨a, rd, h1, h2⟩ := RM.wpR_local h
      refine ⟨a, .b t :: rd, h1, fun s' hl => ?_⟩
      simp only [RM.wp, get_b (hl (.b t) (by simp)), hv]
      exact h2 s' fun l hm => hl l (List.mem_cons_of_mem _ hm)
    · exact h.elim
  | .getX n k, K, h => by
    simp only [RM.wpR] at h
    split at h
    · rename_i v hv
      obtain ⟨a, rd, h1, h2⟩ := RM.wpR_local h
      refine ⟨a, .x n :: rd, h1, fun s' hl => ?_⟩
      simp only [RM.wp, get_x (hl (.x n) (by simp)), hv]
      exact h2 s' fun l hm => hl l (List.mem_cons_of_mem _ hm)
    · exact h.elim
  | .assume p k, K, h => by
    obtain ⟨a, rd, h1, h2⟩ := RM.wpR_local h.2
    exact ⟨a, rd, h1, fun s' hl => ⟨h.1, h2 s' hl⟩⟩

/-! ## Writes, place by place -/
def Wr.loc : Wr → Option Loc
  | .tmp t _ => some (.t t)
  | .newbox i _ => some (.b i)
  | .cells i _ _ => some (.b i)
  | .ext _ _ _ => none
/-- A write that forgets no pointer. -/
def S.wq (s : S) : Wr → S
  | .tmp t v => { s with tmps := put s.tmps t v }
  | .newbox i ps => { s with boxes := put s.boxes i (ps.map .v) }
  | .cells i off vs => match lk s.boxes i with
    | some cs => { s with boxes := put s.boxes i (splice cs off vs) }
    | none => s
  | .ext _ _ _ => s
def S.wqs (s : S) : List Wr → S
  | [] => s
  | x :: r => (s.wq x).wqs r
def Wr.app : Wr → Option (LV ⊕ List LV) → Option (LV ⊕ List LV)
  | .tmp _ v, _ => some (.inl v)
  | .newbox _ ps, _ => some (.inr (ps.map .v))
  | .cells _ off vs, some (.inr cs) => some (.inr (splice cs off vs))
  | _, x => x
theorem wq_get (s : S) (x : Wr) (l : Loc) : (s.wq x).get l = if x.loc = some l then x.app (s.get l) else s.get l := by
  cases x with
  | tmp t v =>
    cases l with
    | t u =>
      simp only [S.wq, S.get, Wr.loc, Wr.app, lk_put, Option.some.injEq, Loc.t.injEq]
      split <;> rfl
    | b i => simp [S.wq, S.get, Wr.loc]
    | x i => simp [S.wq, S.get, Wr.loc]
  | newbox j ps =>
    cases l with
    | t u => simp [S.wq, S.get, Wr.loc]
    | b i =>
      simp only [S.wq, S.get, Wr.loc, Wr.app, lk_put, Option.some.injEq, Loc.b.injEq]
      split <;> rfl
    | x i => simp [S.wq, S.get, Wr.loc]
  | cells j off vs =>
    simp only [S.wq]
    cases hj : lk s.boxes j with
    | none =>
      simp only
      split
      · rename_i e
        cases l with
        | t u => simp [Wr.loc] at e
        | x u => simp [Wr.loc] at e
        | b i =>
          simp only [Wr.loc, Option.some.injEq, Loc.b.injEq] at e
          subst e
          simp [S.get, hj, Wr.app]
      · rfl
    | some cs =>
      cases l with
      | t u => simp [S.get, Wr.loc]
      | x u => simp [S.get, Wr.loc]
      | b i =>
        simp only [S.get, Wr.loc, lk_put, Option.some.injEq, Loc.b.injEq]
        split
        · rename_i e; subst e; simp [hj, Wr.app]
        · rfl
  | ext _ _ _ => simp [S.wq, Wr.loc]
def touches (l : Loc) (x : Wr) : Bool := decide (x.loc = some l)
theorem wqs_get (l : Loc) : ∀ (L : List Wr) (s : S), (s.wqs L).get l = (L.filter (touches l)).foldl (fun g x => x.app g) (s.get l)
  | [], s => rfl
  | x :: r, s => by
    simp only [S.wqs, wqs_get l r, wq_get, List.filter_cons, touches]
    by_cases h : x.loc = some l
    · simp [h]
    · simp [h]
theorem wqs_get_of {l : Loc} {L M : List Wr} (s : S) (h : L.filter (touches l) = M.filter (touches l)) : (s.wqs L).get l = (s.wqs M).get l := by rw [wqs_get, wqs_get, h]
theorem wq_ext (s : S) (x : Wr) : (s.wq x).ext = s.ext := by
  cases x <;> simp only [S.wq]
  split <;> rfl
theorem wqs_ext : ∀ (L : List Wr) (s : S), (s.wqs L).ext = s.ext
  | [], _ => rfl
  | x :: r, s => by simp only [S.wqs, wqs_ext r, wq_ext]

/-! ## The plan of a region -/
structure DS where
  rd : List Loc
  ws : List Wr
  eff : Bool

def wsel (D : Nat → Bool) : Nat → List DS → List Wr
  | _, [] => []
  | k, d :: r => (if D k then d.ws else []) ++ wsel D (k + 1) r
def ecnt (D : Nat → Bool) : Nat → List DS → Nat
  | _, [] => 0
  | k, d :: r => (if D k && d.eff then 1 else 0) + ecnt D (k + 1) r

theorem wsel_congr {D D' : Nat → Bool} : ∀ {sts : List DS} {k : Nat}, (∀ j, k ≤ j → j < k + sts.length → D j = D' j) → wsel D k sts = wsel D' k sts
  | [], _, _ => rfl
  | d :: r, k, h => by
    simp only [wsel, h k (Nat.le_refl _) (by simp)]
    rw [wsel_congr fun j h1 h2 => h j (by omega) (by simp at h2 ⊢; omega)]
/-- One more: its writes stand in the midst. -/
theorem wsel_insert {D D' : Nat → Bool} {i : Nat} (hD : ∀ j, j ≠ i → D' j = D j) (hi : D i = false) (hi' : D' i = true) : ∀ {sts : List DS} {k : Nat} {d : DS}, k ≤ i → sts[i - k]? = some d →
    ∃ A C, wsel D k sts = A ++ C ∧ wsel D' k sts = A ++ d.ws ++ C ∧ A = wsel (fun j => D j && decide (j < i)) k sts ∧ C = wsel (fun j => D j && decide (i < j)) k sts
  | [], k, d, _, h => by simp at h
  | d0 :: r, k, d, hk, h => by
    by_cases hki : k = i
    · subst hki
      simp only [Nat.sub_self, List.getElem?_cons_zero, Option.some.injEq] at h
      subst h
      refine ⟨[], wsel D (k + 1) r, by simp [wsel, hi], ?_, ?_, ?_⟩
      · simp only [wsel, hi', if_true, List.nil_append]
        rw [wsel_congr fun j h1 _ => hD j (by omega)]
      · simp only [wsel, hi, Bool.false_and]
        have : wsel (fun j => D j && decide (j < k)) (k + 1) r = wsel (fun _ => false) (k + 1) r := wsel_congr fun j h1 _ => by simp; omega
        rw [this]
        have hz : ∀ (l : List DS) (m : Nat), wsel (fun _ => false) m l = [] := by
          intro l
          induction l with
          | nil => intro m; rfl
          | cons x r ih => intro m; simp [wsel, ih]
        simp [hz]
      · simp only [wsel, hi, Bool.false_and]
        have : wsel (fun j => D j && decide (k < j)) (k + 1) r = wsel D (k + 1) r := wsel_congr fun j h1 _ => by simp; omega
        simp [this]
    · have hlt : k + 1 ≤ i := by omega
      have h' : r[i - (k + 1)]? = some d := by
        rw [show i - k = (i - (k + 1)) + 1 by omega, List.getElem?_cons_succ] at h
        exact h
      obtain ⟨A, C, h1, h2, h3, h4⟩ := wsel_insert hD hi hi' hlt h'
      refine ⟨(if D k then d0.ws else []) ++ A, C, by simp [wsel, h1], ?_, ?_, ?_⟩
      · simp only [wsel, hD k hki, h2, List.append_assoc]
      · simp only [wsel, h3]
        have : decide (k < i) = true := by simp; omega
        simp [this]
      · simp only [wsel, h4]
        have : decide (i < k) = false := by simp; omega
        simp [this]
theorem mem_wsel {D : Nat → Bool} {x : Wr} : ∀ {sts : List DS} {k : Nat}, x ∈ wsel D k sts → ∃ j d, D (k + j) = true ∧ sts[j]? = some d ∧ x ∈ d.ws
  | [], _, h => by simp [wsel] at h
  | d :: r, k, h => by
    simp only [wsel, List.mem_append] at h
    rcases h with h | h
    · split at h
      · rename_i hd; exact ⟨0, d, hd, rfl, h⟩
      · simp at h
    · obtain ⟨j, d', h1, h2, h3⟩ := mem_wsel h
      exact ⟨j + 1, d', by rw [show k + (j + 1) = k + 1 + j by omega]; exact h1, by simpa using h2, h3⟩
/-- Which writes are chosen does not matter where those that are left out do not touch the place. -/
theorem wsel_filter {D D' : Nat → Bool} {p : Wr → Bool} : ∀ {sts : List DS} {k : Nat}, (∀ j d, sts[j]? = some d → D (k + j) ≠ D' (k + j) → ∀ x ∈ d.ws, p x = false) → (wsel D k sts).filter p = (wsel D' k sts).filter p
  | [], _, _ => rfl
  | d :: r, k, h => by
    have ih := wsel_filter (D := D) (D' := D') (p := p) (sts := r) (k := k + 1) fun j d' hj hne => h (j + 1) d' (by simpa using hj) (by rw [show k + (j + 1) = k + 1 + j by omega]; exact hne)
    simp only [wsel, List.filter_append, ih]
    congr 1
    by_cases hd : D k = D' k
    · rw [hd]
    · have h0 := h 0 d rfl (by simpa using hd)
      have hf : d.ws.filter p = [] := List.filter_eq_nil_iff.2 fun x hx => by simp [h0 x hx]
      split <;> split <;> simp [hf]
end Go.Pv
