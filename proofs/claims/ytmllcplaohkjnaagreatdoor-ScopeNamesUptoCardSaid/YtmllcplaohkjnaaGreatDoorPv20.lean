/- Pure values, twentieth part: regions whose order is drawn, in the form in which proofs use them. -/
import Derived.Test.YtmllcplaohkjnaaGreatDoorPv19
set_option linter.unusedVariables false
set_option linter.unusedSimpArgs false
set_option linter.unusedSectionVars false
namespace Go.Pv
open Go.RowKit

section
variable {P : Program} {cx : Cx} {Q : PExit → S → Prop} {ops : List Oper} {sts : List DS} {s0 : S} {e : Nat → Ext}

def Dl (listed : Array Bool) : Nat → Bool := fun j => listed.getD j false

theorem Dl_none (n : Nat) : Dl (Array.replicate n false) = fun _ => false := by
  funext j
  simp only [Dl]
  by_cases h : j < n
  · simp [h]
  · simp [h]
theorem wsel_none : ∀ (l : List DS) (k : Nat), wsel (fun _ => false) k l = []
  | [], _ => rfl
  | x :: r, k => by simp [wsel, wsel_none r]
theorem ecnt_none : ∀ (l : List DS) (k : Nat), ecnt (fun _ => false) k l = 0
  | [], _ => rfl
  | x :: r, k => by simp [ecnt, ecnt_none r]
theorem mem_ready_dirs {listed : Array Bool} {i : Nat} : i ∈ Region.ready .any ops.toArray listed ↔ listed.getD i true = false ∧ ∃ o, ops[i]? = some o ∧ ∀ m ∈ dirs o, Dl listed m = true := by
  rw [mem_ready]
  constructor
  · rintro ⟨h0, o, ho, h⟩
    refine ⟨h0, o, by simpa using ho, fun m hm => ?_⟩
    simp only [dirs, List.mem_map, List.mem_filter] at hm
    obtain ⟨ed, ⟨h1, h2⟩, rfl⟩ := hm
    exact h ed (by simpa using h1) h2
  · rintro ⟨h0, o, ho, h⟩
    refine ⟨h0, o, by simpa using ho, fun ed hed hb => h _ ?_⟩
    simp only [dirs, List.mem_map, List.mem_filter]
    exact ⟨ed, ⟨by simpa using hed, hb⟩, rfl⟩

theorem all_listed (hchk : chk ops sts s0.tmps = true) (hlen : sts.length = ops.length) {listed : Array Bool} (hsz : listed.size = ops.length) (hr : Region.ready .any ops.toArray listed = []) : ∀ i, i < ops.length → Dl listed i = true := by
  intro i
  induction i using Nat.strongRecOn with
  | _ i ih =>
    intro hlt
    cases hv : listed.getD i true with
    | true =>
      have : i < listed.size := by omega
      simp only [Dl]
      simp [this] at hv ⊢
      exact hv
    | false =>
      have hlt' : i < sts.length := by omega
      obtain ⟨-, -, -, c4, -⟩ := chk_at hchk (List.getElem?_eq_getElem hlt')
      have : i ∈ Region.ready .any ops.toArray listed := mem_ready_dirs.2 ⟨hv, ops[i], List.getElem?_eq_getElem hlt, fun m hm => by
        have := c4 _ (List.getElem?_eq_getElem hlt) m hm
        exact ih m this (by omega)⟩
      rw [hr] at this
      simp at this

theorem sD_all (hlen : sts.length = ops.length) {D : Nat → Bool} (h : ∀ i, i < ops.length → D i = true) : sD s0 sts e D = sD s0 sts e (fun _ => true) := by
  unfold sD
  rw [wsel_congr (D := D) (D' := fun _ => true) (sts := sts) (k := 0) fun j _ hj => h j (by omega)]
  rw [ecnt_congr (D := D) (D' := fun _ => true) (sts := sts) (k := 0) fun j d hj _ => by
    have := (List.getElem?_eq_some_iff.1 hj).1
    rw [Nat.zero_add]
    exact h j (by omega)]

theorem draw_go (hchk : chk ops sts s0.tmps = true) (hlen : sts.length = ops.length) (hQ : Q .normal (sD s0 sts e fun _ => true))
    (hloc : ∀ i o d, ops[i]? = some o → sts[i]? = some d → LocOK P cx ops.toArray Q e o d (sT s0 sts e i) (ecnt (fun j => decide (j < i)) 0 sts)) :
    ∀ (fuel : Nat) (listed : Array Bool) (L : List Nat) (g : Gh) (l : LG) (a : Act) (w : World), listed.size = ops.length → Closed ops (Dl listed) → (∀ i, i < ops.length → listed.getD i true = false → i ∈ L) → L.length ≤ fuel →
      Sim cx (sD s0 sts e (Dl listed)) g l a w → wpAny P .any ops.toArray (post cx Q) fuel listed a w := by
  intro fuel
  have hdone : ∀ {listed : Array Bool} {g : Gh} {l : LG} {a : Act} {w : World}, listed.size = ops.length → Region.ready .any ops.toArray listed = [] → Sim cx (sD s0 sts e (Dl listed)) g l a w → post cx Q .normal a w := fun {listed g l a w} hsz hr hs => by
    have := all_listed hchk hlen hsz hr
    rw [sD_all hlen this] at hs
    exact ⟨.normal, _, g, l, hQ, trivial, hs⟩
  induction fuel with
  | zero =>
    intro listed L g l a w hsz hc hL hf hs
    have hnil : L = [] := List.eq_nil_of_length_eq_zero (by omega)
    subst hnil
    have hr : Region.ready .any ops.toArray listed = [] := by
      apply List.eq_nil_iff_forall_not_mem.2
      intro i hi
      obtain ⟨h0, o, ho, -⟩ := mem_ready_dirs.1 hi
      exact absurd (hL i (List.getElem?_eq_some_iff.1 ho).1 h0) (by simp)
    exact ⟨hr, hdone hsz hr hs⟩
  | succ fuel ih =>
    intro listed L g l a w hsz hc hL hf hs
    refine ⟨fun hr => hdone hsz hr hs, fun i hi => ?_⟩
    obtain ⟨h0, o, ho, hdir⟩ := mem_ready_dirs.1 hi
    have hlt := (List.getElem?_eq_some_iff.1 ho).1
    have hlt' : i < sts.length := by omega
    have hlt2 : i < listed.size := by omega
    have hd := List.getElem?_eq_getElem hlt'
    have hDi : Dl listed i = false := by
      simp only [Dl]
      simp [hlt2] at h0 ⊢
      exact h0
    have hDi' : Dl (listed.setIfInBounds i true) i = true := by simp [Dl, hlt2]
    have hDD : ∀ j, j ≠ i → Dl (listed.setIfInBounds i true) j = Dl listed j := fun j hj => getD_set_ne false (Ne.symm hj)
    have hst := step_at (Q := Q) (P := P) (cx := cx) hchk hc ho hd hDi hDi' hDD hdir (hloc i o _ ho hd) g l a w hs
    have hc' : Closed ops (Dl (listed.setIfInBounds i true)) := fun j oj hj hDj m hm => by
      by_cases hji : j = i
      · subst hji
        rw [ho] at hj
        injection hj with hj
        subst hj
        by_cases hmi : m = j
        · rw [hmi]; exact hDi'
        · rw [hDD m hmi]; exact hdir m hm
      · rw [hDD j hji] at hDj
        by_cases hmi : m = i
        · rw [hmi]; exact hDi'
        · rw [hDD m hmi]; exact hc j oj hj hDj m hm
    have hnext : ∀ g l a w, Sim cx (sD s0 sts e (Dl (listed.setIfInBounds i true))) g l a w → wpAny P .any ops.toArray (post cx Q) fuel (listed.setIfInBounds i true) a w := fun g l a w hs => by
      have hmem := hL i hlt h0
      refine ih _ (L.erase i) g l a w (by simp [hsz]) hc' (fun j hj hjl => ?_) (by rw [List.length_erase_of_mem hmem]; have := List.length_pos_of_mem hmem; omega) hs
      have hji : j ≠ i := fun e0 => by subst e0; simp [hlt2] at hjl
      rw [getD_set_ne true (Ne.symm hji)] at hjl
      exact (List.mem_erase_of_ne hji).2 (hL j hj hjl)
    have ho' : ops.toArray[i]? = some o := by simpa using ho
    unfold wpOp
    rw [ho']
    simp only
    split
    · rename_i hw
      rw [if_pos hw] at hst
      refine .inl (Oper.wp_mono ?_ hst)
      rintro a' w' ⟨g', l', sm⟩
      exact hnext g' l' a' w' sm
    · rename_i hw
      rw [if_neg hw] at hst
      obtain ⟨g', l', sm⟩ := hst
      exact hnext g' l' _ _ sm

theorem PW_draw {id : Nat} (hm : P.follows .mixedOrders = true) (hchk : chk ops sts s0.tmps = true) (hlen : sts.length = ops.length) (he : e 0 = s0.ext) (hQ : Q .normal (sD s0 sts e fun _ => true))
    (hloc : ∀ i o d, ops[i]? = some o → sts[i]? = some d → LocOK P cx ops.toArray Q e o d (sT s0 sts e i) (ecnt (fun j => decide (j < i)) 0 sts)) : PW P cx (.region id ops.toArray true) s0 Q := fun g l a w hs => by
  refine wp_region_any hm ?_
  have hs' : Sim cx s0 g l a { w with drawn := w.drawn + 1 } := hs.drew.1
  refine draw_go hchk hlen hQ hloc _ _ (List.range ops.length) g l a _ (by simp) ?_ (fun i hi _ => by simpa using hi) (by simp) ?_
  · intro j o hj hD
    rw [Dl_none] at hD
    cases hD
  · have e1 : wsel (Dl (Array.replicate ops.toArray.size false)) 0 sts = [] := by rw [Dl_none]; exact wsel_none _ _
    have e2 : ecnt (Dl (Array.replicate ops.toArray.size false)) 0 sts = 0 := by rw [Dl_none]; exact ecnt_none _ _
    unfold sD
    rw [e1, e2, he]
    exact hs'
end
end Go.Pv
