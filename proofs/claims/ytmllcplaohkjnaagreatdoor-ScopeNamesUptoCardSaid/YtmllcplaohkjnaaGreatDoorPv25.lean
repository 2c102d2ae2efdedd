/- Pure values, twenty-fifth part: an evaluator, and that the model does what it reckons. -/
import Derived.Test.YtmllcplaohkjnaaGreatDoorPv23
set_option linter.unusedVariables false
set_option linter.unusedSimpArgs false
set_option linter.unusedSectionVars false
namespace Go.Pv
open Go.RowKit

/-! ## Reading programs, run -/
def RM.run {α : Type} : RM α → S → Option α
  | .ret a, _ => some a
  | .fail, _ => none
  | .getT t k, s => match lk s.tmps t with
    | some v => (k v).run s
    | none => none
  | .getB i k, s => match lk s.boxes i with
    | some v => (k v).run s
    | none => none
  | .getX n k, s => match lk s.ext n with
    | some v => (k v).run s
    | none => none
  | .assume p k, s => match p with
    | true => k.run s
    | false => none
theorem RM.run_wp {α : Type} {s : S} {K : α → Prop} {a : α} : ∀ {r : RM α}, r.run s = some a → K a → r.wp s K
  | .ret _, h, k => by simp only [RM.run, Option.some.injEq] at h; subst h; exact k
  | .fail, h, _ => by cases h
  | .getT t f, h, k => by
    simp only [RM.run] at h
    simp only [RM.wp]
    split at h
    · rename_i hv; rw [hv]; exact RM.run_wp h k
    · cases h
  | .getB t f, h, k => by
    simp only [RM.run] at h
    simp only [RM.wp]
    split at h
    · rename_i hv; rw [hv]; exact RM.run_wp h k
    · cases h
  | .getX t f, h, k => by
    simp only [RM.run] at h
    simp only [RM.wp]
    split at h
    · rename_i hv; rw [hv]; exact RM.run_wp h k
    · cases h
  | .assume p f, h, k => by
    simp only [RM.run] at h
    cases p with
    | true => exact ⟨rfl, RM.run_wp h k⟩
    | false => cases h
def RM.runR {α : Type} : RM α → S → Option (α × List Loc)
  | .ret a, _ => some (a, [])
  | .fail, _ => none
  | .getT t k, s => match lk s.tmps t with
    | some v => match (k v).runR s with
      | some (a, r) => some (a, .t t :: r)
      | none => none
    | none => none
  | .getB i k, s => match lk s.boxes i with
    | some v => match (k v).runR s with
      | some (a, r) => some (a, .b i :: r)
      | none => none
    | none => none
  | .getX n k, s => match lk s.ext n with
    | some v => match (k v).runR s with
      | some (a, r) => some (a, .x n :: r)
      | none => none
    | none => none
  | .assume p k, s => match p with
    | true => k.runR s
    | false => none
theorem RM.runR_wpR {α : Type} {s : S} {a : α} : ∀ {r : RM α} {K : α → List Loc → Prop} {rd : List Loc}, r.runR s = some (a, rd) → K a rd → r.wpR s K
  | .ret _, K, rd, h, k => by simp only [RM.runR, Option.some.injEq, Prod.mk.injEq] at h; obtain ⟨rfl, rfl⟩ := h; exact k
  | .fail, _, _, h, _ => by cases h
  | .getT t f, K, rd, h, k => by
    simp only [RM.runR] at h
    simp only [RM.wpR]
    split at h
    · rename_i v hv
      rw [hv]
      split at h
      · rename_i h2
        simp only [Option.some.injEq, Prod.mk.injEq] at h
        obtain ⟨rfl, rfl⟩ := h
        exact RM.runR_wpR (K := fun a r => K a (.t t :: r)) h2 k
      · cases h
    · cases h
  | .getB t f, K, rd, h, k => by
    simp only [RM.runR] at h
    simp only [RM.wpR]
    split at h
    · rename_i v hv
      rw [hv]
      split at h
      · rename_i h2
        simp only [Option.some.injEq, Prod.mk.injEq] at h
        obtain ⟨rfl, rfl⟩ := h
        exact RM.runR_wpR (K := fun a r => K a (.b t :: r)) h2 k
      · cases h
    · cases h
  | .getX t f, K, rd, h, k => by
    simp only [RM.runR] at h
    simp only [RM.wpR]
    split at h
    · rename_i v hv
      rw [hv]
      split at h
      · rename_i h2
        simp only [Option.some.injEq, Prod.mk.injEq] at h
        obtain ⟨rfl, rfl⟩ := h
        exact RM.runR_wpR (K := fun a r => K a (.x t :: r)) h2 k
      · cases h
    · cases h
  | .assume p f, K, rd, h, k => by
    simp only [RM.runR] at h
    cases p with
    | true => exact ⟨rfl, RM.runR_wpR h k⟩
    | false => cases h

/-! ## Oracles -/
abbrev Orc := FuncId → List PV → Ext → Option (CRes × Ext)
def OrcOK (P : Program) (orc : Orc) : Prop := ∀ f args e r e', orc f args e = some (r, e') → isFn P f = true ∧ CallC P f args e fun r1 e1 => r1 = r ∧ e1 = e'

/-- Which boxes are read only (some true), local (some false), named (none); which slices are named. -/
structure Md where
  ro : TypeId → Option Bool
  row : TypeId → Bool

/-! ## No names -/
mutual
def PV.noX : PV → Bool
  | .xp _ _ => false
  | .mp _ => false
  | .xsl _ _ _ => false
  | .ysl _ _ _ => false
  | .yp _ _ _ => false
  | .ifm _ _ _ => false
  | .opq p => p.noX
  | .ro cs _ => noXs cs
  | .sl _ es => noXss es
  | .fn _ a b => noXs a && noXs b
  | .iface _ p => p.noX
  | .agg cs => noXs cs
  | .tup cs => noXs cs
  | _ => true
def noXs : List PV → Bool
  | [] => true
  | p :: r => p.noX && noXs r
def noXss : List (List PV) → Bool
  | [] => true
  | p :: r => noXs p && noXss r
end
theorem noXs_mem : ∀ {l : List PV}, noXs l = true → ∀ (j : Nat) (h : j < l.length), l[j].noX = true
  | [], _, j, h => absurd h (by simp)
  | p :: r, h, 0, _ => by simp only [noXs, Bool.and_eq_true] at h; exact h.1
  | p :: r, h, j + 1, hj => by simp only [noXs, Bool.and_eq_true] at h; exact noXs_mem h.2 j (by simpa using hj)
theorem noXss_mem : ∀ {l : List (List PV)}, noXss l = true → ∀ (j : Nat) (h : j < l.length), noXs l[j] = true
  | [], _, j, h => absurd h (by simp)
  | p :: r, h, 0, _ => by simp only [noXss, Bool.and_eq_true] at h; exact h.1
  | p :: r, h, j + 1, hj => by simp only [noXss, Bool.and_eq_true] at h; exact noXss_mem h.2 j (by simpa using hj)
/-- Without names the names do not matter. -/
theorem Rep.names {g g' : Gh} {w : World} {p : PV} {v : Value} (hM : g'.M = g.M) (hn : p.noX = true) (h : Rep g w p v) : Rep g' w p v := by
  have hfix : ∀ b o, g.Fix b o → g'.Fix b o := fun b o hf k hk => hf k (by rw [← hM]; exact hk)
  induction h with
  | bool b => exact .bool b
  | int k n => exact .int k n
  | str s => exact .str s
  | nilp => exact .nilp
  | ro cs off b o vs hc hf h1 hr ih =>
    simp only [PV.noX] at hn
    exact .ro cs off b o vs hc (fun j hj => hfix _ _ (hf j hj)) h1 fun j hj => ih j hj (noXs_mem hn j hj)
  | xp n off b hx => cases hn
  | nilsl => exact .nilsl
  | slnil size => exact .slnil size
  | sl size es a cap vs hle hcap hsz hc hf h1 hr ih =>
    simp only [PV.noX] at hn
    exact .sl size es a cap vs hle hcap hsz hc (fun i j hi hj => hfix _ _ (hf i j hi hj)) h1 fun i j hi hj => ih i j hi hj (noXs_mem (noXss_mem hn i hi) j hj)
  | xsl n size len b cap cur e h hh hs hle hcap => cases hn
  | fn f first captured fv cv h1 h2 hf hc ih1 ih2 =>
    simp only [PV.noX, Bool.and_eq_true] at hn
    exact .fn f first captured fv cv h1 h2 (fun j h h' => ih1 j h h' (noXs_mem hn.1 j h)) fun j h h' => ih2 j h h' (noXs_mem hn.2 j h)
  | nilfn => exact .nilfn
  | iface t p v h ih => exact .iface t p v (ih (by simpa [PV.noX] using hn))
  | nilif => exact .nilif
  | agg cs vs h1 ho h ih =>
    simp only [PV.noX] at hn
    exact .agg cs vs h1 ho fun j h h' => ih j h h' (noXs_mem hn j h)
  | tup cs vs h1 h ih =>
    simp only [PV.noX] at hn
    exact .tup cs vs h1 fun j h h' => ih j h h' (noXs_mem hn j h)
  | mpn => exact .mpn
  | mp n b h => cases hn
  | ysl n c len b cap cur e h => cases hn
  | yp n c off b h => cases hn
  | ifm t f p v h ih => cases hn
  | opq p v h1 h ih =>
    simp only [PV.noX] at hn
    exact .opq p v h1 (ih hn)
theorem GLB_noX : (GLB.all fun x => noXs x.2) = true := by rfl
theorem lk_mem {α : Type} {k : Nat} {v : α} : ∀ {l : List (Nat × α)}, lk l k = some v → (k, v) ∈ l
  | [], h => by cases h
  | (a, b) :: r, h => by
    simp only [lk] at h
    split at h
    · rename_i e; subst e; injection h with h; subst h; exact List.mem_cons_self
    · exact List.mem_cons_of_mem _ (lk_mem h)
theorem GOK.names {g g' : Gh} {w : World} (h : GOK g w) (hM : g'.M = g.M) : GOK g' w := fun k cs e => by
  have h1 : noXs cs = true := List.all_eq_true.1 GLB_noX _ (lk_mem e)
  exact Rep.names hM (by simpa [PV.noX] using h1) (h k cs e)
def CRes.noX : CRes → Bool
  | .ret p => p.noX
  | .own _ _ es => noXss es
  | .panic p => p.noX
/-- What needs no named object leaves them alone. -/
theorem CallC.frame {P : Program} {f : FuncId} {args : List PV} {res : CRes} (ha : noXs args = true) (hr : res.noX = true) (h : CallC P f args [] fun r e => r = res ∧ e = []) (e : Ext) : CallC P f args e fun r e' => r = res ∧ e' = e := by
  intro vs g l w hargs hent
  let g2 : Gh := ⟨g.M, fun _ => none, fun _ _ => none⟩
  let l2 : LG := ⟨fun _ => none, fun _ => none, fun _ => none⟩
  have h1 : RepAll g2 w args vs := ⟨hargs.1, fun j hj hj' => Rep.names (g := g) rfl (noXs_mem ha j hj) (hargs.2 j hj hj')⟩
  have h2 : Ent [] g2 l2 w := { ex := fun x cs hx => (by simp [lk] at hx), olt := fun b o ho => (by cases ho), uo := fun p b hb => (by cases hb), fresh := ⟨hent.fresh.1, fun _ _ => rfl, fun _ _ _ => rfl⟩, xlt := fun n b hb => (by cases hb), only := fun b o ho => (by cases ho), glb := hent.glb.names rfl }
  refine (h vs g2 l2 w h1 h2).mono ?_
  rintro en w' ⟨r, e1, g', l', ⟨rfl, rfl⟩, hres, hent', hmono, hsz, hfr, hown, os, tape, output⟩
  have hX : ∀ n, g'.X n = none := fun n => hent'.fresh.2.1 n (by simp [cnt])
  have hl' : ∀ b o, l'.O b = some o → w.heap.size ≤ b := fun b o ho => by
    rcases hown b o ho with h | h
    · exact h
    · cases h
  let g3 : Gh := ⟨g'.M, g.X, g.Y⟩
  have hkeep : ∀ b, b < w.heap.size → w'.heap[b]? = w.heap[b]? ∧ g'.M b = g.M b := fun b hb => hfr b hb rfl
  have hm3 : Mono g w g3 w' := ⟨fun n b hb => hb, fun b o v hc hf => by
      obtain ⟨k1, k2⟩ := hmono.cell b o v hc (fun k hk => hf k hk)
      exact ⟨k1, fun k hk => k2 k hk⟩, fun b cur t hb => hmono.len b cur t hb, fun _ _ _ h => h⟩
  refine ⟨r, e, g3, l, ⟨rfl, rfl⟩, ?_, ?_, hm3, hsz, fun b hb _ => hkeep b hb, fun b o ho => .inr (by rw [ho]; rfl), os, tape, output⟩
  · cases r with
    | ret p =>
      cases en <;> first | exact hres.elim | skip
      exact Rep.names (g := g') rfl hr hres
    | own te z es =>
      cases en <;> first | exact hres.elim | skip
      rcases hres with (h | ⟨a, h, h'⟩) | ⟨b, cap, cur, k1, k2, k3, k4, k5, k6, k7, k8⟩
      · exact .inl (.inl h)
      · exact .inl (.inr ⟨a, h, Rep.names (g := g') rfl (by simpa [PV.noX, CRes.noX] using hr) h'⟩)
      · have hb : w.heap.size ≤ b := by
          rcases k2 with h | h
          · exact h
          · cases h
        refine .inr ⟨b, cap, cur, k1, .inl hb, k3, ?_, k5, k6, k7, Rep.names (g := g') rfl (by simpa [PV.noX, CRes.noX] using hr) k8⟩
        cases hb' : l.O b with
        | none => rfl
        | some o => exact absurd (hent.olt b o hb') (by omega)
    | panic p =>
      cases en <;> first | exact hres.elim | skip
      obtain ⟨v, hv, hrv⟩ := hres
      exact ⟨v, hv, Rep.names (g := g') rfl hr hrv⟩
  · refine ⟨fun x cs hx => ?_, fun b o ho => Nat.lt_of_lt_of_le (hent.olt b o ho) hsz, hent.uo, ⟨hent'.fresh.1, hent.fresh.2⟩, fun n b hb => Nat.lt_of_lt_of_le (hent.xlt n b hb) hsz, hent.only, hent.glb.mono hm3⟩
    obtain ⟨b, k1, k2, hE⟩ := hent.ex x cs hx
    have hb := hkeep b (hent.olt b _ k2)
    refine ⟨b, k1.mono hm3, k2, ?_⟩
    rcases hE with ⟨k3, cur, t, k4, k5, k6⟩ | hE
    rotate_left
    · exact .inr (hE.keep hm3 (fun _ _ _ h => h) hb.2 hb.1)
    refine .inl ⟨hb.2.trans k3, cur, t, hb.1.trans k4, k5, fun j hj => ⟨(k6 j hj).1, (k6 j hj).2.1, ?_⟩⟩
    refine (k6 j hj).2.2.keep hm3 (fun _ _ _ => rfl) fun b' hb' => ?_
    have hlt := hent.olt b' _ (hent.uo _ _ hb')
    exact ⟨hb', (hkeep b' hlt).2, (hkeep b' hlt).1⟩
end Go.Pv
