/- From typed cells to data; bounds out of their bulk. -/
import Derived.Test.YtmllcplaohkjnaaGreatDoorSD
import Derived.Test.YtmllcplaohkjnaaGreatDoorBr
import Derived.Test.YtmllcplaohkjnaaGreatDoorProg
import Derived.KernelRfl
set_option linter.unusedVariables false
set_option linter.unusedSimpArgs false
set_option linter.unusedSectionVars false
namespace Go.Proofs.YtmllcplaohkjnaaGreatDoor
open Go.Pv
set_option maxRecDepth 100000
theorem bulkP_pos : ∀ p : PV, 1 ≤ bulkP p := fun p => by cases p <;> simp [bulkP]
theorem cons_bulk (p : PV) (r : List PV) : 1 ≤ bulkPs (p :: r) := by have := bulkP_pos p; simp only [bulkPs]; omega
theorem mem_bulk : ∀ {l : List (List PV)} {c : List PV}, c ∈ l → bulkPs c ≤ bulkPss l
  | x :: r, c, h => by
    simp only [bulkPss]
    rcases List.mem_cons.1 h with rfl | h
    · omega
    · have := mem_bulk h; omega
theorem len_bulk : ∀ {l : List (List PV)}, (∀ c ∈ l, 1 ≤ bulkPs c) → l.length ≤ bulkPss l
  | [], _ => by simp
  | x :: r, h => by
    have h1 := h x List.mem_cons_self
    have h2 := len_bulk fun c hc => h c (List.mem_cons_of_mem _ hc)
    simp only [bulkPss, List.length_cons]
    omega
theorem nms_bulk (l : List ByteArray) : l.length ≤ bulkPss (nmsC l) := by
  have := len_bulk (l := nmsC l) fun c hc => by
    rw [nmsC_eq] at hc
    obtain ⟨x, -, rfl⟩ := List.mem_map.1 hc
    exact cons_bulk _ _
  rwa [nmsC_len] at this
theorem nm_bulk {l : List ByteArray} {x : ByteArray} (h : x ∈ l) : x.size + 1 ≤ bulkPss (nmsC l) := by
  have := mem_bulk (l := nmsC l) (c := [.str x]) (by rw [nmsC_eq]; exact List.mem_map_of_mem h)
  simpa [bulkPs, bulkP] using this
theorem Pr.bulk (l : List Pr) : l.length ≤ bulkPss (Pr.cs l) := by
  have := len_bulk (l := Pr.cs l) fun c hc => by
    rw [Pr.cs_eq] at hc
    obtain ⟨x, -, rfl⟩ := List.mem_map.1 hc
    exact cons_bulk _ _
  rwa [Pr.cs_len] at this
theorem Pr.mem {l : List Pr} {x : Pr} (h : x ∈ l) : bulkPs (prL x) ≤ bulkPss (Pr.cs l) := mem_bulk (by rw [Pr.cs_eq]; exact List.mem_map_of_mem h)
theorem Tp.bulk (l : List Tp) : l.length ≤ bulkPss (Tp.cs l) := by
  have := len_bulk (l := Tp.cs l) fun c hc => by
    rw [Tp.cs_eq] at hc
    obtain ⟨x, -, rfl⟩ := List.mem_map.1 hc
    exact cons_bulk _ _
  rwa [Tp.cs_len] at this
theorem Tp.mem {l : List Tp} {x : Tp} (h : x ∈ l) : bulkPs (tpL x) ≤ bulkPss (Tp.cs l) := mem_bulk (by rw [Tp.cs_eq]; exact List.mem_map_of_mem h)
theorem Pm.bulk (l : List Pm) : l.length ≤ bulkPss (Pm.cs l) := by
  have := len_bulk (l := Pm.cs l) fun c hc => by
    rw [Pm.cs_eq] at hc
    obtain ⟨x, -, rfl⟩ := List.mem_map.1 hc
    exact cons_bulk _ _
  rwa [Pm.cs_len] at this
theorem Pm.mem {l : List Pm} {x : Pm} (h : x ∈ l) : bulkPs (pmL x) ≤ bulkPss (Pm.cs l) := mem_bulk (by rw [Pm.cs_eq]; exact List.mem_map_of_mem h)
theorem Ex.bulk (l : List Ex) : l.length ≤ bulkPss (Ex.cs l) := by
  have := len_bulk (l := Ex.cs l) fun c hc => by
    rw [Ex.cs_eq] at hc
    obtain ⟨x, -, rfl⟩ := List.mem_map.1 hc
    exact cons_bulk _ _
  rwa [Ex.cs_len] at this
theorem Ex.mem {l : List Ex} {x : Ex} (h : x ∈ l) : bulkPs (exL x) ≤ bulkPss (Ex.cs l) := mem_bulk (by rw [Ex.cs_eq]; exact List.mem_map_of_mem h)
theorem Al.bulk (l : List Al) : l.length ≤ bulkPss (Al.cs l) := by
  have := len_bulk (l := Al.cs l) fun c hc => by
    rw [Al.cs_eq] at hc
    obtain ⟨x, -, rfl⟩ := List.mem_map.1 hc
    exact cons_bulk _ _
  rwa [Al.cs_len] at this
theorem Al.mem {l : List Al} {x : Al} (h : x ∈ l) : bulkPs (alL x) ≤ bulkPss (Al.cs l) := mem_bulk (by rw [Al.cs_eq]; exact List.mem_map_of_mem h)
theorem Vr.bulk (l : List Vr) : l.length ≤ bulkPss (Vr.cs l) := by
  have := len_bulk (l := Vr.cs l) fun c hc => by
    rw [Vr.cs_eq] at hc
    obtain ⟨x, -, rfl⟩ := List.mem_map.1 hc
    exact cons_bulk _ _
  rwa [Vr.cs_len] at this
theorem Vr.mem {l : List Vr} {x : Vr} (h : x ∈ l) : bulkPs (vrL x) ≤ bulkPss (Vr.cs l) := mem_bulk (by rw [Vr.cs_eq]; exact List.mem_map_of_mem h)
theorem Cn.bulk (l : List Cn) : l.length ≤ bulkPss (Cn.cs l) := by
  have := len_bulk (l := Cn.cs l) fun c hc => by
    rw [Cn.cs_eq] at hc
    obtain ⟨x, -, rfl⟩ := List.mem_map.1 hc
    exact cons_bulk _ _
  rwa [Cn.cs_len] at this
theorem Cn.mem {l : List Cn} {x : Cn} (h : x ∈ l) : bulkPs (cnL x) ≤ bulkPss (Cn.cs l) := mem_bulk (by rw [Cn.cs_eq]; exact List.mem_map_of_mem h)
theorem Da.bulk (l : List Da) : l.length ≤ bulkPss (Da.cs l) := by
  have := len_bulk (l := Da.cs l) fun c hc => by
    rw [Da.cs_eq] at hc
    obtain ⟨x, -, rfl⟩ := List.mem_map.1 hc
    exact cons_bulk _ _
  rwa [Da.cs_len] at this
theorem Da.mem {l : List Da} {x : Da} (h : x ∈ l) : bulkPs (daL x) ≤ bulkPss (Da.cs l) := mem_bulk (by rw [Da.cs_eq]; exact List.mem_map_of_mem h)
theorem Cl.bulk (l : List Cl) : l.length ≤ bulkPss (Cl.cs l) := by
  have := len_bulk (l := Cl.cs l) fun c hc => by
    rw [Cl.cs_eq] at hc
    obtain ⟨x, -, rfl⟩ := List.mem_map.1 hc
    exact cons_bulk _ _
  rwa [Cl.cs_len] at this
theorem Cl.mem {l : List Cl} {x : Cl} (h : x ∈ l) : bulkPs (clL x) ≤ bulkPss (Cl.cs l) := mem_bulk (by rw [Cl.cs_eq]; exact List.mem_map_of_mem h)
theorem Bo.bulk (l : List Bo) : l.length ≤ bulkPss (Bo.cs l) := by
  have := len_bulk (l := Bo.cs l) fun c hc => by
    rw [Bo.cs_eq] at hc
    obtain ⟨x, -, rfl⟩ := List.mem_map.1 hc
    exact cons_bulk _ _
  rwa [Bo.cs_len] at this
theorem Bo.mem {l : List Bo} {x : Bo} (h : x ∈ l) : bulkPs (boL x) ≤ bulkPss (Bo.cs l) := mem_bulk (by rw [Bo.cs_eq]; exact List.mem_map_of_mem h)
theorem Df.bulk (l : List Df) : l.length ≤ bulkPss (Df.cs l) := by
  have := len_bulk (l := Df.cs l) fun c hc => by
    rw [Df.cs_eq] at hc
    obtain ⟨x, -, rfl⟩ := List.mem_map.1 hc
    exact cons_bulk _ _
  rwa [Df.cs_len] at this
theorem Df.mem {l : List Df} {x : Df} (h : x ∈ l) : bulkPs (dfL x) ≤ bulkPss (Df.cs l) := mem_bulk (by rw [Df.cs_eq]; exact List.mem_map_of_mem h)
theorem In.bulk (l : List In) : l.length ≤ bulkPss (In.cs l) := by
  have := len_bulk (l := In.cs l) fun c hc => by
    rw [In.cs_eq] at hc
    obtain ⟨x, -, rfl⟩ := List.mem_map.1 hc
    exact cons_bulk _ _
  rwa [In.cs_len] at this
theorem In.mem {l : List In} {x : In} (h : x ∈ l) : bulkPs (inL x) ≤ bulkPss (In.cs l) := mem_bulk (by rw [In.cs_eq]; exact List.mem_map_of_mem h)
theorem Cs.bulk (l : List Cs) : l.length ≤ bulkPss (Cs.cs l) := by
  have := len_bulk (l := Cs.cs l) fun c hc => by
    rw [Cs.cs_eq] at hc
    obtain ⟨x, -, rfl⟩ := List.mem_map.1 hc
    exact cons_bulk _ _
  rwa [Cs.cs_len] at this
theorem Cs.mem {l : List Cs} {x : Cs} (h : x ∈ l) : bulkPs (csL x) ≤ bulkPss (Cs.cs l) := mem_bulk (by rw [Cs.cs_eq]; exact List.mem_map_of_mem h)
theorem Ms.bulk (l : List Ms) : l.length ≤ bulkPss (Ms.cs l) := by
  have := len_bulk (l := Ms.cs l) fun c hc => by
    rw [Ms.cs_eq] at hc
    obtain ⟨x, -, rfl⟩ := List.mem_map.1 hc
    exact cons_bulk _ _
  rwa [Ms.cs_len] at this
theorem Ms.mem {l : List Ms} {x : Ms} (h : x ∈ l) : bulkPs (msL x) ≤ bulkPss (Ms.cs l) := mem_bulk (by rw [Ms.cs_eq]; exact List.mem_map_of_mem h)
theorem Qu.bulk (l : List Qu) : l.length ≤ bulkPss (Qu.cs l) := by
  have := len_bulk (l := Qu.cs l) fun c hc => by
    rw [Qu.cs_eq] at hc
    obtain ⟨x, -, rfl⟩ := List.mem_map.1 hc
    exact cons_bulk _ _
  rwa [Qu.cs_len] at this
theorem Qu.mem {l : List Qu} {x : Qu} (h : x ∈ l) : bulkPs (quL x) ≤ bulkPss (Qu.cs l) := mem_bulk (by rw [Qu.cs_eq]; exact List.mem_map_of_mem h)
theorem Mo.bulk (l : List Mo) : l.length ≤ bulkPss (Mo.cs l) := by
  have := len_bulk (l := Mo.cs l) fun c hc => by
    rw [Mo.cs_eq] at hc
    obtain ⟨x, -, rfl⟩ := List.mem_map.1 hc
    exact cons_bulk _ _
  rwa [Mo.cs_len] at this
theorem Mo.mem {l : List Mo} {x : Mo} (h : x ∈ l) : bulkPs (moL x) ≤ bulkPss (Mo.cs l) := mem_bulk (by rw [Mo.cs_eq]; exact List.mem_map_of_mem h)
section
variable {P : Program} {n : Nat} {t : TypeId} {cs : List PV}
theorem ty_str (hu : P.underlying t = some .string) (h : Ty P n t cs) : ∃ s, cs = [.str s] := by
  cases n with
  | zero => exact h.elim
  | succ n => simp only [Ty, hu] at h; obtain ⟨s, rfl, -⟩ := h; exact ⟨s, rfl⟩
theorem ty_int {k : IntKind} (hu : P.underlying t = some (.int k)) (h : Ty P n t cs) : ∃ v, cs = [.int k v] ∧ (Lit.int k v).wf = true := by
  cases n with
  | zero => exact h.elim
  | succ n => simp only [Ty, hu] at h; exact h
theorem ty_bool (hu : P.underlying t = some .bool) (h : Ty P n t cs) : ∃ b, cs = [.bool b] := by
  cases n with
  | zero => exact h.elim
  | succ n => simp only [Ty, hu] at h; exact h
theorem ty_struct {fs : Array Field} (hu : P.underlying t = some (.struct fs)) (h : Ty P n t cs) : ∃ m, m < n ∧ TyF (Ty P m) fs.toList cs := by
  cases n with
  | zero => exact h.elim
  | succ n => simp only [Ty, hu] at h; exact ⟨n, by omega, h⟩
theorem ty_slice {q : TypeId} (hu : P.underlying t = some (.slice q)) (h : Ty P n t cs) : ∃ m es, m < n ∧ cs = [.sl (P.cellsOf q) es] ∧ ∀ x ∈ es, Ty P m q x := by
  cases n with
  | zero => exact h.elim
  | succ n => simp only [Ty, hu] at h; obtain ⟨es, h1, -, h2⟩ := h; exact ⟨n, es, by omega, h1, h2⟩
theorem lst_of {α : Type} {mk : α → List PV} : ∀ {es : List (List PV)}, (∀ x ∈ es, ∃ a, x = mk a) → ∃ l : List α, es = l.map mk
  | [], _ => ⟨[], rfl⟩
  | x :: r, h => by
    obtain ⟨a, rfl⟩ := h x (by simp)
    obtain ⟨l, rfl⟩ := lst_of (es := r) fun y hy => h y (List.mem_cons_of_mem _ hy)
    exact ⟨a :: l, rfl⟩
theorem ty_list {α : Type} {mk : α → List PV} {C : List α → List (List PV)} (hC : ∀ l, C l = l.map mk) {q : TypeId} (hu : P.underlying t = some (.slice q)) {z : Nat} (hz : P.cellsOf q = z) (h : Ty P n t cs) (he : ∀ m x, m < n → Ty P m q x → ∃ a, x = mk a) : ∃ l, cs = [.sl z (C l)] := by
  obtain ⟨m, es, hm, rfl, h2⟩ := ty_slice hu h
  obtain ⟨l, rfl⟩ := lst_of fun x hx => he m x hm (h2 x hx)
  exact ⟨l, by rw [hC, hz]⟩
end
section
variable {n : Nat} {cs : List PV}
theorem ty_nms (h : Ty Tryz.prog n 34 cs) : ∃ l, cs = [.sl 1 (nmsC l)] :=
  ty_list (mk := fun s => [.str s]) nmsC_eq Tryz.underlying34 (by kernel_rfl) h fun m x _ hx => ty_str Tryz.underlying9 hx
theorem ty_Pr : ∀ (n : Nat) (cs : List PV), Ty Tryz.prog n 50 cs → ∃ x : Pr, cs = prL x := by
  intro n
  induction n using Nat.strongRecOn with
  | _ n ih =>
    intro cs h
    obtain ⟨m, hm, h⟩ := ty_struct Tryz.underlying50 h
    obtain ⟨c1, r1, rfl, h1, c2, r2, rfl, h2, c3, r3, rfl, h3, c4, r4, rfl, h4, rfl⟩ := h
    obtain ⟨vO, rfl, -⟩ := ty_int Tryz.underlying47 h1
    obtain ⟨vNm, rfl⟩ := ty_str Tryz.underlying9 h2
    obtain ⟨vN, rfl, -⟩ := ty_int Tryz.underlying3 h3
    obtain ⟨vK, rfl⟩ := ty_list (z := 4) Pr.cs_eq Tryz.underlying48 (by kernel_rfl) h4 fun m' x hm' hx => ih m' (by omega) x hx
    exact ⟨.mk vO vNm vN vK, by simp only [prO, prNm, prN, prK, prL, List.cons_append, List.nil_append, List.append_nil]⟩
theorem ty_Tp : ∀ (n : Nat) (cs : List PV), Ty Tryz.prog n 52 cs → ∃ x : Tp, cs = tpL x := by
  intro n
  induction n using Nat.strongRecOn with
  | _ n ih =>
    intro cs h
    obtain ⟨m, hm, h⟩ := ty_struct Tryz.underlying52 h
    obtain ⟨c1, r1, rfl, h1, c2, r2, rfl, h2, c3, r3, rfl, h3, c4, r4, rfl, h4, c5, r5, rfl, h5, c6, r6, rfl, h6, rfl⟩ := h
    obtain ⟨vO, rfl, -⟩ := ty_int Tryz.underlying46 h1
    obtain ⟨vNm, rfl⟩ := ty_str Tryz.underlying9 h2
    obtain ⟨vA, rfl⟩ := ty_list (z := 9) Tp.cs_eq Tryz.underlying39 (by kernel_rfl) h3 fun m' x hm' hx => ih m' (by omega) x hx
    obtain ⟨vNs, rfl⟩ := ty_nms h4
    obtain ⟨vP, rfl⟩ := ty_Pr _ _ h5
    obtain ⟨vPs, rfl⟩ := ty_list (z := 4) Pr.cs_eq Tryz.underlying48 (by kernel_rfl) h6 fun m' x hm' hx => ty_Pr _ _ hx
    exact ⟨.mk vO vNm vA vNs vP vPs, by simp only [tpO, tpNm, tpA, tpNs, tpP, tpPs, tpL, prO, prNm, prN, prK, prL, List.cons_append, List.nil_append, List.append_nil]⟩
theorem ty_Pm (h : Ty Tryz.prog n 132 cs) : ∃ x : Pm, cs = pmL x := by
  obtain ⟨m, hm, h⟩ := ty_struct Tryz.underlying132 h
  obtain ⟨c1, r1, rfl, h1, c2, r2, rfl, h2, rfl⟩ := h
  obtain ⟨vNm, rfl⟩ := ty_str Tryz.underlying9 h1
  obtain ⟨vT, rfl⟩ := ty_Tp _ _ h2
  exact ⟨.mk vNm vT, by simp only [pmNm, pmT, pmL, tpO, tpNm, tpA, tpNs, tpP, tpPs, tpL, prO, prNm, prN, prK, prL, List.cons_append, List.nil_append, List.append_nil]⟩
theorem ty_PmMethod (h : Ty Tryz.prog n 81 cs) : ∃ x : Pm, cs = pmL x := by
  obtain ⟨m, hm, h⟩ := ty_struct Tryz.underlying81 h
  obtain ⟨c1, r1, rfl, h1, c2, r2, rfl, h2, rfl⟩ := h
  obtain ⟨vNm, rfl⟩ := ty_str Tryz.underlying9 h1
  obtain ⟨vT, rfl⟩ := ty_Tp _ _ h2
  exact ⟨.mk vNm vT, by simp only [pmNm, pmT, pmL, tpO, tpNm, tpA, tpNs, tpP, tpPs, tpL, prO, prNm, prN, prK, prL, List.cons_append, List.nil_append, List.append_nil]⟩
theorem ty_Ex : ∀ (n : Nat) (cs : List PV), Ty Tryz.prog n 41 cs → ∃ x : Ex, cs = exL x := by
  intro n
  induction n using Nat.strongRecOn with
  | _ n ih =>
    intro cs h
    obtain ⟨m, hm, h⟩ := ty_struct Tryz.underlying41 h
    obtain ⟨c1, r1, rfl, h1, c2, r2, rfl, h2, c3, r3, rfl, h3, c4, r4, rfl, h4, c5, r5, rfl, h5, c6, r6, rfl, h6, c7, r7, rfl, h7, rfl⟩ := h
    obtain ⟨vO, rfl, -⟩ := ty_int Tryz.underlying35 h1
    obtain ⟨vNm, rfl⟩ := ty_str Tryz.underlying9 h2
    obtain ⟨vN, rfl, -⟩ := ty_int Tryz.underlying3 h3
    obtain ⟨vK, rfl⟩ := ty_list (z := 7) Ex.cs_eq Tryz.underlying36 (by kernel_rfl) h4 fun m' x hm' hx => ih m' (by omega) x hx
    obtain ⟨vP, rfl⟩ := ty_list (z := 10) Pm.cs_eq Tryz.underlying37 (by kernel_rfl) h5 fun m' x hm' hx => ty_Pm hx
    obtain ⟨vA, rfl⟩ := ty_list (z := 9) Al.cs_eq Tryz.underlying38 (by kernel_rfl) h6 fun m' x hm' hx => by
      obtain ⟨m2, hm2, hx⟩ := ty_struct Tryz.underlying130 hx
      obtain ⟨d1, r1, rfl, k1, d2, r2, rfl, k2, d3, r3, rfl, k3, rfl⟩ := hx
      obtain ⟨s, rfl⟩ := ty_str Tryz.underlying9 k1
      obtain ⟨ns, rfl⟩ := ty_nms k2
      obtain ⟨b, rfl⟩ := ih m2 (by omega) _ k3
      exact ⟨.mk s ns b, by simp only [alL, alC, alNs, alB, List.cons_append, List.nil_append, List.append_nil]⟩
    obtain ⟨vT, rfl⟩ := ty_list (z := 9) Tp.cs_eq Tryz.underlying39 (by kernel_rfl) h7 fun m' x hm' hx => ty_Tp _ _ hx
    exact ⟨.mk vO vNm vN vK vP vA vT, by simp only [exO, exNm, exN, exK, exP, exA, exT, exL, List.cons_append, List.nil_append, List.append_nil]⟩
theorem ty_Vr (h : Ty Tryz.prog n 137 cs) : ∃ x : Vr, cs = vrL x := by
  obtain ⟨m, hm, h⟩ := ty_struct Tryz.underlying137 h
  obtain ⟨c1, r1, rfl, h1, c2, r2, rfl, h2, rfl⟩ := h
  obtain ⟨vNm, rfl⟩ := ty_str Tryz.underlying9 h1
  obtain ⟨vS, rfl⟩ := ty_str Tryz.underlying60 h2
  exact ⟨.mk vNm vS, by simp only [vrNm, vrS, vrL, List.cons_append, List.nil_append, List.append_nil]⟩
theorem ty_VrNeed (h : Ty Tryz.prog n 197 cs) : ∃ x : Vr, cs = vrL x := by
  obtain ⟨m, hm, h⟩ := ty_struct Tryz.underlying197 h
  obtain ⟨c1, r1, rfl, h1, c2, r2, rfl, h2, rfl⟩ := h
  obtain ⟨a, rfl⟩ := ty_str Tryz.underlying9 h1
  obtain ⟨b, rfl⟩ := ty_str Tryz.underlying9 h2
  exact ⟨.mk a b, by simp only [vrNm, vrS, vrL, List.cons_append, List.nil_append, List.append_nil]⟩
theorem ty_VrAbs (h : Ty Tryz.prog n 200 cs) : ∃ x : Vr, cs = vrL x := by
  obtain ⟨m, hm, h⟩ := ty_struct Tryz.underlying200 h
  obtain ⟨c1, r1, rfl, h1, c2, r2, rfl, h2, rfl⟩ := h
  obtain ⟨a, rfl⟩ := ty_str Tryz.underlying9 h1
  obtain ⟨b, rfl⟩ := ty_str Tryz.underlying60 h2
  exact ⟨.mk a b, by simp only [vrNm, vrS, vrL, List.cons_append, List.nil_append, List.append_nil]⟩
theorem ty_Cn (h : Ty Tryz.prog n 74 cs) : ∃ x : Cn, cs = cnL x := by
  obtain ⟨m, hm, h⟩ := ty_struct Tryz.underlying74 h
  obtain ⟨c1, r1, rfl, h1, c2, r2, rfl, h2, c3, r3, rfl, h3, rfl⟩ := h
  obtain ⟨vNm, rfl⟩ := ty_str Tryz.underlying9 h1
  obtain ⟨vNs, rfl⟩ := ty_nms h2
  obtain ⟨vF, rfl⟩ := ty_list (z := 9) Tp.cs_eq Tryz.underlying39 (by kernel_rfl) h3 fun m' x hm' hx => ty_Tp _ _ hx
  exact ⟨.mk vNm vNs vF, by simp only [cnNm, cnNs, cnF, cnL, List.cons_append, List.nil_append, List.append_nil]⟩
theorem ty_Da (h : Ty Tryz.prog n 72 cs) : ∃ x : Da, cs = daL x := by
  obtain ⟨m, hm, h⟩ := ty_struct Tryz.underlying72 h
  obtain ⟨c1, r1, rfl, h1, c2, r2, rfl, h2, c3, r3, rfl, h3, c4, r4, rfl, h4, rfl⟩ := h
  obtain ⟨vNm, rfl⟩ := ty_str Tryz.underlying9 h1
  obtain ⟨vVs, rfl⟩ := ty_nms h2
  obtain ⟨vP, rfl⟩ := ty_list (z := 2) Vr.cs_eq Tryz.underlying69 (by kernel_rfl) h3 fun m' x hm' hx => ty_Vr hx
  obtain ⟨vC, rfl⟩ := ty_list (z := 3) Cn.cs_eq Tryz.underlying70 (by kernel_rfl) h4 fun m' x hm' hx => ty_Cn hx
  exact ⟨.mk vNm vVs vP vC, by simp only [daNm, daVs, daP, daC, daL, List.cons_append, List.nil_append, List.append_nil]⟩
theorem ty_Cl (h : Ty Tryz.prog n 79 cs) : ∃ x : Cl, cs = clL x := by
  obtain ⟨m, hm, h⟩ := ty_struct Tryz.underlying79 h
  obtain ⟨c1, r1, rfl, h1, c2, r2, rfl, h2, c3, r3, rfl, h3, rfl⟩ := h
  obtain ⟨vNm, rfl⟩ := ty_str Tryz.underlying9 h1
  obtain ⟨vW, rfl⟩ := ty_str Tryz.underlying9 h2
  obtain ⟨vM, rfl⟩ := ty_list (z := 10) Pm.cs_eq Tryz.underlying77 (by kernel_rfl) h3 fun m' x hm' hx => ty_PmMethod hx
  exact ⟨.mk vNm vW vM, by simp only [clNm, clW, clM, clL, List.cons_append, List.nil_append, List.append_nil]⟩
theorem ty_Bo (h : Ty Tryz.prog n 101 cs) : ∃ x : Bo, cs = boL x := by
  obtain ⟨m, hm, h⟩ := ty_struct Tryz.underlying101 h
  obtain ⟨c1, r1, rfl, h1, c2, r2, rfl, h2, c3, r3, rfl, h3, c4, r4, rfl, h4, rfl⟩ := h
  obtain ⟨vNm, rfl⟩ := ty_str Tryz.underlying9 h1
  obtain ⟨vW, rfl⟩ := ty_list (z := 2) Vr.cs_eq Tryz.underlying69 (by kernel_rfl) h2 fun m' x hm' hx => ty_Vr hx
  obtain ⟨vH, rfl⟩ := ty_Pr _ _ h3
  obtain ⟨vG, rfl⟩ := ty_Pr _ _ h4
  exact ⟨.mk vNm vW vH vG, by simp only [boNm, boW, boH, boG, boL, prO, prNm, prN, prK, prL, List.cons_append, List.nil_append, List.append_nil]⟩
theorem ty_Df (h : Ty Tryz.prog n 56 cs) : ∃ x : Df, cs = dfL x := by
  obtain ⟨m, hm, h⟩ := ty_struct Tryz.underlying56 h
  obtain ⟨c1, r1, rfl, h1, c2, r2, rfl, h2, c3, r3, rfl, h3, c4, r4, rfl, h4, c5, r5, rfl, h5, c6, r6, rfl, h6, rfl⟩ := h
  obtain ⟨vNm, rfl⟩ := ty_str Tryz.underlying9 h1
  obtain ⟨vP, rfl⟩ := ty_nms h2
  obtain ⟨vB, rfl⟩ := ty_Ex _ _ h3
  obtain ⟨vM, rfl, -⟩ := ty_int Tryz.underlying42 h4
  obtain ⟨vTy, rfl⟩ := ty_bool Tryz.underlying4 h5
  obtain ⟨m2, hm2, h6⟩ := ty_struct Tryz.underlying54 h6
  obtain ⟨d1, q1, rfl, k1, d2, q2, rfl, k2, d3, q3, rfl, k3, d4, q4, rfl, k4, d5, q5, rfl, k5, d6, q6, rfl, k6, rfl⟩ := h6
  obtain ⟨vVs, rfl⟩ := ty_nms k1
  obtain ⟨vNe, rfl⟩ := ty_list (z := 2) Vr.cs_eq Tryz.underlying43 (by kernel_rfl) k2 fun m' x hm' hx => ty_VrNeed hx
  obtain ⟨vAb, rfl⟩ := ty_list (z := 2) Vr.cs_eq Tryz.underlying44 (by kernel_rfl) k3 fun m' x hm' hx => ty_VrAbs hx
  obtain ⟨vBo, rfl⟩ := ty_list (z := 10) Bo.cs_eq Tryz.underlying45 (by kernel_rfl) k4 fun m' x hm' hx => ty_Bo hx
  obtain ⟨vT, rfl⟩ := ty_Tp _ _ k5
  obtain ⟨vMe, rfl⟩ := ty_list (z := 4) Pr.cs_eq Tryz.underlying48 (by kernel_rfl) k6 fun m' x hm' hx => ty_Pr _ _ hx
  exact ⟨.mk vNm vP vB vM vTy vVs vNe vAb vBo vT vMe, by simp only [dfNm, dfP, dfB, dfM, dfTy, dfVs, dfNe, dfAb, dfBo, dfT, dfMe, dfL, exO, exNm, exN, exK, exP, exA, exT, exL, tpO, tpNm, tpA, tpNs, tpP, tpPs, tpL, prO, prNm, prN, prK, prL, List.cons_append, List.nil_append, List.append_nil]⟩
theorem ty_In (h : Ty Tryz.prog n 83 cs) : ∃ x : In, cs = inL x := by
  obtain ⟨m, hm, h⟩ := ty_struct Tryz.underlying83 h
  obtain ⟨c1, r1, rfl, h1, c2, r2, rfl, h2, c3, r3, rfl, h3, c4, r4, rfl, h4, rfl⟩ := h
  obtain ⟨vNm, rfl⟩ := ty_str Tryz.underlying9 h1
  obtain ⟨vT, rfl⟩ := ty_Tp _ _ h2
  obtain ⟨vNe, rfl⟩ := ty_list (z := 2) Vr.cs_eq Tryz.underlying43 (by kernel_rfl) h3 fun m' x hm' hx => ty_VrNeed hx
  obtain ⟨vD, rfl⟩ := ty_list (z := 25) Df.cs_eq Tryz.underlying27 (by kernel_rfl) h4 fun m' x hm' hx => ty_Df hx
  exact ⟨.mk vNm vT vNe vD, by simp only [inNm, inT, inNe, inD, inL, tpO, tpNm, tpA, tpNs, tpP, tpPs, tpL, prO, prNm, prN, prK, prL, List.cons_append, List.nil_append, List.append_nil]⟩
theorem ty_Cs (h : Ty Tryz.prog n 86 cs) : ∃ x : Cs, cs = csL x := by
  obtain ⟨m, hm, h⟩ := ty_struct Tryz.underlying86 h
  obtain ⟨c1, r1, rfl, h1, c2, r2, rfl, h2, c3, r3, rfl, h3, rfl⟩ := h
  obtain ⟨vC, rfl⟩ := ty_str Tryz.underlying9 h1
  obtain ⟨vNs, rfl⟩ := ty_nms h2
  obtain ⟨vB, rfl⟩ := ty_Pr _ _ h3
  exact ⟨.mk vC vNs vB, by simp only [csC, csNs, csB, csL, prO, prNm, prN, prK, prL, List.cons_append, List.nil_append, List.append_nil]⟩
theorem ty_Ms (h : Ty Tryz.prog n 63 cs) : ∃ x : Ms, cs = msL x := by
  obtain ⟨m, hm, h⟩ := ty_struct Tryz.underlying63 h
  obtain ⟨c1, r1, rfl, h1, c2, r2, rfl, h2, c3, r3, rfl, h3, c4, r4, rfl, h4, c5, r5, rfl, h5, rfl⟩ := h
  obtain ⟨vNm, rfl⟩ := ty_str Tryz.underlying9 h1
  obtain ⟨vD, rfl⟩ := ty_str Tryz.underlying9 h2
  obtain ⟨vR, rfl⟩ := ty_str Tryz.underlying60 h3
  obtain ⟨vC, rfl⟩ := ty_list (z := 6) Cs.cs_eq Tryz.underlying61 (by kernel_rfl) h4 fun m' x hm' hx => ty_Cs hx
  obtain ⟨vI, rfl⟩ := ty_Pr _ _ h5
  exact ⟨.mk vNm vD vR vC vI, by simp only [msNm, msD, msR, msC, msI, msL, prO, prNm, prN, prK, prL, List.cons_append, List.nil_append, List.append_nil]⟩
theorem ty_Qu (h : Ty Tryz.prog n 88 cs) : ∃ x : Qu, cs = quL x := by
  obtain ⟨m, hm, h⟩ := ty_struct Tryz.underlying88 h
  obtain ⟨c1, r1, rfl, h1, c2, r2, rfl, h2, c3, r3, rfl, h3, rfl⟩ := h
  obtain ⟨vNm, rfl⟩ := ty_str Tryz.underlying9 h1
  obtain ⟨vW, rfl⟩ := ty_list (z := 2) Vr.cs_eq Tryz.underlying69 (by kernel_rfl) h2 fun m' x hm' hx => ty_Vr hx
  obtain ⟨vB, rfl⟩ := ty_Pr _ _ h3
  exact ⟨.mk vNm vW vB, by simp only [quNm, quW, quB, quL, prO, prNm, prN, prK, prL, List.cons_append, List.nil_append, List.append_nil]⟩
theorem ty_Mo (h : Ty Tryz.prog n 29 cs) : ∃ x : Mo, cs = moL x := by
  obtain ⟨m, hm, h⟩ := ty_struct Tryz.underlying29 h
  obtain ⟨c1, r1, rfl, h1, c2, r2, rfl, h2, c3, r3, rfl, h3, c4, r4, rfl, h4, c5, r5, rfl, h5, c6, r6, rfl, h6, rfl⟩ := h
  obtain ⟨vD, rfl⟩ := ty_list (z := 4) Da.cs_eq Tryz.underlying22 (by kernel_rfl) h1 fun m' x hm' hx => ty_Da hx
  obtain ⟨vC, rfl⟩ := ty_list (z := 3) Cl.cs_eq Tryz.underlying23 (by kernel_rfl) h2 fun m' x hm' hx => ty_Cl hx
  obtain ⟨vI, rfl⟩ := ty_list (z := 12) In.cs_eq Tryz.underlying24 (by kernel_rfl) h3 fun m' x hm' hx => ty_In hx
  obtain ⟨vM, rfl⟩ := ty_list (z := 8) Ms.cs_eq Tryz.underlying25 (by kernel_rfl) h4 fun m' x hm' hx => ty_Ms hx
  obtain ⟨vQ, rfl⟩ := ty_list (z := 6) Qu.cs_eq Tryz.underlying26 (by kernel_rfl) h5 fun m' x hm' hx => ty_Qu hx
  obtain ⟨vF, rfl⟩ := ty_list (z := 25) Df.cs_eq Tryz.underlying27 (by kernel_rfl) h6 fun m' x hm' hx => ty_Df hx
  exact ⟨.mk vD vC vI vM vQ vF, by simp only [moD, moC, moI, moM, moQ, moF, moL, List.cons_append, List.nil_append, List.append_nil]⟩
end
theorem noXs_append : ∀ a b : List PV, noXs (a ++ b) = (noXs a && noXs b)
  | [], b => by simp [noXs]
  | x :: a, b => by rw [List.cons_append, noXs, noXs, noXs_append a b, Bool.and_assoc]
theorem tyF_nx {T : TypeId → List PV → Prop} (hT : ∀ t cs, T t cs → noXs cs = true) : ∀ (fs : List Field) (cs : List PV), TyF T fs cs → noXs cs = true
  | [], cs, h => by rw [h]; rfl
  | f :: r, cs, h => by
    obtain ⟨c, cs', rfl, h1, h2⟩ := h
    rw [noXs_append, hT _ _ h1, tyF_nx hT r cs' h2]; rfl
theorem noXss_of : ∀ {es : List (List PV)}, (∀ x ∈ es, noXs x = true) → noXss es = true
  | [], _ => rfl
  | x :: r, h => by rw [noXss, h x (by simp), noXss_of fun y hy => h y (List.mem_cons_of_mem _ hy)]; rfl
theorem ty_nx (P : Program) : ∀ (n : Nat) (t : TypeId) (cs : List PV), Ty P n t cs → noXs cs = true
  | 0, _, _, h => h.elim
  | n + 1, t, cs, h => by
    unfold Ty at h
    split at h
    · obtain ⟨b, rfl⟩ := h; rfl
    · obtain ⟨b, rfl, -⟩ := h; rfl
    · obtain ⟨b, rfl, -⟩ := h; rfl
    · obtain ⟨es, rfl, -, h2⟩ := h
      simp only [noXs, PV.noX, Bool.and_true]
      exact noXss_of fun x hx => ty_nx P n _ x (h2 x hx)
    · exact tyF_nx (ty_nx P n) _ _ h
    · exact h.elim
end Go.Proofs.YtmllcplaohkjnaaGreatDoor
