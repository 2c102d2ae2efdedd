/- Pure values, twelfth part: append. -/
import Derived.Test.YtmllcplaohkjnaaGreatDoorPv11
set_option linter.unusedVariables false
set_option linter.unusedSimpArgs false
set_option linter.unusedSectionVars false
namespace Go.Pv
open Go.RowKit

section
variable {P : Program} {cx : Cx} {s t : S} {g : Gh} {l : LG} {a : Act} {w : World} {o : Oper} {K : List Wr → Prop}

/-- The elements of a slice operand; nil has none. -/
def elsOf : LV → Option (List (List PV))
  | .v .nilsl => some []
  | lv => (slOf lv).map (·.2)
def szOf : LV → Option Nat
  | .v .nilsl => none
  | lv => (slOf lv).map (·.1)
def okZ (z : Nat) (lv : LV) : Bool := match szOf lv with
  | some z' => z' == z
  | none => true
/-- What can be appended to: nil, a slice without spare cells, one whose spare cells are its own. -/
def appS (e z : Nat) : LV → Option (List (List PV))
  | .v .nilsl => some []
  | .full z' es => if z' = z then some es else none
  | .uniq e' z' es => if e' = e ∧ z' = z then some es else none
  | _ => none
def actApp (P : Program) (n : Nat) (o : Oper) (ty : TypeId) (x y : Operand) : RM (List Wr) := match elemT P ty, o.dst with
  | some e, some d => match csz P e, cbytes P e, zro P e with
    | some (m + 1), some (B + 1), some zs => if d < n ∧ zs.length = m + 1 then ev x fun lx => ev y fun ly => match appS e (m + 1) lx, elsOf ly with
      | some es, some ys => if okZ (m + 1) ly = true then .assume (decide ((es ++ ys).length * (B + 1) ≤ 140737488355328)) (match lx, x with
        | .uniq _ _ _, .tmp t => if t ≠ d then .ret [.tmp t (.v (.sl (m + 1) es)), .tmp d (.uniq e (m + 1) (es ++ ys))] else .fail
        | _, _ => .ret [.tmp d (.uniq e (m + 1) (es ++ ys))]) else .fail
      | _, _ => .fail
      else .fail
    | _, _, _ => .fail
  | _, _ => .fail

theorem run_append_zero {ty e : TypeId} {i : TypeInfo} {rt : TypeId} {A B : Option Addr} {n cap c : Nat} (hu : P.underlying ty = some (.slice e)) (hi : P.info? e = some i) (hle : n ≤ cap) :
    (Builtin.append_ #[ty, ty] rt #[.slice A n cap, .slice B 0 c]).run P w = .ok (.slice A n cap) w := by
  have hf : (Builtin.firstCells i.size 0 (.slice B 0 c)).run P w = .ok #[] w := by
    cases B with
    | none => rfl
    | some b => simp [Builtin.firstCells, loadCells, loadCellsFrom]
  cases A with
  | none => simp [Builtin.append_, run_underlying hu, sizeOf, typeInfo, hi, Builtin.lenOf, hle, hf]
  | some a => simp [Builtin.append_, run_underlying hu, sizeOf, typeInfo, hi, Builtin.lenOf, hle, hf, storeCells]

/-- The slice that is appended to, as the model has it. -/
def SrcOK (g : Gh) (l : LG) (w : World) (e : TypeId) (z : Nat) (p : Option UL) (es : List (List PV)) (v : Value) : Prop :=
  (v = .slice none 0 0 ∧ es = []) ∨ (∃ a, v = .slice (some a) es.length es.length ∧ Rep g w (.sl z es) v) ∨
    ∃ q b cap cur, p = some q ∧ v = .slice (some ⟨b, 0, none⟩) es.length cap ∧ l.U q = some b ∧ g.M b = some (es.length * z) ∧ w.heap[b]? = some (.cells cur e (0, 0)) ∧ cur.size = cap * z ∧ Rep g w (.sl z es) v

theorem RepAll.app {ps qs : List PV} {us vs : List Value} (h : RepAll g w ps us) (k : RepAll g w qs vs) : RepAll g w (ps ++ qs) (us ++ vs) := by
  refine ⟨by simp [h.1, k.1], fun j hj hj' => ?_⟩
  simp only [List.getElem_append]
  have hl := h.1
  split
  · rw [dif_pos (by omega)]; exact h.2 _ _ _
  · rw [dif_neg (by omega)]
    simp only [hl]
    exact k.2 _ _ _

theorem app_new (h : Sim cx s g l a w) {d : Nat} (hq : noU s (.t d)) {e : TypeId} {zv : Value} {m : Nat} {es ys : List (List PV)} {olds news : List Value} {cap : Nat} (hz : zv.cells.size = m + 1)
    (hes : ∀ i (h : i < es.length), es[i].length = m + 1) (hys : ∀ i (h : i < ys.length), ys[i].length = m + 1) (ho : RepAll g w es.flatten olds) (hn : RepAll g w ys.flatten news) (ho1 : ∀ u ∈ olds, u.oneCell' = true) (hn1 : ∀ u ∈ news, u.oneCell' = true)
    (hge : es.length + ys.length ≤ cap) (hcap : cap ≤ maxLen) :
    ∃ g' l', Sim cx s g' l' a (w.drew.alloc (.cells (olds.toArray ++ news.toArray ++ Builtin.zeroCells zv.cells (cap - (es.length + ys.length))) e)) ∧
      RepL g' l' (w.drew.alloc (.cells (olds.toArray ++ news.toArray ++ Builtin.zeroCells zv.cells (cap - (es.length + ys.length))) e)) (.t d) (.uniq e (m + 1) (es ++ ys)) (.slice (some ⟨w.heap.size, 0, none⟩) (es.length + ys.length) cap) := by
  obtain ⟨h1, hm1⟩ := h.drew
  have hol : olds.length = es.length * (m + 1) := by rw [← ho.1, flatten_length _ es hes]
  have hnl : news.length = ys.length * (m + 1) := by rw [← hn.1, flatten_length _ ys hys]
  obtain ⟨g', l', k1, k2, k3⟩ := h1.newrow (.t d) hq (olds.toArray ++ news.toArray ++ Builtin.zeroCells zv.cells (cap - (es.length + ys.length))) e (m + 1) cap (es ++ ys) (by
      simp only [Array.size_append, List.size_toArray, size_zeroCells, hz, hol, hnl, ← Nat.add_mul]
      congr 1
      omega) (by simpa using hge) hcap (by
      intro i hi
      rw [List.getElem_append]
      split
      · exact hes _ _
      · exact hys _ _) (olds ++ news) (by rw [List.flatten_append]; exact (ho.mono hm1).app (hn.mono hm1)) (by
      intro u hu
      rcases List.mem_append.1 hu with hu | hu
      · exact ho1 u hu
      · exact hn1 u hu) (by
      simp only [Array.toList_append]
      rw [show (es ++ ys).length * (m + 1) = (olds ++ news).length by rw [List.length_append, List.length_append, Nat.add_mul, hol, hnl]]
      exact List.take_left)
  refine ⟨g', l', k1, ?_⟩
  rw [List.length_append] at k3
  exact k3

theorem app_core {ty e rt : TypeId} {i : TypeInfo} {zv : Value} {m B d : Nat} {es ys : List (List PV)} {p : Option UL} {vx vy : Value} (h : Sim cx s g l a w) (hu : P.underlying ty = some (.slice e)) (hi : P.info? e = some i) (hz : i.zero = some zv)
    (hsz : i.size = m + 1) (hby : i.bytes = B + 1) (hzs : zv.cells.size = m + 1) (hq : noU s (.t d)) (hp : ∀ q, p = some q → noU s q) (hsrc : SrcOK g l w e (m + 1) p es vx)
    (hy : (ys = [] ∧ ∃ A c, vy = .slice A 0 c) ∨ ∃ ay c, vy = .slice (some ay) ys.length c ∧ Rep g w (.sl (m + 1) ys) vy) (hb : (es ++ ys).length * (B + 1) ≤ 140737488355328) :
    ∃ v' w' g' l', (Builtin.append_ #[ty, ty] rt #[vx, vy]).run P w = .ok v' w' ∧ Sim cx s g' l' a w' ∧ RepL g' l' w' (.t d) (.uniq e (m + 1) (es ++ ys)) v' := by
  have hlen : es.length + ys.length ≤ 140737488355328 := by
    rw [List.length_append] at hb
    have := Nat.le_mul_of_pos_right (es.length + ys.length) (Nat.succ_pos B)
    simp only [Nat.succ_eq_add_one] at this
    omega
  have h63 : es.length + ys.length ≤ maxLen := by simp only [maxLen]; omega
  by_cases hy0 : ys = []
  · subst hy0
    have hvy : ∃ A c, vy = .slice A 0 c := by
      rcases hy with ⟨-, h⟩ | ⟨ay, c, h, -⟩
      · exact h
      · exact ⟨some ay, c, h⟩
    obtain ⟨A, c, rfl⟩ := hvy
    rw [List.append_nil]
    rcases hsrc with ⟨rfl, rfl⟩ | ⟨a', rfl, hR⟩ | ⟨q, b, cap, cur, rfl, rfl, h1, h2, h3, h4, h5⟩
    · exact ⟨_, w, g, l, run_append_zero hu hi (Nat.le_refl _), h, .inl (.inl ⟨rfl, rfl⟩)⟩
    · exact ⟨_, w, g, l, run_append_zero hu hi (Nat.le_refl _), h, .inl (.inr ⟨a', rfl, hR⟩)⟩
    · obtain ⟨l', k1, k2, -⟩ := h.transfer (p := q) (q := .t d) (.inr ⟨b, cap, cur, rfl, h1, h2, h3, h4, h5⟩) (hp q rfl) hq
      exact ⟨_, w, g, l', run_append_zero hu hi h5.flat.2.1, k1, k2⟩
  · have hpos : 0 < ys.length := List.length_pos_iff.2 hy0
    obtain ⟨ay, c, rfl, hYR⟩ : ∃ ay c, vy = .slice (some ay) ys.length c ∧ Rep g w (.sl (m + 1) ys) vy := by
      rcases hy with ⟨h, -⟩ | h
      · exact absurd h hy0
      · exact h
    obtain ⟨-, -, -, hys, news, hn, hnl, hnc⟩ := hYR.flat
    have hnews : ∀ j v, news[j]? = some v → w.cell? (ay.add j) = some v := fun j v hj => (hnc j v hj).1
    have hn1 : ∀ u ∈ news, u.oneCell' = true := fun u hu => by
      obtain ⟨j, hj, e⟩ := List.getElem_of_mem hu
      exact (hnc j u (by rw [List.getElem?_eq_getElem hj, e])).2.2
    have hnl' : news.length = ys.length * i.size := by rw [hsz]; exact hnl
    have hbytes : (es.length + ys.length) * i.bytes ≤ 140737488355328 := by rw [hby, ← List.length_append]; exact hb
    rcases hsrc with ⟨rfl, rfl⟩ | ⟨a', rfl, hR⟩ | ⟨q, b, cap, cur, rfl, rfl, h1, h2, h3, h4, hR⟩
    · have hr := run_append_nil (P := P) w ty rt e i zv hu hi hz ay ys.length c news hnl' hnews hpos (by omega) (by simp only [List.length_nil, Nat.zero_add] at hbytes; omega)
      have hge := grownCap_ge w ys.length 0 e
      have hcm := grownCap_le_maxLen w ys.length 0 e (by simpa using h63)
      obtain ⟨g', l', k1, k2⟩ := app_new h hq (e := e) (es := []) (olds := []) hzs (fun i h => by simp at h) hys .nil hn (by simp) hn1 (by simpa using hge) hcm
      simp only [List.length_nil, Nat.zero_add, Array.empty_append, List.nil_append] at k1 k2
      exact ⟨_, _, g', l', hr, by simpa using k1, by simpa using k2⟩
    · obtain ⟨-, -, -, hes, olds, ho, hol, hoc⟩ := hR.flat
      have ho1 : ∀ u ∈ olds, u.oneCell' = true := fun u hu => by
        obtain ⟨j, hj, e⟩ := List.getElem_of_mem hu
        exact (hoc j u (by rw [List.getElem?_eq_getElem hj, e])).2.2
      have hr := run_append_grow (P := P) w ty rt e i zv hu hi hz a' es.length es.length olds (by rw [hsz]; exact hol) (fun j v hj => (hoc j v hj).1) ay ys.length c news hnl' hnews (by omega) (by omega) (growslice_fits (by omega) hbytes)
      have hge := grownCap_ge w (es.length + ys.length) es.length e
      have hcm := grownCap_le_maxLen w (es.length + ys.length) es.length e h63
      obtain ⟨g', l', k1, k2⟩ := app_new h hq (e := e) hzs hes hys ho hn ho1 hn1 hge hcm
      exact ⟨_, _, g', l', hr, k1, k2⟩
    · obtain ⟨-, hle, -, hes, olds, ho, hol, hoc⟩ := hR.flat
      by_cases hroom : es.length + ys.length ≤ cap
      · have hr := run_append_room (P := P) w ty rt e i hu hi b es.length cap cur h3 ay ys.length c news hnl' hnews hn1 hroom (by rw [hsz, hnl, h4, ← Nat.add_mul]; exact Nat.mul_le_mul_right _ hroom)
        obtain ⟨g', l', k1, -, k3⟩ := h.inplace (q := .t d) (hp q rfl) hq h1 h2 h3 h4 hR hys news hn hn1 hroom
        rw [hsz] at hr
        exact ⟨_, _, g', l', hr, k1, k3⟩
      · have ho1 : ∀ u ∈ olds, u.oneCell' = true := fun u hu => by
          obtain ⟨j, hj, e⟩ := List.getElem_of_mem hu
          exact (hoc j u (by rw [List.getElem?_eq_getElem hj, e])).2.2
        have hr := run_append_grow (P := P) w ty rt e i zv hu hi hz ⟨b, 0, none⟩ es.length cap olds (by rw [hsz]; exact hol) (fun j v hj => (hoc j v hj).1) ay ys.length c news hnl' hnews (by omega) (by omega) (growslice_fits (by omega) hbytes)
        have hge := grownCap_ge w (es.length + ys.length) cap e
        have hcm := grownCap_le_maxLen w (es.length + ys.length) cap e h63
        obtain ⟨g', l', k1, k2⟩ := app_new h hq (e := e) hzs hes hys ho hn ho1 hn1 hge hcm
        exact ⟨_, _, g', l', hr, k1, k2⟩

theorem els_rep {ly : LV} {ys : List (List PV)} {z : Nat} {u : UL} {v : Value} (h : elsOf ly = some ys) (hz : okZ z ly = true) (hr : RepL g l w u ly v) :
    (ys = [] ∧ ∃ A c, v = .slice A 0 c) ∨ ∃ ay c, v = .slice (some ay) ys.length c ∧ Rep g w (.sl z ys) v := by
  unfold elsOf at h
  split at h
  · injection h with h; subst h; cases hr; exact .inl ⟨rfl, _, _, rfl⟩
  · rename_i hn
    simp only [Option.map_eq_some_iff] at h
    obtain ⟨⟨z', es⟩, hs, rfl⟩ := h
    have hz' : z' = z := by
      have hsz : szOf ly = some z' := by
        unfold szOf
        split
        · exact absurd rfl hn
        · rw [hs]; rfl
      unfold okZ at hz
      rw [hsz] at hz
      simpa using hz
    subst hz'
    have hr' := toP_rep (slOf_toP hs) hr
    cases hr' with
    | slnil => exact .inl ⟨rfl, _, _, rfl⟩
    | sl _ _ ay cap vs k1 k2 k3 k4 k5 k6 k7 => exact .inr ⟨ay, cap, rfl, .sl _ _ ay cap vs k1 k2 k3 k4 k5 k6 k7⟩
theorem cvs_length : ∀ {vs : List Value} {ps : List PV}, cvs vs = some ps → ps.length = vs.length
  | [], ps, h => by simp only [cvs, Option.some.injEq] at h; subst h; rfl
  | v :: r, ps, h => by
    simp only [cvs] at h
    split at h
    · rename_i p qs h1 h2
      injection h with h
      subst h
      simp [cvs_length h2]
    · cases h

theorem actApp_sound {ty : TypeId} {x y : Operand} (ho : o.op = .call { callee := .builtin .append, args := #[x, y], argTypes := #[ty, ty] }) (h : Sim cx s g l a w) (hw : (actApp P cx.n o ty x y).wp s K) : OpOK P cx s o K a w := by
  unfold actApp at hw
  split at hw
  · rename_i e d he hd
    have hu := elemT_inv he
    split at hw
    · rename_i m B zs hm hB hz
      split at hw
      · rename_i hc
        obtain ⟨hdn, hzl⟩ := hc
        obtain ⟨lx, ux, h1, r1, hu1⟩ := ev_sound h hw
        obtain ⟨ly, uy, h2, r2, -⟩ := ev_sound h h1
        obtain ⟨i, zv, z1, z2, z3⟩ := zro_inv hz
        have hsz : i.size = m + 1 := by simpa [csz, z1] using hm
        have hby : i.bytes = B + 1 := by simpa [cbytes, z1] using hB
        have hzs : zv.cells.size = m + 1 := by rw [← Array.length_toList, ← cvs_length z3]; exact hzl
        split at h2
        · rename_i es ys hes hys
          split at h2
          · rename_i hok
            have hb := of_decide_eq_true h2.1; replace h2 := h2.2
            have hy := els_rep hys hok r2
            have hex : ∀ v' w', (Builtin.append_ #[ty, ty] o.type #[a.eval x, a.eval y]).run P w = .ok v' w' → (execOp a.eval o).run P w = .ok (.value v') w' := by
              intro v' w' hr
              simp only [execOp, ho, resolve, invoke, builtin, Sem.run_bind, Sem.run_pure, Result.andThen_ok, List.map_toArray, List.map_cons, List.map_nil, hr]
            have plain : SrcOK g l w e (m + 1) none es (a.eval x) → K [.tmp d (.uniq e (m + 1) (es ++ ys))] → OpOK P cx s o K a w := by
              intro hsrc hK
              have hs1 : Sim cx { s with tmps := put s.tmps d .junk } g l a w := by
                refine h.leF (fun k v hk => ?_) (same_le WLs.refl _) (same_le WLs.refl _)
                simp only [lk_put] at hk
                split at hk
                · injection hk with hk; exact .inl hk.symm
                · exact .inr ⟨v, hk, WL.refl v⟩
              obtain ⟨v', w', g', l', k1, k2, k3⟩ := app_core (rt := o.type) (p := none) hs1 hu z1 z2 hsz hby hzs (noU_put (by simp)) (fun q hq => by cases hq) hsrc hy hb
              intro Q
              unfold Oper.wp
              rw [hex v' w' k1, Oper.upon_value, hd]
              refine ⟨_, g', l', hK, (k2.set hdn k3).congr (fun k => ?_) (fun _ => rfl) (fun _ => rfl)⟩
              simp only [S.wrs, S.wr, lk_put]
              split <;> rfl
            unfold appS at hes
            split at hes
            · injection hes with hes
              subst hes
              refine plain (.inl ⟨?_, rfl⟩) h2
              generalize a.eval x = vx at r1
              cases r1; rfl
            · rename_i z' es'
              split at hes
              · rename_i hz'
                subst hz'
                injection hes with hes
                subst hes
                refine plain ?_ h2
                rcases r1 with ⟨k1, k2⟩ | ⟨a', k1, k2⟩
                · exact .inl ⟨k1, k2⟩
                · exact .inr (.inl ⟨a', k1, k2⟩)
              · cases hes
            · rename_i e' z' es'
              split at hes
              · rename_i hz'
                obtain ⟨rfl, rfl⟩ := hz'
                injection hes with hes
                subst hes
                obtain ⟨t, rfl, rfl, ht⟩ := hu1 _ _ _ rfl
                simp only at h2
                split at h2
                · rename_i hne
                  have hs1 : Sim cx { s with tmps := put (put s.tmps t (.v (.sl (m + 1) es'))) d .junk } g l a w := by
                    refine h.leF (fun k v hk => ?_) (same_le WLs.refl _) (same_le WLs.refl _)
                    simp only [lk_put] at hk
                    split at hk
                    · injection hk with hk; exact .inl hk.symm
                    · split at hk
                      · rename_i e0; subst e0; injection hk with hk; subst hk; exact .inr ⟨_, ht, .inr ⟨rfl, rfl⟩⟩
                      · exact .inr ⟨v, hk, WL.refl v⟩
                  have hsrc : SrcOK g l w e' (m + 1) (some (.t t)) es' (a.eval (.tmp t)) := by
                    rcases r1 with (⟨k1, k2⟩ | ⟨a', k1, k2⟩) | ⟨b, cap, cur, k1, k2, k3, k4, k5, k6⟩
                    · exact .inl ⟨k1, k2⟩
                    · exact .inr (.inl ⟨a', k1, k2⟩)
                    · exact .inr (.inr ⟨.t t, b, cap, cur, rfl, k1, k2, k3, k4, k5, k6⟩)
                  obtain ⟨v', w', g', l', k1, k2, k3⟩ := app_core (rt := o.type) (p := some (.t t)) (d := d) hs1 hu z1 z2 hsz hby hzs (fun e2 z2 es2 he => by simp only [lk_put, if_true] at he; injection he with he; cases he)
                    (fun q hq => by
                      injection hq with hq
                      subst hq
                      intro e2 z2 es2 he
                      simp only [lk_put, if_neg (Ne.symm hne), if_true] at he
                      injection he with he
                      cases he) hsrc hy hb
                  intro Q
                  unfold Oper.wp
                  rw [hex v' w' k1, Oper.upon_value, hd]
                  refine ⟨_, g', l', h2, (k2.set hdn k3).congr (fun k => ?_) (fun _ => rfl) (fun _ => rfl)⟩
                  simp only [S.wrs, S.wr, lk_put]
                  split <;> rfl
                · exact h2.elim
              · cases hes
            · cases hes
          · exact h2.elim
        · exact h2.elim
      · exact hw.elim
    · exact hw.elim
  · exact hw.elim
end
end Go.Pv
