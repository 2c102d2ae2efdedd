/- Pure values, thirty-first part: append to a named row that may grow; the row gets a new name. -/
import Derived.Test.YtmllcplaohkjnaaGreatDoorPv27
set_option linter.unusedVariables false
set_option linter.unusedSimpArgs false
set_option linter.unusedSectionVars false
namespace Go.Pv
open Go.RowKit

section
variable {P : Program} {cx : Cx} {s t : S} {g : Gh} {l : LG} {a : Act} {w : World} {o : Oper}

theorem run_append_room' (t ty e e' : TypeId) (i : TypeInfo) (ht : P.underlying t = some (.slice e)) (hi : P.info? e = some i)
    (g sLen sCap : Nat) (cur : Array Value) (hg : w.heap[g]? = some (.cells cur e' (0, 0)))
    (a : Addr) (m c : Nat) (news : List Value) (hl : news.length = m * i.size) (hnews : ∀ j u, news[j]? = some u → w.cell? (a.add j) = some u) (h1 : ∀ u ∈ news, u.oneCell' = true)
    (hroom : sLen + m ≤ sCap) (hfit : sLen * i.size + news.length ≤ cur.size) :
    (Builtin.append_ #[t, t] ty #[.slice (some ⟨g, 0, none⟩) sLen sCap, .slice (some a) m c]).run P w =
      .ok (.slice (some ⟨g, 0, none⟩) (sLen + m) sCap) (w.setRow g (cur.toList.take (sLen * i.size) ++ news ++ cur.toList.drop (sLen * i.size + news.length)).toArray) := by
  have hf := run_firstCells_some (P := P) w i.size m a m c news hl hnews
  have hst := run_storeCells_at P g (sLen * i.size) e' news 0 cur w hg (by simpa using hfit) h1
  simp only [Nat.add_zero] at hst
  simp [Builtin.append_, run_underlying ht, sizeOf, typeInfo, hi, Builtin.lenOf, hroom, hf, Addr.add_lit, hst]

/-- Numbers. -/
def intL : List PV → Option (List Int)
  | [] => some []
  | .int .i64 k :: r => (intL r).map (k :: ·)
  | _ :: _ => none
theorem intL_inv : ∀ {l : List PV} {ks : List Int}, intL l = some ks → l = ks.map (.int .i64)
  | [], ks, h => by simp only [intL, Option.some.injEq] at h; subst h; rfl
  | x :: r, ks, h => by
    unfold intL at h
    split at h
    · cases ‹_ = []›
    · rename_i k r' e0
      injection e0 with e1 e2
      subst e1 e2
      simp only [Option.map_eq_some_iff] at h
      obtain ⟨qs, hq, rfl⟩ := h
      rw [intL_inv hq]; rfl
    · cases h
/-- What is appended to a named row: the row, its cells; the new cells. -/
def appY (x y : Operand) : RM ((Nat × Nat × List Int) × List Int) := ev x fun lx => match yslOf lx with
  | some (n, c, len) => .getX n fun cs => match rowOf cs with
    | some (c', ps) => .assume (decide (c = c' ∧ len = ps.length)) (ev y fun ly => match elsOf ly with
      | some (y0 :: ys) => if okZ 1 ly = true then (match intL (y0 :: ys).flatten with | some ks => .ret ((n, c, ps), ks) | none => .fail) else .fail
      | _ => .fail)
    | none => .fail
  | none => .fail
/-- The cells of a row, as the model has them. -/
theorem row_cells (hs : Sim cx s g l a w) {n c len : Nat} {cs : List LV} {ps : List Int} {v : Value} (hr : Rep g w (.ysl n c len) v) (hx : lk s.ext n = some cs) (hp : rowOf cs = some (c, ps)) (hl : len = ps.length) :
    ∃ b cap cur e, v = .slice (some ⟨b, 0, none⟩) len cap ∧ g.Y n c = some b ∧ l.O b = some (.x n) ∧ (∀ c', c < c' → g.Y n c' = none) ∧ g.M b = some 0 ∧ w.heap[b]? = some (.cells cur e (0, 0)) ∧ cur.size = cap ∧ len ≤ cap ∧ cap ≤ maxLen ∧
      RepAll g w (ps.map (.int .i64)) (cur.toList.take len) ∧ ∀ u ∈ cur.toList.take len, u.oneCell' = true := by
  subst hl
  cases hr with
  | ysl _ _ _ b cap cur e hY hh hsz hle hcap =>
    obtain ⟨b', k1, k2, k3, kM, cur2, e2, k4, k5, k6⟩ := row_at hs hx hp
    rw [hY] at k1
    injection k1 with k1
    subst k1
    rw [hh] at k4
    injection k4 with k4
    injection k4 with k4 _ _
    subst k4
    refine ⟨b, cap, cur, e, rfl, hY, k2, k3, kM, hh, hsz.symm, hle, hcap, ⟨by simp only [List.length_map, List.length_take, Array.length_toList]; omega, fun j hj hj' => ?_⟩, fun u hu => ?_⟩
    · have hjp : j < ps.length := by rw [List.length_map] at hj; exact hj
      have h6 := (k6 j hjp).2
      rw [List.getElem_map]
      have hj3 : j < cur.size := by omega
      have : cur.getD j undef = (cur.toList.take ps.length)[j] := by simp [hj3]
      rw [← this]
      exact h6
    · obtain ⟨j, hj, e0⟩ := List.getElem_of_mem hu
      have hj1 : j < ps.length := by rw [List.length_take] at hj; omega
      have h6 := (k6 j hj1).1
      have hj3 : j < cur.size := by omega
      have : cur.getD j undef = (cur.toList.take ps.length)[j] := by simp [hj3]
      rw [this, e0] at h6
      exact h6
theorem cell_take {b : Nat} {cur : Array Value} {e : TypeId} {len j : Nat} {v : Value} (hh : w.heap[b]? = some (.cells cur e (0, 0))) (hj : (cur.toList.take len)[j]? = some v) : w.cell? ((⟨b, 0, none⟩ : Addr).add j) = some v := by
  rw [List.getElem?_take] at hj
  split at hj
  · have e1 : (⟨b, 0, none⟩ : Addr).add j = ⟨b, j, none⟩ := by simp [Addr.add_lit]
    rw [e1]
    have hj4 : cur[j]? = some v := by simpa using hj
    simp [World.cell?, hh, hj4]
  · cases hj

theorem appY_go {K : S → Prop} {Q : PExit → S → Prop} {ty e : TypeId} {x y : Operand} {d B : Nat} {zs : List PV} (ho : o.op = .call ⟨.builtin .append, #[x, y], #[ty, ty]⟩) (hd : o.dst = some d) (hn : d < cx.n)
    (he : elemT P ty = some e) (hm : csz P e = some 1) (hB : cbytes P e = some (B + 1)) (hz : zro P e = some zs) (hzl : zs.length = 1) (hs : Sim cx s g l a w)
    (h : (appY x y).wp s fun r => (r.1.2.2.length + r.2.length) * (B + 1) ≤ 140737488355328 ∧
      K { s with tmps := put s.tmps d (.v (.ysl r.1.1 (r.1.2.1 + 1) (r.1.2.2.length + r.2.length))), ext := put s.ext r.1.1 [.row (r.1.2.1 + 1) (r.1.2.2 ++ r.2)] }) :
    o.wp P a w (fun a' w' => ∃ s' g' l', K s' ∧ Sim cx s' g' l' a' w') (post cx Q) := by
  have hu := elemT_inv he
  obtain ⟨i, zv, z1, z2, z3⟩ := zro_inv hz
  have hsz : i.size = 1 := by simpa [csz, z1] using hm
  have hby : i.bytes = B + 1 := by simpa [cbytes, z1] using hB
  have hzs : zv.cells.size = 1 := by rw [← Array.length_toList, ← cvs_length z3]; exact hzl
  obtain ⟨-, hzone, -⟩ := cvs_rep (g := g) (w := w) z3
  obtain ⟨lx, ux, h1, r1, -⟩ := ev_sound hs h
  split at h1
  · rename_i n c len hys0
    have hlx : lx = .v (.ysl n c len) := by
      unfold yslOf at hys0
      split at hys0
      · injection hys0 with q0; injection q0 with q1 q0; injection q0 with q2 q3; subst q1 q2 q3; rfl
      · cases hys0
    subst hlx
    simp only [RM.wp] at h1
    split at h1
    · rename_i cs hcs
      split at h1
      · rename_i c' ps hps
        simp only [RM.wp] at h1
        obtain ⟨hcl, h1⟩ := h1
        obtain ⟨rfl, hpl⟩ := of_decide_eq_true hcl
        obtain ⟨ly, uy, h2, r2, -⟩ := ev_sound hs h1
        split at h2
        · rename_i y0 ys hys
          split at h2
          · rename_i hok
            split at h2
            rotate_left
            · exact h2.elim
            rename_i ks hks
            obtain ⟨hb, h2⟩ := h2
            simp only at hb h2
            obtain ⟨b, cap, cur, e', hvx, hY, hO, hF, hM, hh, hcs2, hle, hcap, hR, hone⟩ := row_cells hs r1 hcs hps hpl
            have hrow := rowOf_inv hps
            subst hrow
            obtain ⟨ay, cc, hvy, hYR⟩ : ∃ ay cc, a.eval y = .slice (some ay) (y0 :: ys).length cc ∧ Rep g w (.sl 1 (y0 :: ys)) (a.eval y) := by
              rcases els_rep hys hok r2 with ⟨h, -⟩ | h
              · cases h
              · exact h
            rw [hvy] at hYR
            obtain ⟨-, -, -, hyz, news, hnr, hnl, hnc⟩ := hYR.flat
            have hkY := intL_inv hks
            rw [hkY] at hnr
            generalize hYY : (y0 :: ys) = Y at *
            have hpos : 0 < Y.length := by rw [← hYY]; simp
            rw [Nat.mul_one] at hnl
            have hfl : Y.flatten.length = Y.length := by rw [flatten_length _ Y hyz, Nat.mul_one]
            have hkl : ks.length = Y.length := by rw [← hfl, hkY, List.length_map]
            rw [hkl] at hb h2
            have hn1 : ∀ u ∈ news, u.oneCell' = true := fun u hu => by
              obtain ⟨j, hj, e⟩ := List.getElem_of_mem hu
              exact (hnc j u (by rw [List.getElem?_eq_getElem hj, e])).2.2
            rw [← hpl] at hb h2
            have hlen : len + Y.length ≤ 140737488355328 := by
              have := Nat.le_mul_of_pos_right (len + Y.length) (Nat.succ_pos B)
              simp only [Nat.succ_eq_add_one] at this
              omega
            have h63 : len + Y.length ≤ maxLen := by simp only [maxLen]; omega
            have hnl' : news.length = Y.length * i.size := by rw [hsz, Nat.mul_one]; exact hnl
            have hnews : ∀ j v, news[j]? = some v → w.cell? (ay.add j) = some v := fun j v hj => (hnc j v hj).1
            have hex : ∀ v' w', (Builtin.append_ #[ty, ty] o.type #[a.eval x, a.eval y]).run P w = .ok v' w' → (execOp a.eval o).run P w = .ok (.value v') w' := by
              intro v' w' hr
              simp only [execOp, ho, resolve, invoke, builtin, Sem.run_bind, Sem.run_pure, Result.andThen_ok, List.map_toArray, List.map_cons, List.map_nil, hr]
            have hol : (cur.toList.take len).length = len := by rw [List.length_take, Array.length_toList]; omega
            have hRall := hR.app hnr
            rw [← List.map_append] at hRall
            have hRl : (ps ++ ks).length = (cur.toList.take len ++ news).length := by rw [← hRall.1, List.length_map]
            have hRg : ∀ j (hj : j < (ps ++ ks).length) (hj2 : j < (cur.toList.take len ++ news).length), Rep g w (.int .i64 (ps ++ ks)[j]) (cur.toList.take len ++ news)[j] := fun j hj hj2 => by
              have := hRall.2 j (by rw [List.length_map]; exact hj) hj2
              rw [List.getElem_map] at this
              exact this
            have hall1 : ∀ u ∈ cur.toList.take len ++ news, u.oneCell' = true := fun u hu => by
              rcases List.mem_append.1 hu with hu | hu
              · exact hone u hu
              · exact hn1 u hu
            have hpsY : (ps ++ ks).length = len + Y.length := by rw [List.length_append, hkl, hpl]
            by_cases hroom : len + Y.length ≤ cap
            · have hr := run_append_room' (P := P) ty o.type e e' i hu z1 b len cap cur hh ay Y.length cc news hnl' hnews hn1 hroom (by rw [hsz, hnl, Nat.mul_one, hcs2]; exact hroom)
              rw [hsz, Nat.mul_one, ← hvx, ← hvy] at hr
              unfold Oper.wp
              rw [hex _ _ hr, Oper.upon_value, hd]
              have hcl : (cur.toList.take len ++ news ++ cur.toList.drop (len + news.length)).toArray.size = cur.size := by
                simp only [List.size_toArray, List.length_append, List.length_take, List.length_drop, Array.length_toList, hnl]; omega
              have hget : ∀ j, j < (ps ++ ks).length → ((cur.toList.take len ++ news ++ cur.toList.drop (len + news.length)).toArray.getD j undef) = (cur.toList.take len ++ news).getD j undef := fun j hj => by
                have hj' : j < (cur.toList.take len ++ news).length := by rw [← hRl]; exact hj
                simp only [Array.getD_eq_getD_getElem?, List.getElem?_toArray, List.getD_eq_getElem?_getD]
                rw [List.getElem?_append_left hj']
              have k1 := hs.rowset (c2 := c + 1) (ps' := ps ++ ks) hcs hY hO hF hM hh hcl (.inr (Nat.lt_succ_self c)) (by rw [hcl, hpsY, hcs2]; exact hroom) (fun j hj => by
                  have hj2 : j < (cur.toList.take len ++ news).length := by rw [← hRl]; exact hj
                  rw [hget j hj]
                  simp only [List.getD_eq_getElem?_getD, List.getElem?_eq_getElem hj2, Option.getD_some]
                  exact ⟨hall1 _ (List.getElem_mem hj2), hRg j hj hj2⟩)
              refine ⟨_, _, _, h2, k1.set hn (.ysl _ _ _ b cap _ e' (updY_same _ _ _ _) (setRow_heap w b cur _ e' _ hh) ?_ hroom hcap)⟩
              rw [hcl]; exact hcs2.symm
            · have hbytes : (len + Y.length) * i.bytes ≤ 140737488355328 := by rw [hby]; exact hb
              have hr := run_append_grow (P := P) w ty o.type e i zv hu z1 z2 ⟨b, 0, none⟩ len cap (cur.toList.take len) (by rw [hsz, Nat.mul_one]; exact hol) (fun j v hj => cell_take hh hj) ay Y.length cc news hnl' hnews (by omega) (by simp only [maxLen] at h63; omega) (growslice_fits (by omega) hbytes)
              rw [← hvx, ← hvy] at hr
              have hge := grownCap_ge w (len + Y.length) cap e
              have hcm := grownCap_le_maxLen w (len + Y.length) cap e h63
              unfold Oper.wp
              rw [hex _ _ hr, Oper.upon_value, hd]
              obtain ⟨hs1, hm1⟩ := hs.drew
              have hsize : w.drew.heap.size = w.heap.size := rfl
              have k1 := hs1.rownew n (c + 1) (fun c' hc' => hF c' (by omega)) (Nat.le_of_lt (lt_cnt hcs)) ((cur.toList.take len).toArray ++ news.toArray ++ Builtin.zeroCells zv.cells (grownCap w (len + Y.length) cap e - (len + Y.length))) e (ps ++ ks)
                (by simp only [Array.size_append, List.size_toArray, size_zeroCells, hzs, hnl, hol, hpsY]; omega) (fun j hj => by
                  have hj2 : j < (cur.toList.take len ++ news).length := by rw [← hRl]; exact hj
                  have h3 := (hRg j hj hj2).mono hm1
                  have e2 : (((cur.toList.take len).toArray ++ news.toArray ++ Builtin.zeroCells zv.cells (grownCap w (len + Y.length) cap e - (len + Y.length))).getD j undef) = (cur.toList.take len ++ news)[j] := by
                    have hj4 : j < ((cur.toList.take len).toArray ++ news.toArray).size := by simp only [Array.size_append, List.size_toArray]; rw [List.length_append] at hj2; exact hj2
                    rw [Array.getD_eq_getD_getElem?, Array.getElem?_append_left hj4, List.append_toArray, List.getElem?_toArray, List.getElem?_eq_getElem hj2]; rfl
                  rw [e2]
                  exact ⟨hall1 _ (List.getElem_mem hj2), h3⟩)
              rw [hsize] at k1
              refine ⟨_, _, _, h2, k1.set hn (.ysl _ _ _ _ _ _ _ (updY_same _ _ _ _) (heap_alloc_new w.drew _) ?_ hge hcm)⟩
              simp only [Array.size_append, List.size_toArray, size_zeroCells, hzs, hnl, hol, Nat.mul_one]
              omega
          · exact h2.elim
        · exact h2.elim
      · exact h1.elim
    · exact h1.elim
  · exact h1.elim

/-- A named row that is copied behind nil; the copy takes its place. -/
def appZ (x y : Operand) : RM (Nat × Nat × List Int) := ev x fun lx => match lx with
  | .v .nilsl => ev y fun ly => match yslOf ly with
    | some (n, c, len) => .getX n fun cs => match rowOf cs with
      | some (c', ps) => .assume (decide (c = c' ∧ len = ps.length ∧ 0 < len)) (.ret (n, c, ps))
      | none => .fail
    | none => .fail
  | _ => .fail
theorem appZ_go {K : S → Prop} {Q : PExit → S → Prop} {ty e : TypeId} {x y : Operand} {d B : Nat} {zs : List PV} (ho : o.op = .call ⟨.builtin .append, #[x, y], #[ty, ty]⟩) (hd : o.dst = some d) (hn : d < cx.n)
    (he : elemT P ty = some e) (hm : csz P e = some 1) (hB : cbytes P e = some (B + 1)) (hz : zro P e = some zs) (hzl : zs.length = 1) (hs : Sim cx s g l a w)
    (h : (appZ x y).wp s fun r => r.2.2.length * (B + 1) ≤ 140737488355328 ∧
      K { s with tmps := put s.tmps d (.v (.ysl r.1 (r.2.1 + 1) r.2.2.length)), ext := put s.ext r.1 [.row (r.2.1 + 1) r.2.2] }) :
    o.wp P a w (fun a' w' => ∃ s' g' l', K s' ∧ Sim cx s' g' l' a' w') (post cx Q) := by
  have hu := elemT_inv he
  obtain ⟨i, zv, z1, z2, z3⟩ := zro_inv hz
  have hsz : i.size = 1 := by simpa [csz, z1] using hm
  have hby : i.bytes = B + 1 := by simpa [cbytes, z1] using hB
  have hzs : zv.cells.size = 1 := by rw [← Array.length_toList, ← cvs_length z3]; exact hzl
  obtain ⟨-, hzone, -⟩ := cvs_rep (g := g) (w := w) z3
  obtain ⟨lx, ux, h1, r1, -⟩ := ev_sound hs h
  split at h1
  · have hvx : a.eval x = .slice none 0 0 := by generalize a.eval x = v at r1; cases r1; rfl
    obtain ⟨ly, uy, h2, r2, -⟩ := ev_sound hs h1
    split at h2
    · rename_i n c len hys0
      have hlx : ly = .v (.ysl n c len) := by
        unfold yslOf at hys0
        split at hys0
        · injection hys0 with q0; injection q0 with q1 q0; injection q0 with q2 q3; subst q1 q2 q3; rfl
        · cases hys0
      subst hlx
      simp only [RM.wp] at h2
      split at h2
      · rename_i cs hcs
        split at h2
        · rename_i c' ps hps
          simp only [RM.wp] at h2
          obtain ⟨hcl, hb, h2⟩ := h2
          obtain ⟨rfl, hpl, hpos⟩ := of_decide_eq_true hcl
          replace hb : ps.length * (B + 1) ≤ 140737488355328 := hb
          replace h2 : K { s with tmps := put s.tmps d (.v (.ysl n (c + 1) ps.length)), ext := put s.ext n [.row (c + 1) ps] } := h2
          obtain ⟨b, cap, cur, e', hvy, hY, hO, hF, hM, hh, hcs2, hle, hcap, hR, hone⟩ := row_cells hs r2 hcs hps hpl
          have hrow := rowOf_inv hps
          subst hrow
          rw [← hpl] at hb h2
          have hol : (cur.toList.take len).length = len := by rw [List.length_take, Array.length_toList]; omega
          have hlen : len ≤ 140737488355328 := by
            have := Nat.le_mul_of_pos_right len (Nat.succ_pos B)
            simp only [Nat.succ_eq_add_one] at this
            omega
          have h63 : len ≤ maxLen := by simp only [maxLen]; omega
          have hex : ∀ v' w', (Builtin.append_ #[ty, ty] o.type #[a.eval x, a.eval y]).run P w = .ok v' w' → (execOp a.eval o).run P w = .ok (.value v') w' := by
            intro v' w' hr
            simp only [execOp, ho, resolve, invoke, builtin, Sem.run_bind, Sem.run_pure, Result.andThen_ok, List.map_toArray, List.map_cons, List.map_nil, hr]
          have hr := run_append_nil (P := P) w ty o.type e i zv hu z1 z2 ⟨b, 0, none⟩ len cap (cur.toList.take len) (by rw [hsz, Nat.mul_one]; exact hol) (fun j v hj => cell_take hh hj) hpos (by omega) (by rw [hby]; omega)
          rw [← hvx, ← hvy] at hr
          have hge := grownCap_ge w len 0 e
          have hcm := grownCap_le_maxLen w len 0 e (by simpa using h63)
          unfold Oper.wp
          rw [hex _ _ hr, Oper.upon_value, hd]
          obtain ⟨hs1, hm1⟩ := hs.drew
          have hsize : w.drew.heap.size = w.heap.size := rfl
          have k1 := hs1.rownew n (c + 1) (fun c' hc' => hF c' (by omega)) (Nat.le_of_lt (lt_cnt hcs)) ((cur.toList.take len).toArray ++ Builtin.zeroCells zv.cells (grownCap w len 0 e - len)) e ps
            (by simp only [Array.size_append, List.size_toArray, size_zeroCells, hzs, hol]; omega) (fun j hj => by
              have hj2 : j < (cur.toList.take len).length := by rw [← hR.1, List.length_map]; exact hj
              have h3 := (hR.2 j (by rw [List.length_map]; exact hj) hj2).mono hm1
              rw [List.getElem_map] at h3
              have e2 : (((cur.toList.take len).toArray ++ Builtin.zeroCells zv.cells (grownCap w len 0 e - len)).getD j undef) = (cur.toList.take len)[j] := by
                rw [Array.getD_eq_getD_getElem?, Array.getElem?_append_left (by rw [List.size_toArray]; exact hj2), List.getElem?_toArray, List.getElem?_eq_getElem hj2]; rfl
              rw [e2]
              exact ⟨hone _ (List.getElem_mem hj2), h3⟩)
          rw [hsize] at k1
          refine ⟨_, _, _, h2, k1.set hn (.ysl _ _ _ _ _ _ _ (updY_same _ _ _ _) (heap_alloc_new w.drew _) ?_ hge hcm)⟩
          simp only [Array.size_append, List.size_toArray, size_zeroCells, hzs, hol, Nat.mul_one]
          omega
        · exact h2.elim
      · exact h2.elim
    · exact h2.elim
  · exact h1.elim

/-- A new row behind nil. -/
def appN (x y : Operand) : RM (List Int) := ev x fun lx => ev y fun ly => match lx, elsOf ly with
  | .v .nilsl, some (y0 :: ys) => if okZ 1 ly = true then (match intL (y0 :: ys).flatten with | some ks => .ret ks | none => .fail) else .fail
  | _, _ => .fail
theorem appN_go {K : S → Prop} {Q : PExit → S → Prop} {ty e : TypeId} {x y : Operand} {d B : Nat} {zs : List PV} (ho : o.op = .call ⟨.builtin .append, #[x, y], #[ty, ty]⟩) (hd : o.dst = some d) (hn : d < cx.n)
    (he : elemT P ty = some e) (hm : csz P e = some 1) (hB : cbytes P e = some (B + 1)) (hz : zro P e = some zs) (hzl : zs.length = 1) (hs : Sim cx s g l a w)
    (h : (appN x y).wp s fun ks => ks.length * (B + 1) ≤ 140737488355328 ∧ K { s with tmps := put s.tmps d (.v (.ysl (cnt s.ext) 0 ks.length)), ext := put s.ext (cnt s.ext) [.row 0 ks] }) :
    o.wp P a w (fun a' w' => ∃ s' g' l', K s' ∧ Sim cx s' g' l' a' w') (post cx Q) := by
  have hu := elemT_inv he
  obtain ⟨i, zv, z1, z2, z3⟩ := zro_inv hz
  have hsz : i.size = 1 := by simpa [csz, z1] using hm
  have hby : i.bytes = B + 1 := by simpa [cbytes, z1] using hB
  have hzs : zv.cells.size = 1 := by rw [← Array.length_toList, ← cvs_length z3]; exact hzl
  obtain ⟨-, hzone, -⟩ := cvs_rep (g := g) (w := w) z3
  obtain ⟨lx, ux, h1, r1, -⟩ := ev_sound hs h
  obtain ⟨ly, uy, h2, r2, -⟩ := ev_sound hs h1
  split at h2
  · rename_i y0 ys hys
    split at h2
    · rename_i hok
      split at h2
      rotate_left
      · exact h2.elim
      rename_i ks hks
      obtain ⟨hb, h2⟩ := h2
      have hvx : a.eval x = .slice none 0 0 := by generalize a.eval x = v at r1; cases r1; rfl
      obtain ⟨ay, c, hvy, hYR⟩ : ∃ ay c, a.eval y = .slice (some ay) (y0 :: ys).length c ∧ Rep g w (.sl 1 (y0 :: ys)) (a.eval y) := by
        rcases els_rep hys hok r2 with ⟨h, -⟩ | h
        · cases h
        · exact h
      rw [hvy] at hYR
      obtain ⟨-, -, -, hyz, news, hnr, hnl, hnc⟩ := hYR.flat
      have hkY := intL_inv hks
      rw [hkY] at hnr
      generalize hY : (y0 :: ys) = Y at *
      have hpos : 0 < Y.length := by rw [← hY]; simp
      rw [Nat.mul_one] at hnl
      have hfl : Y.flatten.length = Y.length := by rw [flatten_length _ Y hyz, Nat.mul_one]
      have hkl : ks.length = Y.length := by rw [← hfl, hkY, List.length_map]
      rw [hkl] at hb h2
      have hn1 : ∀ u ∈ news, u.oneCell' = true := fun u hu => by
        obtain ⟨j, hj, e⟩ := List.getElem_of_mem hu
        exact (hnc j u (by rw [List.getElem?_eq_getElem hj, e])).2.2
      have hlen : Y.length ≤ 140737488355328 := by
        have := Nat.le_mul_of_pos_right Y.length (Nat.succ_pos B)
        simp only [Nat.succ_eq_add_one] at this
        omega
      have h63 : Y.length ≤ maxLen := by simp only [maxLen]; omega
      have hr := run_append_nil (P := P) w ty o.type e i zv hu z1 z2 ay Y.length c news (by rw [hsz, Nat.mul_one]; exact hnl) (fun j v hj => (hnc j v hj).1) hpos (by omega) (by rw [hby]; omega)
      have hge := grownCap_ge w Y.length 0 e
      have hcm := grownCap_le_maxLen w Y.length 0 e (by simpa using h63)
      have hex : ∀ v' w', (Builtin.append_ #[ty, ty] o.type #[a.eval x, a.eval y]).run P w = .ok v' w' → (execOp a.eval o).run P w = .ok (.value v') w' := by
        intro v' w' hr
        simp only [execOp, ho, resolve, invoke, builtin, Sem.run_bind, Sem.run_pure, Result.andThen_ok, List.map_toArray, List.map_cons, List.map_nil, hr]
      rw [← hvx, ← hvy] at hr
      unfold Oper.wp
      rw [hex _ _ hr, Oper.upon_value, hd]
      obtain ⟨hs1, hm1⟩ := hs.drew
      have hsize : w.drew.heap.size = w.heap.size := rfl
      have k1 := hs1.rownew (cnt s.ext) 0 (fun c' _ => hs.fresh.2.2 _ c' (Nat.le_refl _)) (Nat.le_refl _) (news.toArray ++ Builtin.zeroCells zv.cells (grownCap w Y.length 0 e - Y.length)) e ks
        (by simp only [Array.size_append, List.size_toArray, size_zeroCells, hzs, hnl, hkl]; omega) (fun j hj => by
          have hlt' : j < news.length := by rw [← hnr.1, List.length_map]; exact hj
          have h3 := (hnr.2 j (by rw [List.length_map]; exact hj) hlt').mono hm1
          rw [List.getElem_map] at h3
          have e2 : ((news.toArray ++ Builtin.zeroCells zv.cells (grownCap w Y.length 0 e - Y.length)).getD j undef) = news[j] := by
            rw [Array.getD_eq_getD_getElem?, Array.getElem?_append_left (by rw [List.size_toArray]; exact hlt'), List.getElem?_toArray, List.getElem?_eq_getElem hlt']; rfl
          rw [e2]
          exact ⟨hn1 _ (List.getElem_mem hlt'), h3⟩)
      rw [hsize] at k1
      refine ⟨_, _, _, h2, k1.set hn (.ysl _ _ _ _ _ _ _ (updY_same _ _ _ _) (heap_alloc_new w.drew _) ?_ (by simpa using hge) hcm)⟩
      simp only [Array.size_append, List.size_toArray, size_zeroCells, hzs, hnl, Nat.mul_one]
      omega
    · exact h2.elim
  · exact h2.elim
end
end Go.Pv
