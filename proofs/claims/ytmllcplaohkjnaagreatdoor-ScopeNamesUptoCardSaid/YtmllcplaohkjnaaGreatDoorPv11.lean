/- Pure values, eleventh part: stores and append. -/
import Derived.Test.YtmllcplaohkjnaaGreatDoorPv10
set_option linter.unusedVariables false
set_option linter.unusedSimpArgs false
set_option linter.unusedSectionVars false
namespace Go.Pv
open Go.RowKit

section
variable {P : Program} {cx : Cx} {s t : S} {g : Gh} {l : LG} {a : Act} {w : World} {o : Oper} {K : List Wr → Prop}

def stV (P : Program) (ty : TypeId) (lv : LV) : Option (List LV) := match aggT P ty with
  | some true => match lv with
    | .v (.agg cs) => some (cs.map .v)
    | _ => none
  | some false => match lv with
    | .v p => if p.one = true then some [.v p] else none
    | .full z es => some [.full z es]
    | _ => none
  | none => none
def stGo (P : Program) (ty : TypeId) (y : Operand) (lv : LV) (cs : List LV) (off : Nat) (mk : List LV → Wr) : RM (List Wr) := match csz P ty with
  | some m => match lv, y with
    | .uniq e z es, .tmp t => if aggT P ty = some false ∧ m = 1 ∧ off < cs.length then .ret [.tmp t (.v (.sl z es)), mk [.uniq e z es]] else .fail
    | lv, _ => match stV P ty lv with
      | some vs => if vs.length = m ∧ off + m ≤ cs.length then .ret [mk vs] else .fail
      | none => .fail
  | none => .fail
def actStore (P : Program) (o : Oper) (ty : TypeId) (x y : Operand) : RM (List Wr) := match o.dst with
  | none => ev x fun lp => ev y fun lv => match lp with
    | .lp i off => .getB i fun cs => stGo P ty y lv cs off (.cells i off)
    | .v (.xp m off) => .getX m fun cs => if notMM cs = true then stGo P ty y lv cs off (.ext m off) else .fail
    | .v (.yp m c off) => .getX m fun cs => match rowOf cs, toP lv with
      | some (c', ps), some (.int .i64 p) => if csz P ty = some 1 ∧ aggT P ty = some false then .assume (decide (c = c' ∧ off < ps.length)) (.ret [.ext m 0 [.row c (ps.set off p)]]) else .fail
      | _, _ => .fail
    | _ => .fail
  | some _ => .fail

theorem stV_rep {ty : TypeId} {lv : LV} {vs : List LV} {v : Value} {u : UL} {f : Nat → UL} (h : stV P ty lv = some vs) (hr : RepL g l w u lv v) :
    vs.length = v.cells.toList.length ∧ (∀ u ∈ v.cells.toList, u.oneCell' = true) ∧ ∀ j (h : j < vs.length) (h' : j < v.cells.toList.length), vs[j].nolp = true ∧ v.cells.toList[j].oneCell' = true ∧ RepL g l w (f j) vs[j] v.cells.toList[j] := by
  unfold stV at h
  split at h
  · split at h
    · rename_i cs
      injection h with h
      subst h
      obtain ⟨k1, k2⟩ := cel_rep (p := .agg cs) rfl hr
      refine ⟨by simp [k1.1], k2, fun j hj hj' => ⟨by simp [LV.nolp], k2 _ (List.getElem_mem _), ?_⟩⟩
      simp only [List.getElem_map]
      exact k1.2 j (by simpa using hj) hj'
    · cases h
  · split at h
    · rename_i p
      split at h
      · rename_i hp
        injection h with h
        subst h
        have hone := Rep.one hr hp
        have hc : v.cells = #[v] := by cases v <;> first | rfl | cases hone
        rw [hc]
        refine ⟨by simp, by simpa using hone, fun j hj hj' => ?_⟩
        have : j = 0 := by simpa using hj
        subst this
        exact ⟨rfl, hone, hr⟩
      · cases h
    · rename_i z es
      injection h with h
      subst h
      have hone : v.oneCell' = true := by
        rcases hr with ⟨rfl, -⟩ | ⟨a, rfl, -⟩ <;> rfl
      have hc : v.cells = #[v] := by cases v <;> first | rfl | cases hone
      rw [hc]
      refine ⟨by simp, by simpa using hone, fun j hj hj' => ?_⟩
      have : j = 0 := by simpa using hj
      subst this
      exact ⟨rfl, hone, hr⟩
    · cases h
  · cases h

theorem run_store_blk {ty : TypeId} {x y : Operand} {b off m : Nat} {cur : Array Value} {e : TypeId} {v : Value} (ho : o.op = .store ty x y) (hx : a.eval x = .pointer (some ⟨b, off, none⟩)) (hy : a.eval y = v) (hm : csz P ty = some m)
    (hh : w.heap[b]? = some (.cells cur e (0, 0))) (hl : v.cells.toList.length = m) (hfit : off + m ≤ cur.size) (hone : ∀ u ∈ v.cells.toList, u.oneCell' = true) :
    (execOp a.eval o).run P w = .ok .skip (w.setRow b (splice cur.toList off v.cells.toList).toArray) := by
  have h1 := run_storeCells_at P b off e v.cells.toList 0 cur w hh (by omega) hone
  have hsz : v.cells.size = m := by simpa using hl
  rw [Nat.add_zero, ← splice_eq _ _ _ (by simp; omega)] at h1
  simp [execOp, ho, hx, hy, Instr.storeAt, Instr.sureAddr, storeVar, run_sizeOf hm, hsz, h1]

theorem splice_splice1 {α : Type} (cs : List α) (off : Nat) (x y : α) (h : off < cs.length) : splice (splice cs off [x]) off [y] = splice cs off [y] := by
  apply List.ext_getElem?
  intro j
  rw [splice_get _ _ _ (by rw [splice_length]; simp; omega), splice_get _ _ _ (by simp; omega), splice_get _ _ _ (by simp; omega)]
  by_cases hj : off ≤ j ∧ j < off + [y].length
  · rw [if_pos hj, if_pos hj]
  · rw [if_neg hj, if_neg hj, if_neg (by simpa using hj)]

theorem stB_sound {ty : TypeId} {x y : Operand} {i off b : Nat} {cs : List LV} {lv : LV} {u : UL} (ho : o.op = .store ty x y) (hd : o.dst = none) (h : Sim cx s g l a w) (hi : lk s.boxes i = some cs) (hb : l.L i = some b)
    (hx : a.eval x = .pointer (some ⟨b, off, none⟩)) (hr : RepL g l w u lv (a.eval y)) (hu : ∀ e z es, lv = .uniq e z es → ∃ t, y = .tmp t ∧ u = .t t ∧ lk s.tmps t = some lv)
    (hw : (stGo P ty y lv cs off (.cells i off)).wp s K) : OpOK P cx s o K a w := by
  unfold stGo at hw
  split at hw
  · rename_i m hm
    have plain : (∀ e z es, lv ≠ .uniq e z es) → ((match stV P ty lv with
      | some vs => if vs.length = m ∧ off + m ≤ cs.length then RM.ret [Wr.cells i off vs] else RM.fail
      | none => RM.fail) : RM (List Wr)).wp s K → OpOK P cx s o K a w := by
      intro _ hw
      split at hw
      · rename_i vs hvs
        split at hw
        · rename_i hc
          obtain ⟨k1, k2, k3⟩ := stV_rep (f := fun j => .b i (off + j)) hvs hr
          obtain ⟨b', cur, e, h1, h2, h3, h4, -⟩ := h.wbox hi off vs (a.eval y).cells.toList k1 (by rw [hc.1]; exact hc.2) k3
          rw [hb] at h1
          injection h1 with h1
          subst h1
          have hrun := run_store_blk (P := P) ho hx rfl hm h2 (by rw [← k1]; exact hc.1) (by have := hc.2; omega) k2
          intro Q
          unfold Oper.wp
          rw [hrun, Oper.upon_skip, hd]
          refine ⟨_, g, l, hw, ?_⟩
          have hwr : s.wrs [.cells i off vs] = { s with boxes := put s.boxes i (splice cs off vs) } := by simp only [S.wrs, S.wr, hi]
          rw [hwr]
          exact h4
        · exact hw.elim
      · exact hw.elim
    cases lv with
    | uniq e z es =>
      obtain ⟨t, rfl, rfl, ht⟩ := hu e z es rfl
      simp only at hw
      split at hw
      · rename_i hc
        obtain ⟨ha, rfl, hlt⟩ := hc
        have hcs : cs[off]? = some cs[off] := List.getElem?_eq_getElem hlt
        have hs1 : Sim cx { s with tmps := put s.tmps t (.v (.sl z es)), boxes := put s.boxes i (splice cs off [.junk]) } g l a w := by
          refine h.leF (fun k v hk => ?_) (fun k v hk => by
              simp only [lk_put] at hk
              split at hk
              · rename_i e0
                subst e0
                injection hk with hk
                subst hk
                exact ⟨cs, hi, WLs.splice1 hcs (WL.junk (fun es2 e2 => by
                  obtain ⟨b2, -, -, -, cur, t2, -, -, h6⟩ := h.bx i cs hi
                  have := (h6 off hlt).2.2
                  rw [e2] at this
                  exact this) (fun c2 ps2 e2 => by
                  obtain ⟨b2, -, -, -, cur, t2, -, -, h6⟩ := h.bx i cs hi
                  have := (h6 off hlt).2.2
                  rw [e2] at this
                  exact this))⟩
              · exact ⟨v, hk, WLs.refl v⟩) (same_le WLs.refl _)
          simp only [lk_put] at hk
          split at hk
          · rename_i e0; subst e0; injection hk with hk; subst hk; exact .inr ⟨_, ht, .inr ⟨rfl, rfl⟩⟩
          · exact .inr ⟨v, hk, WL.refl v⟩
        obtain ⟨l', k1, k2, kL⟩ := hs1.transfer (p := .t t) (q := .b i off) hr (fun e2 z2 es2 he => by simp only [lk_put, if_true] at he; injection he with he; cases he)
          (fun ds hds e2 z2 es2 he => by
            simp only [lk_put, if_true, Option.some.injEq] at hds
            subst hds
            rw [splice_get _ _ _ (by simp; omega)] at he
            simp at he)
        have hone : (a.eval (.tmp t)).oneCell' = true := by
          rcases hr with (⟨hv, -⟩ | ⟨a', hv, -⟩) | ⟨b', cap, cur, hv, -⟩ <;> rw [hv] <;> rfl
        have hc : (a.eval (.tmp t)).cells = #[a.eval (.tmp t)] := by
          generalize a.eval (.tmp t) = v at hone
          cases v <;> first | rfl | cases hone
        obtain ⟨b', cur, e', h1, h2, h3, h4, -⟩ := k1.wbox (i := i) (cs := splice cs off [.junk]) (by simp only [lk_put, if_true]) off [.uniq e z es] [a.eval (.tmp t)] rfl (by rw [splice_length]; simp; omega) (fun j hj hj' => by
            have : j = 0 := by simpa using hj
            subst this
            exact ⟨rfl, hone, k2⟩)
        have hb' : l.L i = some b := hb
        have hLL : l'.L i = some b := by rw [kL]; exact hb'
        rw [hLL] at h1
        injection h1 with h1
        subst h1
        rw [splice_length] at h3
        have hrun := run_store_blk (P := P) ho hx rfl hm h2 (by rw [hc]; rfl) (by omega) (by rw [hc]; simpa using hone)
        rw [hc] at hrun
        intro Q
        unfold Oper.wp
        rw [hrun, Oper.upon_skip, hd]
        refine ⟨_, g, l', hw, ?_⟩
        have hwr : s.wrs [.tmp t (.v (.sl z es)), .cells i off [.uniq e z es]] = { s with tmps := put s.tmps t (.v (.sl z es)), boxes := put s.boxes i (splice cs off [.uniq e z es]) } := by simp only [S.wrs, S.wr, hi]
        rw [hwr]
        refine h4.congr (fun _ => rfl) (fun k => by simp only [lk_put, splice_splice1 cs off _ _ hlt]; split <;> rfl) (fun _ => rfl)
      · exact hw.elim
    | v p => exact plain (by simp) hw
    | full z es => exact plain (by simp) hw
    | lp j oo => exact plain (by simp) hw
    | junk => exact plain (by simp) hw
    | mm _ => exact hr.elim
    | row _ _ => exact hr.elim
  · exact hw.elim

theorem stX_sound {ty : TypeId} {x y : Operand} {i off b : Nat} {cs : List LV} {lv : LV} {u : UL} (ho : o.op = .store ty x y) (hd : o.dst = none) (h : Sim cx s g l a w) (hi : lk s.ext i = some cs) (hb : g.X i = some b)
    (hx : a.eval x = .pointer (some ⟨b, off, none⟩)) (hr : RepL g l w u lv (a.eval y)) (hu : ∀ e z es, lv = .uniq e z es → ∃ t, y = .tmp t ∧ u = .t t ∧ lk s.tmps t = some lv)
    (hnm : notMM cs = true) (hw : (stGo P ty y lv cs off (.ext i off)).wp s K) : OpOK P cx s o K a w := by
  unfold stGo at hw
  split at hw
  · rename_i m hm
    have plain : (∀ e z es, lv ≠ .uniq e z es) → ((match stV P ty lv with
      | some vs => if vs.length = m ∧ off + m ≤ cs.length then RM.ret [Wr.ext i off vs] else RM.fail
      | none => RM.fail) : RM (List Wr)).wp s K → OpOK P cx s o K a w := by
      intro _ hw
      split at hw
      · rename_i vs hvs
        split at hw
        · rename_i hc
          obtain ⟨k1, k2, k3⟩ := stV_rep (f := fun j => .x i (off + j)) hvs hr
          obtain ⟨b', cur, e, h1, h2, h3, h4, -⟩ := h.wext hi off vs (a.eval y).cells.toList k1 (by rw [hc.1]; exact hc.2) k3 (notMM_not hnm)
          rw [hb] at h1
          injection h1 with h1
          subst h1
          have hrun := run_store_blk (P := P) ho hx rfl hm h2 (by rw [← k1]; exact hc.1) (by have := hc.2; omega) k2
          intro Q
          unfold Oper.wp
          rw [hrun, Oper.upon_skip, hd]
          refine ⟨_, g, l, hw, ?_⟩
          have hwr : s.wrs [.ext i off vs] = { s with ext := put s.ext i (splice cs off vs) } := by simp only [S.wrs, S.wr, hi]
          rw [hwr]
          exact h4
        · exact hw.elim
      · exact hw.elim
    cases lv with
    | uniq e z es =>
      obtain ⟨t, rfl, rfl, ht⟩ := hu e z es rfl
      simp only at hw
      split at hw
      · rename_i hc
        obtain ⟨ha, rfl, hlt⟩ := hc
        have hcs : cs[off]? = some cs[off] := List.getElem?_eq_getElem hlt
        have hmm : ∀ es, cs[off] ≠ .mm es := fun es2 e2 => by
          obtain ⟨b2, -, -, hE⟩ := h.ex i cs hi
          rcases hE with ⟨-, cur, t2, -, -, h6⟩ | hE
          · have := (h6 off hlt).2.2
            rw [e2] at this
            exact this
          · exact hE.plain (notMM_not hnm)
        have hrw : ∀ c ps, cs[off] ≠ .row c ps := fun c2 ps2 e2 => by
          obtain ⟨b2, -, -, hE⟩ := h.ex i cs hi
          rcases hE with ⟨-, cur, t2, -, -, h6⟩ | hE
          · have := (h6 off hlt).2.2
            rw [e2] at this
            exact this
          · exact hE.plain (notMM_not hnm)
        have hs1 : Sim cx { s with tmps := put s.tmps t (.v (.sl z es)), ext := put s.ext i (splice cs off [.junk]) } g l a w := by
          refine h.leF (fun k v hk => ?_) (same_le WLs.refl _) (fun k v hk => by
              simp only [lk_put] at hk
              split at hk
              · rename_i e0
                subst e0
                injection hk with hk
                subst hk
                exact ⟨cs, hi, WLs.splice1 hcs (WL.junk hmm hrw)⟩
              · exact ⟨v, hk, WLs.refl v⟩) (by simp only [cnt_put_old hi]; exact Nat.le_refl _)
          simp only [lk_put] at hk
          split at hk
          · rename_i e0; subst e0; injection hk with hk; subst hk; exact .inr ⟨_, ht, .inr ⟨rfl, rfl⟩⟩
          · exact .inr ⟨v, hk, WL.refl v⟩
        obtain ⟨l', k1, k2, kL⟩ := hs1.transfer (p := .t t) (q := .x i off) hr (fun e2 z2 es2 he => by simp only [lk_put, if_true] at he; injection he with he; cases he)
          (fun ds hds e2 z2 es2 he => by
            simp only [lk_put, if_true, Option.some.injEq] at hds
            subst hds
            rw [splice_get _ _ _ (by simp; omega)] at he
            simp at he)
        have hone : (a.eval (.tmp t)).oneCell' = true := by
          rcases hr with (⟨hv, -⟩ | ⟨a', hv, -⟩) | ⟨b', cap, cur, hv, -⟩ <;> rw [hv] <;> rfl
        have hc : (a.eval (.tmp t)).cells = #[a.eval (.tmp t)] := by
          generalize a.eval (.tmp t) = v at hone
          cases v <;> first | rfl | cases hone
        obtain ⟨b', cur, e', h1, h2, h3, h4, -⟩ := k1.wext (i := i) (cs := splice cs off [.junk]) (by simp only [lk_put, if_true]) off [.uniq e z es] [a.eval (.tmp t)] rfl (by rw [splice_length]; simp; omega) (fun j hj hj' => by
            have : j = 0 := by simpa using hj
            subst this
            exact ⟨rfl, hone, k2⟩) ⟨fun es2 hs => by
            have h0 := hs.inv
            have h1 := splice_get cs off [LV.junk] (by simp; omega) off
            rw [h0] at h1
            have hl := congrArg List.length h0
            rw [splice_length] at hl
            have : off = 0 := by simp at hl; omega
            subst this
            simp at h1, fun c2 ps2 h0 => by
            have h1 := splice_get cs off [LV.junk] (by simp; omega) off
            rw [h0] at h1
            have hl := congrArg List.length h0
            rw [splice_length] at hl
            have : off = 0 := by simp at hl; omega
            subst this
            simp at h1⟩
        have hb' : g.X i = some b := hb
        rw [hb'] at h1
        injection h1 with h1
        subst h1
        rw [splice_length] at h3
        have hrun := run_store_blk (P := P) ho hx rfl hm h2 (by rw [hc]; rfl) (by omega) (by rw [hc]; simpa using hone)
        rw [hc] at hrun
        intro Q
        unfold Oper.wp
        rw [hrun, Oper.upon_skip, hd]
        refine ⟨_, g, l', hw, ?_⟩
        have hwr : s.wrs [.tmp t (.v (.sl z es)), .ext i off [.uniq e z es]] = { s with tmps := put s.tmps t (.v (.sl z es)), ext := put s.ext i (splice cs off [.uniq e z es]) } := by simp only [S.wrs, S.wr, hi]
        rw [hwr]
        refine h4.congr (fun _ => rfl) (fun _ => rfl) (fun k => by simp only [lk_put, splice_splice1 cs off _ _ hlt]; split <;> rfl) (by simp only [cnt_put]; omega)
      · exact hw.elim
    | v p => exact plain (by simp) hw
    | full z es => exact plain (by simp) hw
    | lp j oo => exact plain (by simp) hw
    | junk => exact plain (by simp) hw
    | mm _ => exact hr.elim
    | row _ _ => exact hr.elim
  · exact hw.elim

theorem stY_sound {ty : TypeId} {x y : Operand} {n c off : Nat} {cs : List LV} {ps : List Int} {p : Int} (ho : o.op = .store ty x y) (hd : o.dst = none) (h : Sim cx s g l a w) (hi : lk s.ext n = some cs) (hrow : rowOf cs = some (c, ps))
    (hx : ∀ b, g.Y n c = some b → a.eval x = .pointer (some ⟨b, off, none⟩)) (hr : Rep g w (.int .i64 p) (a.eval y)) (hm : csz P ty = some 1) (hlt : off < ps.length) (hw : K [.ext n 0 [.row c (ps.set off p)]]) : OpOK P cx s o K a w := by
  obtain ⟨b, hY, hO, hF, hM, cur, e, h4, h5, h6⟩ := row_at h hi hrow
  have hcs := rowOf_inv hrow
  subst hcs
  have h1 := Rep.one hr rfl
  have hc : (a.eval y).cells = #[a.eval y] := by
    generalize a.eval y = v at h1
    cases v <;> first | rfl | cases h1
  have hrun := run_store_blk (P := P) ho (hx b hY) rfl hm h4 (by rw [hc]; rfl) (by omega) (by rw [hc]; simpa using h1)
  rw [hc] at hrun
  have hlt2 : off < cur.size := by omega
  have hg : ∀ j, ((splice cur.toList off [a.eval y]).toArray.getD j undef) = if j = off then a.eval y else cur.getD j undef := fun j => by
    have hfit : off + [a.eval y].length ≤ cur.toList.length := by simp; omega
    have g2 := splice_get cur.toList off [a.eval y] hfit j
    have g3 : ((splice cur.toList off [a.eval y]).toArray.getD j undef) = ((splice cur.toList off [a.eval y])[j]?).getD undef := by simp [Array.getD_eq_getD_getElem?]
    rw [g3, g2]
    by_cases hj : j = off
    · subst hj; simp
    · rw [if_neg hj, if_neg (by simp only [List.length_singleton]; omega)]
      simp [Array.getD_eq_getD_getElem?]
  have k1 := h.rowset (c2 := c) (ps' := ps.set off p) (cur' := (splice cur.toList off [a.eval y]).toArray) hi hY hO hF hM h4 (by simp [splice_length]) (.inl rfl) (by simp [splice_length]; omega) (fun j hj => by
    have hj2 : j < ps.length := by simpa using hj
    rw [hg j]
    by_cases hjo : j = off
    · subst hjo
      rw [if_pos rfl]
      refine ⟨h1, ?_⟩
      rw [List.getElem_set_self]; exact hr
    · rw [if_neg hjo, List.getElem_set_ne (by omega)]
      exact h6 j hj2)
  intro Q
  unfold Oper.wp
  rw [hrun, Oper.upon_skip, hd]
  refine ⟨_, { g with Y := updY g.Y n c b }, l, hw, ?_⟩
  have hwr : s.wrs [.ext n 0 [.row c (ps.set off p)]] = { s with ext := put s.ext n (splice [.row c ps] 0 [.row c (ps.set off p)]) } := by simp only [S.wrs, S.wr, hi]
  rw [hwr]
  exact k1

theorem actStore_sound {ty : TypeId} {x y : Operand} (ho : o.op = .store ty x y) (h : Sim cx s g l a w) (hw : (actStore P o ty x y).wp s K) : OpOK P cx s o K a w := by
  unfold actStore at hw
  split at hw
  · rename_i hd
    obtain ⟨lp, u, h1, r1, -⟩ := ev_sound h hw
    obtain ⟨lv, u2, h2, r2, hu2⟩ := ev_sound h h1
    split at h2
    · rename_i i off
      simp only [RM.wp] at h2
      split at h2
      · rename_i cs hcs
        obtain ⟨b, k1, k2⟩ := r1
        exact stB_sound ho hd h hcs k1 k2 r2 hu2 h2
      · exact h2.elim
    · rename_i m off
      simp only [RM.wp] at h2
      split at h2
      · rename_i cs hcs
        have hx : ∃ b, g.X m = some b ∧ a.eval x = .pointer (some ⟨b, off, none⟩) := by
          generalize a.eval x = vx at r1
          cases r1 with
          | xp _ _ b' hx => exact ⟨b', hx, rfl⟩
        obtain ⟨b, k1, k2⟩ := hx
        split at h2
        · rename_i hnm; exact stX_sound ho hd h hcs k1 k2 r2 hu2 hnm h2
        · exact h2.elim
      · exact h2.elim
    · rename_i m c off
      simp only [RM.wp] at h2
      split at h2
      · rename_i cs hcs
        split at h2
        · rename_i c' ps p hrow hp
          split at h2
          · rename_i hc1
            obtain ⟨hm, ha⟩ := hc1
            simp only [RM.wp] at h2
            obtain ⟨hdd, h2⟩ := h2
            obtain ⟨rfl, hlt⟩ := of_decide_eq_true hdd
            exact stY_sound ho hd h hcs hrow (by
              intro b hb
              generalize a.eval x = vx at r1
              cases r1 with
              | yp _ _ _ b' hx =>
                rw [hx] at hb
                injection hb with hb
                rw [hb]) (toP_rep hp r2) hm hlt h2
          · exact h2.elim
        · exact h2.elim
      · exact h2.elim
    · exact h2.elim
  · exact hw.elim
end
end Go.Pv
