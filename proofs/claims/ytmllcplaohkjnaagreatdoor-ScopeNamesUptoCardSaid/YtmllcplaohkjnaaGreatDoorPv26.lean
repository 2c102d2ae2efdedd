/- Pure values, twenty-sixth part: the evaluator for operations and regions. -/
import Derived.Test.YtmllcplaohkjnaaGreatDoorPv25
set_option linter.unusedVariables false
set_option linter.unusedSimpArgs false
set_option linter.unusedSectionVars false
namespace Go.Pv
open Go.RowKit

def callR (orc : Orc) (o : Oper) (r : RM (FuncId × List PV)) (s : S) : Option (PExit × S) := match r.run s with
  | some (f, args) => match orc f args s.ext with
    | some (.ret p, e) => some (.normal, s.setD o.dst (.v p) e)
    | some (.own te z es, e) => some (.normal, s.setD o.dst (.uniq te z es) e)
    | some (.panic p, e) => some (.panic p, { s with ext := e })
    | none => none
  | none => none
def actR (P : Program) (ro : TypeId → Option Bool) (n : Nat) (all : List Oper) (o : Oper) (s : S) : Option (PExit × S) := match (act P ro n all o).run s with
  | some wr => some (.normal, s.wrs wr)
  | none => none
def newX (n : Nat) (o : Oper) (cs : List PV) (s : S) : Option (PExit × S) := match o.dst with
  | some d => if d < n then some (.normal, { s with tmps := put s.tmps d (.v (.xp (cnt s.ext) 0)), ext := put s.ext (cnt s.ext) (cs.map .v) }) else none
  | none => none
def appR (e z : Nat) (x y : Operand) : RM (List (List PV)) := ev x fun lx => ev y fun ly => match lx, elsOf ly with
  | .v .nilsl, some (y0 :: ys) => if okZ z ly = true then .ret (y0 :: ys) else .fail
  | _, _ => .fail
def appX (P : Program) (n : Nat) (o : Oper) (ty : TypeId) (x y : Operand) (s : S) : Option (PExit × S) := match elemT P ty, o.dst with
  | some e, some d => match csz P e, cbytes P e, zro P e with
    | some (m + 1), some (B + 1), some zs => if d < n ∧ zs.length = m + 1 then (match (appR e (m + 1) x y).run s with
      | some ys => if ys.length * (B + 1) ≤ 140737488355328 then some (.normal, { s with tmps := put s.tmps d (.v (.xsl (cnt s.ext) (m + 1) ys.length)), ext := put s.ext (cnt s.ext) (ys.flatten.map .v) }) else none
      | none => none) else none
    | _, _, _ => none
  | _, _ => none
def panR (x : Operand) : RM PV := evP x fun p => match p with
  | .iface t q => .ret (PV.iface t q)
  | _ => .fail
def boxR (x : Operand) : RM (List PV) := evP x fun p => match p.cel with
  | some cs => .ret cs
  | none => .fail

/-- A new map. -/
def mapN (n : Nat) (o : Oper) (s : S) : Option (PExit × S) := match o.dst with
  | some d => if d < n then some (.normal, { s with tmps := put s.tmps d (.v (.mp (cnt s.ext))), ext := put s.ext (cnt s.ext) [.mm []] }) else none
  | none => none
/-- One operation in its turn. -/
def opL (P : Program) (md : Md) (orc : Orc) (n : Nat) (all : List Oper) (o : Oper) (s : S) : Option (PExit × S) := match callee P o with
  | some r => callR orc o r s
  | none => match o.op with
    | .alloc ty => if (md.ro ty).isNone = true then (match zro P ty with | some zs => newX n o zs s | none => none) else actR P md.ro n all o s
    | .box ty x => if (md.ro ty).isNone = true then (match (boxR x).run s with | some cs => newX n o cs s | none => none) else actR P md.ro n all o s
    | .panic x => match (panR x).run s with
      | some p => some (.panic p, s)
      | none => none
    | .makeMap _ none => mapN n o s
    | .call ⟨.builtin .append, ⟨[x, y]⟩, ⟨[ty, ty']⟩⟩ => if md.row ty = true ∧ ty = ty' then appX P n o ty x y s else actR P md.ro n all o s
    | _ => actR P md.ro n all o s

section
variable {P : Program} {cx : Cx} {s s' : S} {Q : PExit → S → Prop} {K : S → Prop} {o : Oper} {pe : PExit} {md : Md} {orc : Orc} {all : List Oper}

def OpK (P : Program) (cx : Cx) (s : S) (o : Oper) (K : S → Prop) (Q : PExit → S → Prop) : Prop :=
  ∀ g l a w, Sim cx s g l a w → o.wp P a w (fun a' w' => ∃ s' g' l', K s' ∧ Sim cx s' g' l' a' w') (post cx Q)

theorem callR_sound {r : RM (FuncId × List PV)} (horc : OrcOK P orc) (ho : callee P o = some r) (hd : ∀ d, o.dst = some d → d < cx.n) (h : callR orc o r s = some (pe, s')) (hk : thenQ K Q pe s') : OpK P cx s o K Q := fun g l a w hs => by
  unfold callR at h
  split at h
  · rename_i f args hr
    refine callee_sound ho hd hs (RM.run_wp hr ?_)
    split at h
    · rename_i p e he
      obtain ⟨h1, h2⟩ := horc _ _ _ _ _ he
      refine ⟨h1, h2.mono ?_⟩
      rintro _ _ ⟨rfl, rfl⟩
      simp only [Option.some.injEq, Prod.mk.injEq] at h
      obtain ⟨rfl, rfl⟩ := h
      exact hk
    · rename_i p e he
      obtain ⟨h1, h2⟩ := horc _ _ _ _ _ he
      refine ⟨h1, h2.mono ?_⟩
      rintro _ _ ⟨rfl, rfl⟩
      simp only [Option.some.injEq, Prod.mk.injEq] at h
      obtain ⟨rfl, rfl⟩ := h
      exact hk
    · rename_i p e he
      obtain ⟨h1, h2⟩ := horc _ _ _ _ _ he
      refine ⟨h1, h2.mono ?_⟩
      rintro _ _ ⟨rfl, rfl⟩
      simp only [Option.some.injEq, Prod.mk.injEq] at h
      obtain ⟨rfl, rfl⟩ := h
      exact hk
    · cases h
  · cases h
theorem actR_sound {ro : TypeId → Option Bool} (h : actR P ro cx.n all o s = some (pe, s')) (hk : thenQ K Q pe s') : OpK P cx s o K Q := fun g l a w hs => by
  unfold actR at h
  split at h
  · rename_i wr hr
    simp only [Option.some.injEq, Prod.mk.injEq] at h
    obtain ⟨rfl, rfl⟩ := h
    refine upon_mono ?_ (act_sound (K := fun x => x = wr) hs (RM.run_wp hr rfl) (post cx Q))
    rintro a' w' ⟨wr', g', l', rfl, sm⟩
    exact ⟨_, g', l', hk, sm⟩
  · cases h
theorem newX_sound {cs : List PV} {cur : Array Value} {ty : TypeId} {g : Gh} {l : LG} {a : Act} {w : World} (hs : Sim cx s g l a w) (hr : RepAll g w cs cur.toList) (hone : ∀ u ∈ cur.toList, u.oneCell' = true)
    (hrun : (execOp a.eval o).run P w = .ok (.value (.pointer (some ⟨w.heap.size, 0, none⟩))) (w.alloc (.cells cur ty)))
    (h : newX cx.n o cs s = some (pe, s')) (hk : thenQ K Q pe s') : o.wp P a w (fun a' w' => ∃ s' g' l', K s' ∧ Sim cx s' g' l' a' w') (post cx Q) := by
  unfold newX at h
  split at h
  · rename_i d hd
    split at h
    · rename_i hn
      simp only [Option.some.injEq, Prod.mk.injEq] at h
      obtain ⟨rfl, rfl⟩ := h
      unfold Oper.wp
      rw [hrun, Oper.upon_value, hd]
      obtain ⟨k1, -⟩ := hs.newext cur ty (cs.map .v) (by simp [hr.1]) (fun j hj => .inr ⟨cs[j]'(by simpa using hj), by simp, by
        have hj1 : j < cs.length := by simpa using hj
        have hj2 : j < cur.toList.length := by rw [← hr.1]; exact hj1
        have := hr.2 j hj1 hj2
        have hj3 : j < cur.size := by simpa using hj2
        simpa [hj3] using this⟩) hone
      exact ⟨_, _, _, hk, k1.set hn (.xp _ _ _ (upd_same _ _ _))⟩
    · cases h
  · cases h
theorem appX_go {ty e : TypeId} {x y : Operand} {d m B : Nat} {zs : List PV} {g : Gh} {l : LG} {a : Act} {w : World} (ho : o.op = .call ⟨.builtin .append, #[x, y], #[ty, ty]⟩) (hd : o.dst = some d) (hn : d < cx.n)
    (he : elemT P ty = some e) (hm : csz P e = some (m + 1)) (hB : cbytes P e = some (B + 1)) (hz : zro P e = some zs) (hzl : zs.length = m + 1) (hs : Sim cx s g l a w)
    (h : (appR e (m + 1) x y).wp s fun ys => ys.length * (B + 1) ≤ 140737488355328 ∧ K { s with tmps := put s.tmps d (.v (.xsl (cnt s.ext) (m + 1) ys.length)), ext := put s.ext (cnt s.ext) (ys.flatten.map .v) }) :
    o.wp P a w (fun a' w' => ∃ s' g' l', K s' ∧ Sim cx s' g' l' a' w') (post cx Q) := by
  have hu := elemT_inv he
  obtain ⟨i, zv, z1, z2, z3⟩ := zro_inv hz
  have hsz : i.size = m + 1 := by simpa [csz, z1] using hm
  have hby : i.bytes = B + 1 := by simpa [cbytes, z1] using hB
  have hzs : zv.cells.size = m + 1 := by rw [← Array.length_toList, ← cvs_length z3]; exact hzl
  obtain ⟨-, hzone, -⟩ := cvs_rep (g := g) (w := w) z3
  obtain ⟨lx, ux, h1, r1, -⟩ := ev_sound hs h
  obtain ⟨ly, uy, h2, r2, -⟩ := ev_sound hs h1
  split at h2
  · rename_i y0 ys hys
    split at h2
    · rename_i hok
      obtain ⟨hb, h2⟩ := h2
      have hvx : a.eval x = .slice none 0 0 := by generalize a.eval x = v at r1; cases r1; rfl
      obtain ⟨ay, c, hvy, hYR⟩ : ∃ ay c, a.eval y = .slice (some ay) (y0 :: ys).length c ∧ Rep g w (.sl (m + 1) (y0 :: ys)) (a.eval y) := by
        rcases els_rep hys hok r2 with ⟨h, -⟩ | h
        · cases h
        · exact h
      rw [hvy] at hYR
      obtain ⟨-, -, -, hyz, news, hnr, hnl, hnc⟩ := hYR.flat
      generalize hY : (y0 :: ys) = Y at *
      have hpos : 0 < Y.length := by rw [← hY]; simp
      have hn1 : ∀ u ∈ news, u.oneCell' = true := fun u hu => by
        obtain ⟨j, hj, e⟩ := List.getElem_of_mem hu
        exact (hnc j u (by rw [List.getElem?_eq_getElem hj, e])).2.2
      have hlen : Y.length ≤ 140737488355328 := by
        have := Nat.le_mul_of_pos_right Y.length (Nat.succ_pos B)
        simp only [Nat.succ_eq_add_one] at this
        omega
      have h63 : Y.length ≤ maxLen := by simp only [maxLen]; omega
      have hr := run_append_nil (P := P) w ty o.type e i zv hu z1 z2 ay Y.length c news (by rw [hsz]; exact hnl) (fun j v hj => (hnc j v hj).1) hpos (by omega) (by rw [hby]; omega)
      have hge := grownCap_ge w Y.length 0 e
      have hcm := grownCap_le_maxLen w Y.length 0 e (by simpa using h63)
      have hex : ∀ v' w', (Builtin.append_ #[ty, ty] o.type #[a.eval x, a.eval y]).run P w = .ok v' w' → (execOp a.eval o).run P w = .ok (.value v') w' := by
        intro v' w' hr
        simp only [execOp, ho, resolve, invoke, builtin, Sem.run_bind, Sem.run_pure, Result.andThen_ok, List.map_toArray, List.map_cons, List.map_nil, hr]
      rw [← hvx, ← hvy] at hr
      unfold Oper.wp
      rw [hex _ _ hr, Oper.upon_value, hd]
      obtain ⟨hs1, hm1⟩ := hs.drew
      have hsize : w.drew.heap.size = w.heap.size := rfl
      obtain ⟨k1, -⟩ := hs1.newext (news.toArray ++ Builtin.zeroCells zv.cells (grownCap w Y.length 0 e - Y.length)) e (Y.flatten.map .v)
        (by simp only [Array.size_append, List.size_toArray, size_zeroCells, hzs, hnl, List.length_map, flatten_length _ Y hyz]; omega) (fun j hj => by
          have hlt : j < Y.flatten.length := by rw [List.length_map] at hj; exact hj
          refine .inr ⟨Y.flatten[j], List.getElem_map _, ?_⟩
          have hlt' : j < news.length := by rw [← hnr.1]; exact hlt
          have := (hnr.2 j hlt hlt').mono hm1
          simpa [Array.getD_eq_getD_getElem?, Array.getElem?_append, hlt'] using this) (fun u hu => by
          simp only [Array.toList_append, List.mem_append] at hu
          rcases hu with hu | hu
          · exact hn1 u hu
          · exact hzone u (mem_zeroCells' hu))
      rw [hsize] at k1
      refine ⟨_, _, _, h2, k1.set hn (.xsl _ _ _ _ _ _ _ (upd_same _ _ _) (heap_alloc_new w.drew _) ?_ (by simpa using hge) hcm)⟩
      simp only [Array.size_append, List.size_toArray, size_zeroCells, hzs, hnl, ← Nat.add_mul]
      congr 1
      omega
    · exact h2.elim
  · exact h2.elim
theorem appX_sound {ty : TypeId} {x y : Operand} (ho : o.op = .call ⟨.builtin .append, #[x, y], #[ty, ty]⟩) (h : appX P cx.n o ty x y s = some (pe, s')) (hk : thenQ K Q pe s') : OpK P cx s o K Q := fun g l a w hs => by
  unfold appX at h
  split at h
  · rename_i e d he hd
    split at h
    · rename_i m B zs hm hB hz
      split at h
      · rename_i hc
        obtain ⟨hn, hzl⟩ := hc
        split at h
        · rename_i ys hys
          split at h
          · rename_i hb
            simp only [Option.some.injEq, Prod.mk.injEq] at h
            obtain ⟨rfl, rfl⟩ := h
            exact appX_go ho hd hn he hm hB hz hzl hs (RM.run_wp hys ⟨hb, hk⟩)
          · cases h
        · cases h
      · cases h
    · cases h
  · cases h
theorem opL_sound (horc : OrcOK P orc) (hd : ∀ d, o.dst = some d → d < cx.n) (h : opL P md orc cx.n all o s = some (pe, s')) (hk : thenQ K Q pe s') : OpK P cx s o K Q := by
  unfold opL at h
  split at h
  · rename_i r hr; exact callR_sound horc hr hd h hk
  · split at h
    · rename_i ty hop
      split at h
      · split at h
        · rename_i zs hz
          intro g l a w hs
          obtain ⟨i, z, h1, h2, h3⟩ := zro_inv hz
          obtain ⟨hr, hone, -⟩ := cvs_rep (g := g) (w := w) h3
          exact newX_sound (ty := ty) hs hr hone (by simp [execOp, hop, Instr.alloc, zeroValue, typeInfo, h1, h2, newVar, newRow]) h hk
        · cases h
      · exact actR_sound h hk
    · rename_i ty x hop
      split at h
      · split at h
        · rename_i cs hcs
          intro g l a w hs
          obtain ⟨p, h1, r1⟩ := evP_sound hs (RM.run_wp (K := fun x => x = cs) hcs rfl)
          split at h1
          · rename_i cs' hc
            have h1' : cs' = cs := h1
            subst h1'
            obtain ⟨hr, hone⟩ := cel_rep hc r1
            exact newX_sound (ty := ty) hs hr hone (by simp [execOp, hop, Instr.box, newVar, newRow]) h hk
          · exact h1.elim
        · cases h
      · exact actR_sound h hk
    · rename_i x hop
      split at h
      · rename_i p hp
        simp only [Option.some.injEq, Prod.mk.injEq] at h
        obtain ⟨rfl, rfl⟩ := h
        intro g l a w hs
        obtain ⟨p', h1, r1⟩ := evP_sound hs (RM.run_wp (K := fun x => x = p) hp rfl)
        split at h1
        · rename_i t q
          have h1' : PV.iface t q = p := h1
          subst h1'
          have hrun : ∀ v, a.eval x = .iface t v → (execOp a.eval o).run P w = .halt (.panic (.iface t v)) w := fun v hv => by
            simp [execOp, hop, hv, Instr.panic, goPanic]
          generalize a.eval x = vx at r1 hrun
          cases r1 with
          | iface _ _ v hv =>
            unfold Oper.wp
            rw [hrun v rfl, Oper.upon_panic]
            exact ⟨.panic (.iface t q), s, g, l, hk, ⟨_, rfl, .iface _ _ _ hv⟩, hs⟩
        · exact h1.elim
      · cases h
    · rename_i ty hop
      unfold mapN at h
      intro g l a w hs
      split at h
      · rename_i d hd'
        split at h
        · rename_i hn
          simp only [Option.some.injEq, Prod.mk.injEq] at h
          obtain ⟨rfl, rfl⟩ := h
          unfold Oper.wp
          rw [show (execOp a.eval o).run P w = .ok (.value (.map (some w.heap.size))) (w.alloc (.map #[] 0)) by simp [execOp, hop, Instr.makeMap, Result.andThen], Oper.upon_value, hd']
          obtain ⟨k1, -⟩ := hs.newmap
          exact ⟨_, _, _, hk, k1.set hn (.mp _ _ (upd_same _ _ _))⟩
        · cases h
      · cases h
    · rename_i x y ty ty' hop
      split at h
      · rename_i hc
        obtain ⟨-, rfl⟩ := hc
        exact appX_sound hop h hk
      · exact actR_sound h hk
    · exact actR_sound h hk

/-- Is an operation wanted? -/
def wantS (all : List Oper) (o : Oper) (s : S) : Option Bool := match o.guard with
  | none => some true
  | some (j, want) => match (all[j]?).bind (·.dst) with
    | some dj => (lk s.tmps dj).bind (wantP want)
    | none => none
def evL (P : Program) (md : Md) (orc : Orc) (n : Nat) (all : List Oper) : List Oper → S → Option (PExit × S)
  | [], s => some (.normal, s)
  | o :: rest, s => match wantS all o s with
    | some true => match opL P md orc n all o s with
      | some (.normal, s') => evL P md orc n all rest s'
      | r => r
    | some false => evL P md orc n all rest (s.skip o)
    | none => none
theorem wantS_sound {b : Bool} {g : Gh} {l : LG} {a : Act} {w : World} (hall : dstOK cx.n all = true) (h : wantS all o s = some b) (hs : Sim cx s g l a w) : Region.wanted o (yielded all.toArray a.tmps) = b := by
  unfold wantS at h
  split at h
  · rename_i hg
    simp only [Option.some.injEq] at h
    subst h
    simp [Region.wanted, hg]
  · rename_i j want hg
    split at h
    · rename_i dj hdj
      simp only [Option.bind_eq_some_iff] at h
      obtain ⟨lv, h1, h2⟩ := h
      have hdjn : dj < cx.n := by
        simp only [Option.bind_eq_some_iff] at hdj
        obtain ⟨oj, h1, h2⟩ := hdj
        exact dstOK_mem hall (List.mem_of_getElem? h1) dj h2
      simp only [Region.wanted, hg]
      exact yielded_of (by simpa using hdj) hdjn hs h1 h2
    · cases h
theorem evL_sound (horc : OrcOK P orc) (hall : dstOK cx.n all = true) : ∀ {ls : List Oper} {s : S}, (∀ o ∈ ls, o ∈ all) → evL P md orc cx.n all ls s = some (pe, s') → Q pe s' → PL P cx all.toArray ls s Q
  | [], s, _, h, hq => by
    simp only [evL, Option.some.injEq, Prod.mk.injEq] at h
    obtain ⟨rfl, rfl⟩ := h
    exact PL_nil hq
  | o :: rest, s, hm, h, hq => by
    have hd : ∀ d, o.dst = some d → d < cx.n := dstOK_mem hall (hm o (by simp))
    have hm' : ∀ o ∈ rest, o ∈ all := fun o ho => hm o (List.mem_cons_of_mem _ ho)
    intro g l a w hs
    simp only [evL] at h
    split at h
    · rename_i hw
      have hwant := wantS_sound hall hw hs
      refine wpList_step fun K hK => ?_
      rw [if_pos hwant]
      split at h
      · rename_i s1 h1
        refine upon_mono ?_ (opL_sound (Q := Q) (K := fun s' => PL P cx all.toArray rest s' Q) horc hd h1 (evL_sound horc hall hm' h hq) g l a w hs)
        rintro a' w' ⟨s', g', l', hp, sm⟩
        exact hK _ _ (hp g' l' a' w' sm)
      · rename_i hne
        refine upon_mono ?_ (opL_sound (Q := Q) (K := fun s' => PL P cx all.toArray rest s' Q) horc hd h (by
          cases pe with
          | normal => exact absurd h (hne _)
          | _ => exact hq) g l a w hs)
        rintro a' w' ⟨s', g', l', hp, sm⟩
        exact hK _ _ (hp g' l' a' w' sm)
    · rename_i hw
      have hwant := wantS_sound hall hw hs
      refine wpList_step fun K hK => ?_
      rw [if_neg (by rw [hwant]; simp)]
      refine hK _ _ (evL_sound horc hall hm' h hq g l _ w ?_)
      cases hdd : o.dst with
      | none => simp only [S.skip, hdd, Act.put]; exact hs
      | some d =>
        simp only [S.skip, hdd]
        exact hs.set (hd d hdd) (.tup [] [] rfl fun j h => by simp at h)
    · cases h

/-! ## Regions whose order is drawn -/
def pureR (orc : Orc) (f : FuncId) (args : List PV) : Option LV := match noXs args with
  | true => match orc f args [] with
    | some (r, []) => match r.noX with
      | true => r.lv
      | false => none
    | _ => none
  | false => none
def stepD (P : Program) (ro : TypeId → Option Bool) (orc : Orc) (n : Nat) (all : List Oper) (o : Oper) (gr : List Loc) (s : S) : Option (DS × Option Ext × S) := match callee P o with
  | some r => match r.runR s with
    | some ((f, args), rd) => match pureR orc f args with
      | some lv => some (⟨gr ++ rd, dstW o lv, false⟩, none, s.wqs (dstW o lv))
      | none => match orc f args s.ext with
        | some (res, e') => match res.lv with
          | some lv => some (⟨gr ++ rd, dstW o lv, true⟩, some e', { s.wqs (dstW o lv) with ext := e' })
          | none => none
        | none => none
    | none => none
  | none => match (act P ro n all o).runR s with
    | some (wr, rd) => if wr.any isXW = true then some (⟨gr ++ rd, wr.filter plainW, true⟩, some (extW s.ext wr), { s.wqs (wr.filter plainW) with ext := extW s.ext wr })
      else some (⟨gr ++ rd, wr, false⟩, none, s.wqs wr)
    | none => none
theorem stepD_sound {ro : TypeId → Option Bool} {n : Nat} {gr : List Loc} {d : DS} {x : Option Ext} {K : DS → Option Ext → S → Prop} (horc : OrcOK P orc) (h : stepD P ro orc n all o gr s = some (d, x, s')) (hk : K d x s') : stepR P ro n all o gr s K := by
  unfold stepD at h
  unfold stepR
  split at h
  · rename_i r hr
    split at h
    · rename_i f args rd hrun
      rw [hr]
      refine RM.runR_wpR hrun ?_
      split at h
      · rename_i lv hlv
        simp only [Option.some.injEq, Prod.mk.injEq] at h
        obtain ⟨rfl, rfl, rfl⟩ := h
        unfold pureR at hlv
        split at hlv
        · rename_i hna
          split at hlv
          · rename_i res ho
            split at hlv
            · rename_i hnr
              obtain ⟨h1, h2⟩ := horc _ _ _ _ _ ho
              exact ⟨h1, .inl ⟨res, lv, hlv, fun e => CallC.frame hna hnr h2 e, hk⟩⟩
            · cases hlv
          · cases hlv
        · cases hlv
      · split at h
        · rename_i res e' ho
          split at h
          · rename_i lv hlv
            simp only [Option.some.injEq, Prod.mk.injEq] at h
            obtain ⟨rfl, rfl, rfl⟩ := h
            obtain ⟨h1, h2⟩ := horc _ _ _ _ _ ho
            exact ⟨h1, .inr ⟨res, lv, e', hlv, h2, hk⟩⟩
          · cases h
        · cases h
    · cases h
  · rename_i hr
    split at h
    · rename_i wr rd hrun
      rw [hr]
      refine RM.runR_wpR hrun ?_
      split at h
      · rename_i hx
        simp only [Option.some.injEq, Prod.mk.injEq] at h
        obtain ⟨rfl, rfl, rfl⟩ := h
        rw [if_pos hx]
        exact hk
      · rename_i hx
        simp only [Option.some.injEq, Prod.mk.injEq] at h
        obtain ⟨rfl, rfl, rfl⟩ := h
        rw [if_neg hx]
        exact hk
    · cases h
def evD (P : Program) (ro : TypeId → Option Bool) (orc : Orc) (n : Nat) (all : List Oper) : List Oper → S → Option (List DS × List Ext × S)
  | [], s => some ([], [], s)
  | o :: rest, s => match o.guard with
    | none => match stepD P ro orc n all o [] s with
      | some (d, x, s') => match evD P ro orc n all rest s' with
        | some (ds, xs, t) => some (d :: ds, x.toList ++ xs, t)
        | none => none
      | none => none
    | some (j, want) => match (all[j]?).bind (·.dst) with
      | some dj => match (lk s.tmps dj).bind (wantP want) with
        | some true => match stepD P ro orc n all o [.t dj] s with
          | some (d, x, s') => match evD P ro orc n all rest s' with
            | some (ds, xs, t) => some (d :: ds, x.toList ++ xs, t)
            | none => none
          | none => none
        | some false => match evD P ro orc n all rest (s.wqs (dstW o (.v (.tup [])))) with
          | some (ds, xs, t) => some (⟨[.t dj], dstW o (.v (.tup [])), false⟩ :: ds, xs, t)
          | none => none
        | none => none
      | none => none
theorem evD_sound {ro : TypeId → Option Bool} {n : Nat} (horc : OrcOK P orc) : ∀ {ls : List Oper} {s t : S} {ds : List DS} {xs : List Ext} {K : List DS → List Ext → S → Prop}, evD P ro orc n all ls s = some (ds, xs, t) → K ds xs t → drL P ro n all ls s K
  | [], s, t, ds, xs, K, h, hk => by
    simp only [evD, Option.some.injEq, Prod.mk.injEq] at h
    obtain ⟨rfl, rfl, rfl⟩ := h
    exact hk
  | o :: rest, s, t, ds, xs, K, h, hk => by
    simp only [evD] at h
    simp only [drL]
    split at h
    · rename_i hg
      rw [hg]
      split at h
      · rename_i d x s1 h1
        split at h
        · rename_i ds1 xs1 t1 h2
          simp only [Option.some.injEq, Prod.mk.injEq] at h
          obtain ⟨rfl, rfl, rfl⟩ := h
          exact stepD_sound horc h1 (evD_sound horc (K := fun ds xs t => K (d :: ds) (x.toList ++ xs) t) h2 hk)
        · cases h
      · cases h
    · rename_i j want hg
      rw [hg]
      split at h
      · rename_i dj hdj
        simp only [hdj]
        split at h
        · rename_i hb
          simp only [hb, if_true]
          split at h
          · rename_i d x s1 h1
            split at h
            · rename_i ds1 xs1 t1 h2
              simp only [Option.some.injEq, Prod.mk.injEq] at h
              obtain ⟨rfl, rfl, rfl⟩ := h
              exact stepD_sound horc h1 (evD_sound horc (K := fun ds xs t => K (d :: ds) (x.toList ++ xs) t) h2 hk)
            · cases h
          · cases h
        · rename_i hb
          simp only [hb, Bool.false_eq_true, if_false]
          split at h
          · rename_i ds1 xs1 t1 h2
            simp only [Option.some.injEq, Prod.mk.injEq] at h
            obtain ⟨rfl, rfl, rfl⟩ := h
            exact evD_sound horc (K := fun ds xs t => K (⟨[.t dj], dstW o (.v (.tup [])), false⟩ :: ds) xs t) h2 hk
          · cases h
        · cases h
      · cases h

/-- A region. -/
def evR (P : Program) (md : Md) (orc : Orc) (n : Nat) (ops : List Oper) (draw : Bool) (s : S) : Option (PExit × S) := match draw with
  | false => evL P md orc n ops ops s
  | true => match evD P md.ro orc n ops ops s with
    | some (sts, _, t) => if chk ops sts s.tmps = true then some (.normal, t) else none
    | none => none
theorem evR_sound {id : Nat} {ops : Array Oper} {draw : Bool} (horc : OrcOK P orc) (hm : P.follows .mixedOrders = true) (hall : dstOK cx.n ops.toList = true) (h : evR P md orc cx.n ops.toList draw s = some (pe, s')) (hq : Q pe s') : PW P cx (.region id ops draw) s Q := by
  obtain ⟨ops⟩ := ops
  cases draw with
  | false => exact fun g l a w hs => wp_region_lit (evL_sound horc hall (fun _ h => h) h hq g l a w hs)
  | true =>
    simp only [evR] at h
    split at h
    · rename_i sts xs t hd
      split at h
      · rename_i hc
        simp only [Option.some.injEq, Prod.mk.injEq] at h
        obtain ⟨rfl, rfl⟩ := h
        exact PW_drawn md.ro cx.n hm rfl hall (evD_sound horc hd ⟨hc, hq⟩)
      · cases h
    · cases h
end
end Go.Pv
