/- Pure values: maps with strings for keys. -/
import Derived.Test.YtmllcplaohkjnaaGreatDoorPv12
import Derived.Laws.Slices
import Derived.DataElems
set_option linter.unusedVariables false
set_option linter.unusedSimpArgs false
set_option linter.unusedSectionVars false
namespace Go.Pv
open Go.RowKit

/-! ## Maps as lists -/
def mget (k : ByteArray) : List (ByteArray × PV) → Option PV
  | [] => none
  | x :: r => if x.1 = k then some x.2 else mget k r
def mupd (k : ByteArray) (v : PV) : List (ByteArray × PV) → List (ByteArray × PV)
  | [] => [(k, v)]
  | x :: r => if x.1 = k then (k, v) :: r else x :: mupd k v r
theorem mget_none {k : ByteArray} : ∀ {es : List (ByteArray × PV)}, (∀ x ∈ es, x.1 ≠ k) → mget k es = none
  | [], _ => rfl
  | x :: r, h => by
    simp only [mget, h x (by simp), if_false]
    exact mget_none fun y hy => h y (List.mem_cons_of_mem _ hy)
theorem mupd_new {k : ByteArray} {v : PV} : ∀ {es : List (ByteArray × PV)}, (∀ x ∈ es, x.1 ≠ k) → mupd k v es = es ++ [(k, v)]
  | [], _ => rfl
  | x :: r, h => by
    simp only [mupd, h x (by simp), if_false, List.cons_append]
    rw [mupd_new fun y hy => h y (List.mem_cons_of_mem _ hy)]
theorem mget_at {k : ByteArray} : ∀ {es : List (ByteArray × PV)} {j : Nat} (hj : j < es.length), es[j].1 = k → (∀ i (h : i < es.length), i < j → es[i].1 ≠ k) → mget k es = some es[j].2
  | [], j, hj, _, _ => by simp at hj
  | x :: r, 0, _, h, _ => by simp only [List.getElem_cons_zero] at h; simp [mget, h]
  | x :: r, j + 1, hj, h, hn => by
    have h0 := hn 0 (by simp) (by omega)
    simp only [List.getElem_cons_zero] at h0
    simp only [mget, h0, if_false, List.getElem_cons_succ]
    exact mget_at (by simpa using hj) (by simpa using h) fun i hi hij => hn (i + 1) (by simpa using hi) (by omega)
theorem mupd_at {k : ByteArray} {v : PV} : ∀ {es : List (ByteArray × PV)} {j : Nat} (hj : j < es.length), es[j].1 = k → (∀ i (h : i < es.length), i < j → es[i].1 ≠ k) → mupd k v es = es.set j (k, v)
  | [], j, hj, _, _ => by simp at hj
  | x :: r, 0, _, h, _ => by simp only [List.getElem_cons_zero] at h; simp [mupd, h]
  | x :: r, j + 1, hj, h, hn => by
    have h0 := hn 0 (by simp) (by omega)
    simp only [List.getElem_cons_zero] at h0
    simp only [mupd, h0, if_false, List.set_cons_succ]
    rw [mupd_at (by simpa using hj) (by simpa using h) fun i hi hij => hn (i + 1) (by simpa using hi) (by omega)]

section
variable {P : Program} {cx : Cx} {s t : S} {g : Gh} {l : LG} {a : Act} {w : World} {o : Oper} {K : List Wr → Prop}

theorem MapR.keys {es : List (ByteArray × PV)} {arr : Array MapEntry} {clock : Nat} (h : MapR g w es arr clock) : ∀ x ∈ arr.toList, MapKept.IsKey .string x.key := fun x hx => by
  obtain ⟨-, h2, h3⟩ := h
  obtain ⟨j, hj, e⟩ := List.getElem_of_mem hx
  have hj' : j < arr.size := by simpa using hj
  have := (h3 j (by omega) hj').1
  have e' : arr[j] = x := by simpa using e
  rw [e'] at this
  rw [this]
  trivial
/-- Where a key is found. -/
theorem MapR.find {es : List (ByteArray × PV)} {arr : Array MapEntry} {clock : Nat} (h : MapR g w es arr clock) (k : ByteArray) :
    (Instr.findNow .string (.string k) arr.toList 0 = some none ∧ (∀ x ∈ arr.toList, x.key ≠ .string k) ∧ ∀ x ∈ es, x.1 ≠ k) ∨
    ∃ (j : Nat) (hj : j < es.length) (hj' : j < arr.size), Instr.findNow .string (.string k) arr.toList 0 = some (some (j, arr[j].val)) ∧ arr[j].key = .string k ∧ es[j].1 = k ∧ (∀ i (h : i < es.length), i < j → es[i].1 ≠ k) := by
  have hk := h.keys
  obtain ⟨hs, h2, h3⟩ := h
  rcases MapKept.findNow_spec (d := .string) (k := .string k) trivial arr.toList 0 hk with ⟨h4, h5⟩ | ⟨j, e, h4, h5, h6⟩
  · refine .inl ⟨h4, h5, fun x hx e => ?_⟩
    obtain ⟨j, hj, e1⟩ := List.getElem_of_mem hx
    have hj' : j < arr.size := by omega
    have := (h3 j hj hj').1
    exact h5 arr[j] (by simp) (by rw [this, e1, e])
  · rw [Nat.zero_add] at h4
    have hj' : j < arr.size := by simpa using (List.getElem?_eq_some_iff.1 h5).1
    have e1 : arr[j] = e := by
      have := (List.getElem?_eq_some_iff.1 h5).2
      simpa using this
    have hj : j < es.length := by omega
    subst e1
    have hkj := (h3 j hj hj').1
    refine .inr ⟨j, hj, hj', h4, h6, ?_, fun i hi hij ei => ?_⟩
    · rw [hkj] at h6; injection h6
    · have hi' : i < arr.size := by omega
      have hki := (h3 i hi hi').1
      have hnd := hs.2.2
      have h7 : (arr.toList.map (·.key))[i]'(by simpa using hi') = (arr.toList.map (·.key))[j]'(by simpa using hj') := by simp [hki, h6, ei]
      exact List.pairwise_iff_getElem.1 hnd i j (by simpa using hi') (by simpa using hj') hij h7

/-- A map object turns. -/
theorem mono_setMap {b : Nat} {arr arr' : Array MapEntry} {clock clock' : Nat} (h4 : w.heap[b]? = some (.map arr clock)) : Mono g w g { w with heap := w.heap.setIfInBounds b (.map arr' clock') } := by
  have hs := MapKept.heap_set (o' := .map arr' clock') h4
  refine ⟨fun _ _ e => e, fun b' o v hc hf => ⟨?_, hf⟩, fun b' cur e hh => ?_, fun _ _ _ h => h⟩
  · have hne : b' ≠ b := by
      rintro rfl
      unfold World.cell? at hc
      simp [h4] at hc
    rw [← hc]
    exact World.cell?_of_block (hs.2 b' hne)
  · have hne : b' ≠ b := by rintro rfl; rw [h4] at hh; cases hh
    exact ⟨cur, (hs.2 b' hne).trans hh, rfl⟩
theorem Sim.wmap (h : Sim cx s g l a w) {i : Nat} {es es' : List (ByteArray × PV)} (hi : lk s.ext i = some [.mm es]) :
    ∃ b arr clock, g.X i = some b ∧ w.heap[b]? = some (.map arr clock) ∧ MapR g w es arr clock ∧ ∀ arr' clock', MapR g w es' arr' clock' → Sim cx { s with ext := put s.ext i [.mm es'] } g l a { w with heap := w.heap.setIfInBounds b (.map arr' clock') } := by
  obtain ⟨b, h1, h2, hE⟩ := h.ex i _ hi
  replace h1 : g.X i = some b := h1
  rcases hE with ⟨-, cur, e, -, -, h6⟩ | ⟨es2, he, hM, arr, clock, h4, hR⟩ | ⟨n0, c0, ps0, -, e0, -⟩
  · exact ((h6 0 (by simp)).2.2).elim
  rotate_left
  · injection e0 with e0 _; cases e0
  have he' : es = es2 := he
  subst he'
  refine ⟨b, arr, clock, h1, h4, hR, fun arr' clock' hR' => ?_⟩
  have hs := MapKept.heap_set (o' := .map arr' clock') h4
  have hm : Mono g w g { w with heap := w.heap.setIfInBounds b (.map arr' clock') } := mono_setMap h4
  have hne : ∀ {b' o}, l.O b' = some o → o ≠ .x i → b' ≠ b := fun {b' o} ho hn e => by
    subst e
    rw [h2] at ho
    injection ho with ho
    exact hn ho.symm
  have hL : ∀ {p lv v}, RepL g l w p lv v → RepL g l { w with heap := w.heap.setIfInBounds b (.map arr' clock') } p lv v := fun hr => hr.keep hm (fun _ _ _ => rfl) fun b' hu => ⟨hu, rfl, hs.2 b' (hne (h.uo _ _ hu) (by simp))⟩
  refine ⟨⟨h.hist.mono.trans hm, by simpa using h.hist.size, fun b' hlt ho => ?_, h.hist.os, h.hist.tape, h.hist.output, h.hist.glb.mono hm⟩, h.size, h.defers, fun t lv ht => hL (h.tm t lv ht), ?_, ?_, ?_, h.uo, ?_, ?_⟩
  · have hnb : b' ≠ b := by
      rintro rfl
      rcases (h.own b' _ h2).2 with hb | hb
      · omega
      · exact ho hb
    obtain ⟨k1, k2⟩ := h.hist.frame b' hlt ho
    exact ⟨(hs.2 b' hnb).trans k1, k2⟩
  · intro k cs' hk
    obtain ⟨b', k1, k2, k3, cur', e', k4, k5, k6⟩ := h.bx k cs' hk
    have hn := hne k2 (by simp)
    exact ⟨b', k1, k2, k3, cur', e', (hs.2 b' hn).trans k4, k5, fun j hj => ⟨(k6 j hj).1, (k6 j hj).2.1, hL (k6 j hj).2.2⟩⟩
  · intro k cs' hk
    rw [lk_put] at hk
    split at hk
    · rename_i ek
      subst ek
      injection hk with hk
      subst hk
      obtain ⟨r1, r2, r3⟩ := hR'
      exact ⟨b, h1, h2, .inr (.inl ⟨es', rfl, hM, arr', clock', hs.1, r1, r2, fun j hj hj' => ⟨(r3 j hj hj').1, (r3 j hj hj').2.mono hm⟩⟩)⟩
    · rename_i ek
      obtain ⟨b', k1, k2, hE⟩ := h.ex k cs' hk
      have hn := hne k2 (by simp; exact fun e => ek e.symm)
      refine ⟨b', k1, k2, ?_⟩
      rcases hE with ⟨k3, cur', e', k4, k5, k6⟩ | hE
      · exact .inl ⟨k3, cur', e', (hs.2 b' hn).trans k4, k5, fun j hj => ⟨(k6 j hj).1, (k6 j hj).2.1, hL (k6 j hj).2.2⟩⟩
      · exact .inr (hE.keep hm (fun _ _ _ h => h) rfl (hs.2 b' hn))
  · intro b' o ho
    simpa using h.own b' o ho
  · exact ⟨fun b' hb' => h.fresh.1 b' (by simpa using hb'), fun n hn => h.fresh.2.1 n (by rw [cnt_put_old hi] at hn; exact hn), fun n c hn => h.fresh.2.2 n c (by rw [cnt_put_old hi] at hn; exact hn)⟩
  · intro n b' hx
    simpa using h.xlt n b' hx

/-! ## Operations -/
def mapT (P : Program) (t : TypeId) : Option TypeId := match P.underlying t with
  | some (.map k e) => match P.underlying k with
    | some .string => some e
    | _ => none
  | _ => none
theorem mapT_inv {ty e : TypeId} (h : mapT P ty = some e) : ∃ k, P.underlying ty = some (.map k e) ∧ P.underlying k = some .string := by
  unfold mapT at h
  split at h
  · rename_i k e' hu
    split at h
    · rename_i hk; injection h with h; subst h; exact ⟨k, hu, hk⟩
    · cases h
  · cases h
def actMU (P : Program) (o : Oper) (ty : TypeId) (m k x : Operand) : RM (List Wr) := match o.dst, mapT P ty with
  | none, some _ => evP m fun pm => evP k fun pk => evP x fun px => match pm, pk with
    | .mp i, .str kb => .getX i fun cs => match cs with
      | [.mm es] => .ret [.ext i 0 [.mm (mupd kb px es)]]
      | _ => .fail
    | _, _ => .fail
  | _, _ => .fail
theorem actMU_sound {ty : TypeId} {m k x : Operand} (ho : o.op = .mapUpdate ty m k x ∨ o.op = .insert ty m k x) (h : Sim cx s g l a w) (hw : (actMU P o ty m k x).wp s K) : OpOK P cx s o K a w := by
  unfold actMU at hw
  split at hw
  · rename_i e hd hT
    obtain ⟨kt, hu, hk⟩ := mapT_inv hT
    obtain ⟨pm, h1, r1⟩ := evP_sound h hw
    obtain ⟨pk, h2, r2⟩ := evP_sound h h1
    obtain ⟨px, h3, r3⟩ := evP_sound h h2
    split at h3
    · rename_i i kb
      simp only [RM.wp] at h3
      split at h3
      · rename_i cs hcs
        split at h3
        · rename_i es
          obtain ⟨b, arr, clock, hb, hh, hR, hsim⟩ := h.wmap (es' := mupd kb px es) hcs
          have e1 : a.eval m = .map (some b) := by
            generalize a.eval m = vm at r1
            cases r1 with
            | mp _ b' hx => rw [hb] at hx; injection hx with hx; rw [hx]
          have e2 : a.eval k = .string kb := by generalize a.eval k = vk at r2; cases r2; rfl
          have hex : ∀ w', (Instr.mapUpdate ty (.map (some b)) (.string kb) (a.eval x)).run P w = .ok () w' → (execOp a.eval o).run P w = .ok .skip w' := fun w' hr => by
            rcases ho with ho | ho <;> simp only [execOp, ho, e1, e2, Sem.run_bind, hr, Result.andThen_ok] <;> rfl
          have fin : ∀ arr' clock', (Instr.mapUpdate ty (.map (some b)) (.string kb) (a.eval x)).run P w = .ok () { w with heap := w.heap.setIfInBounds b (.map arr' clock') } → MapR g w (mupd kb px es) arr' clock' → OpOK P cx s o K a w := fun arr' clock' hr hR' Q => by
            unfold Oper.wp
            rw [hex _ hr, Oper.upon_skip, hd]
            refine ⟨_, g, l, h3, ?_⟩
            have hwr : s.wrs [.ext i 0 [.mm (mupd kb px es)]] = { s with ext := put s.ext i [.mm (mupd kb px es)] } := by simp only [S.wrs, S.wr, hcs]; rfl
            rw [hwr]
            exact hsim arr' clock' hR'
          rcases hR.find kb with ⟨f1, f2, f3⟩ | ⟨j, hj, hj', f1, f2, f3, f4⟩
          · refine fin (arr.push { key := .string kb, val := a.eval x, born := clock }) (clock + 1) ?_ ?_
            · simp [Instr.mapUpdate, run_underlying hu, MapKept.run_getObj_map hh, MapKept.run_checkKey hk (show MapKept.IsKey .string (.string kb) from trivial), MapKept.run_findKey hk f1, MapKept.run_setObj_map _ hh, Result.andThen]
            · rw [mupd_new f3]
              obtain ⟨q1, q2, q3⟩ := hR
              refine ⟨MapKept.stamped_push q1 f2, by simp [q2], fun j hj hj' => ?_⟩
              by_cases hjl : j < es.length
              · have hja : j < arr.size := by omega
                rw [List.getElem_append_left hjl, Array.getElem_push_lt hja]
                exact q3 j hjl hja
              · have hje : j = es.length := by simp at hj; omega
                subst hje
                simp only [List.getElem_append_right (Nat.le_refl _), Nat.sub_self, List.getElem_cons_zero]
                have : (arr.push { key := .string kb, val := a.eval x, born := clock })[es.length] = { key := .string kb, val := a.eval x, born := clock } := by simp [← q2]
                rw [this]
                exact ⟨rfl, r3⟩
          · refine fin (arr.modify j fun e => { e with key := .string kb, val := a.eval x }) clock ?_ ?_
            · have hja : arr[j]? = some arr[j] := Array.getElem?_eq_getElem hj'
              simp [Instr.mapUpdate, run_underlying hu, MapKept.run_getObj_map hh, MapKept.run_checkKey hk (show MapKept.IsKey .string (.string kb) from trivial), MapKept.run_findKey hk f1, hja, f2, MapKept.run_keyThatStays (d := .string) (k := .string kb) trivial, MapKept.run_setObj_map _ hh, Result.andThen]
            · rw [mupd_at hj f3 f4]
              obtain ⟨q1, q2, q3⟩ := hR
              refine ⟨MapKept.stamped_modify q1 _ _ (fun _ _ => rfl) (fun e' _ he' => ?_), by simp [q2], fun i hi hi' => ?_⟩
              · rw [Array.getElem?_eq_getElem hj'] at he'
                injection he' with he'
                rw [← he', f2]
              · have hi2 : i < es.length := by simpa using hi
                have hi3 : i < arr.size := by simpa using hi'
                rw [Array.getElem_modify, List.getElem_set]
                by_cases hij : j = i
                · subst hij; simp only [if_true]; exact ⟨trivial, r3⟩
                · simp only [hij, if_false]; exact q3 i hi2 hi3
        · exact h3.elim
      · exact h3.elim
    · exact h3.elim
  · exact hw.elim
def zroP (P : Program) (t : TypeId) : Option PV := ((P.info? t).bind (·.zero)).bind cv
theorem zroP_inv {t : TypeId} {z : PV} (h : zroP P t = some z) : ∃ v, (∀ w, (zeroValue t).run P w = .ok v w) ∧ ∀ g w, Rep g w z v := by
  unfold zroP at h
  simp only [Option.bind_eq_some_iff] at h
  obtain ⟨v, ⟨i, h1, h2⟩, h3⟩ := h
  exact ⟨v, fun w => by simp [zeroValue, typeInfo, h1, h2], fun g w => cv_rep h3⟩
def luRes (ok : Bool) (m : Option PV) (z : PV) : PV := match ok with
  | true => .tup [m.getD z, .bool m.isSome]
  | false => m.getD z
def actLU (P : Program) (n : Nat) (o : Oper) (ty : TypeId) (x k : Operand) (ok : Bool) : RM (List Wr) := match mapT P ty with
  | some e => match zroP P e with
    | some z => evP x fun px => evP k fun pk => match px, pk with
      | .mp i, .str kb => .getX i fun cs => match cs with
        | [.mm es] => wv n o (.v (luRes ok (mget kb es) z))
        | _ => .fail
      | .mpn, .str _ => wv n o (.v (luRes ok none z))
      | _, _ => .fail
    | none => .fail
  | none => .fail
theorem actLU_sound {ty : TypeId} {x k : Operand} {ok : Bool} (ho : o.op = .lookup ty x k ok) (h : Sim cx s g l a w) (hw : (actLU P cx.n o ty x k ok).wp s K) : OpOK P cx s o K a w := by
  unfold actLU at hw
  split at hw
  · rename_i e hT
    obtain ⟨kt, hu, hk⟩ := mapT_inv hT
    split at hw
    · rename_i z hz
      obtain ⟨zv, hz1, hz2⟩ := zroP_inv hz
      obtain ⟨px, h1, r1⟩ := evP_sound h hw
      obtain ⟨pk, h2, r2⟩ := evP_sound h h1
      have hres : ∀ {m : Option PV} {v : Value}, Rep g w (m.getD z) v → Rep g w (luRes ok m z) (if ok then .tuple #[v, .bool m.isSome] else v) := fun {m v} hr => by
        cases ok with
        | true =>
          refine .tup [m.getD z, .bool m.isSome] [v, .bool m.isSome] rfl fun j hj hj' => ?_
          match j, hj with
          | 0, _ => exact hr
          | 1, _ => exact .bool _
        | false => exact hr
      have hex : ∀ v, (Instr.lookup ty (a.eval x) (a.eval k) ok).run P w = .ok v w → (execOp a.eval o).run P w = .ok (.value v) w := fun v hr => by
        simp only [execOp, ho, Sem.run_bind, hr, Result.andThen_ok]; rfl
      split at h2
      · rename_i i kb
        simp only [RM.wp] at h2
        split at h2
        · rename_i cs hcs
          split at h2
          · rename_i es
            obtain ⟨b, arr, clock, hb, hh, hR, -⟩ := h.wmap (es' := []) hcs
            have e1 : a.eval x = .map (some b) := by
              generalize a.eval x = vm at r1
              cases r1 with
              | mp _ b' hx => rw [hb] at hx; injection hx with hx; rw [hx]
            have e2 : a.eval k = .string kb := by generalize a.eval k = vk at r2; cases r2; rfl
            rw [e1, e2] at hex
            rcases hR.find kb with ⟨f1, f2, f3⟩ | ⟨j, hj, hj', f1, f2, f3, f4⟩
            · rw [mget_none f3] at h2
              refine OpOK.value (v := if ok then .tuple #[zv, .bool false] else zv) h2 h (fun _ => hres (m := none) (hz2 g w)) (hex _ ?_)
              simp [Instr.lookup, run_underlying hu, MapKept.run_getObj_map hh, MapKept.run_checkKey hk (show MapKept.IsKey .string (.string kb) from trivial), MapKept.run_findKey hk f1, hz1, Result.andThen]
            · rw [mget_at hj f3 f4] at h2
              refine OpOK.value (v := if ok then .tuple #[arr[j].val, .bool true] else arr[j].val) h2 h (fun _ => hres (m := some es[j].2) (hR.2.2 j hj hj').2) (hex _ ?_)
              simp [Instr.lookup, run_underlying hu, MapKept.run_getObj_map hh, MapKept.run_checkKey hk (show MapKept.IsKey .string (.string kb) from trivial), MapKept.run_findKey hk f1, Result.andThen]
          · exact h2.elim
        · exact h2.elim
      · rename_i kb
        have e1 : a.eval x = .map none := by generalize a.eval x = vm at r1; cases r1; rfl
        have e2 : a.eval k = .string kb := by generalize a.eval k = vk at r2; cases r2; rfl
        rw [e1, e2] at hex
        refine OpOK.value (v := if ok then .tuple #[zv, .bool false] else zv) h2 h (fun _ => hres (m := none) (hz2 g w)) (hex _ ?_)
        simp [Instr.lookup, run_underlying hu, MapKept.run_checkKey hk (show MapKept.IsKey .string (.string kb) from trivial), MapKept.run_findKey hk (l := []) (a := none) (k := .string kb) rfl, hz1, Result.andThen]
      · exact h2.elim
    · exact hw.elim
  · exact hw.elim
/-- A byte of a string. -/
def arrT (P : Program) (ty : TypeId) : Option (Nat × TypeId) := match P.underlying ty with
  | some (.array n e) => some (n, e)
  | _ => none
def actIdx (P : Program) (n : Nat) (o : Oper) (ty : TypeId) (x i : Operand) : RM (List Wr) := if isStrT P ty = true then evP x fun p => evP i fun q => match p, q with
    | .str b, .int _ k => .assume (decide (0 ≤ k ∧ k < b.size)) (wv n o (.v (.int .u8 (b.data.toList.getD k.toNat 0).toNat)))
    | _, _ => .fail
  else match arrT P ty with
    | some (N, e) => match csz P e with
      | some m => evP x fun p => evP i fun q => match p, q with
        | .agg cs, .int _ k => .assume (decide (0 ≤ k ∧ k < N)) (match segP P e cs (k.toNat * m) with
          | some q => wv n o (.v q)
          | none => .fail)
        | _, _ => .fail
      | none => .fail
    | none => .fail
theorem actIdx_sound {ty : TypeId} {x i : Operand} (ho : o.op = .index ty x i) (h : Sim cx s g l a w) (hw : (actIdx P cx.n o ty x i).wp s K) : OpOK P cx s o K a w := by
  unfold actIdx at hw
  split at hw
  · rename_i hst
    unfold isStrT at hst
    split at hst
    · rename_i hu
      obtain ⟨p, h1, r1⟩ := evP_sound h hw
      obtain ⟨q, h2, r2⟩ := evP_sound h h1
      have hex : ∀ v, (Instr.index ty (a.eval x) (a.eval i)).run P w = .ok v w → (execOp a.eval o).run P w = .ok (.value v) w := fun v hr => by
        simp only [execOp, ho, Sem.run_bind, hr, Result.andThen_ok]; rfl
      generalize a.eval x = vx at r1 hex
      generalize a.eval i = vi at r2 hex
      split at h2
      · rename_i b ki k
        cases r1
        cases r2
        obtain ⟨hb, h3⟩ := h2
        obtain ⟨hb0, hb1⟩ := of_decide_eq_true hb
        refine OpOK.pure h h3 (.int _ _) (hex _ ?_)
        have hk : k.toNat < b.size := by omega
        have e1 : b[k.toNat]? = some b[k.toNat] := by simp [hk]
        have e2 : b.data.toList.getD k.toNat 0 = b[k.toNat] := by
          have hk' : k.toNat < b.data.size := hk
          have : b.data.toList.getD k.toNat 0 = b.data[k.toNat] := by simp [List.getD, Array.getElem?_eq_getElem hk']
          exact this
        simp only [Instr.index, asIntOf, Sem.run_bind, Sem.run_pure, Result.andThen_ok, run_underlying hu, hb0, if_true, e1, e2]
      · exact h2.elim
    · cases hst
  · split at hw
    · rename_i N e he
      have hu : P.underlying ty = some (.array N e) := by
        unfold arrT at he
        split at he
        · rename_i n' e' hu; simp only [Option.some.injEq, Prod.mk.injEq] at he; obtain ⟨rfl, rfl⟩ := he; exact hu
        · cases he
      split at hw
      · rename_i m hm
        obtain ⟨p, h1, r1⟩ := evP_sound h hw
        obtain ⟨q, h2, r2⟩ := evP_sound h h1
        have hex : ∀ v, (Instr.index ty (a.eval x) (a.eval i)).run P w = .ok v w → (execOp a.eval o).run P w = .ok (.value v) w := fun v hr => by
          simp only [execOp, ho, Sem.run_bind, hr, Result.andThen_ok]; rfl
        generalize a.eval x = vx at r1 hex
        generalize a.eval i = vi at r2 hex
        split at h2
        · rename_i cs ki k
          cases r2
          obtain ⟨hb, h3⟩ := h2
          have hb := of_decide_eq_true hb
          split at h3
          · rename_i q hq
            cases r1 with
            | agg _ vs hl hone hr =>
              obtain ⟨v, k1, k2⟩ := segP_part (P := P) hq ⟨hl, hr⟩ hone
              refine OpOK.pure h h3 k2 (hex _ ?_)
              simp only [Instr.index, asIntOf, Sem.run_bind, Sem.run_pure, Result.andThen_ok, run_underlying hu, if_pos hb, run_sizeOf hm, k1]
          · exact h3.elim
        · exact h2.elim
      · exact hw.elim
    · exact hw.elim
/-! ## Parts of slices -/
def intO (x : Option Operand) (d : Nat) (k : Int → RM (List Wr)) : RM (List Wr) := match x with
  | none => k d
  | some y => evP y fun q => match q with
    | .int _ i => k i
    | _ => .fail
def actSl (P : Program) (n : Nat) (o : Oper) (ty : TypeId) (x : Operand) (lo hi : Option Operand) : RM (List Wr) := match elemT P ty with
  | some e => match csz P e with
    | some z' => evP x fun p => match p with
      | .sl z es => if z = z' then intO hi es.length fun h => intO lo 0 fun k => .assume (decide (0 ≤ k ∧ k ≤ h ∧ h ≤ es.length)) (wv n o (.v (.sl z ((es.take h.toNat).drop k.toNat)))) else .fail
      | _ => .fail
    | none => .fail
  | none => .fail
theorem intO_sound {x : Option Operand} {d : Nat} {k : Int → RM (List Wr)} (h : Sim cx s g l a w) (hw : (intO x d k).wp s K) :
    ∃ i : Int, (k i).wp s K ∧ ((x = none ∧ i = d) ∨ ∃ y ki, x = some y ∧ a.eval y = .int ki i) := by
  unfold intO at hw
  split at hw
  · exact ⟨d, hw, .inl ⟨rfl, rfl⟩⟩
  · rename_i y
    obtain ⟨q, h1, r1⟩ := evP_sound h hw
    split at h1
    · rename_i ki i
      refine ⟨i, h1, .inr ⟨y, ki, rfl, ?_⟩⟩
      generalize a.eval y = v at r1
      cases r1
      rfl
    · exact h1.elim
theorem actSl_sound {ty : TypeId} {x : Operand} {lo hi : Option Operand} (ho : o.op = .slice ty x lo hi none) (h : Sim cx s g l a w) (hw : (actSl P cx.n o ty x lo hi).wp s K) : OpOK P cx s o K a w := by
  unfold actSl at hw
  split at hw
  · rename_i e he
    split at hw
    · rename_i z' hz
      obtain ⟨p, h1, r1⟩ := evP_sound h hw
      split at h1
      · rename_i z es
        split at h1
        · rename_i hzz
          subst hzz
          obtain ⟨hh, h2, hhi⟩ := intO_sound h h1
          obtain ⟨kk, h3, hlo⟩ := intO_sound h h2
          obtain ⟨hb, h4⟩ := h3
          obtain ⟨b0, b1, b2⟩ := of_decide_eq_true hb
          have hu : P.underlying ty = some (.slice e) := by
            unfold elemT at he
            split at he
            · rename_i e' hu; injection he with he; rw [hu, he]
            · cases he
          have hel : P.elem ty = e := by simp [Program.elem, hu]
          have hu' : P.underlying ty = some (.slice (P.elem ty)) := by rw [hel]; exact hu
          have hsz : (sizeOf (P.elem ty)).run P w = .ok z w := by rw [hel]; exact run_sizeOf hz
          have hex : ∀ v, (Instr.slice ty (a.eval x) (lo.map a.eval) (hi.map a.eval) none).run P w = .ok v w → (execOp a.eval o).run P w = .ok (.value v) w := fun v hr => by
            simp only [execOp, ho, Option.map_none, Sem.run_bind, run_sliceAt_slice _ _ _ _ _ _ hu', hr, Result.andThen_ok]; rfl
          have hrun : ∀ (ad : Option Addr) (cap : Nat), es.length ≤ cap → (Instr.slice ty (.slice ad es.length cap) (lo.map a.eval) (hi.map a.eval) none).run P w = .ok (sliced ad kk.toNat hh.toNat cap z) w := by
            intro ad cap hcap
            rcases hhi with ⟨rfl, rfl⟩ | ⟨y, ki, rfl, hy⟩
            · rcases hlo with ⟨rfl, rfl⟩ | ⟨y', ki', rfl, hy'⟩
              · simp only [Option.map_none]
                rw [run_slice_all (ht := hu'), hsz]
                rfl
              · simp only [Option.map_none, Option.map_some, hy']
                rw [run_slice_l (ht := hu') (h0 := b0) (h1 := b1), hsz]
                rfl
            · rcases hlo with ⟨rfl, rfl⟩ | ⟨y', ki', rfl, hy'⟩
              · simp only [Option.map_none, Option.map_some, hy]
                rw [run_slice_h (ht := hu') (h0 := by omega) (h2 := by omega), hsz]
                rfl
              · simp only [Option.map_some, hy, hy']
                rw [run_slice_lh (ht := hu') (h0 := b0) (h1 := b1) (h2 := by omega), hsz]
                rfl
          have hlen : ((es.take hh.toNat).drop kk.toNat).length = hh.toNat - kk.toNat := by
            rw [List.length_drop, List.length_take]
            omega
          generalize a.eval x = vx at r1 hex
          cases r1 with
          | slnil _ =>
            have := hrun none 0 (by simp)
            simp only [List.length_nil] at b2 this
            have hk0 : kk.toNat = 0 := by omega
            have hh0 : hh.toNat = 0 := by omega
            refine OpOK.pure h h4 (v := .slice none 0 0) ?_ (hex _ ?_)
            · simp only [List.take_nil, List.drop_nil]; exact .slnil z
            · rw [this, hk0, hh0]; rfl
          | sl _ _ ad cap vs hle hcap hsz' hc hf h1' hr =>
            refine OpOK.pure h h4 (v := sliced (some ad) kk.toNat hh.toNat cap z) ?_ (hex _ (hrun _ _ hle))
            unfold sliced
            rw [← hlen]
            by_cases hck : cap = kk.toNat
            · have hnil : (es.take hh.toNat).drop kk.toNat = [] := List.eq_nil_of_length_eq_zero (by rw [hlen]; omega)
              rw [if_pos hck, hnil]
              exact .sl z [] ad _ vs (by simp) (by omega) (fun i hi => by simp at hi) (fun i j hi => by simp at hi) (fun i j hi => by simp at hi) (fun i j hi => by simp at hi) (fun i j hi => by simp at hi)
            · rw [if_neg hck]
              simp only [Option.map_some]
              have hidx : ∀ i (hi : i < ((es.take hh.toNat).drop kk.toNat).length), ∃ h2 : kk.toNat + i < es.length, ((es.take hh.toNat).drop kk.toNat)[i] = es[kk.toNat + i] := fun i hi => by
                have h3 : kk.toNat + i < es.length := by rw [hlen] at hi; omega
                exact ⟨h3, by simp⟩
              refine .sl z _ (ad.add (kk.toNat * z)) _ (fun i j => vs (kk.toNat + i) j) (by rw [hlen]; omega) (by omega) (fun i hi => ?_) (fun i j hi hj => ?_) (fun i j hi hj => ?_) (fun i j hi hj => ?_) (fun i j hi hj => ?_)
              · obtain ⟨h3, h4'⟩ := hidx i hi
                rw [h4']; exact hsz' _ h3
              · obtain ⟨h3, h4'⟩ := hidx i hi
                rw [Addr.add_add, show kk.toNat * z + (i * z + j) = (kk.toNat + i) * z + j by rw [Nat.add_mul]; omega]
                exact hc _ j h3 hj
              · obtain ⟨h3, h4'⟩ := hidx i hi
                have := hf _ j h3 hj
                have e1 : (ad.add (kk.toNat * z)).block = ad.block := by unfold Addr.add; split <;> rfl
                have e2 : (ad.add (kk.toNat * z)).off = ad.off + kk.toNat * z := by unfold Addr.add; split <;> simp_all
                rw [e1, e2, show ad.off + kk.toNat * z + (i * z + j) = ad.off + ((kk.toNat + i) * z + j) by rw [Nat.add_mul]; omega]
                exact this
              · obtain ⟨h3, h4'⟩ := hidx i hi
                exact h1' _ j h3 hj
              · obtain ⟨h3, h4'⟩ := hidx i hi
                have hj' : j < es[kk.toNat + i].length := by rw [← h4']; exact hj
                have := hr _ j h3 hj'
                simp only [h4']
                exact this
        · exact h1.elim
      · exact h1.elim
    · exact hw.elim
  · exact hw.elim
end
end Go.Pv
