/- Pure values, eighth part: further operations that only compute. -/
import Derived.Test.YtmllcplaohkjnaaGreatDoorPv7
set_option linter.unusedVariables false
set_option linter.unusedSimpArgs false
set_option linter.unusedSectionVars false
namespace Go.Pv
open Go.RowKit

section
variable {P : Program} {cx : Cx} {s t : S} {g : Gh} {l : LG} {a : Act} {w : World} {o : Oper} {K : List Wr → Prop}

/-! ### one operand -/
def actUn (n : Nat) (o : Oper) (op : UnOp) (x : Operand) : RM (List Wr) := evP x fun p => match op, p with
  | .not, .bool b => wv n o (.v (.bool (!b)))
  | .neg, .int k i => wv n o (.v (.int k (k.wrap (0 - i))))
  | _, _ => .fail
theorem actUn_sound {op : UnOp} {ty : TypeId} {x : Operand} (ho : o.op = .unOp op ty x) (h : Sim cx s g l a w) (hw : (actUn cx.n o op x).wp s K) : OpOK P cx s o K a w := by
  obtain ⟨p, h1, r1⟩ := evP_sound h hw
  have hex : ∀ v, (Op.unary op (a.eval x)).run P w = .ok v w → (execOp a.eval o).run P w = .ok (.value v) w := by
    intro v hv
    simp only [execOp, ho, Sem.run_bind, hv, Result.andThen_ok, Sem.run_pure]
  generalize a.eval x = vx at r1 hex
  split at h1
  · cases r1; exact OpOK.pure h h1 (.bool _) (hex _ rfl)
  · cases r1; exact OpOK.pure h h1 (.int _ _) (hex _ rfl)
  · exact h1.elim

def actConv (P : Program) (n : Nat) (o : Oper) (dst : TypeId) (x : Operand) : RM (List Wr) := evP x fun p => match intT P dst, p with
  | some k, .int _ i => wv n o (.v (.int k (k.wrap i)))
  | _, _ => .fail
theorem intT_inv {ty : TypeId} {k : IntKind} (h : intT P ty = some k) : P.underlying ty = some (.int k) := by
  unfold intT at h
  split at h
  · rename_i hu; injection h with h; subst h; exact hu
  · cases h
theorem actConv_sound {src dst : TypeId} {x : Operand} (ho : o.op = .convert src dst x) (hsrc : (P.underlying src).isSome = true) (h : Sim cx s g l a w) (hw : (actConv P cx.n o dst x).wp s K) : OpOK P cx s o K a w := by
  obtain ⟨p, h1, r1⟩ := evP_sound h hw
  have hex : ∀ v, (convert src dst (a.eval x)).run P w = .ok v w → (execOp a.eval o).run P w = .ok (.value v) w := by
    intro v hv
    simp only [execOp, ho, Sem.run_bind, hv, Result.andThen_ok, Sem.run_pure]
  generalize a.eval x = vx at r1 hex
  split at h1
  · rename_i k i hk
    cases r1
    obtain ⟨d, hd⟩ := Option.isSome_iff_exists.1 hsrc
    refine OpOK.pure h h1 (.int _ _) (hex _ ?_)
    simp only [convert, Sem.run_bind, run_underlying hd, run_underlying (intT_inv hk), Result.andThen_ok]
    rfl
  · exact h1.elim

def notIface (P : Program) (t : TypeId) : Bool := match P.underlying t with
  | some (.interface _) => false
  | some _ => true
  | none => false
def actMkI (P : Program) (n : Nat) (o : Oper) (ty : TypeId) (x : Operand) : RM (List Wr) := evP x fun p => if notIface P ty = true then wv n o (.v (.iface ty p)) else .fail
theorem actMkI_sound {ty : TypeId} {x : Operand} (ho : o.op = .makeInterface ty x) (h : Sim cx s g l a w) (hw : (actMkI P cx.n o ty x).wp s K) : OpOK P cx s o K a w := by
  obtain ⟨p, h1, r1⟩ := evP_sound h hw
  split at h1
  · rename_i hn
    refine OpOK.pure h h1 (.iface ty p _ r1) ?_
    unfold notIface at hn
    split at hn
    · cases hn
    · rename_i d hd hu
      simp only [execOp, ho, Instr.makeInterface, Sem.run_bind, run_underlying hu, Result.andThen_ok]
      rfl
    · cases hn
  · exact h1.elim

def actMkF (n : Nat) (o : Oper) (fn : Fn) (first captured : Array Operand) : RM (List Wr) := evs first.toList fun ps => evs captured.toList fun qs => wv n o (.v (.fn fn ps qs))
theorem actMkF_sound {fn : Fn} {first captured : Array Operand} (ho : o.op = .makeFunc fn first captured) (h : Sim cx s g l a w) (hw : (actMkF cx.n o fn first captured).wp s K) : OpOK P cx s o K a w := by
  obtain ⟨ps, h1, r1⟩ := evs_sound h hw
  obtain ⟨qs, h2, r2⟩ := evs_sound h h1
  refine OpOK.pure h h2 (.fn fn ps qs _ _ r1.1 r2.1 r1.2 r2.2) ?_
  simp only [execOp, ho, Instr.makeFunc, Sem.run_bind, Sem.run_pure, Result.andThen_ok]
  congr 2
  simp [← Array.toList_map]

/-- The method of a type, where no embedding leads to it. -/
def methT (P : Program) (t : TypeId) (name : String) : Option FuncId := match P.info? t with
  | some i => match i.methods.find? (·.name == name) with
    | some m => if m.path.toList.isEmpty = true then match m.func, P.underlying t with
        | some (_, false), some (.pointer _) => none
        | some (f, false), some _ => some f
        | some (f, true), some (.pointer _) => some f
        | _, _ => none
      else none
    | none => none
  | none => none
theorem run_nilAhead {t : TypeId} {name : String} {f : FuncId} {v : Value} (h : methT P t name = some f) : (nilAhead (P.types.size + Made.depth) t v name).run P w = .ok (some false) w := by
  unfold methT at h
  split at h
  · rename_i i hi
    split at h
    · rename_i m hm
      split at h
      · rename_i hp
        have hp' : m.path.toList = [] := by simpa using hp
        have hd : P.types.size + Made.depth = (P.types.size + (Made.depth - 1)) + 1 := by
          have : 0 < Made.depth := by decide
          omega
        rw [hd]
        split at h
        · cases h
        · rename_i f' u hn hf hu
          simp only [nilAhead, Sem.run_bind, typeInfo, run_program, Result.andThen_ok, hi, Sem.run_pure, hm, hp', followBlind, hf, run_underlying hu]
          cases u <;> first | (exact (hn _ rfl).elim) | (simp; done)
        · rename_i f' hf hu
          simp [nilAhead, typeInfo, hi, hm, hp', followBlind, hf]
        · cases h
      · cases h
    · cases h
  · cases h
def actNil (P : Program) (n : Nat) (o : Oper) (x : Operand) : RM (List Wr) := ev x fun lv => match lv with
  | .v (.fn (.method name) (.iface t q :: ps) qs) => if (methT P t name).isSome = true then wv n o (.v (.fn (.method name) (.iface t q :: ps) qs)) else .fail
  | .v (.fn (.method name) (.ifm t f q :: ps) qs) => .assume (decide (methT P t name = some f)) (wv n o (.v (.fn (.method name) (.ifm t f q :: ps) qs)))
  | .lp i off => wv n o (.lp i off)
  | .v (.ro cs off) => wv n o (.v (.ro cs off))
  | .v (.xp m off) => wv n o (.v (.xp m off))
  | .v (.fn (.func f) ps qs) => wv n o (.v (.fn (.func f) ps qs))
  | _ => .fail
theorem actNil_sound {x : Operand} (ho : o.op = .nilCheck x) (h : Sim cx s g l a w) (hw : (actNil P cx.n o x).wp s K) : OpOK P cx s o K a w := by
  obtain ⟨lv, u, h1, r1, -⟩ := ev_sound h hw
  have hex : ∀ v, v = a.eval x → (∃ b, v = .pointer (some b)) ∨ (∃ f p q, v = .func (.func f) p q) → (execOp a.eval o).run P w = .ok (.value v) w := by
    intro v hv hc
    subst hv
    simp only [execOp, ho]
    rcases hc with ⟨b, hb⟩ | ⟨f, p, q, hb⟩ <;> rw [hb] <;> rfl
  have hex2 : ∀ t name f v fv (qv : Array Value), methT P t name = some f → a.eval x = .func (.method name) (Value.iface t v :: fv).toArray qv → (execOp a.eval o).run P w = .ok (.value (.func (.method name) (Value.iface t v :: fv).toArray qv)) w := by
    intro t name f v fv qv hm hv
    have e0 : (Value.iface t v :: fv).toArray[0]? = some (.iface t v) := by simp
    simp only [execOp, ho, hv, e0, Sem.run_bind, run_program, Result.andThen_ok, run_nilAhead hm]
    simp
  generalize a.eval x = vx at r1 hex hex2
  split at h1
  · rename_i name t q ps qs
    split at h1
    · rename_i hm
      obtain ⟨f, hf⟩ := Option.isSome_iff_exists.1 hm
      refine OpOK.pure h h1 r1 ?_
      cases r1 with
      | fn _ _ _ fv cv l1 l2 r3 r4 =>
        cases fv with
        | nil => simp at l1
        | cons v0 fv =>
          have := r3 0 (by simp) (by simp)
          simp only [List.getElem_cons_zero] at this
          cases this with
          | iface _ _ v hv => exact hex2 t name f v fv _ hf rfl
    · exact h1.elim
  · rename_i name t f q ps qs
    obtain ⟨hd, h1⟩ := h1
    have hf := of_decide_eq_true hd
    refine OpOK.pure h h1 r1 ?_
    cases r1 with
    | fn _ _ _ fv cv l1 l2 r3 r4 =>
      cases fv with
      | nil => simp at l1
      | cons v0 fv =>
        have := r3 0 (by simp) (by simp)
        simp only [List.getElem_cons_zero] at this
        cases this with
        | ifm _ _ _ v hv => exact hex2 t name f v fv _ hf rfl
  · obtain ⟨b, hb, rfl⟩ := r1
    exact OpOK.value h1 h (fun _ => ⟨b, hb, rfl⟩) (hex _ rfl (.inl ⟨_, rfl⟩))
  · refine OpOK.pure h h1 r1 (hex _ rfl ?_)
    cases r1; exact .inl ⟨_, rfl⟩
  · refine OpOK.pure h h1 r1 (hex _ rfl ?_)
    cases r1; exact .inl ⟨_, rfl⟩
  · refine OpOK.pure h h1 r1 (hex _ rfl ?_)
    cases r1; exact .inr ⟨_, _, _, rfl⟩
  · exact h1.elim

/-! ### fields -/
def actFA (P : Program) (n : Nat) (o : Oper) (ty : TypeId) (x : Operand) (f : Nat) : RM (List Wr) := match foff P ty f with
  | some (fo, ft) => match csz P ft with
    | some (_ + 1) => ev x fun lv => match lv with
      | .lp i off => wv n o (.lp i (off + fo))
      | .v (.ro cs off) => wv n o (.v (.ro cs (off + fo)))
      | .v (.xp m off) => wv n o (.v (.xp m (off + fo)))
      | _ => .fail
    | _ => .fail
  | none => .fail
theorem foff_inv {ty : TypeId} {f fo : Nat} {ft : TypeId} (h : foff P ty f = some (fo, ft)) : ∃ fs fd, P.underlying ty = some (.struct fs) ∧ fs[f]? = some fd ∧ fd.offset = fo ∧ fd.type = ft := by
  unfold foff at h
  split at h
  · rename_i fs hu
    simp only [Option.map_eq_some_iff, Prod.mk.injEq] at h
    obtain ⟨fd, h1, h2, h3⟩ := h
    exact ⟨fs, fd, hu, h1, h2, h3⟩
  · cases h
theorem run_fieldAt {ty : TypeId} {f fo : Nat} {ft : TypeId} {m : Nat} (h : foff P ty f = some (fo, ft)) (hs : csz P ft = some (m + 1)) (b off : Nat) : (Instr.fieldAt ty (.pointer (some ⟨b, off, none⟩)) f).run P w = .ok (.pointer (some ⟨b, off + fo, none⟩)) w := by
  obtain ⟨fs, fd, hu, hf, rfl, rfl⟩ := foff_inv h
  have hadd : (⟨b, off, none⟩ : Addr).add fd.offset = ⟨b, off + fd.offset, none⟩ := by unfold Addr.add; split <;> simp_all
  simp only [Instr.fieldAt, Sem.run_bind, run_underlying hu, Result.andThen_ok, hf, Instr.sureAddr, Sem.run_pure, fieldPlace, run_sizeOf hs]
  simp [hadd]
theorem actFA_sound {ty : TypeId} {x : Operand} {f : Nat} (ho : o.op = .fieldAddr ty x f) (h : Sim cx s g l a w) (hw : (actFA P cx.n o ty x f).wp s K) : OpOK P cx s o K a w := by
  unfold actFA at hw
  split at hw
  · rename_i fo ft hfo
    split at hw
    · rename_i m hm
      obtain ⟨lv, u, h1, r1, -⟩ := ev_sound h hw
      have hex : ∀ b off, a.eval x = .pointer (some ⟨b, off, none⟩) → (execOp a.eval o).run P w = .ok (.value (.pointer (some ⟨b, off + fo, none⟩))) w := by
        intro b off hv
        simp only [execOp, ho, hv, Sem.run_bind, run_fieldAt hfo hm, Result.andThen_ok, Sem.run_pure]
      generalize a.eval x = vx at r1 hex
      split at h1
      · obtain ⟨b, hb, rfl⟩ := r1
        exact OpOK.value h1 h (fun _ => ⟨b, hb, rfl⟩) (hex _ _ rfl)
      · cases r1 with
        | ro _ off' b oo vs hc hf h1' hr =>
          have := hex b _ rfl
          rw [Nat.add_assoc] at this
          exact OpOK.pure h h1 (.ro _ _ b oo vs hc hf h1' hr) this
      · cases r1 with
        | xp _ off b hx => exact OpOK.pure h h1 (.xp _ _ b hx) (hex _ _ rfl)
      · exact h1.elim
    · exact hw.elim
  · exact hw.elim

def segP (P : Program) (ty : TypeId) (cs : List PV) (off : Nat) : Option PV := match aggT P ty with
  | some true => match csz P ty with
    | some m => if off + m ≤ cs.length then some (.agg ((cs.drop off).take m)) else none
    | none => none
  | some false => cs[off]?
  | none => none
theorem segP_part {ty : TypeId} {cs : List PV} {off : Nat} {p : PV} {vs : List Value} (h : segP P ty cs off = some p) (hr : RepAll g w cs vs) (ho : ∀ v ∈ vs, v.oneCell' = true) : ∃ v, (part ty vs.toArray off).run P w = .ok v w ∧ Rep g w p v := by
  unfold segP at h
  split at h
  · rename_i ha
    split at h
    · rename_i m hm
      split at h
      · rename_i hle
        injection h with h
        subst h
        refine ⟨.agg ((vs.drop off).take m).toArray, ?_, ?_⟩
        · simp only [part, Sem.run_bind, run_isAgg ha, Result.andThen_ok, if_true, run_sizeOf hm, Sem.run_pure]
          congr 2
          apply Array.ext'
          simp [List.extract_eq_take_drop]
        · refine .agg _ _ (by simp [hr.1]) (fun v hv => ho v (List.mem_of_mem_drop (List.mem_of_mem_take hv))) fun j hj hj' => ?_
          simp only [List.getElem_take, List.getElem_drop]
          exact hr.2 _ _ _
      · cases h
    · cases h
  · rename_i ha
    have hlt := (List.getElem?_eq_some_iff.1 h).1
    have hlt' : off < vs.length := by rw [← hr.1]; exact hlt
    refine ⟨vs[off], ?_, ?_⟩
    · simp [part, run_isAgg ha, List.getElem?_eq_getElem hlt']
    · have := hr.2 off hlt hlt'
      rw [List.getElem?_eq_getElem hlt] at h
      injection h with h
      rw [← h]; exact this
  · cases h
def actField (P : Program) (n : Nat) (o : Oper) (ty : TypeId) (x : Operand) (f : Nat) : RM (List Wr) := match foff P ty f with
  | some (fo, ft) => evP x fun p => match p with
    | .agg cs => match segP P ft cs fo with
      | some q => wv n o (.v q)
      | none => .fail
    | _ => .fail
  | none => .fail
theorem actField_sound {ty : TypeId} {x : Operand} {f : Nat} (ho : o.op = .field ty x f) (h : Sim cx s g l a w) (hw : (actField P cx.n o ty x f).wp s K) : OpOK P cx s o K a w := by
  unfold actField at hw
  split at hw
  · rename_i fo ft hfo
    obtain ⟨p, h1, r1⟩ := evP_sound h hw
    obtain ⟨fs, fd, hu, hf, rfl, rfl⟩ := foff_inv hfo
    have hex : ∀ v vs, a.eval x = .agg vs → (part fd.type vs fd.offset).run P w = .ok v w → (execOp a.eval o).run P w = .ok (.value v) w := by
      intro v vs hv hp
      simp only [execOp, ho, hv, Instr.field, Sem.run_bind, run_underlying hu, Result.andThen_ok, hf, asAgg, Sem.run_pure, hp]
    generalize a.eval x = vx at r1 hex
    split at h1
    · rename_i cs
      split at h1
      · rename_i q hq
        cases r1 with
        | agg _ vs hl hone hr =>
          obtain ⟨v, k1, k2⟩ := segP_part (P := P) hq ⟨hl, hr⟩ hone
          exact OpOK.pure h h1 k2 (hex _ _ rfl k1)
      · exact h1.elim
    · exact h1.elim
  · exact hw.elim

/-! ### indexes -/
def slOf : LV → Option (Nat × List (List PV))
  | .v (.sl z es) => some (z, es)
  | .uniq _ z es => some (z, es)
  | .full z es => some (z, es)
  | _ => none
theorem slOf_toP {lv : LV} {z : Nat} {es : List (List PV)} (h : slOf lv = some (z, es)) : toP lv = some (.sl z es) := by
  unfold slOf at h
  split at h <;> first | (cases h; done) | (injection h with h; injection h with h1 h2; subst h1 h2; rfl)
def xslOf : LV → Option (Nat × Nat × Nat)
  | .v (.xsl x z len) => some (x, z, len)
  | _ => none
def yslOf : LV → Option (Nat × Nat × Nat)
  | .v (.ysl x c len) => some (x, c, len)
  | _ => none
def actIA (P : Program) (n : Nat) (o : Oper) (ty : TypeId) (x i : Operand) : RM (List Wr) := match (elemT P ty).bind (csz P) with
  | some (m + 1) => ev x fun lv => evP i fun q => match yslOf lv, xslOf lv, slOf lv, q with
    | some (x, c, len), _, _, .int _ j => if m = 0 then .assume (decide (0 ≤ j ∧ j < len)) (wv n o (.v (.yp x c j.toNat))) else .fail
    | none, some (x, z, len), _, .int _ j => if z = m + 1 then .assume (decide (0 ≤ j ∧ j < len)) (wv n o (.v (.xp x (j.toNat * (m + 1))))) else .fail
    | none, none, some (z, es), .int _ j => if z = m + 1 then .assume (decide (0 ≤ j ∧ j < es.length)) (wv n o (.v (.ro (es.getD j.toNat []) 0))) else .fail
    | _, _, _, _ => .fail
  | _ => .fail
theorem elemT_inv {ty e : TypeId} (h : elemT P ty = some e) : P.underlying ty = some (.slice e) := by
  unfold elemT at h
  split at h
  · rename_i hu; injection h with h; subst h; exact hu
  · cases h
theorem Rep.elem {z : Nat} {es : List (List PV)} {a : Addr} {n cap i : Nat} (h : Rep g w (.sl z es) (.slice (some a) n cap)) (hz : 0 < z) (hi : i < es.length) : Rep g w (.ro es[i] 0) (.pointer (some (a.add (i * z)))) := by
  cases h with
  | sl _ _ _ _ vs hle hcap hsz hc hf h1 hr =>
    have h0 := hc i 0 hi hz
    have ha := cell_add h0
    rw [Nat.add_zero] at ha
    rw [ha]
    refine .ro es[i] 0 a.block (a.off + i * z) (vs i) (fun j hj => ?_) (fun j hj => ?_) (fun j hj => h1 i j hi (by rw [← hsz i hi]; exact hj)) fun j hj => hr i j hi hj
    · have hj' : j < z := by rw [← hsz i hi]; exact hj
      have := hc i j hi hj'
      rw [cell_add this] at this
      rw [Nat.add_assoc]
      exact this
    · have hj' : j < z := by rw [← hsz i hi]; exact hj
      rw [Nat.add_assoc]
      exact hf i j hi hj'
theorem actIA_sound {ty : TypeId} {x i : Operand} (ho : o.op = .indexAddr ty x i) (h : Sim cx s g l a w) (hw : (actIA P cx.n o ty x i).wp s K) : OpOK P cx s o K a w := by
  unfold actIA at hw
  split at hw
  · rename_i m hm
    simp only [Option.bind_eq_some_iff] at hm
    obtain ⟨e, he, hme⟩ := hm
    have hu := elemT_inv he
    obtain ⟨lv, u, h1, r1, -⟩ := ev_sound h hw
    obtain ⟨q, h2, r2⟩ := evP_sound h h1
    have hex : ∀ b len cap k (j : Int), a.eval x = .slice (some b) len cap → a.eval i = .int k j → 0 ≤ j ∧ j < len → (execOp a.eval o).run P w = .ok (.value (.pointer (some (b.add (j.toNat * (m + 1)))))) w := by
      intro b len cap k j hx hi hj
      simp only [execOp, ho, hx, hi, Instr.indexAt, Sem.run_bind, asIntOf, Sem.run_pure, Result.andThen_ok, run_underlying hu]
      simp [hj, run_sizeOf hme]
    generalize a.eval x = vx at r1 hex
    generalize a.eval i = vi at r2 hex
    split at h2
    · rename_i x c len k j hx
      split at h2
      case isFalse => exact h2.elim
      rename_i hm0
      subst hm0
      have hj := of_decide_eq_true h2.1; replace h2 := h2.2
      unfold yslOf at hx
      split at hx
      · injection hx with hx
        simp only [Prod.mk.injEq] at hx
        obtain ⟨rfl, rfl, rfl⟩ := hx
        cases r2
        cases r1 with
        | ysl _ _ _ b cap cur e hb _ _ _ _ =>
          refine OpOK.pure h h2 ?_ (hex _ _ _ _ _ rfl rfl hj)
          have : ∀ q, (⟨b, q, none⟩ : Addr).add (j.toNat * (0 + 1)) = ⟨b, q + j.toNat * (0 + 1), none⟩ := fun q => addr_add _ _ (by unfold Addr.add; split <;> rfl)
          rw [this, Nat.zero_add, Nat.zero_add, Nat.mul_one]
          exact .yp _ _ _ b hb
      · cases hx
    · rename_i x z len k j _ hx
      split at h2
      case isFalse => exact h2.elim
      have hj := of_decide_eq_true h2.1; replace h2 := h2.2
      unfold xslOf at hx
      split at hx
      · injection hx with hx
        simp only [Prod.mk.injEq] at hx
        obtain ⟨rfl, rfl, rfl⟩ := hx
        cases r2
        cases r1 with
        | xsl _ _ _ b cap cur e hb _ _ _ _ =>
          refine OpOK.pure h h2 ?_ (hex _ _ _ _ _ rfl rfl hj)
          have : ∀ q, (⟨b, q, none⟩ : Addr).add (j.toNat * (m + 1)) = ⟨b, q + j.toNat * (m + 1), none⟩ := fun q => addr_add _ _ (by unfold Addr.add; split <;> rfl)
          rw [this, Nat.zero_add]
          exact .xp _ _ b hb
      · cases hx
    · rename_i z es k j _ _ hsl
      split at h2
      · rename_i hz
        have hj := of_decide_eq_true h2.1; replace h2 := h2.2
        have r1' := toP_rep (slOf_toP hsl) r1
        cases r2
        have hjn : j.toNat < es.length := by omega
        rw [List.getD_eq_getElem?_getD, List.getElem?_eq_getElem hjn] at h2
        subst hz
        have hne : es ≠ [] := by rintro rfl; simp at hjn
        have hsh : ∃ b cap, vx = .slice (some b) es.length cap := by
          cases r1' with
          | slnil => exact absurd rfl hne
          | sl _ _ b cap _ _ _ _ _ _ _ => exact ⟨b, cap, rfl⟩
        obtain ⟨b, cap, rfl⟩ := hsh
        exact OpOK.pure h h2 (r1'.elem (Nat.succ_pos m) hjn) (hex _ _ _ _ _ rfl rfl hj)
      · exact h2.elim
    · exact h2.elim
  · exact hw.elim

def isStrT (P : Program) (t : TypeId) : Bool := match P.underlying t with
  | some .string => true
  | _ => false
def actIx (P : Program) (n : Nat) (o : Oper) (ty : TypeId) (x i : Operand) : RM (List Wr) := if isStrT P ty = true then evP x fun p => evP i fun q => match p, q with
    | .str b, .int _ j => .assume (decide (0 ≤ j ∧ j < b.size)) (wv n o (.v (.int .u8 (b.toList.getD j.toNat 0).toNat)))
    | _, _ => .fail
  else .fail

/-! ### tuples, lengths, choices -/
def actEx (n : Nat) (o : Oper) (x : Operand) (i : Nat) : RM (List Wr) := evP x fun p => match p with
  | .tup vs => match vs[i]? with
    | some q => wv n o (.v q)
    | none => .fail
  | _ => .fail
theorem actEx_sound {x : Operand} {i : Nat} (ho : o.op = .extract x i) (h : Sim cx s g l a w) (hw : (actEx cx.n o x i).wp s K) : OpOK P cx s o K a w := by
  obtain ⟨p, h1, r1⟩ := evP_sound h hw
  have hex : ∀ v vs, a.eval x = .tuple vs → vs[i]? = some v → (execOp a.eval o).run P w = .ok (.value v) w := by
    intro v vs hx hv
    simp [execOp, ho, hx, Instr.extract, hv]
  generalize a.eval x = vx at r1 hex
  split at h1
  · rename_i ps
    split at h1
    · rename_i q hq
      cases r1 with
      | tup _ vs hl hr =>
        have hlt := (List.getElem?_eq_some_iff.1 hq).1
        have hlt' : i < vs.length := by rw [← hl]; exact hlt
        rw [List.getElem?_eq_getElem hlt] at hq
        injection hq with hq
        have := hr i hlt hlt'
        rw [hq] at this
        exact OpOK.pure h h1 this (hex _ _ rfl (by simp [List.getElem?_eq_getElem hlt']))
    · exact h1.elim
  · exact h1.elim

def lenS : LV → Option Nat
  | .v .nilsl => some 0
  | .v (.xsl _ _ len) => some len
  | .v (.ysl _ _ len) => some len
  | lv => (slOf lv).map (·.2.length)
def actLen (P : Program) (n : Nat) (o : Oper) (ty : TypeId) (x : Operand) : RM (List Wr) := match elemT P ty with
  | some _ => ev x fun lv => match lenS lv with
    | some k => wv n o (.v (.int .i64 k))
    | none => .fail
  | none => if isStrT P ty = true then evP x fun p => match p with
      | .str b => wv n o (.v (.int .i64 b.size))
      | _ => .fail
    else .fail
theorem actLen_sound {x : Operand} {ty : TypeId} (ho : o.op = .call { callee := .builtin .len, args := #[x], argTypes := #[ty] }) (h : Sim cx s g l a w) (hw : (actLen P cx.n o ty x).wp s K) : OpOK P cx s o K a w := by
  have hex : ∀ k : Nat, (Builtin.len_ #[ty] o.type #[a.eval x]).run P w = .ok (.int .i64 k) w → (execOp a.eval o).run P w = .ok (.value (.int .i64 k)) w := by
    intro k hv
    simp only [execOp, ho, resolve, invoke, builtin, Sem.run_bind, Sem.run_pure, Result.andThen_ok, List.map_toArray, List.map_cons, List.map_nil, hv]
  unfold actLen at hw
  split at hw
  · rename_i e he
    have hu := elemT_inv he
    obtain ⟨lv, u, h1, r1, -⟩ := ev_sound h hw
    generalize a.eval x = vx at r1 hex
    have key : ∀ b n c, (Builtin.len_ #[ty] o.type #[.slice b n c]).run P w = .ok (.int .i64 n) w := by
      intro b n c
      simp [Builtin.len_, run_underlying hu, goInt]
    split at h1
    · rename_i k hk
      refine OpOK.pure h h1 (.int _ _) (hex _ ?_)
      unfold lenS at hk
      split at hk
      · injection hk with hk; subst hk; cases r1; exact key _ _ _
      · injection hk with hk; subst hk; cases r1; exact key _ _ _
      · injection hk with hk; subst hk; cases r1; exact key _ _ _
      · simp only [Option.map_eq_some_iff] at hk
        obtain ⟨⟨z, es⟩, hs, rfl⟩ := hk
        have r1' := toP_rep (slOf_toP hs) r1
        cases r1' <;> exact key _ _ _
    · exact h1.elim
  · split at hw
    · rename_i hst
      unfold isStrT at hst
      split at hst
      · rename_i hu
        obtain ⟨p, h1, r1⟩ := evP_sound h hw
        generalize a.eval x = vx at r1 hex
        split at h1
        · cases r1
          refine OpOK.pure h h1 (.int _ _) (hex _ ?_)
          simp [Builtin.len_, run_underlying hu, goInt]
        · exact h1.elim
      · cases hst
    · exact hw.elim

def free : LV → LV
  | .uniq _ z es => .v (.sl z es)
  | lv => lv
def actPick (n : Nat) (o : Oper) (c x y : Operand) : RM (List Wr) := evP c fun p => match p with
  | .bool true => evP x fun q => wv n o (.v q)
  | .bool false => evP y fun q => wv n o (.v q)
  | _ => .fail
theorem actPick_sound {c x y : Operand} (ho : o.op = .pick c x y) (h : Sim cx s g l a w) (hw : (actPick cx.n o c x y).wp s K) : OpOK P cx s o K a w := by
  obtain ⟨p, h1, r1⟩ := evP_sound h hw
  have hex : ∀ b, a.eval c = .bool b → (execOp a.eval o).run P w = .ok (.value (if b then a.eval x else a.eval y)) w := by
    intro b hc
    simp [execOp, ho, hc, asBool]
  generalize a.eval c = vc at r1 hex
  split at h1
  · cases r1
    obtain ⟨q, h2, r2⟩ := evP_sound h h1
    exact OpOK.pure h h2 r2 (hex _ rfl)
  · cases r1
    obtain ⟨q, h2, r2⟩ := evP_sound h h1
    exact OpOK.pure h h2 r2 (hex _ rfl)
  · exact h1.elim

/-- 'v, ok := x.(T)', T no interface. -/
def actTA (P : Program) (n : Nat) (o : Oper) (x : Operand) (ty : TypeId) (ok : Bool) : RM (List Wr) := if notIface P ty = true then evP x fun p => match p with
    | .iface t q => if t = ty then (if ok then wv n o (.v (.tup [q, .bool true])) else wv n o (.v q)) else .fail
    | _ => .fail
  else .fail
theorem actTA_sound {x : Operand} {xt ty : TypeId} {ok : Bool} (ho : o.op = .typeAssert x xt ty ok) (h : Sim cx s g l a w) (hw : (actTA P cx.n o x ty ok).wp s K) : OpOK P cx s o K a w := by
  unfold actTA at hw
  split at hw
  · rename_i hn
    obtain ⟨p, h1, r1⟩ := evP_sound h hw
    have hex : ∀ v, a.eval x = .iface ty v → (execOp a.eval o).run P w = .ok (.value (if ok then .tuple #[v, .bool true] else v)) w := by
      intro v hx
      unfold notIface at hn
      split at hn
      · cases hn
      · rename_i d hd hu
        simp only [execOp, ho, hx, Instr.typeAssert, Sem.run_bind, run_underlying hu, Result.andThen_ok]
        cases d <;> simp_all
      · cases hn
    generalize a.eval x = vx at r1 hex
    split at h1
    · rename_i t q
      split at h1
      · rename_i ht
        subst ht
        cases r1 with
        | iface _ _ v hv =>
          cases ok with
          | true => exact OpOK.pure h h1 (.tup [q, .bool true] [v, .bool true] rfl fun j hj hj' => by
              match j, hj with
              | 0, _ => exact hv
              | 1, _ => exact .bool true) (hex _ rfl)
          | false => exact OpOK.pure h h1 hv (hex _ rfl)
      · exact h1.elim
    · exact h1.elim
  · exact hw.elim
end
end Go.Pv
