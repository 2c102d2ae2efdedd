/- Pure values, thirteenth part: all operations together; regions in the order of the text. -/
import Derived.Test.YtmllcplaohkjnaaGreatDoorPv30
import Derived.Laws.StructEq
set_option linter.unusedVariables false
set_option linter.unusedSimpArgs false
set_option linter.unusedSectionVars false
namespace Go.Pv
open Go.RowKit

section
variable {P : Program} {cx : Cx} {s t : S} {g : Gh} {l : LG} {a : Act} {w : World} {o : Oper}

def actMM (n : Nat) (o : Oper) (big : Bool) (x y : Operand) : RM (List Wr) := evP x fun p => evP y fun q => match p, q with
  | .int k i, .int _ j => wv n o (.v (.int k (if big = true then (if j > i then j else i) else (if j < i then j else i))))
  | _, _ => .fail
theorem actMM_sound {big : Bool} {x y : Operand} {K : List Wr → Prop} (ho : (big = false ∧ ∃ ts, o.op = .call ⟨.builtin .min, ⟨[x, y]⟩, ts⟩) ∨ (big = true ∧ ∃ ts, o.op = .call ⟨.builtin .max, ⟨[x, y]⟩, ts⟩)) (h : Sim cx s g l a w) (hw : (actMM cx.n o big x y).wp s K) : OpOK P cx s o K a w := by
  obtain ⟨p, h1, r1⟩ := evP_sound h hw
  obtain ⟨q, h2, r2⟩ := evP_sound h h1
  split at h2
  · rename_i k i k' j
    refine OpOK.pure h h2 (.int _ _) ?_
    have e1 : a.eval x = .int k i := by generalize a.eval x = v at r1; cases r1; rfl
    have e2 : a.eval y = .int k' j := by generalize a.eval y = v at r2; cases r2; rfl
    rcases ho with ⟨rfl, ts, ho⟩ | ⟨rfl, ts, ho⟩
    · simp [execOp, ho, resolve, invoke, builtin, e1, e2, Builtin.min_, Builtin.min2]
    · simp [execOp, ho, resolve, invoke, builtin, e1, e2, Builtin.max_, Builtin.max2]
  · exact h2.elim

/-- The least, the greatest of many numbers. -/
def mxL (big : Bool) : Int → List PV → Option Int
  | i, [] => some i
  | i, .int _ j :: r => mxL big (if big = true then (if j > i then j else i) else (if j < i then j else i)) r
  | _, _ => none
theorem mx_run {big : Bool} {k : IntKind} : ∀ {r : List PV} {i m : Int} {vs : List Value}, mxL big i r = some m → RepAll g w r vs → (vs.foldlM (fun x y => if big = true then Builtin.max2 x y else Builtin.min2 x y) (.int k i)).run P w = .ok (.int k m) w
  | [], i, m, vs, h, hr => by
    have := hr.inv_nil
    subst this
    simp only [mxL, Option.some.injEq] at h
    subst h
    simp
  | p :: r, i, m, vs, h, hr => by
    obtain ⟨v, vs', rfl, h1, h2⟩ := hr.inv_cons
    cases p with
    | int k' j =>
      cases h1
      simp only [mxL] at h
      have ih := mx_run (k := k) h h2
      have e : (if big = true then Builtin.max2 (.int k i) (.int k' j) else Builtin.min2 (.int k i) (.int k' j)) = pure (Value.int k (if big = true then (if j > i then j else i) else (if j < i then j else i))) := by
        cases big <;> rfl
      rw [List.foldlM_cons, e]
      simp only [Sem.run_bind, Sem.run_pure, Result.andThen_ok]
      exact ih
    | _ => simp [mxL] at h
def actMX (n : Nat) (o : Oper) (big : Bool) (xs : List Operand) : RM (List Wr) := evs xs fun ps => match ps with
  | .int k i :: r => match mxL big i r with
    | some m => wv n o (.v (.int k m))
    | none => .fail
  | _ => .fail
theorem actMX_sound {big : Bool} {xs : List Operand} {K : List Wr → Prop} (ho : (big = false ∧ ∃ ts, o.op = .call ⟨.builtin .min, ⟨xs⟩, ts⟩) ∨ (big = true ∧ ∃ ts, o.op = .call ⟨.builtin .max, ⟨xs⟩, ts⟩)) (h : Sim cx s g l a w) (hw : (actMX cx.n o big xs).wp s K) : OpOK P cx s o K a w := by
  obtain ⟨ps, h1, r1⟩ := evs_sound h hw
  split at h1
  · rename_i k i r
    split at h1
    · rename_i m hm
      refine OpOK.pure h h1 (.int _ _) ?_
      obtain ⟨v, vs, hv, rv, rvs⟩ := r1.inv_cons
      have ev : v = .int k i := by cases rv; rfl
      subst ev
      have e := mx_run (P := P) (k := k) hm rvs
      rcases ho with ⟨rfl, ts, ho⟩ | ⟨rfl, ts, ho⟩
      · simp only [Bool.false_eq_true, if_false] at e
        simp [execOp, ho, resolve, invoke, builtin, Builtin.min_, hv, e]
      · simp only [if_true] at e
        simp [execOp, ho, resolve, invoke, builtin, Builtin.max_, hv, e]
    · exact h1.elim
  · exact h1.elim

/-! ### structs that are compared -/
def isSt (P : Program) (t : TypeId) : Bool := match P.underlying t with
  | some (.struct _) => true
  | _ => false
def eq1 (P : Program) (t : TypeId) (p q : PV) : Option Bool := match P.underlying t, p, q with
  | some .bool, .bool a, .bool b => some (a == b)
  | some (.int _), .int k a, .int k' b => if k = k' then some (a == b) else none
  | some .string, .str a, .str b => some (a.toList == b.toList)
  | _, _, _ => none
theorem eq1_run {t : TypeId} {p q : PV} {b : Bool} {u v : Value} (h : eq1 P t p q = some b) (r1 : Rep g w p u) (r2 : Rep g w q v) (d : Nat) : (Op.equalIn (d + 1) t u v).run P w = .ok b w := by
  unfold eq1 at h
  split at h
  · rename_i hu; injection h with h; subst h; cases r1; cases r2; exact run_equalIn_bool' w d t _ _ hu
  · rename_i hu
    split at h
    · rename_i hk; subst hk; injection h with h; subst h; cases r1; cases r2; exact run_equalIn_int w d t _ _ _ _ hu
    · cases h
  · rename_i hu; injection h with h; subst h; cases r1; cases r2; exact run_equalIn_string w d t _ _ hu
  · cases h
def eqFs (P : Program) (xs ys : List PV) : List Field → Option Bool
  | [] => some true
  | f :: fs => if f.name ≠ "_" then (match segP P f.type xs f.offset, segP P f.type ys f.offset with
      | some p, some q => match eq1 P f.type p q, eqFs P xs ys fs with
        | some b, some r => some (b && r)
        | _, _ => none
      | _, _ => none) else eqFs P xs ys fs
theorem eqFs_run {xs ys : List PV} {vx vy : List Value} (hx : RepAll g w xs vx) (ox : ∀ v ∈ vx, v.oneCell' = true) (hy : RepAll g w ys vy) (oy : ∀ v ∈ vy, v.oneCell' = true) (d : Nat) : ∀ {fs : List Field} {b : Bool}, eqFs P xs ys fs = some b → (Op.eqFields (d + 1) vx.toArray vy.toArray fs).run P w = .ok b w
  | [], b, h => by
    simp only [eqFs, Option.some.injEq] at h
    subst h
    simp [Op.eqFields]
  | f :: fs, b, h => by
    simp only [eqFs] at h
    simp only [Op.eqFields]
    split at h
    · rename_i hn
      rw [if_pos hn]
      split at h
      · rename_i p q hp hq
        obtain ⟨u, k1, k2⟩ := segP_part (P := P) hp hx ox
        obtain ⟨v, k3, k4⟩ := segP_part (P := P) hq hy oy
        split at h
        · rename_i b1 b2 h1 h2
          injection h with h
          subst h
          have e1 := eq1_run (P := P) h1 k2 k4 d
          have ih := eqFs_run hx ox hy oy d h2
          simp only [Sem.run_bind, k1, k3, e1, Result.andThen_ok]
          cases b1 with
          | false => simp
          | true => simpa using ih
        · cases h
      · cases h
    · rename_i hn
      rw [if_neg hn]
      exact eqFs_run hx ox hy oy d h
def actEqS (P : Program) (n : Nat) (o : Oper) (op : BinOp) (ty : TypeId) (x y : Operand) : RM (List Wr) := match P.underlying ty, isEq op with
  | some (.struct fs), some pos => if (P.stoodInHeld ty || P.eqGuardType P.depth ty) = true then .fail else evP x fun p => evP y fun q => match p, q with
    | .agg xs, .agg ys => match eqFs P xs ys fs.toList with
      | some b => wv n o (.v (.bool (if pos then b else !b)))
      | none => .fail
    | _, _ => .fail
  | _, _ => .fail
theorem actEqS_sound {op : BinOp} {ty yt : TypeId} {x y : Operand} {K : List Wr → Prop} (ho : o.op = .binOp op ty x y yt) (h : Sim cx s g l a w) (hw : (actEqS P cx.n o op ty x y).wp s K) : OpOK P cx s o K a w := by
  unfold actEqS at hw
  split at hw
  · rename_i fs pos hu hpos
    split at hw
    · exact hw.elim
    · rename_i hc
      simp only [Bool.or_eq_true, not_or, Bool.not_eq_true] at hc
      obtain ⟨p, h1, r1⟩ := evP_sound h hw
      obtain ⟨q, h2, r2⟩ := evP_sound h h1
      have hex : ∀ v, (eqGuard op ty x y (a.eval x) (a.eval y)).run P w = .ok () w → (binOp op ty (a.eval x) (a.eval y)).run P w = .ok v w → (execOp a.eval o).run P w = .ok (.value v) w := by
        intro v hg hv
        simp only [execOp, ho, Sem.run_bind, hg, Result.andThen_ok, hv, Sem.run_pure]
      generalize a.eval x = vx at r1 hex
      generalize a.eval y = vy at r2 hex
      split at h2
      · rename_i xs ys
        split at h2
        · rename_i b hb
          cases r1 with
          | agg _ vs hl ho1 hr =>
            cases r2 with
            | agg _ vs2 hl2 ho2 hr2 =>
              refine OpOK.pure h h2 (.bool _) (hex _ (run_eqGuard_agg w op ty x y _ _ hc.2) ?_)
              have hf : P.fieldsOf ty = fs := by simp only [Program.fieldsOf, hu]
              have e1 := eqFs_run (P := P) ⟨hl, hr⟩ ho1 ⟨hl2, hr2⟩ ho2 9998 hb
              have e2 : (Op.equalIn 10000 ty (.agg vs.toArray) (.agg vs2.toArray)).run P w = .ok b w := by
                rw [run_equalIn_agg w 9999 ty _ _ (by rw [hf]; exact hu) hc.1, hf]
                exact e1
              cases op <;> simp only [isEq] at hpos <;> first | (cases hpos; done) | skip
              · injection hpos with hpos; subst hpos
                rw [run_eql_struct, e2]; rfl
              · injection hpos with hpos; subst hpos
                rw [run_neq_struct, e2]; rfl
        · exact h2.elim
      · exact h2.elim
  · exact hw.elim

/-- One operation that is no call of a Go function. -/
def act (P : Program) (ro : TypeId → Option Bool) (n : Nat) (ops : List Oper) (o : Oper) : RM (List Wr) := match o.op with
  | .move x => mv n ops o false x
  | .assign x => mv n ops o true x
  | .pick c x y => actPick n o c x y
  | .alloc ty => if (ro ty).isNone = true then .fail else actAlloc P n o ty
  | .box ty x => actBox ro n o ty x
  | .build ty ps => actBuild P n o ty ps
  | .buildSlice ty len ps => actBS P n o ty len ps
  | .load ty x => actLoad P n ops o ty x
  | .store ty x y => actStore P o ty x y
  | .nilCheck x => actNil P n o x
  | .binOp op ty x y _ => if isSt P ty = true then actEqS P n o op ty x y else actBin P n o op ty x y
  | .unOp op _ x => actUn n o op x
  | .convert src dst x => if (P.underlying src).isSome = true then actConv P n o dst x else .fail
  | .makeInterface ty x => actMkI P n o ty x
  | .makeFunc fn f c => actMkF n o fn f c
  | .fieldAddr ty x f => actFA P n o ty x f
  | .field ty x f => actField P n o ty x f
  | .indexAddr ty x i => actIA P n o ty x i
  | .extract x i => actEx n o x i
  | .typeAssert x _ ty ok => actTA P n o x ty ok
  | .mapUpdate ty m k x => actMU P o ty m k x
  | .insert ty m k x => actMU P o ty m k x
  | .lookup ty x k ok => actLU P n o ty x k ok
  | .index ty x i => actIdx P n o ty x i
  | .slice ty x lo hi none => actSl P n o ty x lo hi
  | .call ⟨.builtin .len, ⟨[x]⟩, ⟨[ty]⟩⟩ => actLen P n o ty x
  | .call ⟨.builtin .min, ⟨[x, y]⟩, _⟩ => actMM n o false x y
  | .call ⟨.builtin .max, ⟨[x, y]⟩, _⟩ => actMM n o true x y
  | .call ⟨.builtin .min, ⟨x :: y :: z :: r⟩, _⟩ => actMX n o false (x :: y :: z :: r)
  | .call ⟨.builtin .max, ⟨x :: y :: z :: r⟩, _⟩ => actMX n o true (x :: y :: z :: r)
  | .call ⟨.builtin .append, ⟨[x, y]⟩, ⟨[ty, ty']⟩⟩ => if ty = ty' then actApp P n o ty x y else .fail
  | _ => .fail

theorem act_sound {ro : TypeId → Option Bool} {ops : List Oper} {K : List Wr → Prop} (h : Sim cx s g l a w) (hw : (act P ro cx.n ops o).wp s K) : OpOK P cx s o K a w := by
  unfold act at hw
  split at hw
  · rename_i x ho; exact mv_sound h hw (by simp [execOp, ho])
  · rename_i x ho; exact mv_sound h hw (by simp [execOp, ho])
  · rename_i c x y ho; exact actPick_sound ho h hw
  · rename_i ty ho
    split at hw
    · exact hw.elim
    · exact actAlloc_sound ho h hw
  · rename_i ty x ho; exact actBox_sound ho h hw
  · rename_i ty ps ho; exact actBuild_sound ho h hw
  · rename_i ty len ps ho; exact actBS_sound ho h hw
  · rename_i ty x ho; exact actLoad_sound ho h hw
  · rename_i ty x y ho; exact actStore_sound ho h hw
  · rename_i x ho; exact actNil_sound ho h hw
  · rename_i op ty x y yt ho
    split at hw
    · exact actEqS_sound ho h hw
    · exact actBin_sound ho h hw
  · rename_i op ty x ho; exact actUn_sound ho h hw
  · rename_i src dst x ho
    split at hw
    · rename_i hs; exact actConv_sound ho hs h hw
    · exact hw.elim
  · rename_i ty x ho; exact actMkI_sound ho h hw
  · rename_i fn f c ho; exact actMkF_sound ho h hw
  · rename_i ty x f ho; exact actFA_sound ho h hw
  · rename_i ty x f ho; exact actField_sound ho h hw
  · rename_i ty x i ho; exact actIA_sound ho h hw
  · rename_i x i ho; exact actEx_sound ho h hw
  · rename_i x xt ty ok ho; exact actTA_sound ho h hw
  · rename_i ty m k x ho; exact actMU_sound (.inl ho) h hw
  · rename_i ty m k x ho; exact actMU_sound (.inr ho) h hw
  · rename_i ty x k ok ho; exact actLU_sound ho h hw
  · rename_i ty x i ho; exact actIdx_sound ho h hw
  · rename_i ty x lo hi ho; exact actSl_sound ho h hw
  · rename_i x ty ho; exact actLen_sound ho h hw
  · rename_i x y ts ho; exact actMM_sound (.inl ⟨rfl, ts, ho⟩) h hw
  · rename_i x y ts ho; exact actMM_sound (.inr ⟨rfl, ts, ho⟩) h hw
  · rename_i x y z r ts ho; exact actMX_sound (.inl ⟨rfl, ts, ho⟩) h hw
  · rename_i x y z r ts ho; exact actMX_sound (.inr ⟨rfl, ts, ho⟩) h hw
  · rename_i x y ty ty' ho
    split at hw
    · rename_i he; subst he; exact actApp_sound ho h hw
    · exact hw.elim
  · exact hw.elim

theorem upon_mono {next next' : Act → World → Prop} {Q : Exit → Act → World → Prop} {r : Result Next} (hn : ∀ a w, next a w → next' a w) (h : o.upon P a next Q r) : o.upon P a next' Q r := by
  unfold Oper.upon at h ⊢
  split at h
  · exact hn _ _ h
  · exact hn _ _ h
  · exact hn _ _ h
  · refine h.mono ?_
    intro e w' he
    cases e with
    | returned v => exact hn _ _ he
    | panicked ch => exact he
    | outgrown => exact he
  · exact h.mono fun v w' hv => hn _ _ hv
  · exact h
  · exact h

/-- A list of operations of a region. -/
def PL (P : Program) (cx : Cx) (all : Array Oper) (ls : List Oper) (s : S) (Q : PExit → S → Prop) : Prop := ∀ g l a w, Sim cx s g l a w → wpList P all (post cx Q) ls a w

def S.skip (s : S) (o : Oper) : S := match o.dst with
  | some d => { s with tmps := put s.tmps d (.v (.tup [])) }
  | none => s

theorem PL_nil {all : Array Oper} {Q : PExit → S → Prop} (h : Q .normal s) : PL P cx all [] s Q := fun g l _ _ hs => wpList_nil ⟨.normal, s, g, l, h, trivial, hs⟩
theorem PL_le {all : Array Oper} {ls : List Oper} {Q : PExit → S → Prop} (hl : Le t s) (h : PL P cx all ls t Q) : PL P cx all ls s Q := fun g l a w hs => h g l a w (hs.le hl)
theorem PL_act {ro : TypeId → Option Bool} {all : Array Oper} {ops rest : List Oper} {Q : PExit → S → Prop} (hg : o.guard = none) (h : (act P ro cx.n ops o).wp s fun wr => PL P cx all rest (s.wrs wr) Q) : PL P cx all (o :: rest) s Q := fun g l a w hs => by
  refine wpList_plain hg fun K hK => ?_
  refine upon_mono ?_ (act_sound hs h (post cx Q))
  rintro a' w' ⟨wr, g', l', hp, sm⟩
  exact hK _ _ (hp g' l' a' w' sm)

/-- Is a guarded operation wanted? -/
def wantP (want : Bool) : LV → Option Bool
  | .v (.bool b) => some (b == want)
  | .v (.tup _) => some false
  | _ => none
theorem yielded_of {all : Array Oper} {j dj : Nat} {want b : Bool} {lv : LV} (hd : (all[j]?).bind (·.dst) = some dj) (hn : dj < cx.n) (h : Sim cx s g l a w) (hl : lk s.tmps dj = some lv) (hw : wantP want lv = some b) : (yielded all a.tmps j == some want) = b := by
  have hr := h.tm dj lv hl
  have hs : a.tmps[dj]? = some (a.tmps.getD dj undef) := by
    have : dj < a.tmps.size := by rw [h.size]; exact hn
    simp [this]
  unfold yielded
  rw [hd, Option.bind_some, hs]
  generalize a.tmps.getD dj undef = v at hr
  unfold wantP at hw
  split at hw
  · rename_i b0
    cases hr
    simp only [Option.some.injEq] at hw
    rw [← hw]
    cases want <;> cases b0 <;> rfl
  · cases hr
    simp only [Option.some.injEq] at hw
    rw [← hw]
    cases want <;> rfl
  · cases hw
theorem PL_guard {ro : TypeId → Option Bool} {all : Array Oper} {ops rest : List Oper} {Q : PExit → S → Prop} {j dj : Nat} {want b : Bool} {lv : LV} (hg : o.guard = some (j, want)) (hd : (all[j]?).bind (·.dst) = some dj) (hn : dj < cx.n)
    (hl : lk s.tmps dj = some lv) (hw : wantP want lv = some b) (hdst : ∀ d, o.dst = some d → d < cx.n)
    (ht : b = true → (act P ro cx.n ops o).wp s fun wr => PL P cx all rest (s.wrs wr) Q) (hf : b = false → PL P cx all rest (s.skip o) Q) : PL P cx all (o :: rest) s Q := fun g l a w hs => by
  have hy := yielded_of hd hn hs hl hw
  have hwant : Region.wanted o (yielded all a.tmps) = b := by simp only [Region.wanted, hg]; exact hy
  cases b with
  | true =>
    refine wpList_step fun K hK => ?_
    rw [if_pos hwant]
    refine upon_mono ?_ (act_sound hs (ht rfl) (post cx Q))
    rintro a' w' ⟨wr, g', l', hp, sm⟩
    exact hK _ _ (hp g' l' a' w' sm)
  | false =>
    refine wpList_step fun K hK => ?_
    rw [if_neg (by rw [hwant]; simp)]
    refine hK _ _ (hf rfl g l _ w ?_)
    cases hdd : o.dst with
    | none => simp only [S.skip, hdd, Act.put]; exact hs
    | some d =>
      simp only [S.skip, hdd]
      exact hs.set (hdst d hdd) (.tup [] [] rfl fun j h => by simp at h)

/-- Operations whose results are not reckoned here: calls of functions, and what the walk must meet by hand. -/
def special (ro : TypeId → Option Bool) (o : Oper) : Bool := match o.op with
  | .box ty _ => (ro ty).isNone
  | .alloc ty => (ro ty).isNone
  | .call ⟨.builtin .min, _, _⟩ => false
  | .call ⟨.builtin .max, _, _⟩ => false
  | .call ⟨.builtin .len, _, _⟩ => false
  | .call ⟨.builtin .append, _, _⟩ => false
  | .call _ => true
  | .defer _ => true
  | .panic _ => true
  | _ => false

/-- The operations as far as they are reckoned by themselves. -/
def wpL (P : Program) (ro : TypeId → Option Bool) (n : Nat) (all : List Oper) : List Oper → S → (List Oper → S → Prop) → Prop
  | [], s, K => K [] s
  | o :: rest, s, K => if special ro o = true then K (o :: rest) s else match o.guard with
    | none => (act P ro n all o).wp s fun wr => wpL P ro n all rest (s.wrs wr) K
    | some (j, want) => match (all[j]?).bind (·.dst) with
      | some dj => match (lk s.tmps dj).bind (wantP want) with
        | some b => if b = true then (act P ro n all o).wp s fun wr => wpL P ro n all rest (s.wrs wr) K
          else wpL P ro n all rest (s.skip o) K
        | none => False
      | none => False

def dstOK (n : Nat) : List Oper → Bool
  | [] => true
  | o :: r => (match o.dst with | some d => decide (d < n) | none => true) && dstOK n r

theorem RM.wp_mono {α : Type} {K K' : α → Prop} (hk : ∀ x, K x → K' x) : ∀ {r : RM α}, r.wp s K → r.wp s K'
  | .ret _, h => hk _ h
  | .fail, h => h
  | .getT t k, h => by
    simp only [RM.wp] at h ⊢
    split at h
    · rename_i v hv; exact RM.wp_mono hk h
    · exact h.elim
  | .getB t k, h => by
    simp only [RM.wp] at h ⊢
    split at h
    · rename_i v hv; exact RM.wp_mono hk h
    · exact h.elim
  | .getX t k, h => by
    simp only [RM.wp] at h ⊢
    split at h
    · rename_i v hv; exact RM.wp_mono hk h
    · exact h.elim
  | .assume p k, h => ⟨h.1, RM.wp_mono hk h.2⟩

theorem wpL_mono {ro : TypeId → Option Bool} {n : Nat} {all : List Oper} {K K' : List Oper → S → Prop} (hk : ∀ r s, K r s → K' r s) : ∀ {ls : List Oper} {s : S}, wpL P ro n all ls s K → wpL P ro n all ls s K'
  | [], _, h => hk _ _ h
  | o :: rest, s, h => by
    simp only [wpL] at h ⊢
    split
    · rename_i hs; rw [if_pos hs] at h; exact hk _ _ h
    · rename_i hs
      rw [if_neg hs] at h
      split
      · rename_i hg
        simp only [hg] at h
        exact RM.wp_mono (fun _ hx => wpL_mono hk hx) h
      · rename_i j want hg
        simp only [hg] at h
        split
        · rename_i dj hd
          simp only [hd] at h
          split
          · rename_i b hb
            simp only [hb] at h
            split
            · rename_i hbt; rw [if_pos hbt] at h; exact RM.wp_mono (fun _ hx => wpL_mono hk hx) h
            · rename_i hbt; rw [if_neg hbt] at h; exact wpL_mono hk h
          · rename_i hb; simp only [hb] at h
        · rename_i hd; simp only [hd] at h

theorem dstOK_mem {n : Nat} : ∀ {ls : List Oper}, dstOK n ls = true → ∀ {o : Oper}, o ∈ ls → ∀ d, o.dst = some d → d < n
  | [], _, o, ho, _, _ => by simp at ho
  | x :: r, h, o, ho, d, hd => by
    simp only [dstOK, Bool.and_eq_true] at h
    rcases List.mem_cons.1 ho with rfl | ho
    · have h1 := h.1
      rw [hd] at h1
      simpa using h1
    · exact dstOK_mem h.2 ho d hd

theorem wpL_sound {ro : TypeId → Option Bool} {all : List Oper} {Q : PExit → S → Prop} (hall : dstOK cx.n all = true) : ∀ {ls : List Oper} {s : S}, (∀ o ∈ ls, o ∈ all) → wpL P ro cx.n all ls s (fun rest s' => PL P cx all.toArray rest s' Q) → PL P cx all.toArray ls s Q
  | [], s, _, h => h
  | o :: rest, s, hm, h => by
    have ih : ∀ {s : S}, wpL P ro cx.n all rest s (fun rest s' => PL P cx all.toArray rest s' Q) → PL P cx all.toArray rest s Q := fun h => wpL_sound hall (fun o ho => hm o (List.mem_cons_of_mem _ ho)) h
    simp only [wpL] at h
    split at h
    · exact h
    · split at h
      · rename_i hg
        exact PL_act hg (RM.wp_mono (fun _ hx => ih hx) h)
      · rename_i j want hg
        split at h
        · rename_i dj hd
          split at h
          · rename_i b hb
            simp only [Option.bind_eq_some_iff] at hb
            obtain ⟨lv, hlv, hb⟩ := hb
            have hdj : dj < cx.n := by
              simp only [Option.bind_eq_some_iff] at hd
              obtain ⟨oj, h1, h2⟩ := hd
              exact dstOK_mem hall (List.mem_of_getElem? h1) dj h2
            refine PL_guard (ro := ro) (ops := all) hg (by simpa using hd) hdj hlv hb (fun d hdd => dstOK_mem hall (hm o (by simp)) d hdd) (fun hbt => ?_) (fun hbf => ?_)
            · rw [if_pos hbt] at h
              exact RM.wp_mono (fun _ hx => ih hx) h
            · rw [if_neg (by rw [hbf]; simp)] at h
              exact ih h
          · exact h.elim
        · exact h.elim

/-- A region in the order of its text. -/
theorem PW_region {ro : TypeId → Option Bool} {id : Nat} {ops : List Oper} {Q : PExit → S → Prop} (hall : dstOK cx.n ops = true) (h : wpL P ro cx.n ops ops s fun rest s' => PL P cx ops.toArray rest s' Q) : PW P cx (.region id ops.toArray false) s Q := fun g l a w hs =>
  wp_region_lit (wpL_sound hall (fun _ h => h) h g l a w hs)
/-- What stands behind a call. -/
theorem PL_go {ro : TypeId → Option Bool} {all ls : List Oper} {Q : PExit → S → Prop} (hall : dstOK cx.n all = true) (hm : ∀ o ∈ ls, o ∈ all) (h : wpL P ro cx.n all ls s fun rest s' => PL P cx all.toArray rest s' Q) : PL P cx all.toArray ls s Q := wpL_sound hall hm h
end
end Go.Pv
