/- Pure values, seventh part: operations that only compute. -/
import Derived.Test.YtmllcplaohkjnaaGreatDoorPv6
set_option linter.unusedVariables false
set_option linter.unusedSimpArgs false
set_option linter.unusedSectionVars false
namespace Go.Pv
open Go.RowKit

section
variable {P : Program} {cx : Cx} {s t : S} {g : Gh} {l : LG} {a : Act} {w : World} {o : Oper} {K : List Wr → Prop}

theorem Rep.int_inv {k : IntKind} {n : Int} {v : Value} (h : Rep g w (.int k n) v) : v = .int k n := by cases h; rfl
theorem Rep.str_inv {x : ByteArray} {v : Value} (h : Rep g w (.str x) v) : v = .string x := by cases h; rfl

/-- A pure result in a free value. -/
theorem OpOK.pure {p : PV} {v : Value} (h : Sim cx s g l a w) (hw : (wv cx.n o (.v p)).wp s K) (hr : Rep g w p v) (hrun : (execOp a.eval o).run P w = .ok (.value v) w) : OpOK P cx s o K a w :=
  OpOK.value hw h (fun _ => hr) hrun

/-! ### two operands -/
def binI (op : BinOp) (k : IntKind) (x y : Int) : Option PV := match op with
  | .add => some (.int k (k.wrap (x + y)))
  | .sub => some (.int k (k.wrap (x - y)))
  | .mul => some (.int k (k.wrap (x * y)))
  | .eql => some (.bool (x == y))
  | .neq => some (.bool (x != y))
  | .lss => some (.bool (decide (x < y)))
  | .leq => some (.bool (decide (x ≤ y)))
  | .gtr => some (.bool (decide (x > y)))
  | .geq => some (.bool (decide (x ≥ y)))
  | _ => none
def binS (op : BinOp) (x y : ByteArray) : Option PV := match op with
  | .eql => some (.bool (x.toList == y.toList))
  | .neq => some (.bool (!(x.toList == y.toList)))
  | .lss => some (.bool (Op.bytesLess x.toList y.toList))
  | .leq => some (.bool (Op.bytesLess x.toList y.toList || x.toList == y.toList))
  | .gtr => some (.bool (!(Op.bytesLess x.toList y.toList || x.toList == y.toList)))
  | .geq => some (.bool (!Op.bytesLess x.toList y.toList))
  | _ => none
def isEq : BinOp → Option Bool
  | .eql => some true
  | .neq => some false
  | _ => none
/-- Are two values of one cell equal, where one of them is nil or both are truth values? -/
def eqP (P : Program) (t : TypeId) (cst : Bool) (p q : PV) : Option Bool := match P.underlying t, p, q with
  | some .bool, .bool x, .bool y => some (x == y)
  | some (.pointer _), .nilp, .nilp => some true
  | some (.pointer _), .nilp, .ro _ _ => some false
  | some (.pointer _), .nilp, .xp _ _ => some false
  | some (.pointer _), .ro _ _, .nilp => some false
  | some (.pointer _), .xp _ _, .nilp => some false
  | some (.interface _), .nilif, .nilif => if cst then some true else none
  | some (.interface _), .nilif, .iface _ _ => some false
  | some (.interface _), .iface _ _, .nilif => some false
  | some (.map _ _), .mpn, .mpn => some true
  | some (.map _ _), .mp _, .mpn => some false
  | some (.slice _), .nilsl, .nilsl => some true
  | some (.slice _), .sl _ (_ :: _), .nilsl => some false
  | some (.slice _), .xsl _ _ _, .nilsl => some false
  | _, _, _ => none
def isConst : Operand → Bool
  | .const _ => true
  | _ => false
def actBin (P : Program) (n : Nat) (o : Oper) (op : BinOp) (ty : TypeId) (x y : Operand) : RM (List Wr) :=
  evP x fun p => evP y fun q => match p, q with
    | .int k i, .int k' j => if k = k' then (match op with
        | .quo => .assume (decide (j ≠ 0)) (wv n o (.v (.int k (k.wrap (i.tdiv j)))))
        | .rem => .assume (decide (j ≠ 0)) (wv n o (.v (.int k (i.tmod j))))
        | op => match binI op k i j with
          | some r => wv n o (.v r)
          | none => .fail) else .fail
    | .str i, .str j => match op with
      | .add => .assume (decide (i.size + j.size ≤ 9223372036854775807)) (wv n o (.v (.str (i ++ j))))
      | op => match binS op i j with
        | some r => wv n o (.v r)
        | none => .fail
    | p, q => match isEq op, eqP P ty (isConst x || isConst y) p q with
      | some pos, some b => wv n o (.v (.bool (if pos then b else !b)))
      | _, _ => .fail

theorem ite_run {α : Type} {c : Prop} [Decidable c] {x y : Sem α} {r : Result α} (hx : x.run P w = r) (hy : y.run P w = r) : (if c then x else y).run P w = r := by
  split
  · exact hx
  · exact hy
theorem run_eqGuard_plain {op : BinOp} {ty : TypeId} {x y : Operand} {u v : Value} (h : ¬ (u = .nilIface ∧ v = .nilIface)) (h' : ∀ c d, ¬ (u = .agg c ∧ v = .agg d)) : (eqGuard op ty x y u v).run P w = .ok () w := by
  unfold eqGuard
  refine ite_run rfl ?_
  split
  · exact absurd ⟨rfl, rfl⟩ h
  · rename_i c d; exact absurd ⟨rfl, rfl⟩ (h' c d)
  · rfl
theorem run_eqGuard_nil {op : BinOp} {ty : TypeId} {x y : Operand} (h : (isConst x || isConst y) = true) : (eqGuard op ty x y .nilIface .nilIface).run P w = .ok () w := by
  unfold eqGuard
  refine ite_run rfl ?_
  cases x <;> cases y <;> first | rfl | cases h

theorem equal_of {ty : TypeId} {u v : Value} {b : Bool} (h : ∀ d, (Op.equalIn (d + 1) ty u v).run P w = .ok b w) : (Op.equal ty u v).run P w = .ok b w := h 9999
theorem eqP_sound {ty : TypeId} {x y : Operand} {p q : PV} {b : Bool} {u v : Value} {op : BinOp} {pos : Bool} (hb : eqP P ty (isConst x || isConst y) p q = some b) (hp : isEq op = some pos) (r1 : Rep g w p u) (r2 : Rep g w q v) :
    (eqGuard op ty x y u v).run P w = .ok () w ∧ (binOp op ty u v).run P w = .ok (.bool (if pos then b else !b)) w := by
  have hbin : (∀ k i, u ≠ .int k i) → (∀ i, u ≠ .string i) → (∀ k i, u ≠ .float k i) → (∀ k i j, u ≠ .complex k i j) → (Op.equal ty u v).run P w = .ok b w → (binOp op ty u v).run P w = .ok (.bool (if pos then b else !b)) w := by
    intro n1 n2 n3 n4 he
    cases op <;> simp [isEq] at hp <;> subst hp
    · unfold binOp
      split <;> simp_all
    · unfold binOp
      split <;> simp_all
  unfold eqP at hb
  cases hu : P.underlying ty with
  | none => simp [hu] at hb
  | some d =>
    rw [hu] at hb
    split at hb
    all_goals first | (cases hb; done) | skip
    all_goals rename_i hd
    all_goals injection hd with hd
    all_goals subst hd
    all_goals cases r1
    all_goals cases r2
    all_goals first
      | (split at hb
         · rename_i hc
           injection hb with hb
           subst hb
           exact ⟨run_eqGuard_nil hc, hbin (by simp) (by simp) (by simp) (by simp) (equal_of fun d => by simp only [Op.equalIn, Sem.run_bind, run_underlying hu, Result.andThen_ok]; rfl)⟩
         · cases hb)
      | (injection hb with hb
         subst hb
         exact ⟨run_eqGuard_plain (by simp) (by simp), hbin (by simp) (by simp) (by simp) (by simp) (equal_of fun d => by simp only [Op.equalIn, Sem.run_bind, run_underlying hu, Result.andThen_ok]; rfl)⟩)

theorem actBin_sound {op : BinOp} {ty yt : TypeId} {x y : Operand} (ho : o.op = .binOp op ty x y yt) (h : Sim cx s g l a w) (hw : (actBin P cx.n o op ty x y).wp s K) : OpOK P cx s o K a w := by
  obtain ⟨p, h1, r1⟩ := evP_sound h hw
  obtain ⟨q, h2, r2⟩ := evP_sound h h1
  clear hw h1
  have hex : ∀ v, (eqGuard op ty x y (a.eval x) (a.eval y)).run P w = .ok () w → (binOp op ty (a.eval x) (a.eval y)).run P w = .ok v w → (execOp a.eval o).run P w = .ok (.value v) w := by
    intro v hg hv
    simp only [execOp, ho, Sem.run_bind, hg, Result.andThen_ok, hv, Sem.run_pure]
  generalize a.eval x = vx at r1 hex
  generalize a.eval y = vy at r2 hex
  split at h2
  · rename_i k i k' j
    cases r1
    cases r2
    split at h2
    · rename_i hk
      subst hk
      have hg : (eqGuard op ty x y (.int k i) (.int k j)).run P w = .ok () w := run_eqGuard_plain (by simp) (by simp)
      split at h2
      · have hj := of_decide_eq_true h2.1; replace h2 := h2.2
        exact OpOK.pure h h2 (.int _ _) (hex _ hg (by simp [binOp, Op.intDiv, hj]))
      · have hj := of_decide_eq_true h2.1; replace h2 := h2.2
        exact OpOK.pure h h2 (.int _ _) (hex _ hg (by simp [binOp, Op.intDiv, hj]))
      · split at h2
        · rename_i r hr
          have key : ∃ v, (binOp op ty (.int k i) (.int k j)).run P w = .ok v w ∧ Rep g w r v := by
            cases op <;> simp only [binI] at hr <;> first
              | (cases hr; done)
              | (injection hr with hr; subst hr; exact ⟨_, by simp only [binOp, Op.intArith, Op.intCmp, ne_eq, not_true_eq_false, if_false]; rfl, by constructor⟩)
          obtain ⟨v, hv, hrv⟩ := key
          exact OpOK.pure h h2 hrv (hex _ hg hv)
        · exact h2.elim
    · exact h2.elim
  · rename_i i j
    cases r1
    cases r2
    have hg : (eqGuard op ty x y (.string i) (.string j)).run P w = .ok () w := run_eqGuard_plain (by simp) (by simp)
    split at h2
    · have hj := of_decide_eq_true h2.1; replace h2 := h2.2
      refine OpOK.pure h h2 (.str _) (hex _ hg ?_)
      have hj' : ¬ (((i.size + j.size : Nat) : Int) > IntKind.i64.max) := by
        have : IntKind.i64.max = 9223372036854775807 := rfl
        rw [this]
        omega
      simp only [binOp, Op.stringOp]
      rw [if_neg hj']
      rfl
    · split at h2
      · rename_i r hr
        have key : ∃ v, (binOp op ty (.string i) (.string j)).run P w = .ok v w ∧ Rep g w r v := by
          cases op <;> simp only [binS] at hr <;> first
            | (cases hr; done)
            | (injection hr with hr; subst hr; exact ⟨_, by simp only [binOp, Op.stringOp]; rfl, by constructor⟩)
        obtain ⟨v, hv, hrv⟩ := key
        exact OpOK.pure h h2 hrv (hex _ hg hv)
      · exact h2.elim
  · split at h2
    · rename_i pos b hp hb
      obtain ⟨k1, k2⟩ := eqP_sound hb hp r1 r2
      exact OpOK.pure h h2 (.bool _) (hex _ k1 k2)
    · exact h2.elim
end
end Go.Pv
