/- Values of Go as plain data, an evaluator over them, and what the functions of the program return; part Xb. -/
import Derived.Test.YthchpmnkecoafaaGreatDoorXa
import Derived.Laws.Tables
import Derived.Laws.Slices
import Derived.Laws.Strings2
import Derived.DataElems
set_option linter.unusedVariables false
set_option linter.unusedSimpArgs false
set_option linter.unusedSectionVars false
namespace Go.Pv
open Go.RowKit
section
variable {cx:Cx} {s t:S} {g:Gh} {l:LG} {a:Act} {w:World}
theorem B4.jN(h:B4 cx s g l a w)(h1:∀k v,lk t.tmps k=some v->v = .DN∨∃u,lk s.tmps k=some u/\WL v u)(h2:∀k v,lk t.boxes k=some v->∃u,lk s.boxes k=some u/\Fg v u)
  (h3:∀k v,lk t.ext k=some v->∃u,lk s.ext k=some u/\Fg v u) (h4:Eg s.ext<=Eg t.ext:=by exact Nat.le_refl _):B4 cx t g l a w where
 AR:=h.AR
 size:=h.size
 defers:=h.defers
 tm k v hk:=by
  rcases h1 k v hk with rfl | ⟨_,hu,hw⟩
  ·trivial
  ·exact hw.rep (h.tm k _ hu)
 bx k v hk:=by
  obtain ⟨u,hu,hw⟩:=h2 k v hk
  obtain ⟨b,k1,k2,k3⟩:=h.bx k u hu
  exact ⟨b,k1,k2,k3.le hw⟩
 ex k v hk:=by
  obtain ⟨u,hu,hw⟩:=h3 k v hk
  obtain ⟨b,k1,k2,k3⟩:=h.ex k u hu
  exact ⟨b,k1.le hw,k2,k3.le hw⟩
 own:=h.own
 uo:=h.uo
 fresh:=⟨h.fresh.1,fun n hn=>h.fresh.2.1 n (Nat.le_trans h4 hn),fun n c hn=>h.fresh.2.2 n c (Nat.le_trans h4 hn)⟩
 GH:=h.GH
theorem Ez{α:Type}{W:α->α->Prop}(hW:∀x,W x x)(x:List (Nat × α)):∀k v,lk x k=some v->∃u,lk x k=some u/\W v u:=fun _ v h=>⟨v,h,hW v⟩
theorem B4.congr(h:B4 cx s g l a w)(h1:∀k,lk t.tmps k=lk s.tmps k)(h2:∀k,lk t.boxes k=lk s.boxes k)(h3:∀k,lk t.ext k=lk s.ext k)(h4:Eg s.ext<=Eg t.ext:=by exact Nat.le_refl _):B4 cx t g l a w:=
 h.jN (fun k v e => .inr ⟨v,by rw [<-h1]; exact e,WL.refl v⟩) (fun k v e=>⟨v,by rw [<-h2]; exact e,Fg.refl v⟩) (fun k v e=>⟨v,by rw [<-h3]; exact e,Fg.refl v⟩) h4
def B5(P:Program)(cx:Cx)(s:S)(o:Oper)(K:List Wr->Prop)(a:Act)(w:World):Prop:=
 ∀Q,o.wp P a w (fun a' w'=>∃wr g' l',K wr/\B4 cx (s.I9 wr) g' l' a' w') Q
def wv(n:Nat)(o:Oper)(lv:LV):RM (List Wr):=match o.dst with
 | some d=>if d<n then .ret [.tmp d lv] else .fail
 | none => .ret []
theorem B5.value{P:Program}{o:Oper}{K:List Wr->Prop}{lv:LV}{v:Value}{g':Gh}{l':LG}{w':World}(hw:(wv cx.n o lv).wp s K)(hs:B4 cx s g' l' a w')
  (hr:∀d,Cr g' l' w' (.t d) lv v) (By:(execOp a.eval o).run P w = .ok (.value v) w'):B5 P cx s o K a w:=by
 intro Q
 unfold Oper.wp
 rw [By,Oper.upon_value]
 unfold wv at hw
 split at hw
 ·rename_i d hd
  split at hw
  ·rename_i Ac
   refine ⟨_,g',l',hw,?_⟩
   rw [hd]
   exact hs.set Ac (hr d)
  ·exact hw.elim
 ·rename_i hd
  refine ⟨_,g',l',hw,?_⟩
  rw [hd]
  exact hs
def XX:List Oper->Nat->Bool
 | [],_=>false
 | o::r,d=>(match o.op with
  | .call { callee := .builtin .append,args,.. }=>(match args.toList with | .tmp t::_=>t==d | _=>false)
  | .assign (.tmp t)=>t==d
  | _=>false)||XX r d
def mv(n:Nat)(ops:List Oper)(o:Oper)(take:Bool)(x:Operand):RM (List Wr):=match x with
 | .tmp t => .IN t fun lv=>match lv,o.dst with
  | .uniq e z es,some d=>if d<n/\t≠d then (if e<1000000 then (if take||XX ops d then .ret [.tmp t (.v (.sl z es)),.tmp d (.uniq e z es)] else .ret [.tmp d (.v (.sl z es))]) else .ret [.tmp t .DN,.tmp d (.uniq e z es)]) else .fail
  | .uniq _ _ _,none => .fail
  | lv,_=>wv n o lv
 | x=>ev x fun lv=>match lv with
  | .uniq _ _ _ => .fail
  | lv=>wv n o lv
theorem kN{t:Nat}{lv:LV}(h:∀e z es,lv ≠ .uniq e z es):RS { s with tmps:=put s.tmps t lv } (.t t):=fun e z es he=>by
 rw [Mg] at he
 injection he with he
 exact h e z es he
theorem B4.take(h:B4 cx s g l a w){t d:Nat}{e:TypeId}{z:Nat}{es:List (List PV)}{lf:LV}(hlf:lf = .DN∨lf = .v (.sl z es)/\e<1000000)(hd:d<cx.n)(De:t≠d)(ht:lk s.tmps t=some (.uniq e z es)) :
  ∃l',B4 cx { s with tmps:=put (put s.tmps t lf) d (.uniq e z es) } g l' (a.put (some d) (a.tmps.getD t undef)) w:=by
 have hr:=h.tm t _ ht
 have hlu:∀e z es,lf ≠ .uniq e z es:=by rintro e z es rfl; rcases hlf with h | ⟨h,-⟩ <;> cases h
 have h1:B4 cx { s with tmps:=put (put s.tmps t lf) d .DN } g l a w:=by
  refine h.jN (fun k v hk=>?_) (Ez Fg.refl _) (Ez Fg.refl _)
  simp only [B8] at hk
  split at hk
  ·injection hk with hk
   exact .inl hk.symm
  ·split at hk
   ·rename_i e0
    subst e0
    injection hk with hk
    subst hk
    rcases hlf with rfl | ⟨rfl,Ac⟩
    ·exact .inl rfl
    ·exact .inr ⟨_,ht,.inr ⟨rfl,x8 Ac⟩⟩
   ·exact .inr ⟨v,hk,WL.refl v⟩
 obtain ⟨l',h2,h3,-⟩:=h1.Hh (p := .t t) (q := .t d) hr (fun e z es he=>by simp only [B8,iN (Ne.symm De),if_true] at he; injection he with he; exact hlu _ _ _ he)
  (fun e z es he=>by simp only [B8,if_true] at he; injection he with he; cases he)
 refine ⟨l',(h2.set hd h3).congr (fun k=>?_) (fun _=>rfl) (fun _=>rfl)⟩
 simp only [B8]
 split <;> rfl
theorem RT{P:Program}{ops:List Oper}{o:Oper}{K:List Wr->Prop}{tk:Bool}{x:Operand}(h:B4 cx s g l a w)(hw:(mv cx.n ops o tk x).wp s K)
  (By:(execOp a.eval o).run P w = .ok (.value (a.eval x)) w):B5 P cx s o K a w:=by
 unfold mv at hw
 split at hw
 ·rename_i t
  simp only [RM.wp] at hw
  split at hw
  ·rename_i lv GD
   have hr:=h.tm t lv GD
   split at hw
   ·rename_i e z es d hd
    split at hw
    ·rename_i hc
     split at hw
     ·rename_i Ac
      split at hw
      ·intro Q
       unfold Oper.wp
       rw [By,Oper.upon_value,hd]
       obtain ⟨l',h2⟩:=h.take (.inr ⟨rfl,Ac⟩) hc.1 hc.2 GD
       exact ⟨_,g,l',hw,h2⟩
      ·refine B5.value (lv := .v (.sl z es)) (v:=a.eval (.tmp t)) ?_ h (fun d=>EY (XW Ac) hr) By
       unfold wv
       rw [hd]
       simp only [hc.1,if_true]
       exact hw
     ·intro Q
      unfold Oper.wp
      rw [By,Oper.upon_value,hd]
      obtain ⟨l',h2⟩:=h.take (.inl rfl) hc.1 hc.2 GD
      exact ⟨_,g,l',hw,h2⟩
    ·exact hw.elim
   ·exact hw.elim
   ·rename_i lv1 lv2 x2 Nk hnu
    refine B5.value hw h (fun d=>?_) By
    refine hr.free ?_
    cases lv1 with
    | uniq e z es=>
     cases kO:o.dst with
     | none=>exact (hnu e z es rfl kO).elim
     | some d=>exact (Nk e z es d rfl kO).elim
    | _=>rfl
  ·exact hw.elim
 ·obtain ⟨lv,u,h1,h2,h3⟩:=C6 h hw
  split at h1
  ·exact h1.elim
  ·rename_i hnu
   refine B5.value h1 h (fun d=>?_) By
   refine h2.free ?_
   cases lv with
   | uniq e z es=>exact (hnu e z es rfl).elim
   | _=>rfl
end
section
variable {P:Program} {cx:Cx} {s t:S} {g:Gh} {l:LG} {a:Act} {w:World} {o:Oper} {K:List Wr->Prop}
theorem B5.pure{p:PV}{v:Value}(h:B4 cx s g l a w)(hw:(wv cx.n o (.v p)).wp s K)(hr:BN g w p v)(By:(execOp a.eval o).run P w = .ok (.value v) w):B5 P cx s o K a w:=
 B5.value hw h (fun _=>hr) By
def A6a(op:BinOp)(k:IntKind)(x y:Int):Option PV:=match op with
 | .add=>some (.int k (k.wrap (x+y)))
 | .sub=>some (.int k (k.wrap (x - y)))
 | .mul=>some (.int k (k.wrap (x * y)))
 | .eql=>some (.bool (x==y))
 | .neq=>some (.bool (x != y))
 | .lss=>some (.bool (decide (x<y)))
 | .leq=>some (.bool (decide (x<=y)))
 | .gtr=>some (.bool (decide (x>y)))
 | .geq=>some (.bool (decide (x>=y)))
 | _=>none
def A6b(op:BinOp)(x y:ByteArray):Option PV:=match op with
 | .eql=>some (.bool (x.toList==y.toList))
 | .neq=>some (.bool (!(x.toList==y.toList)))
 | .lss=>some (.bool (Op.bytesLess x.toList y.toList))
 | .leq=>some (.bool (Op.bytesLess x.toList y.toList||x.toList==y.toList))
 | .gtr=>some (.bool (!(Op.bytesLess x.toList y.toList||x.toList==y.toList)))
 | .geq=>some (.bool (!Op.bytesLess x.toList y.toList))
 | _=>none
def isEq:BinOp->Option Bool
 | .eql=>some true
 | .neq=>some false
 | _=>none
def eqP(P:Program)(t:TypeId)(cst:Bool)(p q:PV):Option Bool:=match P.underlying t,p,q with
 | some .bool,.bool x,.bool y=>some (x==y)
 | some (.pointer _),.GG,.GG=>some true
 | some (.pointer _),.GG,.ro _ _=>some false
 | some (.pointer _),.GG,.xp _ _=>some false
 | some (.pointer _),.ro _ _,.GG=>some false
 | some (.pointer _),.xp _ _,.GG=>some false
 | some (.interface _),.FY,.FY=>if cst then some true else none
 | some (.interface _),.FY,.iface _ _=>some false
 | some (.interface _),.iface _ _,.FY=>some false
 | some (.map _ _),.XM,.XM=>some true
 | some (.map _ _),.mp _,.XM=>some false
 | some (.slice _),.A2,.A2=>some true
 | some (.slice _),.sl _ (_::_),.A2=>some false
 | some (.slice _),.UK _ _ _,.A2=>some false
 | _,_,_=>none
def isConst:Operand->Bool
 | .const _=>true
 | _=>false
def XY(P:Program)(n:Nat)(o:Oper)(op:BinOp)(ty:TypeId)(x y:Operand):RM (List Wr):=
 FL x fun p=>FL y fun q=>match p,q with
  | .int k i,.int k' j=>if k=k' then (match op with
    | .quo => .assume (decide (j≠0)) (wv n o (.v (.int k (k.wrap (i.tdiv j)))))
    | .rem => .assume (decide (j≠0)) (wv n o (.v (.int k (i.tmod j))))
    | op=>match A6a op k i j with
     | some r=>wv n o (.v r)
     | none => .fail) else .fail
  | .str i,.str j=>match op with
   | .add => .assume (decide (i.size+j.size<=9223372036854775807)) (wv n o (.v (.str (i++j))))
   | op=>match A6b op i j with
    | some r=>wv n o (.v r)
    | none => .fail
  | p,q=>match isEq op,eqP P ty (isConst x||isConst y) p q with
   | some pos,some b=>wv n o (.v (.bool (if pos then b else !b)))
   | _,_ => .fail
theorem UP{α:Type}{c:Prop} [Decidable c] {x y:Sem α} {r:Result α} (hx:x.run P w=r) (hy:y.run P w=r):(if c then x else y).run P w=r:=by
 split
 ·exact hx
 ·exact hy
theorem Dg{op:BinOp}{ty:TypeId}{x y:Operand}{u v:Value}(h:¬(u = .nilIface/\v = .nilIface))(h':∀c d,¬(u = .agg c/\v = .agg d)):(eqGuard op ty x y u v).run P w = .ok () w:=by
 unfold eqGuard
 refine UP rfl ?_
 split
 ·exact absurd ⟨rfl,rfl⟩ h
 ·rename_i c d; exact absurd ⟨rfl,rfl⟩ (h' c d)
 ·rfl
theorem N9{op:BinOp}{ty:TypeId}{x y:Operand}(h:(isConst x||isConst y)=true):(eqGuard op ty x y .nilIface .nilIface).run P w = .ok () w:=by
 unfold eqGuard
 refine UP rfl ?_
 cases x <;> cases y <;> first | rfl | cases h
theorem KO{ty:TypeId}{u v:Value}{b:Bool}(h:∀d,(Op.equalIn (d+1) ty u v).run P w = .ok b w):(Op.equal ty u v).run P w = .ok b w:=h 9999
theorem Wp{ty:TypeId}{x y:Operand}{p q:PV}{b:Bool}{u v:Value}{op:BinOp}{pos:Bool}(hb:eqP P ty (isConst x||isConst y) p q=some b)(hp:isEq op=some pos)(r1:BN g w p u)(r2:BN g w q v) :
    (eqGuard op ty x y u v).run P w = .ok () w/\(binOp op ty u v).run P w = .ok (.bool (if pos then b else !b)) w:=by
  have A6c:(∀k i,u ≠ .int k i)->(∀i,u ≠ .string i)->(∀k i,u ≠ .float k i)->(∀k i j,u ≠ .complex k i j)->(Op.equal ty u v).run P w = .ok b w->(binOp op ty u v).run P w = .ok (.bool (if pos then b else !b)) w:=by
    intro n1 n2 n3 n4 he
    cases op <;> simp [isEq] at hp <;> subst hp
    · unfold binOp
      split <;> simp_all
    · unfold binOp
      split <;> simp_all
  unfold eqP at hb
  cases hu:P.underlying ty with
  | none=>simp [hu] at hb
  | some d=>
    rw [hu] at hb
    split at hb
    all_goals first | (cases hb; done) | skip
    all_goals rename_i hd
    all_goals injection hd with hd
    all_goals subst hd
    all_goals cases r1
    all_goals cases r2
    all_goals first
      | (split at hb
         · rename_i hc
           injection hb with hb
           subst hb
           exact ⟨N9 hc,A6c sM sM sM sM (KO fun d=>by simp only [Op.equalIn,Sem.run_bind,run_underlying hu,Result.andThen_ok]; rfl)⟩
         · cases hb)
      | (injection hb with hb
         subst hb
         exact ⟨Dg sM sM,A6c sM sM sM sM (KO fun d=>by simp only [Op.equalIn,Sem.run_bind,run_underlying hu,Result.andThen_ok]; rfl)⟩)
theorem QG{op:BinOp}{ty yt:TypeId}{x y:Operand}(ho:o.op = .binOp op ty x y yt)(h:B4 cx s g l a w)(hw:(XY P cx.n o op ty x y).wp s K):B5 P cx s o K a w:=by
 obtain ⟨p,h1,r1⟩:=AH h hw
 obtain ⟨q,h2,r2⟩:=AH h h1
 clear hw h1
 have hex:∀v,(eqGuard op ty x y (a.eval x) (a.eval y)).run P w = .ok () w->(binOp op ty (a.eval x) (a.eval y)).run P w = .ok v w->(execOp a.eval o).run P w = .ok (.value v) w:=by
  intro v hg hv
  simp only [execOp,ho,Sem.run_bind,hg,Result.andThen_ok,hv,Sem.run_pure]
 generalize a.eval x=vx at r1 hex
 generalize a.eval y=vy at r2 hex
 split at h2
 ·rename_i k i k' j
  cases r1
  cases r2
  split at h2
  ·rename_i hk
   subst hk
   have hg:(eqGuard op ty x y (.int k i) (.int k j)).run P w = .ok () w:=Dg sM sM
   split at h2
   ·have hj:=of_decide_eq_true h2.1; replace h2:=h2.2
    exact B5.pure h h2 (.int _ _) (hex _ hg (by simp [binOp,Op.intDiv,hj]))
   ·have hj:=of_decide_eq_true h2.1; replace h2:=h2.2
    exact B5.pure h h2 (.int _ _) (hex _ hg (by simp [binOp,Op.intDiv,hj]))
   ·split at h2
    ·rename_i r hr
     have key:∃v,(binOp op ty (.int k i) (.int k j)).run P w = .ok v w/\BN g w r v:=by
      cases op <;> simp only [A6a] at hr <;> first
       | (cases hr; done)
       | (injection hr with hr; subst hr; exact ⟨_,by simp only [binOp,Op.intArith,Op.intCmp,ne_eq,not_true_eq_false,if_false]; rfl,by constructor⟩)
     obtain ⟨v,hv,xU⟩:=key
     exact B5.pure h h2 xU (hex _ hg hv)
    ·exact h2.elim
  ·exact h2.elim
 ·rename_i i j
  cases r1
  cases r2
  have hg:(eqGuard op ty x y (.string i) (.string j)).run P w = .ok () w:=Dg sM sM
  split at h2
  ·have hj:=of_decide_eq_true h2.1; replace h2:=h2.2
   refine B5.pure h h2 (.str _) (hex _ hg ?_)
   have Cu:¬(((i.size+j.size:Nat):Int)>IntKind.i64.max):=by
    have:IntKind.i64.max=9223372036854775807:=rfl
    rw [this]
    omega
   simp only [binOp,Op.stringOp]
   rw [iN Cu]
   rfl
  ·split at h2
   ·rename_i r hr
    have key:∃v,(binOp op ty (.string i) (.string j)).run P w = .ok v w/\BN g w r v:=by
     cases op <;> simp only [A6b] at hr <;> first
      | (cases hr; done)
      | (injection hr with hr; subst hr; exact ⟨_,by simp only [binOp,Op.stringOp]; rfl,by constructor⟩)
    obtain ⟨v,hv,xU⟩:=key
    exact B5.pure h h2 xU (hex _ hg hv)
   ·exact h2.elim
 ·split at h2
  ·rename_i pos b hp hb
   obtain ⟨k1,k2⟩:=Wp hb hp r1 r2
   exact B5.pure h h2 (.bool _) (hex _ k1 k2)
  ·exact h2.elim
end
section
variable {P:Program} {cx:Cx} {s t:S} {g:Gh} {l:LG} {a:Act} {w:World} {o:Oper} {K:List Wr->Prop}
def oH(n:Nat)(o:Oper)(op:UnOp)(x:Operand):RM (List Wr):=FL x fun p=>match op,p with
 | .not,.bool b=>wv n o (.v (.bool (!b)))
 | .neg,.int k i=>wv n o (.v (.int k (k.wrap (0 - i))))
 | _,_ => .fail
theorem RU{op:UnOp}{ty:TypeId}{x:Operand}(ho:o.op = .unOp op ty x)(h:B4 cx s g l a w)(hw:(oH cx.n o op x).wp s K):B5 P cx s o K a w:=by
 obtain ⟨p,h1,r1⟩:=AH h hw
 have hex:∀v,(Op.unary op (a.eval x)).run P w = .ok v w->(execOp a.eval o).run P w = .ok (.value v) w:=by
  intro v hv
  simp only [execOp,ho,Sem.run_bind,hv,Result.andThen_ok,Sem.run_pure]
 generalize a.eval x=vx at r1 hex
 split at h1
 ·cases r1; exact B5.pure h h1 (.bool _) (hex _ rfl)
 ·cases r1; exact B5.pure h h1 (.int _ _) (hex _ rfl)
 ·exact h1.elim
def UQ(P:Program)(n:Nat)(o:Oper)(dst:TypeId)(x:Operand):RM (List Wr):=FL x fun p=>match xL P dst,p with
 | some k,.int _ i=>wv n o (.v (.int k (k.wrap i)))
 | _,_ => .fail
theorem XZ{ty:TypeId}{k:IntKind}(h:xL P ty=some k):P.underlying ty=some (.int k):=by
 unfold xL at h
 split at h
 ·rename_i hu; injection h with h; subst h; exact hu
 ·cases h
theorem P7{src dst:TypeId}{x:Operand}(ho:o.op = .convert src dst x)(RV:(P.underlying src).isSome=true)(h:B4 cx s g l a w)(hw:(UQ P cx.n o dst x).wp s K):B5 P cx s o K a w:=by
 obtain ⟨p,h1,r1⟩:=AH h hw
 have hex:∀v,(convert src dst (a.eval x)).run P w = .ok v w->(execOp a.eval o).run P w = .ok (.value v) w:=by
  intro v hv
  simp only [execOp,ho,Sem.run_bind,hv,Result.andThen_ok,Sem.run_pure]
 generalize a.eval x=vx at r1 hex
 split at h1
 ·rename_i k i hk
  cases r1
  obtain ⟨d,hd⟩:=Option.isSome_iff_exists.1 RV
  refine B5.pure h h1 (.int _ _) (hex _ ?_)
  simp only [convert,Sem.run_bind,run_underlying hd,run_underlying (XZ hk),Result.andThen_ok]
  rfl
 ·exact h1.elim
def KP(P:Program)(t:TypeId):Bool:=match P.underlying t with
 | some (.interface _)=>false
 | some _=>true
 | none=>false
def Y0(P:Program)(n:Nat)(o:Oper)(ty:TypeId)(x:Operand):RM (List Wr):=FL x fun p=>if KP P ty=true then wv n o (.v (.iface ty p)) else .fail
theorem QH{ty:TypeId}{x:Operand}(ho:o.op = .makeInterface ty x)(h:B4 cx s g l a w)(hw:(Y0 P cx.n o ty x).wp s K):B5 P cx s o K a w:=by
 obtain ⟨p,h1,r1⟩:=AH h hw
 split at h1
 ·rename_i hn
  refine B5.pure h h1 (.iface ty p _ r1) ?_
  unfold KP at hn
  split at hn
  ·cases hn
  ·rename_i d hd hu
   simp only [execOp,ho,Instr.makeInterface,Sem.run_bind,run_underlying hu,Result.andThen_ok]
   rfl
  ·cases hn
 ·exact h1.elim
def Y1(n:Nat)(o:Oper)(fn:Fn)(first captured:Array Operand):RM (List Wr):=oG first.toList fun ps=>oG captured.toList fun qs=>wv n o (.v (.fn fn ps qs))
theorem QI{fn:Fn}{first captured:Array Operand}(ho:o.op = .makeFunc fn first captured)(h:B4 cx s g l a w)(hw:(Y1 cx.n o fn first captured).wp s K):B5 P cx s o K a w:=by
 obtain ⟨ps,h1,r1⟩:=Fp h hw
 obtain ⟨qs,h2,r2⟩:=Fp h h1
 refine B5.pure h h2 (.fn fn ps qs _ _ r1.1 r2.1 r1.2 r2.2) ?_
 simp only [execOp,ho,Instr.makeFunc,Sem.run_bind,Sem.run_pure,Result.andThen_ok]
 congr 2
 simp [<-Array.toList_map]
def KQ(P:Program)(t:TypeId)(name:String):Option FuncId:=match P.info? t with
 | some i=>match i.methods.find? (·.name==name) with
  | some m=>if m.path.toList.isEmpty=true then match m.func,P.underlying t with
    | some (_,false),some (.pointer _)=>none
    | some (f,false),some _=>some f
    | some (f,true),some (.pointer _)=>some f
    | _,_=>none
   else none
  | none=>none
 | none=>none
theorem QJ{t:TypeId}{name:String}{f:FuncId}{v:Value}(h:KQ P t name=some f):(nilAhead (P.types.size+Made.depth) t v name).run P w = .ok (some false) w:=by
 unfold KQ at h
 split at h
 ·rename_i i hi
  split at h
  ·rename_i m hm
   split at h
   ·rename_i hp
    have oI:m.path.toList=[]:=by simpa using hp
    have hd:P.types.size+Made.depth=(P.types.size+(Made.depth - 1))+1:=by
     have:0<Made.depth:=by decide
     omega
    rw [hd]
    split at h
    ·cases h
    ·rename_i f' u hn hf hu
     simp only [nilAhead,Sem.run_bind,typeInfo,run_program,Result.andThen_ok,hi,Sem.run_pure,hm,oI,followBlind,hf,run_underlying hu]
     cases u <;> first | (exact (hn _ rfl).elim) | (simp; done)
    ·rename_i f' hf hu
     simp [nilAhead,typeInfo,hi,hm,oI,followBlind,hf]
    ·cases h
   ·cases h
  ·cases h
 ·cases h
def Y2(P:Program)(n:Nat)(o:Oper)(x:Operand):RM (List Wr):=ev x fun lv=>match lv with
 | .v (.fn (.method name) (.iface t q::ps) qs)=>if (KQ P t name).isSome=true then wv n o (.v (.fn (.method name) (.iface t q::ps) qs)) else .fail
 | .v (.fn (.method name) (.Wi t f q::ps) qs) => .assume (decide (KQ P t name=some f)) (wv n o (.v (.fn (.method name) (.Wi t f q::ps) qs)))
 | .lp i off=>wv n o (.lp i off)
 | .v (.ro cs off)=>wv n o (.v (.ro cs off))
 | .v (.xp m off)=>wv n o (.v (.xp m off))
 | .v (.fn (.func f) ps qs)=>wv n o (.v (.fn (.func f) ps qs))
 | _ => .fail
theorem QK{x:Operand}(ho:o.op = .nilCheck x)(h:B4 cx s g l a w)(hw:(Y2 P cx.n o x).wp s K):B5 P cx s o K a w:=by
 obtain ⟨lv,u,h1,r1,-⟩:=C6 h hw
 have hex:∀v,v=a.eval x->(∃b,v = .pointer (some b))∨(∃f p q,v = .func (.func f) p q)->(execOp a.eval o).run P w = .ok (.value v) w:=by
  intro v hv hc
  subst hv
  simp only [execOp,ho]
  rcases hc with ⟨b,hb⟩ | ⟨f,p,q,hb⟩ <;> rw [hb] <;> rfl
 have xV:∀t name f v fv (qv:Array Value),KQ P t name=some f->a.eval x = .func (.method name) (Value.iface t v::fv).toArray qv->(execOp a.eval o).run P w = .ok (.value (.func (.method name) (Value.iface t v::fv).toArray qv)) w:=by
  intro t name f v fv qv hm hv
  have e0:(Value.iface t v::fv).toArray[0]?=some (.iface t v):=by simp
  simp only [execOp,ho,hv,e0,Sem.run_bind,run_program,Result.andThen_ok,QJ hm]
  simp
 generalize a.eval x=vx at r1 hex xV
 split at h1
 ·rename_i name t q ps qs
  split at h1
  ·rename_i hm
   obtain ⟨f,hf⟩:=Option.isSome_iff_exists.1 hm
   refine B5.pure h h1 r1 ?_
   cases r1 with
   | fn _ _ _ fv cv l1 l2 r3 r4=>
    cases fv with
    | nil=>simp at l1
    | cons v0 fv=>
     have:=r3 0 sM sM
     simp only [List.getElem_cons_zero] at this
     cases this with
     | iface _ _ v hv=>exact xV t name f v fv _ hf rfl
  ·exact h1.elim
 ·rename_i name t f q ps qs
  obtain ⟨hd,h1⟩:=h1
  have hf:=of_decide_eq_true hd
  refine B5.pure h h1 r1 ?_
  cases r1 with
  | fn _ _ _ fv cv l1 l2 r3 r4=>
   cases fv with
   | nil=>simp at l1
   | cons v0 fv=>
    have:=r3 0 sM sM
    simp only [List.getElem_cons_zero] at this
    cases this with
    | Wi _ _ _ v hv=>exact xV t name f v fv _ hf rfl
 ·obtain ⟨b,hb,rfl⟩:=r1
  exact B5.value h1 h (fun _=>⟨b,hb,rfl⟩) (hex _ rfl (.inl ⟨_,rfl⟩))
 ·refine B5.pure h h1 r1 (hex _ rfl ?_)
  cases r1; exact .inl ⟨_,rfl⟩
 ·refine B5.pure h h1 r1 (hex _ rfl ?_)
  cases r1; exact .inl ⟨_,rfl⟩
 ·refine B5.pure h h1 r1 (hex _ rfl ?_)
  cases r1; exact .inr ⟨_,_,_,rfl⟩
 ·exact h1.elim
def Y3(P:Program)(n:Nat)(o:Oper)(ty:TypeId)(x:Operand)(f:Nat):RM (List Wr):=match XV P ty f with
 | some (fo,ft)=>match Lu P ft with
  | some (_+1)=>ev x fun lv=>match lv with
   | .lp i off=>wv n o (.lp i (off+fo))
   | .v (.ro cs off)=>wv n o (.v (.ro cs (off+fo)))
   | .v (.xp m off)=>wv n o (.v (.xp m (off+fo)))
   | _ => .fail
  | _ => .fail
 | none => .fail
theorem RW{ty:TypeId}{f fo:Nat}{ft:TypeId}(h:XV P ty f=some (fo,ft)):∃fs fd,P.underlying ty=some (.struct fs)/\fs[f]?=some fd/\fd.offset=fo/\fd.type=ft:=by
 unfold XV at h
 split at h
 ·rename_i fs hu
  simp only [Option.map_eq_some_iff,Prod.mk.injEq] at h
  obtain ⟨fd,h1,h2,h3⟩:=h
  exact ⟨fs,fd,hu,h1,h2,h3⟩
 ·cases h
theorem RX{ty:TypeId}{f fo:Nat}{ft:TypeId}{m:Nat}(h:XV P ty f=some (fo,ft))(hs:Lu P ft=some (m+1))(b off:Nat):(Instr.fieldAt ty (.pointer (some ⟨b,off,none⟩)) f).run P w = .ok (.pointer (some ⟨b,off+fo,none⟩)) w:=by
 obtain ⟨fs,fd,hu,hf,rfl,rfl⟩:=RW h
 have Y4:(⟨b,off,none⟩:Addr).add fd.offset=⟨b,off+fd.offset,none⟩:=by unfold Addr.add; split <;> simp_all
 simp only [Instr.fieldAt,Sem.run_bind,run_underlying hu,Result.andThen_ok,hf,Instr.sureAddr,Sem.run_pure,fieldPlace,run_sizeOf hs]
 simp [Y4]
theorem RY{ty:TypeId}{x:Operand}{f:Nat}(ho:o.op = .fieldAddr ty x f)(h:B4 cx s g l a w)(hw:(Y3 P cx.n o ty x f).wp s K):B5 P cx s o K a w:=by
 unfold Y3 at hw
 split at hw
 ·rename_i fo ft hfo
  split at hw
  ·rename_i m hm
   obtain ⟨lv,u,h1,r1,-⟩:=C6 h hw
   have hex:∀b off,a.eval x = .pointer (some ⟨b,off,none⟩)->(execOp a.eval o).run P w = .ok (.value (.pointer (some ⟨b,off+fo,none⟩))) w:=by
    intro b off hv
    simp only [execOp,ho,hv,Sem.run_bind,RX hfo hm,Result.andThen_ok,Sem.run_pure]
   generalize a.eval x=vx at r1 hex
   split at h1
   ·obtain ⟨b,hb,rfl⟩:=r1
    exact B5.value h1 h (fun _=>⟨b,hb,rfl⟩) (hex _ _ rfl)
   ·cases r1 with
    | ro _ Afb b oo vs hc hf UR hr=>
     have:=hex b _ rfl
     rw [Nat.add_assoc] at this
     exact B5.pure h h1 (.ro _ _ b oo vs hc hf UR hr) this
   ·cases r1 with
    | xp _ off b hx=>exact B5.pure h h1 (.xp _ _ b hx) (hex _ _ rfl)
   ·exact h1.elim
  ·exact hw.elim
 ·exact hw.elim
def P8(P:Program)(ty:TypeId)(cs:List PV)(off:Nat):Option PV:=match N8 P ty with
 | some true=>match Lu P ty with
  | some m=>if off+m<=cs.length then some (.agg ((cs.drop off).take m)) else none
  | none=>none
 | some false=>cs[off]?
 | none=>none
theorem Hl{ty:TypeId}{cs:List PV}{off:Nat}{p:PV}{vs:List Value}(h:P8 P ty cs off=some p)(hr:AG g w cs vs)(ho:∀v∈vs,v.oneCell'=true):∃v,(part ty vs.toArray off).run P w = .ok v w/\BN g w p v:=by
 unfold P8 at h
 split at h
 ·rename_i ha
  split at h
  ·rename_i m hm
   split at h
   ·rename_i hle
    injection h with h
    subst h
    refine ⟨.agg ((vs.drop off).take m).toArray,?_,?_⟩
    ·simp only [part,Sem.run_bind,Hi ha,Result.andThen_ok,if_true,run_sizeOf hm,Sem.run_pure]
     congr 2
     apply Array.ext'
     simp [List.extract_eq_take_drop]
    ·refine .agg _ _ (by simp [hr.1]) (fun v hv=>ho v (List.mem_of_mem_drop (List.mem_of_mem_take hv))) fun j hj Cu=>?_
     simp only [List.getElem_take,List.getElem_drop]
     exact hr.2 _ _ _
   ·cases h
  ·cases h
 ·rename_i ha
  have Ac:=(List.getElem?_eq_some_iff.1 h).1
  have CE:off<vs.length:=by rw [<-hr.1]; exact Ac
  refine ⟨vs[off],?_,?_⟩
  ·simp [part,Hi ha,List.getElem?_eq_getElem CE]
  ·have:=hr.2 off Ac CE
   rw [List.getElem?_eq_getElem Ac] at h
   injection h with h
   rw [<-h]; exact this
 ·cases h
def NB(P:Program)(n:Nat)(o:Oper)(ty:TypeId)(x:Operand)(f:Nat):RM (List Wr):=match XV P ty f with
 | some (fo,ft)=>FL x fun p=>match p with
  | .agg cs=>match P8 P ft cs fo with
   | some q=>wv n o (.v q)
   | none => .fail
  | _ => .fail
 | none => .fail
theorem NC{ty:TypeId}{x:Operand}{f:Nat}(ho:o.op = .field ty x f)(h:B4 cx s g l a w)(hw:(NB P cx.n o ty x f).wp s K):B5 P cx s o K a w:=by
 unfold NB at hw
 split at hw
 ·rename_i fo ft hfo
  obtain ⟨p,h1,r1⟩:=AH h hw
  obtain ⟨fs,fd,hu,hf,rfl,rfl⟩:=RW hfo
  have hex:∀v vs,a.eval x = .agg vs->(part fd.type vs fd.offset).run P w = .ok v w->(execOp a.eval o).run P w = .ok (.value v) w:=by
   intro v vs hv hp
   simp only [execOp,ho,hv,Instr.field,Sem.run_bind,run_underlying hu,Result.andThen_ok,hf,asAgg,Sem.run_pure,hp]
  generalize a.eval x=vx at r1 hex
  split at h1
  ·rename_i cs
   split at h1
   ·rename_i q hq
    cases r1 with
    | agg _ vs hl Cg hr=>
     obtain ⟨v,k1,k2⟩:=Hl (P:=P) hq ⟨hl,hr⟩ Cg
     exact B5.pure h h1 k2 (hex _ _ rfl k1)
   ·exact h1.elim
  ·exact h1.elim
 ·exact hw.elim
def Wt:LV->Option (Nat × List (List PV))
 | .v (.sl z es)=>some (z,es)
 | .uniq e z es=>if e<1000000 then some (z,es) else none
 | .full z es=>some (z,es)
 | _=>none
theorem ND{lv:LV}{z:Nat}{es:List (List PV)}(h:Wt lv=some (z,es)):Xs lv=some (.sl z es):=by
 unfold Wt at h
 split at h
 ·injection h with h; injection h with h1 h2; subst h1 h2; rfl
 ·split at h
  ·rename_i Ac
   injection h with h; injection h with h1 h2; subst h1 h2; exact iP Ac
  ·cases h
 ·injection h with h; injection h with h1 h2; subst h1 h2; rfl
 ·cases h
def oJ:LV->Option (Nat × Nat × Nat)
 | .v (.UK x z len)=>some (x,z,len)
 | _=>none
def Py:LV->Option (Nat × Nat × Nat)
 | .v (.N6 x c len)=>some (x,c,len)
 | _=>none
def Y5(P:Program)(n:Nat)(o:Oper)(ty:TypeId)(x i:Operand):RM (List Wr):=match (GJ P ty).bind (Lu P) with
 | some (m+1)=>ev x fun lv=>FL i fun q=>match Py lv,oJ lv,Wt lv,q with
  | some (x,c,len),_,_,.int _ j=>if m=0 then .assume (decide (0<=j/\j<len)) (wv n o (.v (.yp x c j.toNat))) else .fail
  | none,some (x,z,len),_,.int _ j=>if z=m+1 then .assume (decide (0<=j/\j<len)) (wv n o (.v (.xp x (j.toNat * (m+1))))) else .fail
  | none,none,some (z,es),.int _ j=>if z=m+1 then .assume (decide (0<=j/\j<es.length)) (wv n o (.v (.ro (es.getD j.toNat []) 0))) else .fail
  | _,_,_,_ => .fail
 | _ => .fail
theorem EL{ty e:TypeId}(h:GJ P ty=some e):P.underlying ty=some (.slice e):=by
 unfold GJ at h
 split at h
 ·rename_i hu; injection h with h; subst h; exact hu
 ·cases h
theorem BN.elem{z:Nat}{es:List (List PV)}{a:Addr}{n cap i:Nat}(h:BN g w (.sl z es) (.slice (some a) n cap))(hz:0<z)(hi:i<es.length):BN g w (.ro es[i] 0) (.pointer (some (a.add (i * z)))):=by
 cases h with
 | sl _ _ _ _ vs hle Dv Bk hc hf h1 hr=>
  have h0:=hc i 0 hi hz
  have ha:=KJ h0
  rw [Nat.add_zero] at ha
  rw [ha]
  refine .ro es[i] 0 a.block (a.off+i * z) (vs i) (fun j hj=>?_) (fun j hj=>?_) (fun j hj=>h1 i j hi (by rw [<-Bk i hi]; exact hj)) fun j hj=>hr i j hi hj
  ·have Cu:j<z:=by rw [<-Bk i hi]; exact hj
   have:=hc i j hi Cu
   rw [KJ this] at this
   rw [Nat.add_assoc]
   exact this
  ·have Cu:j<z:=by rw [<-Bk i hi]; exact hj
   rw [Nat.add_assoc]
   exact hf i j hi Cu
theorem RZ{ty:TypeId}{x i:Operand}(ho:o.op = .indexAddr ty x i)(h:B4 cx s g l a w)(hw:(Y5 P cx.n o ty x i).wp s K):B5 P cx s o K a w:=by
 unfold Y5 at hw
 split at hw
 ·rename_i m hm
  simp only [Option.bind_eq_some_iff] at hm
  obtain ⟨e,he,ET⟩:=hm
  have hu:=EL he
  obtain ⟨lv,u,h1,r1,-⟩:=C6 h hw
  obtain ⟨q,h2,r2⟩:=AH h h1
  have hex:∀b len cap k (j:Int),a.eval x = .slice (some b) len cap->a.eval i = .int k j->0<=j/\j<len->(execOp a.eval o).run P w = .ok (.value (.pointer (some (b.add (j.toNat * (m+1)))))) w:=by
   intro b len cap k j hx hi hj
   simp only [execOp,ho,hx,hi,Instr.indexAt,Sem.run_bind,asIntOf,Sem.run_pure,Result.andThen_ok,run_underlying hu]
   simp [hj,run_sizeOf ET]
  generalize a.eval x=vx at r1 hex
  generalize a.eval i=vi at r2 hex
  split at h2
  ·rename_i x c len k j hx
   split at h2
   case isFalse=>exact h2.elim
   rename_i xJ
   subst xJ
   have hj:=of_decide_eq_true h2.1; replace h2:=h2.2
   unfold Py at hx
   split at hx
   ·injection hx with hx
    simp only [Prod.mk.injEq] at hx
    obtain ⟨rfl,rfl,rfl⟩:=hx
    cases r2
    cases r1 with
    | N6 _ _ _ b cap cur e hb _ _ _ _=>
     refine B5.pure h h2 ?_ (hex _ _ _ _ _ rfl rfl hj)
     have:∀q,(⟨b,q,none⟩:Addr).add (j.toNat * (0+1))=⟨b,q+j.toNat * (0+1),none⟩:=fun q=>Nu _ _ (by unfold Addr.add; split <;> rfl)
     rw [this,Nat.zero_add,Nat.zero_add,Nat.mul_one]
     exact .yp _ _ _ b hb
   ·cases hx
  ·rename_i x z len k j _ hx
   split at h2
   case isFalse=>exact h2.elim
   have hj:=of_decide_eq_true h2.1; replace h2:=h2.2
   unfold oJ at hx
   split at hx
   ·injection hx with hx
    simp only [Prod.mk.injEq] at hx
    obtain ⟨rfl,rfl,rfl⟩:=hx
    cases r2
    cases r1 with
    | UK _ _ _ b cap cur e hb _ _ _ _=>
     refine B5.pure h h2 ?_ (hex _ _ _ _ _ rfl rfl hj)
     have:∀q,(⟨b,q,none⟩:Addr).add (j.toNat * (m+1))=⟨b,q+j.toNat * (m+1),none⟩:=fun q=>Nu _ _ (by unfold Addr.add; split <;> rfl)
     rw [this,Nat.zero_add]
     exact .xp _ _ b hb
   ·cases hx
  ·rename_i z es k j _ _ hsl
   split at h2
   ·rename_i hz
    have hj:=of_decide_eq_true h2.1; replace h2:=h2.2
    have r1':=EY (ND hsl) r1
    cases r2
    have hjn:j.toNat<es.length:=by omega
    rw [List.getD_eq_getElem?_getD,List.getElem?_eq_getElem hjn] at h2
    subst hz
    have De:es≠[]:=by rintro rfl; simp at hjn
    have KF:∃b cap,vx = .slice (some b) es.length cap:=by
     cases r1' with
     | slnil=>exact absurd rfl De
     | sl _ _ b cap _ _ _ _ _ _ _=>exact ⟨b,cap,rfl⟩
    obtain ⟨b,cap,rfl⟩:=KF
    exact B5.pure h h2 (r1'.elem (Nat.succ_pos m) hjn) (hex _ _ _ _ _ rfl rfl hj)
   ·exact h2.elim
  ·exact h2.elim
 ·exact hw.elim
def LC(P:Program)(t:TypeId):Bool:=match P.underlying t with
 | some .string=>true
 | _=>false
def oK(n:Nat)(o:Oper)(x:Operand)(i:Nat):RM (List Wr):=FL x fun p=>match p with
 | .Bf vs=>match vs[i]? with
  | some q=>wv n o (.v q)
  | none => .fail
 | _ => .fail
theorem S0{x:Operand}{i:Nat}(ho:o.op = .extract x i)(h:B4 cx s g l a w)(hw:(oK cx.n o x i).wp s K):B5 P cx s o K a w:=by
 obtain ⟨p,h1,r1⟩:=AH h hw
 have hex:∀v vs,a.eval x = .tuple vs->vs[i]?=some v->(execOp a.eval o).run P w = .ok (.value v) w:=by
  intro v vs hx hv
  simp [execOp,ho,hx,Instr.extract,hv]
 generalize a.eval x=vx at r1 hex
 split at h1
 ·rename_i ps
  split at h1
  ·rename_i q hq
   cases r1 with
   | Bf _ vs hl hr=>
    have Ac:=(List.getElem?_eq_some_iff.1 hq).1
    have CE:i<vs.length:=by rw [<-hl]; exact Ac
    rw [List.getElem?_eq_getElem Ac] at hq
    injection hq with hq
    have:=hr i Ac CE
    rw [hq] at this
    exact B5.pure h h1 this (hex _ _ rfl (by simp [List.getElem?_eq_getElem CE]))
  ·exact h1.elim
 ·exact h1.elim
def A6d:LV->Option Nat
 | .v .A2=>some 0
 | .v (.UK _ _ len)=>some len
 | .v (.N6 _ _ len)=>some len
 | lv=>(Wt lv).map (·.2.length)
def TL(P:Program)(n:Nat)(o:Oper)(ty:TypeId)(x:Operand):RM (List Wr):=match GJ P ty with
 | some _=>ev x fun lv=>match A6d lv with
  | some k=>wv n o (.v (.int .i64 k))
  | none => .fail
 | none=>if LC P ty=true then FL x fun p=>match p with
   | .str b=>wv n o (.v (.int .i64 b.size))
   | _ => .fail
  else .fail
theorem QL{x:Operand}{ty:TypeId}(ho:o.op = .call { callee := .builtin .len,args:=#[x],argTypes:=#[ty] })(h:B4 cx s g l a w)(hw:(TL P cx.n o ty x).wp s K):B5 P cx s o K a w:=by
 have hex:∀k:Nat,(Builtin.len_ #[ty] o.type #[a.eval x]).run P w = .ok (.int .i64 k) w->(execOp a.eval o).run P w = .ok (.value (.int .i64 k)) w:=by
  intro k hv
  simp only [execOp,ho,resolve,invoke,builtin,Sem.run_bind,Sem.run_pure,Result.andThen_ok,List.map_toArray,List.map_cons,List.map_nil,hv]
 unfold TL at hw
 split at hw
 ·rename_i e he
  have hu:=EL he
  obtain ⟨lv,u,h1,r1,-⟩:=C6 h hw
  generalize a.eval x=vx at r1 hex
  have key:∀b n c,(Builtin.len_ #[ty] o.type #[.slice b n c]).run P w = .ok (.int .i64 n) w:=by
   intro b n c
   simp [Builtin.len_,run_underlying hu,goInt]
  split at h1
  ·rename_i k hk
   refine B5.pure h h1 (.int _ _) (hex _ ?_)
   unfold A6d at hk
   split at hk
   ·injection hk with hk; subst hk; cases r1; exact key _ _ _
   ·injection hk with hk; subst hk; cases r1; exact key _ _ _
   ·injection hk with hk; subst hk; cases r1; exact key _ _ _
   ·simp only [Option.map_eq_some_iff] at hk
    obtain ⟨⟨z,es⟩,hs,rfl⟩:=hk
    have r1':=EY (ND hs) r1
    cases r1' <;> exact key _ _ _
  ·exact h1.elim
 ·split at hw
  ·rename_i Cw
   unfold LC at Cw
   split at Cw
   ·rename_i hu
    obtain ⟨p,h1,r1⟩:=AH h hw
    generalize a.eval x=vx at r1 hex
    split at h1
    ·cases r1
     refine B5.pure h h1 (.int _ _) (hex _ ?_)
     simp [Builtin.len_,run_underlying hu,goInt]
    ·exact h1.elim
   ·cases Cw
  ·exact hw.elim
def Nl(n:Nat)(o:Oper)(c x y:Operand):RM (List Wr):=FL c fun p=>match p with
 | .bool true=>FL x fun q=>wv n o (.v q)
 | .bool false=>FL y fun q=>wv n o (.v q)
 | _ => .fail
theorem P9{c x y:Operand}(ho:o.op = .pick c x y)(h:B4 cx s g l a w)(hw:(Nl cx.n o c x y).wp s K):B5 P cx s o K a w:=by
 obtain ⟨p,h1,r1⟩:=AH h hw
 have hex:∀b,a.eval c = .bool b->(execOp a.eval o).run P w = .ok (.value (if b then a.eval x else a.eval y)) w:=by
  intro b hc
  simp [execOp,ho,hc,asBool]
 generalize a.eval c=vc at r1 hex
 split at h1
 ·cases r1
  obtain ⟨q,h2,r2⟩:=AH h h1
  exact B5.pure h h2 r2 (hex _ rfl)
 ·cases r1
  obtain ⟨q,h2,r2⟩:=AH h h1
  exact B5.pure h h2 r2 (hex _ rfl)
 ·exact h1.elim
def Y6(P:Program)(n:Nat)(o:Oper)(x:Operand)(ty:TypeId)(ok:Bool):RM (List Wr):=if KP P ty=true then FL x fun p=>match p with
  | .iface t q=>if t=ty then (if ok then wv n o (.v (.Bf [q,.bool true])) else wv n o (.v q)) else .fail
  | _ => .fail
 else .fail
theorem S1{x:Operand}{xt ty:TypeId}{ok:Bool}(ho:o.op = .typeAssert x xt ty ok)(h:B4 cx s g l a w)(hw:(Y6 P cx.n o x ty ok).wp s K):B5 P cx s o K a w:=by
 unfold Y6 at hw
 split at hw
 ·rename_i hn
  obtain ⟨p,h1,r1⟩:=AH h hw
  have hex:∀v,a.eval x = .iface ty v->(execOp a.eval o).run P w = .ok (.value (if ok then .tuple #[v,.bool true] else v)) w:=by
   intro v hx
   unfold KP at hn
   split at hn
   ·cases hn
   ·rename_i d hd hu
    simp only [execOp,ho,hx,Instr.typeAssert,Sem.run_bind,run_underlying hu,Result.andThen_ok]
    cases d <;> simp_all
   ·cases hn
  generalize a.eval x=vx at r1 hex
  split at h1
  ·rename_i t q
   split at h1
   ·rename_i ht
    subst ht
    cases r1 with
    | iface _ _ v hv=>
     cases ok with
     | true=>exact B5.pure h h1 (.Bf [q,.bool true] [v,.bool true] rfl fun j hj Cu=>by
       match j,hj with
       | 0,_=>exact hv
       | 1,_=>exact .bool true) (hex _ rfl)
     | false=>exact B5.pure h h1 hv (hex _ rfl)
   ·exact h1.elim
  ·exact h1.elim
 ·exact hw.elim
end
section
variable {P:Program} {cx:Cx} {s t:S} {g:Gh} {l:LG} {a:Act} {w:World} {o:Oper} {K:List Wr->Prop}
def PV.cel:PV->Option (List PV)
 | .agg cs=>some cs
 | .Bf _=>none
 | p=>some [p]
theorem Jy{p:PV}{v:Value}{cs:List PV}(h:p.cel=some cs)(hr:BN g w p v):AG g w cs v.cells.toList/\∀u∈v.cells.toList,u.oneCell'=true:=by
 unfold PV.cel at h
 split at h
 ·injection h with h
  subst h
  cases hr with
  | agg _ vs hl ho hr=>exact ⟨⟨hl,hr⟩,ho⟩
 ·cases h
 ·rename_i n1 n2
  injection h with h
  subst h
  have Cg:v.oneCell'=true:=hr.one (by cases p <;> first | rfl | exact absurd rfl (n1 _) | exact absurd rfl (n2 _))
  have:v.cells = #[v]:=by cases v <;> first | rfl | cases Cg
  rw [this]
  exact ⟨.cons hr .nil,by simpa using Cg⟩
theorem FA{ty:TypeId}{zs:List PV}(h:UO P ty=some zs):∃i z,P.info? ty=some i/\i.zero=some z/\jM z.cells.toList=some zs:=by
 unfold UO at h
 simp only [Option.bind_eq_some_iff] at h
 obtain ⟨z,⟨i,h1,h2⟩,h3⟩:=h
 exact ⟨i,z,h1,h2,h3⟩
theorem B4.box(h:B4 cx s g l a w){d:Nat}(hd:d<cx.n)(cur:Array Value)(e:TypeId)(ps:List PV)(hr:AG g w ps cur.toList)(Cg:∀u∈cur.toList,u.oneCell'=true) :
  ∃g' l',B4 cx (s.I9 [.Dq d ps,.tmp d (.lp d 0)]) g' l' (a.put (some d) (.pointer (some ⟨w.heap.size,0,none⟩))) (w.alloc (.cells cur e)):=by
 obtain ⟨h1,-⟩:=h.Dq d cur e ps hr Cg
 exact ⟨_,_,h1.set hd ⟨w.heap.size,Bl _ _ _,rfl⟩⟩
def NF(P:Program)(n:Nat)(o:Oper)(ty:TypeId):RM (List Wr):=match UO P ty,o.dst with
 | some zs,some d=>if d<n then .ret [.Dq d zs,.tmp d (.lp d 0)] else .fail
 | _,_ => .fail
theorem NG{ty:TypeId}(ho:o.op = .alloc ty)(h:B4 cx s g l a w)(hw:(NF P cx.n o ty).wp s K):B5 P cx s o K a w:=by
 unfold NF at hw
 split at hw
 ·rename_i zs d hz hd
  split at hw
  ·rename_i Ac
   obtain ⟨i,z,h1,h2,h3⟩:=FA hz
   intro Q
   unfold Oper.wp
   have By:(execOp a.eval o).run P w = .ok (.value (.pointer (some ⟨w.heap.size,0,none⟩))) (w.alloc (.cells z.cells ty)):=by
    simp [execOp,ho,Instr.alloc,zeroValue,typeInfo,h1,h2,newVar,newRow]
   rw [By,Oper.upon_value,hd]
   obtain ⟨g',l',hs⟩:=h.box Ac z.cells ty zs (EX h3).1 (EX (g:=g) (w:=w) h3).2.1
   exact ⟨_,g',l',hw,hs⟩
  ·exact hw.elim
 ·exact hw.elim
def Y7(ro:TypeId->Option Bool)(n:Nat)(o:Oper)(ty:TypeId)(x:Operand):RM (List Wr):=FL x fun p=>match p.cel,o.dst with
 | some cs,some d=>if d<n then (match ro ty with | some true => .ret [.tmp d (.v (.ro cs 0))] | some false => .ret [.Dq d cs,.tmp d (.lp d 0)] | none => .fail) else .fail
 | _,_ => .fail
theorem QM{ro:TypeId->Option Bool}{ty:TypeId}{x:Operand}(ho:o.op = .box ty x)(h:B4 cx s g l a w)(hw:(Y7 ro cx.n o ty x).wp s K):B5 P cx s o K a w:=by
 obtain ⟨p,h1,r1⟩:=AH h hw
 have By:(execOp a.eval o).run P w = .ok (.value (.pointer (some ⟨w.heap.size,0,none⟩))) (w.alloc (.cells (a.eval x).cells ty)):=by
  simp [execOp,ho,Instr.box,newVar,newRow]
 generalize a.eval x=vx at r1 By
 split at h1
 ·rename_i cs d hc hd
  obtain ⟨hr,Cg⟩:=Jy hc r1
  split at h1
  ·rename_i Ac
   split at h1
   ·obtain ⟨h2,hm⟩:=h.alloc (.cells vx.cells ty)
    refine B5.value (lv := .v (.ro cs 0)) (by unfold wv; rw [hd]; simp only [Ac,if_true]; exact h1) h2 (fun _=>?_) By
    have FB:∀j (hj:j<cs.length),(w.alloc (.cells vx.cells ty)).cell? ⟨w.heap.size,0+j,none⟩=some (vx.cells.getD j undef):=fun j hj=>by
     have:=heap_alloc_new w (.cells vx.cells ty)
     have Cu:j<vx.cells.size:=by rw [<-Array.length_toList,<-hr.1]; exact hj
     simp only [World.cell?,this]
     simp [Cu]
    refine .ro cs 0 w.heap.size 0 (fun j=>vx.cells.getD j undef) FB (fun j hj k hk=>?_) (fun j hj=>?_) fun j hj=>?_
    ·rw [h.fresh.1 _ (Nat.le_refl _)] at hk; cases hk
    ·have Cu:j<vx.cells.size:=by rw [<-Array.length_toList,<-hr.1]; exact hj
     refine Cg _ ?_
     simp [Cu]
    ·have Cu:j<vx.cells.toList.length:=by rw [<-hr.1]; exact hj
     have:=(hr.2 j hj Cu).mono hm
     have Xq:j<vx.cells.size:=by simpa using Cu
     simpa [Xq] using this
   ·intro Q
    unfold Oper.wp
    rw [By,Oper.upon_value,hd]
    obtain ⟨g',l',hs⟩:=h.box Ac vx.cells ty cs hr Cg
    exact ⟨_,g',l',h1,hs⟩
   ·exact h1.elim
  ·exact h1.elim
 ·exact h1.elim
def US(P:Program)(ty:TypeId):Option (List (Nat × Nat)):=match P.underlying ty with
 | some (.struct fs)=>fs.toList.mapM (fun f=>(P.info? f.type).map fun i=>(f.offset,i.size))
 | _=>none
def S2(places:List (Nat × Nat))(cells:List PV):List (Nat × PV)->Option (List PV)
 | []=>some cells
 | (i,p)::r=>match places[i]?,p.cel with
  | some (off,size),some pc=>if pc.length=size/\off+size<=cells.length then S2 places (AA cells off pc) r else none
  | _,_=>none
theorem TM{α:Type}(cs:List α)(k:Nat)(v:α)(r:List α)(h:k+(r.length+1)<=cs.length):AA (cs.set k v) (k+1) r=AA cs k (v::r):=by
 apply List.ext_getElem?
 intro j
 rw [BH _ _ _ (by simp; omega),BH _ _ _ (by simpa using h)]
 by_cases hj:j=k
 ·subst hj
  rw [iN oM,iP sM]
  simp [show j<cs.length by omega]
 ·by_cases Il:k+1<=j/\j<k+1+r.length
  ·rw [iP Il,iP (by simp; omega)]
   rw [show j - k=(j - (k+1))+1 by omega]
   simp
  ·rw [iN Il,iN (by simp; omega),List.getElem?_set_ne oM]
theorem IW(off:Nat):∀ (vs:List Value) (k:Nat) (cells:Array Value),off+k+vs.length<=cells.size ->
  ((vs.zipIdx k).foldl (fun (cs:Array Value) (x:Value × Nat)=>cs.setIfInBounds (off+x.2) x.1) cells).toList=AA cells.toList (off+k) vs
 | [],k,cells,_=>by simp [Gj cells.toList (off+k) [] (by simp; omega)]
 | v::r,k,cells,h=>by
  simp only [List.zipIdx_cons,List.foldl_cons]
  rw [IW off r (k+1) _ (by simp at h ⊢; omega)]
  simp only [Array.toList_setIfInBounds]
  exact TM cells.toList (off+k) v r (by simp at h ⊢; omega)
theorem AG.AA{cs ds:List PV}{vs us:List Value}{off:Nat}(h:AG g w cs vs)(k:AG g w ds us)(hf:off+ds.length<=cs.length):AG g w (Pv.AA cs off ds) (Pv.AA vs off us):=by
 have nZ:off+us.length<=vs.length:=by rw [<-h.1,<-k.1]; exact hf
 rw [Gj _ _ _ hf,Gj _ _ _ nZ]
 have hl:=h.1
 have kl:=k.1
 refine ⟨by simp [hl,kl],fun j hj Cu=>?_⟩
 simp only [List.getElem_append]
 by_cases h1:j<off
 ·have e1:j<((List.take off cs)++ds).length:=by simp; omega
  have e2:j<((List.take off vs)++us).length:=by simp; omega
  rw [dif_pos e1,dif_pos e2]
  rw [dif_pos (by simp; omega),dif_pos (by simp; omega)]
  simp only [List.getElem_take]
  exact h.2 _ _ _
 ·by_cases h2:j<off+ds.length
  ·have e1:j<((List.take off cs)++ds).length:=by simp; omega
   have e2:j<((List.take off vs)++us).length:=by simp; omega
   rw [dif_pos e1,dif_pos e2]
   rw [dif_neg (by simp; omega),dif_neg (by simp; omega)]
   have e3:(List.take off cs).length=(List.take off vs).length:=by simp [hl]
   simp only [e3]
   exact k.2 _ _ _
  ·have e1:¬j<((List.take off cs)++ds).length:=by simp; omega
   have e2:¬j<((List.take off vs)++us).length:=by simp; omega
   rw [dif_neg e1,dif_neg e2]
   have e3:((List.take off cs)++ds).length=((List.take off vs)++us).length:=by simp [hl,kl]
   simp only [e3,List.getElem_drop,kl]
   exact h.2 _ _ _
theorem TN{α:Type}{cs vs:List α}{off:Nat}(hf:off+vs.length<=cs.length){x:α}(hx:x∈AA cs off vs):x∈cs∨x∈vs:=by
 rw [Gj _ _ _ hf] at hx
 simp only [List.mem_append] at hx
 rcases hx with (hx | hx) | hx
 ·exact .inl (List.mem_of_mem_take hx)
 ·exact .inr hx
 ·exact .inl (List.mem_of_mem_drop hx)
theorem S3{places:List (Nat × Nat)}:∀ {parts:List (Nat × PV)} {vals:List (Nat × Value)} {cells r:List PV} {cv:Array Value},S2 places cells parts=some r ->
  AG g w cells cv.toList->(∀u∈cv.toList,u.oneCell'=true)->parts.map (·.1)=vals.map (·.1)->AG g w (parts.map (·.2)) (vals.map (·.2)) ->
  ∃c,Instr.fill (places.toArray[·]?) cv vals=some c/\AG g w r c.toList/\∀u∈c.toList,u.oneCell'=true
 | [],vals,cells,r,cv,h,hr,Cg,hi,_=>by
  simp only [S2,Option.some.injEq] at h
  subst h
  have:vals=[]:=by simpa using hi.symm
  subst this
  exact ⟨cv,rfl,hr,Cg⟩
 | (i,p)::parts,vals,cells,r,cv,h,hr,Cg,hi,hp=>by
  cases vals with
  | nil=>simp at hi
  | cons x vals=>
   obtain ⟨i',v⟩:=x
   simp only [List.map_cons,List.cons.injEq] at hi
   obtain ⟨rfl,hi⟩:=hi
   simp only [List.map_cons] at hp
   obtain ⟨v',kF,e,hv,xX⟩:=hp.Hg
   injection e with e1 e2
   subst e1 e2
   simp only [S2] at h
   split at h
   ·rename_i off size pc oL oN
    split at h
    ·rename_i hc
     obtain ⟨k1,k2⟩:=Jy oN hv
     have Bk:v.cells.size=size:=by rw [<-Array.length_toList,<-k1.1]; exact hc.1
     have D3:cells.length=cv.size:=by rw [hr.1]; simp
     have Y8:=IW off v.cells.toList 0 cv (by simp; omega)
     have e3:(v.cells.zipIdx.foldl (fun cs (x:Value × Nat)=>cs.setIfInBounds (off+x.2) x.1) cv).toList=Pv.AA cv.toList off v.cells.toList:=by
      rw [<-Array.foldl_toList,Array.toList_zipIdx]
      simpa using Y8
     have kP:AG g w (Pv.AA cells off pc) (v.cells.zipIdx.foldl (fun cs (x:Value × Nat)=>cs.setIfInBounds (off+x.2) x.1) cv).toList:=by
      rw [e3]
      exact hr.AA k1 (by rw [hc.1]; exact hc.2)
     obtain ⟨c,m1,m2,m3⟩:=S3 (places:=places) h kP (by
      intro u hu
      rw [e3] at hu
      rcases TN (by simp; omega) hu with hu | hu
      ·exact Cg u hu
      ·exact k2 u hu) hi xX
     refine ⟨c,?_,m2,m3⟩
     simp only [Instr.fill]
     rw [show (places.toArray[i]?:Option (Nat × Nat))=some (off,size) by simpa using oL]
     simp only [Bk,ne_eq,not_true_eq_false,decide_false,Bool.false_or]
     rw [iN (by simp; omega)]
     exact m1
    ·cases h
   ·cases h
def Nm{α:Type}:List (Nat × Operand)->(List (Nat × PV)->RM α)->RM α
 | [],k=>k []
 | (i,x)::r,k=>FL x fun p=>Nm r fun ps=>k ((i,p)::ps)
theorem H6{α:Type}:∀ {xs:List (Nat × Operand)} {k:List (Nat × PV)->RM α} {K:α->Prop},B4 cx s g l a w->(Nm xs k).wp s K ->
  ∃ps,(k ps).wp s K/\ps.map (·.1)=xs.map (·.1)/\AG g w (ps.map (·.2)) (xs.map fun x=>a.eval x.2)
 | [],k,K,_,hw=>⟨[],hw,rfl,.nil⟩
 | (i,x)::r,k,K,h,hw=>by
  obtain ⟨p,h1,h2⟩:=AH h hw
  obtain ⟨ps,h3,h4,h5⟩:=H6 h h1
  exact ⟨(i,p)::ps,h3,by simp [h4],.cons h2 h5⟩
def NH(P:Program)(n:Nat)(o:Oper)(ty:TypeId)(parts:Array (Nat × Operand)):RM (List Wr):=match US P ty,UO P ty with
 | some places,some zs=>Nm parts.toList fun ps=>match S2 places zs ps with
  | some cs=>wv n o (.v (.agg cs))
  | none => .fail
 | _,_ => .fail
theorem NI{ty:TypeId}{parts:Array (Nat × Operand)}(ho:o.op = .build ty parts)(h:B4 cx s g l a w)(hw:(NH P cx.n o ty parts).wp s K):B5 P cx s o K a w:=by
 unfold NH at hw
 split at hw
 ·rename_i places zs hp hz
  obtain ⟨ps,h1,h2,h3⟩:=H6 h hw
  split at h1
  ·rename_i cs D3
   obtain ⟨i,z,k1,k2,k3⟩:=FA hz
   have hzr:=EX (g:=g) (w:=w) k3
   obtain ⟨c,m1,m2,m3⟩:=S3 (g:=g) (w:=w) (vals:=parts.toList.map fun x=>(x.1,a.eval x.2)) D3 hzr.1 hzr.2.1 (by rw [List.map_map]; exact h2) (by rw [List.map_map]; exact h3)
   have hb:P.built ty (parts.map fun (i,x)=>(i,a.eval x)).toList=some c:=by
    unfold US at hp
    split at hp
    ·rename_i fs hu
     unfold Program.built
     simp only [k1,hu,k2,hp]
     simpa using m1
    ·cases hp
   refine B5.pure (v := .agg c) h h1 ?_ ?_
   ·have:=m2.agg m3
    simpa using this
   ·simp only [execOp,ho,Sem.run_bind,run_build w ty _ c hb,Result.andThen_ok,Sem.run_pure]
  ·exact h1.elim
 ·exact hw.elim
end
section
variable {P:Program} {cx:Cx} {s t:S} {g:Gh} {l:LG} {a:Act} {w:World} {o:Oper} {K:List Wr->Prop}
def NJ(size:Nat):Nat->List (Nat × PV)->Option (List (List PV))
 | _,[]=>some []
 | k,(i,p)::r=>match p.cel,NJ size (k+1) r with
  | some pc,some es=>if i=k/\pc.length=size then some (pc::es) else none
  | _,_=>none
theorem NK{size:Nat}:∀ {ps:List (Nat × PV)} {vals:List (Nat × Value)} {k:Nat} {es:List (List PV)},NJ size k ps=some es->ps.map (·.1)=vals.map (·.1)->AG g w (ps.map (·.2)) (vals.map (·.2)) ->
  vals.map (·.1)=List.range' k vals.length/\(∀x∈vals,x.2.cells.size=size)/\es.length=vals.length/\(∀i (h:i<es.length),es[i].length=size)/\AG g w es.flatten (vals.map fun x=>x.2.cells.toList).flatten /\
   ∀u∈(vals.map fun x=>x.2.cells.toList).flatten,u.oneCell'=true
 | [],vals,k,es,h,hi,_=>by
  simp only [NJ,Option.some.injEq] at h
  subst h
  have:vals=[]:=by simpa using hi.symm
  subst this
  exact ⟨rfl,by simp,rfl,fun i h=>by simp at h,.nil,by simp⟩
 | (i,p)::ps,vals,k,es,h,hi,hp=>by
  cases vals with
  | nil=>simp at hi
  | cons x vals=>
   obtain ⟨i',v⟩:=x
   simp only [List.map_cons,List.cons.injEq] at hi
   obtain ⟨rfl,hi⟩:=hi
   simp only [List.map_cons] at hp
   obtain ⟨v',kF,e,hv,xX⟩:=hp.Hg
   injection e with e1 e2
   subst e1 e2
   simp only [NJ] at h
   split at h
   ·rename_i pc es' oN Jv
    split at h
    ·rename_i hc
     injection h with h
     subst h
     obtain ⟨h1,h2,h3,h4,h5,h6⟩:=NK Jv hi xX
     obtain ⟨k1,k2⟩:=Jy oN hv
     have Bk:v.cells.size=size:=by rw [<-Array.length_toList,<-k1.1]; exact hc.2
     refine ⟨by simp [h1,hc.1,List.range'_succ],?_,by simp [h3],?_,?_,?_⟩
     ·simp only [List.mem_cons,forall_eq_or_imp]
      exact ⟨Bk,h2⟩
     ·intro j hj
      cases j with
      | zero=>exact hc.2
      | succ j=>exact h4 j (by simpa using hj)
     ·simp only [List.flatten_cons,List.map_cons]
      refine ⟨by simp [k1.1,h5.1],fun j hj Cu=>?_⟩
      simp only [List.getElem_append]
      have hl:pc.length=v.cells.toList.length:=k1.1
      split
      ·rw [dif_pos oM]; exact k1.2 _ _ _
      ·rw [dif_neg oM]
       simp only [hl]
       exact h5.2 _ _ _
     ·simp only [List.flatten_cons,List.map_cons,List.mem_append]
      rintro u (hu | hu)
      ·exact k2 u hu
      ·exact h6 u hu
    ·cases h
   ·cases h
theorem S4(size:Nat):∀ (vals:List (Nat × Value)) (k:Nat) (cells:Array Value),(∀x∈vals,x.2.cells.size=size)->vals.map (·.1)=List.range' k vals.length->(k+vals.length) * size<=cells.size ->
  ∃c,Instr.fill (fun i=>some (i * size,size)) cells vals=some c/\c.toList=cells.toList.take (k * size)++(vals.map fun x=>x.2.cells.toList).flatten++cells.toList.drop ((k+vals.length) * size)
 | [],k,cells,_,_,_=>⟨cells,rfl,by simp⟩
 | (i,v)::vals,k,cells,hs,hi,hl=>by
  simp only [List.map_cons,List.length_cons,List.range'_succ,List.cons.injEq] at hi
  obtain ⟨rfl,hi⟩:=hi
  have hv:v.cells.size=size:=hs (i,v) sM
  have Y8:=IW (i * size) v.cells.toList 0 cells (by
   simp only [List.length_cons] at hl
   rw [Nat.add_mul] at hl
   have:(vals.length+1) * size=vals.length * size+size:=by rw [Nat.add_mul,Nat.one_mul]
   simp
   omega)
  have e3:(v.cells.zipIdx.foldl (fun cs (x:Value × Nat)=>cs.setIfInBounds (i * size+x.2) x.1) cells).toList=Pv.AA cells.toList (i * size) v.cells.toList:=by
   rw [<-Array.foldl_toList,Array.toList_zipIdx]
   simpa using Y8
  have N7:i * size+v.cells.toList.length<=cells.toList.length:=by
   simp only [List.length_cons] at hl
   rw [Nat.add_mul] at hl
   have:(vals.length+1) * size=vals.length * size+size:=by rw [Nat.add_mul,Nat.one_mul]
   simp
   omega
  have Bk:(v.cells.zipIdx.foldl (fun cs (x:Value × Nat)=>cs.setIfInBounds (i * size+x.2) x.1) cells).size=cells.size:=by
   rw [<-Array.length_toList,e3,AU]
   simp
  obtain ⟨c,h1,h2⟩:=S4 size vals (i+1) (v.cells.zipIdx.foldl (fun cs (x:Value × Nat)=>cs.setIfInBounds (i * size+x.2) x.1) cells) (fun x hx=>hs x (by simp [hx])) hi (by
   rw [Bk]
   simp only [List.length_cons] at hl
   rw [show i+1+vals.length=i+(vals.length+1) by omega]
   exact hl)
  refine ⟨c,?_,?_⟩
  ·simp only [Instr.fill,hv,ne_eq,not_true_eq_false,decide_false,Bool.false_or]
   rw [iN (by simp only [Array.length_toList] at N7; simp; omega)]
   exact h1
  ·rw [h2,e3,Gj _ _ _ N7]
   have hlen:v.cells.toList.length=size:=by simpa using hv
   have e4:(i+1) * size=i * size+size:=by rw [Nat.add_mul,Nat.one_mul]
   have e5:(cells.toList.take (i * size)).length=i * size:=by rw [List.length_take]; omega
   have e6:(cells.toList.take (i * size)++v.cells.toList).length=(i+1) * size:=by rw [List.length_append,e5,hlen,e4]
   have e7:i+1+vals.length=i+(vals.length+1):=by omega
   simp only [List.map_cons,List.flatten_cons,List.length_cons]
   have e8:(i+(vals.length+1)) * size=(i+1) * size+vals.length * size:=by rw [<-e7,Nat.add_mul]
   rw [<-List.append_assoc (cells.toList.take (i * size)) v.cells.toList]
   generalize cells.toList.take (i * size)++v.cells.toList=A at e6 ⊢
   rw [e7,e8,List.drop_append,List.drop_eq_nil_of_le (as:=A) oM,List.nil_append,e6,List.take_left' e6]
   simp only [List.append_assoc,hlen,List.drop_drop]
   congr 3
   omega
def Y9(P:Program)(n:Nat)(o:Oper)(ty:TypeId)(len:Nat)(parts:Array (Nat × Operand)):RM (List Wr):=match GJ P ty with
 | some e=>match Lu P e,UO P e with
  | some (m+1),some _=>Nm parts.toList fun ps=>match NJ (m+1) 0 ps with
   | some es=>if es.length=len/\len * (m+1)<=16777216 then wv n o (.full (m+1) es) else .fail
   | none => .fail
  | _,_ => .fail
 | none => .fail
theorem S5{ty:TypeId}{len:Nat}{parts:Array (Nat × Operand)}(ho:o.op = .buildSlice ty len parts)(h:B4 cx s g l a w)(hw:(Y9 P cx.n o ty len parts).wp s K):B5 P cx s o K a w:=by
 unfold Y9 at hw
 split at hw
 ·rename_i e he
  have hu:=EL he
  split at hw
  ·rename_i m zs hm hz
   obtain ⟨ps,h1,h2,h3⟩:=H6 h hw
   split at h1
   ·rename_i es Jv
    split at h1
    ·rename_i hc
     obtain ⟨hlen,Ai4⟩:=hc
     obtain ⟨k1,k2,k3,k4,k5,k6⟩:=NK (g:=g) (w:=w) (vals:=parts.toList.map fun x=>(x.1,a.eval x.2)) Jv (by rw [List.map_map]; exact h2) (by rw [List.map_map]; exact h3)
     obtain ⟨i,z,z1,z2,z3⟩:=FA hz
     generalize A6e:(parts.toList.map fun x=>(x.1,a.eval x.2))=vals at k1 k2 k3 k4 k5 k6
     have GD:vals.length=len:=by rw [<-k3,hlen]
     have A6f:∀zc:Array Value,∃c,Instr.fill (fun i=>some (i * (m+1),m+1)) ((Array.range (len * (m+1))).map (zc[· % zc.size]!)) vals=some c/\c.toList=(vals.map fun x=>x.2.cells.toList).flatten:=by
      intro zc
      obtain ⟨c,c1,c2⟩:=S4 (m+1) vals 0 ((Array.range (len * (m+1))).map (zc[· % zc.size]!)) k2 k1 (by simp [GD])
      refine ⟨c,c1,?_⟩
      rw [c2,GD]
      simp
     have By:∃c,(execOp a.eval o).run P w = .ok (.value (.slice (some ⟨w.heap.size,0,none⟩) len len)) (w.alloc (.cells c e))/\c.toList=(vals.map fun x=>x.2.cells.toList).flatten:=by
      have hvt:(parts.map fun (x:Nat × Operand)=>(x.1,a.eval x.2)).toList=vals:=by rw [<-A6e]; simp
      have A6g:¬(len * (m+1)>2 ^ 24):=by omega
      have Bk:=run_sizeOf (w:=w) hm
      by_cases h0:len * (m+1)=0
      ·have hl0:len=0:=by
        rcases Nat.mul_eq_zero.1 h0 with h | h
        ·exact h
        ·omega
       subst hl0
       have hv0:vals=[]:=List.eq_nil_of_length_eq_zero GD
       refine ⟨#[],?_,by simp [hv0]⟩
       simp only [execOp,ho,Instr.buildSlice,Sem.run_bind,run_underlying hu,Result.andThen_ok,Bk,h0,if_true,Sem.run_pure,hvt,hv0]
       have Na:Array.range 0 = #[]:=Array.eq_empty_of_size_eq_zero sM
       simp [Instr.fill,newRow,Na]
      ·obtain ⟨c,c1,c2⟩:=A6f z.cells
       refine ⟨c,?_,c2⟩
       simp only [execOp,ho,Instr.buildSlice,Sem.run_bind,run_underlying hu,Result.andThen_ok,Bk,iN A6g,iN h0,Sem.run_pure,hvt,zeroValue,typeInfo,run_program,z1,z2]
       simp [c1,newRow]
     obtain ⟨c,By,hct⟩:=By
     obtain ⟨h4,hm4⟩:=h.alloc (.cells c e)
     refine B5.value h1 h4 (fun _ => .inr ⟨⟨w.heap.size,0,none⟩,by rw [hlen],?_⟩) By
     rw [<-hlen]
     refine BN.of_flat (Nat.le_refl _) (by simp only [maxLen]; have:=Nat.le_mul_of_pos_right len (Nat.succ_pos m); simp only [Nat.succ_eq_add_one] at this; omega) k4 (k5.mono hm4) fun j u Ya=>?_
     have Y4:(⟨w.heap.size,0,none⟩:Addr).add j=⟨w.heap.size,j,none⟩:=by unfold Addr.add; split <;> simp_all
     refine ⟨?_,fun k hk=>?_,k6 u (List.mem_of_getElem? Ya)⟩
     ·rw [Y4]
      have:=heap_alloc_new w (.cells c e)
      simp only [World.cell?,this]
      rw [<-hct] at Ya
      simpa using Ya
     ·rw [h.fresh.1 _ (Nat.le_refl _)] at hk; cases hk
    ·exact h1.elim
   ·exact h1.elim
  ·exact hw.elim
 ·exact hw.elim
def ldC(P:Program)(n:Nat)(ops:List Oper)(o:Oper)(ty:TypeId)(mk:List LV->Wr)(cs:List LV)(off:Nat):RM (List Wr):=match N8 P ty with
 | some true=>match Lu P ty with
  | some m=>if off+m<=cs.length then (match Wo ((cs.drop off).take m) with
   | some ps=>wv n o (.v (.agg ps))
   | none => .fail) else .fail
  | none => .fail
 | some false=>match cs[off]? with
  | some (.uniq e z es)=>match o.dst with
   | some d=>if d<n/\e<1000000 then (if XX ops d=true then .ret [mk [.v (.sl z es)],.tmp d (.uniq e z es)] else .ret [.tmp d (.v (.sl z es))]) else .fail
   | none => .fail
  | some .DN => .fail
  | some (.mm _) => .fail
  | some (.row _ _) => .fail
  | some lv=>wv n o lv
  | none => .fail
 | none => .fail
def UT(P:Program)(n:Nat)(ops:List Oper)(o:Oper)(ty:TypeId)(x:Operand):RM (List Wr):=ev x fun lv=>match lv with
 | .lp i off => .IP i fun cs=>ldC P n ops o ty (.cells i off) cs off
 | .v (.xp m off) => .EB m fun cs=>if Px cs=true then ldC P n ops o ty (.ext m off) cs off else .fail
 | .v (.yp m c off) => .EB m fun cs=>match rowOf cs with
  | some (c',ps)=>if N8 P ty=some false then .assume (decide (c=c'/\off<ps.length)) (wv n o (.v (.int .i64 (ps.getD off 0)))) else .fail
  | none => .fail
 | .v (.ro cs off)=>match P8 P ty cs off with
  | some p=>wv n o (.v p)
  | none => .fail
 | _ => .fail
theorem NL{f:Nat->UL}:∀ {cs:List LV} {ps:List PV} {vs:List Value},Wo cs=some ps->cs.length=vs.length->(∀j (h:j<cs.length) (h':j<vs.length),Cr g l w (f j) cs[j] vs[j])->AG g w ps vs:=by
 intro cs
 induction cs generalizing f with
 | nil=>
  intro ps vs h hl _
  simp only [Wo,Option.some.injEq] at h
  subst h
  have:vs=[]:=List.eq_nil_of_length_eq_zero hl.symm
  subst this
  exact .nil
 | cons c cs ih=>
  intro ps vs h hl hr
  cases vs with
  | nil=>simp at hl
  | cons v vs=>
   simp only [Wo] at h
   split at h
   ·rename_i p qs h1 h2
    injection h with h
    subst h
    refine .cons (EY h1 (hr 0 sM sM)) (ih (f:=fun j=>f (j+1)) h2 (by simpa using hl) fun j hj Cu=>?_)
    exact hr (j+1) (by simpa using hj) (by simpa using Cu)
   ·cases h
theorem Ga{ty:TypeId}{b off:Nat}{cur:Array Value}{e:TypeId}(hh:w.heap[b]?=some (.cells cur e (0,0)))(ha:N8 P ty=some false)(Ac:off<cur.size) :
  (loadVar ty ⟨b,off,none⟩).run P w = .ok (cur.getD off undef) w:=by
 have hc:w.cell? ⟨b,off,none⟩=some (cur.getD off undef):=by simp [World.cell?,hh,Ac]
 simp [loadVar,Hi ha,hc]
theorem Gb{ty:TypeId}{b off m:Nat}{vs:Nat->Value}(ha:N8 P ty=some true)(hm:Lu P ty=some m)(hc:∀j,j<m->w.cell? ⟨b,off+j,none⟩=some (vs j)) :
  (loadVar ty ⟨b,off,none⟩).run P w = .ok (.agg ((List.range m).map vs).toArray) w:=by
 have Y4:∀j,(⟨b,off,none⟩:Addr).add j=⟨b,off+j,none⟩:=fun j=>by unfold Addr.add; split <;> simp_all
 have hl:=run_loadCells (P:=P) w ⟨b,off,none⟩ m vs (fun j hj=>by rw [Y4]; exact hc j hj)
 simp [loadVar,Hi ha,run_sizeOf hm,hl]
theorem Gk{ty:TypeId}{x:Operand}{b off:Nat}{v:Value}(ho:o.op = .load ty x)(hx:a.eval x = .pointer (some ⟨b,off,none⟩))(hl:(loadVar ty ⟨b,off,none⟩).run P w = .ok v w):(execOp a.eval o).run P w = .ok (.value v) w:=by
 simp [execOp,ho,hx,Instr.loadAt,Instr.sureAddr,hl]
theorem Fg.KR:∀ {cs:List LV} {off:Nat} {x y:LV},cs[off]?=some x->WL y x->Fg (Pv.AA cs off [y]) cs
 | [],off,x,y,h,_=>by simp at h
 | c::cs,0,x,y,h,hw=>by
  simp only [List.getElem?_cons_zero,Option.some.injEq] at h
  subst h
  simp only [Pv.AA]
  exact ⟨hw,Fg.refl cs⟩
 | c::cs,off+1,x,y,h,hw=>by
  simp only [List.getElem?_cons_succ] at h
  exact ⟨WL.refl c,Fg.KR h hw⟩
theorem Wu{ty:TypeId}{x:Operand}{ops:List Oper}{i off:Nat}{cs:List LV}(ho:o.op = .load ty x)(h:B4 cx s g l a w)(hi:lk s.boxes i=some cs)(hx:∀b,l.L i=some b->a.eval x = .pointer (some ⟨b,off,none⟩))
  (hw:(ldC P cx.n ops o ty (.cells i off) cs off).wp s K):B5 P cx s o K a w:=by
 obtain ⟨b,h1,h2,hM,cur,e,h4,h5,h6⟩:=h.bx i cs hi
 have xY:=hx b h1
 unfold ldC at hw
 split at hw
 ·rename_i ha
  split at hw
  ·rename_i m hm
   split at hw
   ·rename_i hle
    split at hw
    ·rename_i ps TO
     have hc:∀j,j<m->w.cell? ⟨b,off+j,none⟩=some (cur.getD (off+j) undef):=fun j hj=>by
      have:off+j<cur.size:=by omega
      simp [World.cell?,h4,this]
     have By:=Gk ho xY (Gb (P:=P) ha hm hc)
     refine B5.pure h hw (AG.agg ?_ ?_) By
     ·refine NL (l:=l) (f:=fun j => .b i (off+j)) TO (by simp; omega) fun j hj Cu=>?_
      simp only [List.getElem_take,List.getElem_drop,List.getElem_map,List.getElem_range]
      exact (h6 (off+j) _).2.2
     ·intro v hv
      simp only [List.mem_map,List.mem_range] at hv
      obtain ⟨j,hj,rfl⟩:=hv
      exact (h6 (off+j) oM).2.1
    ·exact hw.elim
   ·exact hw.elim
  ·exact hw.elim
 ·rename_i ha
  cases D3:cs[off]? with
  | none=>rw [D3] at hw; exact hw.elim
  | some lv=>
   rw [D3] at hw
   have Ac:=(List.getElem?_eq_some_iff.1 D3).1
   have By:=Gk ho xY (Ga (P:=P) h4 ha oM)
   have FB:=h6 off Ac
   have GD:cs[off]=lv:=by rw [List.getElem?_eq_getElem Ac] at D3; injection D3
   rw [GD] at FB
   obtain ⟨hc1,S6,Yb⟩:=FB
   generalize cur.getD off undef=v at By S6 Yb
   cases lv with
   | uniq e' z es=>
    cases hd:o.dst with
    | none=>simp only [hd] at hw; exact hw.elim
    | some d=>
     simp only [hd] at hw
     split at hw
     ·rename_i CE
      obtain ⟨CE,Lv⟩:=CE
      split at hw
      ·-- handed on
       have QN:B4 cx { s with boxes:=put s.boxes i (AA cs off [.v (.sl z es)]),tmps:=put s.tmps d .DN } g l a w:=by
        refine h.jN (fun k u hk=>?_) (fun k u hk=>by
         simp only [B8] at hk
         split at hk
         ·rename_i e2
          subst e2
          injection hk with hk
          subst hk
          exact ⟨cs,hi,Fg.KR D3 (.inr ⟨rfl,x8 Lv⟩)⟩
         ·exact ⟨u,hk,Fg.refl u⟩) (Ez Fg.refl _)
        simp only [B8] at hk
        split at hk
        ·injection hk with hk; exact .inl hk.symm
        ·exact .inr ⟨u,hk,WL.refl u⟩
       have QO:s.I9 [.cells i off [.v (.sl z es)],.tmp d (.uniq e' z es)]={ s with boxes:=put s.boxes i (AA cs off [.v (.sl z es)]),tmps:=put s.tmps d (.uniq e' z es) }:=by
        simp only [S.I9,S.wr,hi]
       obtain ⟨l',k1,k2,-⟩:=QN.Hh (p := .b i off) (q := .t d) Yb (fun ds NM e2 z2 TP he=>by
         simp only [B8,if_true,Option.some.injEq] at NM
         subst NM
         rw [BH _ _ _ (by simp; omega)] at he
         simp at he)
        (fun e2 z2 TP he=>by simp only [B8,if_true] at he; injection he with he; cases he)
       intro Q
       unfold Oper.wp
       rw [By,Oper.upon_value,hd]
       refine ⟨_,g,l',hw,?_⟩
       rw [QO]
       refine (k1.set CE k2).congr (fun k=>?_) (fun _=>rfl) (fun _=>rfl)
       simp only [B8]
       split <;> rfl
      ·refine B5.value (lv := .v (.sl z es)) (v:=v) (by unfold wv; rw [hd]; simp only [CE,if_true]; exact hw) h (fun _=>EY (XW Lv) Yb) By
     ·exact hw.elim
   | v p=>exact B5.value hw h (fun _=>Yb) By
   | full z es=>exact B5.value hw h (fun _=>Yb) By
   | lp j oo=>cases hc1
   | DN=>exact hw.elim
   | mm _=>exact hw.elim
   | row _ _=>exact hw.elim
 ·exact hw.elim
theorem Wv{ty:TypeId}{x:Operand}{ops:List Oper}{i off:Nat}{cs:List LV}(ho:o.op = .load ty x)(h:B4 cx s g l a w)(hi:lk s.ext i=some cs)(hx:∀b,g.X i=some b->a.eval x = .pointer (some ⟨b,off,none⟩))(D3:Px cs=true)
  (hw:(ldC P cx.n ops o ty (.ext i off) cs off).wp s K):B5 P cx s o K a w:=by
 obtain ⟨b,h1,h2,hE⟩:=h.ex i cs hi
 rcases hE with hB | hE
 rotate_left
 ·exact (hE.plain (Hj D3)).elim
 replace h1:=h1.plain hB.UM
 obtain ⟨hM,cur,e,h4,h5,h6⟩:=hB
 have xY:=hx b h1
 unfold ldC at hw
 split at hw
 ·rename_i ha
  split at hw
  ·rename_i m hm
   split at hw
   ·rename_i hle
    split at hw
    ·rename_i ps TO
     have hc:∀j,j<m->w.cell? ⟨b,off+j,none⟩=some (cur.getD (off+j) undef):=fun j hj=>by
      have:off+j<cur.size:=by omega
      simp [World.cell?,h4,this]
     have By:=Gk ho xY (Gb (P:=P) ha hm hc)
     refine B5.pure h hw (AG.agg ?_ ?_) By
     ·refine NL (l:=l) (f:=fun j => .x i (off+j)) TO (by simp; omega) fun j hj Cu=>?_
      simp only [List.getElem_take,List.getElem_drop,List.getElem_map,List.getElem_range]
      exact (h6 (off+j) _).2.2
     ·intro v hv
      simp only [List.mem_map,List.mem_range] at hv
      obtain ⟨j,hj,rfl⟩:=hv
      exact (h6 (off+j) oM).2.1
    ·exact hw.elim
   ·exact hw.elim
  ·exact hw.elim
 ·rename_i ha
  cases D3:cs[off]? with
  | none=>rw [D3] at hw; exact hw.elim
  | some lv=>
   rw [D3] at hw
   have Ac:=(List.getElem?_eq_some_iff.1 D3).1
   have By:=Gk ho xY (Ga (P:=P) h4 ha oM)
   have FB:=h6 off Ac
   have GD:cs[off]=lv:=by rw [List.getElem?_eq_getElem Ac] at D3; injection D3
   rw [GD] at FB
   obtain ⟨hc1,S6,Yb⟩:=FB
   generalize cur.getD off undef=v at By S6 Yb
   cases lv with
   | uniq e' z es=>
    cases hd:o.dst with
    | none=>simp only [hd] at hw; exact hw.elim
    | some d=>
     simp only [hd] at hw
     split at hw
     ·rename_i CE
      obtain ⟨CE,Lv⟩:=CE
      split at hw
      ·-- handed on
       have QN:B4 cx { s with ext:=put s.ext i (AA cs off [.v (.sl z es)]),tmps:=put s.tmps d .DN } g l a w:=by
        refine h.jN (fun k u hk=>?_) (Ez Fg.refl _) (fun k u hk=>by
         simp only [B8] at hk
         split at hk
         ·rename_i e2
          subst e2
          injection hk with hk
          subst hk
          exact ⟨cs,hi,Fg.KR D3 (.inr ⟨rfl,x8 Lv⟩)⟩
         ·exact ⟨u,hk,Fg.refl u⟩) (by simp only [DI hi]; exact Nat.le_refl _)
        simp only [B8] at hk
        split at hk
        ·injection hk with hk; exact .inl hk.symm
        ·exact .inr ⟨u,hk,WL.refl u⟩
       have QO:s.I9 [.ext i off [.v (.sl z es)],.tmp d (.uniq e' z es)]={ s with ext:=put s.ext i (AA cs off [.v (.sl z es)]),tmps:=put s.tmps d (.uniq e' z es) }:=by
        simp only [S.I9,S.wr,hi]
       obtain ⟨l',k1,k2,-⟩:=QN.Hh (p := .x i off) (q := .t d) Yb (fun ds NM e2 z2 TP he=>by
         simp only [B8,if_true,Option.some.injEq] at NM
         subst NM
         rw [BH _ _ _ (by simp; omega)] at he
         simp at he)
        (fun e2 z2 TP he=>by simp only [B8,if_true] at he; injection he with he; cases he)
       intro Q
       unfold Oper.wp
       rw [By,Oper.upon_value,hd]
       refine ⟨_,g,l',hw,?_⟩
       rw [QO]
       refine (k1.set CE k2).congr (fun k=>?_) (fun _=>rfl) (fun _=>rfl)
       simp only [B8]
       split <;> rfl
      ·refine B5.value (lv := .v (.sl z es)) (v:=v) (by unfold wv; rw [hd]; simp only [CE,if_true]; exact hw) h (fun _=>EY (XW Lv) Yb) By
     ·exact hw.elim
   | v p=>exact B5.value hw h (fun _=>Yb) By
   | full z es=>exact B5.value hw h (fun _=>Yb) By
   | lp j oo=>cases hc1
   | DN=>exact hw.elim
   | mm _=>exact hw.elim
   | row _ _=>exact hw.elim
 ·exact hw.elim
theorem Pa{ty:TypeId}{x:Operand}{ops:List Oper}(ho:o.op = .load ty x)(h:B4 cx s g l a w)(hw:(UT P cx.n ops o ty x).wp s K):B5 P cx s o K a w:=by
 obtain ⟨lv,u,h1,r1,-⟩:=C6 h hw
 split at h1
 ·rename_i i off
  simp only [RM.wp] at h1
  split at h1
  ·rename_i cs D3
   refine Wu ho h D3 (fun b hb=>?_) h1
   obtain ⟨b',k1,k2⟩:=r1
   rw [k1] at hb
   injection hb with hb
   rw [<-hb]; exact k2
  ·exact h1.elim
 ·rename_i m off
  simp only [RM.wp] at h1
  split at h1
  ·rename_i cs D3
   split at h1
   rotate_left
   ·exact h1.elim
   rename_i Xt
   refine Wv ho h D3 (fun b hb=>?_) Xt h1
   generalize a.eval x=vx at r1
   cases r1 with
   | xp _ _ b' hx=>
    rw [hx] at hb
    injection hb with hb
    rw [hb]
  ·exact h1.elim
 ·rename_i m c off
  simp only [RM.wp] at h1
  split at h1
  ·rename_i cs D3
   split at h1
   ·rename_i c' ps Kg
    split at h1
    ·rename_i ha
     simp only [RM.wp] at h1
     obtain ⟨hd,h1⟩:=h1
     obtain ⟨rfl,Ac⟩:=of_decide_eq_true hd
     obtain ⟨b,hY,-,-,hM,cur,e,h4,h5,h6⟩:=TJ h D3 Kg
     have xY:a.eval x = .pointer (some ⟨b,off,none⟩):=by
      generalize a.eval x=vx at r1
      cases r1 with
      | yp _ _ _ b' hx=>
       rw [hx] at hY
       injection hY with hY
       rw [hY]
     refine B5.value h1 h (fun _=>?_) (Gk ho xY (Ga (P:=P) h4 ha oM))
     have h7:=(h6 off Ac).2
     have e7:ps.getD off 0=ps[off]:=by simp [List.getD,Ac]
     rw [e7]
     exact h7
    ·exact h1.elim
   ·exact h1.elim
  ·exact h1.elim
 ·rename_i cs off
  split at h1
  ·rename_i p hp
   have hex:∀b oo v,a.eval x = .pointer (some ⟨b,oo,none⟩)->(loadVar ty ⟨b,oo,none⟩).run P w = .ok v w->(execOp a.eval o).run P w = .ok (.value v) w:=fun b oo v hv hl=>Gk ho hv hl
   generalize a.eval x=vx at r1 hex
   cases r1 with
   | ro _ Afb b oo vs hc hf Cg hr=>
    unfold P8 at hp
    split at hp
    ·rename_i ha
     split at hp
     ·rename_i m hm
      split at hp
      ·rename_i hle
       injection hp with hp
       subst hp
       refine B5.pure h h1 (AG.agg (vs:=(List.range m).map fun j=>vs (off+j)) ⟨by simp; omega,fun j hj Cu=>?_⟩ ?_) (hex _ _ _ rfl (Gb ha hm fun j hj=>?_))
       ·simp only [List.getElem_take,List.getElem_drop,List.getElem_map,List.getElem_range]
        exact hr _ _
       ·intro v hv
        simp only [List.mem_map,List.mem_range] at hv
        obtain ⟨j,hj,rfl⟩:=hv
        exact Cg _ oM
       ·have:=hc (off+j) oM
        rw [Nat.add_assoc]
        exact this
      ·cases hp
     ·cases hp
    ·rename_i ha
     have Ac:=(List.getElem?_eq_some_iff.1 hp).1
     have hcc:=hc off Ac
     refine B5.pure (v:=vs off) h h1 ?_ (hex _ _ _ rfl (by simp [loadVar,Hi ha,hcc]))
     rw [List.getElem?_eq_getElem Ac] at hp
     injection hp with hp
     rw [<-hp]
     exact hr off Ac
    ·cases hp
  ·exact h1.elim
 ·exact h1.elim
end
section
variable {P:Program} {cx:Cx} {s t:S} {g:Gh} {l:LG} {a:Act} {w:World} {o:Oper} {K:List Wr->Prop}
def stV(P:Program)(ty:TypeId)(lv:LV):Option (List LV):=match N8 P ty with
 | some true=>match lv with
  | .v (.agg cs)=>some (cs.map .v)
  | _=>none
 | some false=>match lv with
  | .v p=>if p.one=true then some [.v p] else none
  | .full z es=>some [.full z es]
  | _=>none
 | none=>none
def Ww(P:Program)(ty:TypeId)(y:Operand)(lv:LV)(cs:List LV)(off:Nat)(mk:List LV->Wr):RM (List Wr):=match Lu P ty with
 | some m=>match lv,y with
  | .uniq e z es,.tmp t=>if N8 P ty=some false/\m=1/\off<cs.length/\e<1000000 then .ret [.tmp t (.v (.sl z es)),mk [.uniq e z es]] else .fail
  | lv,_=>match stV P ty lv with
   | some vs=>if vs.length=m/\off+m<=cs.length then .ret [mk vs] else .fail
   | none => .fail
 | none => .fail
def NN(P:Program)(o:Oper)(ty:TypeId)(x y:Operand):RM (List Wr):=match o.dst with
 | none=>ev x fun lp=>ev y fun lv=>match lp with
  | .lp i off => .IP i fun cs=>Ww P ty y lv cs off (.cells i off)
  | .v (.xp m off) => .EB m fun cs=>if Px cs=true then Ww P ty y lv cs off (.ext m off) else .fail
  | .v (.yp m c off) => .EB m fun cs=>match rowOf cs,Xs lv with
   | some (c',ps),some (.int .i64 p)=>if Lu P ty=some 1/\N8 P ty=some false then .assume (decide (c=c'/\off<ps.length)) (.ret [.ext m 0 [.row c (ps.set off p)]]) else .fail
   | _,_ => .fail
  | _ => .fail
 | some _ => .fail
theorem UU{ty:TypeId}{lv:LV}{vs:List LV}{v:Value}{u:UL}{f:Nat->UL}(h:stV P ty lv=some vs)(hr:Cr g l w u lv v) :
  vs.length=v.cells.toList.length/\(∀u∈v.cells.toList,u.oneCell'=true)/\∀j (h:j<vs.length) (h':j<v.cells.toList.length),vs[j].Nw=true/\v.cells.toList[j].oneCell'=true/\Cr g l w (f j) vs[j] v.cells.toList[j]:=by
 unfold stV at h
 split at h
 ·split at h
  ·rename_i cs
   injection h with h
   subst h
   obtain ⟨k1,k2⟩:=Jy (p := .agg cs) rfl hr
   refine ⟨by simp [k1.1],k2,fun j hj Cu=>⟨by simp [LV.Nw],k2 _ (List.getElem_mem _),?_⟩⟩
   simp only [List.getElem_map]
   exact k1.2 j (by simpa using hj) Cu
  ·cases h
 ·split at h
  ·rename_i p
   split at h
   ·rename_i hp
    injection h with h
    subst h
    have Cg:=BN.one hr hp
    have hc:v.cells = #[v]:=by cases v <;> first | rfl | cases Cg
    rw [hc]
    refine ⟨by simp,by simpa using Cg,fun j hj Cu=>?_⟩
    have:j=0:=by simpa using hj
    subst this
    exact ⟨rfl,Cg,hr⟩
   ·cases h
  ·rename_i z es
   injection h with h
   subst h
   have Cg:v.oneCell'=true:=by
    rcases hr with ⟨rfl,-⟩ | ⟨a,rfl,-⟩ <;> rfl
   have hc:v.cells = #[v]:=by cases v <;> first | rfl | cases Cg
   rw [hc]
   refine ⟨by simp,by simpa using Cg,fun j hj Cu=>?_⟩
   have:j=0:=by simpa using hj
   subst this
   exact ⟨rfl,Cg,hr⟩
  ·cases h
 ·cases h
theorem Es{ty:TypeId}{x y:Operand}{b off m:Nat}{cur:Array Value}{e:TypeId}{v:Value}(ho:o.op = .store ty x y)(hx:a.eval x = .pointer (some ⟨b,off,none⟩))(hy:a.eval y=v)(hm:Lu P ty=some m)
  (hh:w.heap[b]?=some (.cells cur e (0,0))) (hl:v.cells.toList.length=m) (N7:off+m<=cur.size) (Cg:∀u∈v.cells.toList,u.oneCell'=true) :
  (execOp a.eval o).run P w = .ok .skip (w.setRow b (AA cur.toList off v.cells.toList).toArray):=by
 have h1:=run_storeCells_at P b off e v.cells.toList 0 cur w hh oM Cg
 have Bk:v.cells.size=m:=by simpa using hl
 rw [Nat.add_zero,<-Gj _ _ _ (by simp; omega)] at h1
 simp [execOp,ho,hx,hy,Instr.storeAt,Instr.sureAddr,storeVar,run_sizeOf hm,Bk,h1]
theorem IX{α:Type}(cs:List α)(off:Nat)(x y:α)(h:off<cs.length):AA (AA cs off [x]) off [y]=AA cs off [y]:=by
 apply List.ext_getElem?
 intro j
 rw [BH _ _ _ (by rw [AU]; simp; omega),BH _ _ _ (by simp; omega),BH _ _ _ (by simp; omega)]
 by_cases hj:off<=j/\j<off+[y].length
 ·rw [iP hj,iP hj]
 ·rw [iN hj,iN hj,iN (by simpa using hj)]
theorem Wx{ty:TypeId}{x y:Operand}{i off b:Nat}{cs:List LV}{lv:LV}{u:UL}(ho:o.op = .store ty x y)(hd:o.dst=none)(h:B4 cx s g l a w)(hi:lk s.boxes i=some cs)(hb:l.L i=some b)
  (hx:a.eval x = .pointer (some ⟨b,off,none⟩)) (hr:Cr g l w u lv (a.eval y)) (hu:∀e z es,lv = .uniq e z es->∃t,y = .tmp t/\u = .t t/\lk s.tmps t=some lv)
  (hw:(Ww P ty y lv cs off (.cells i off)).wp s K):B5 P cx s o K a w:=by
 unfold Ww at hw
 split at hw
 ·rename_i m hm
  have plain:(∀e z es,lv ≠ .uniq e z es)->((match stV P ty lv with
   | some vs=>if vs.length=m/\off+m<=cs.length then RM.ret [Wr.cells i off vs] else RM.fail
   | none=>RM.fail):RM (List Wr)).wp s K->B5 P cx s o K a w:=by
   intro _ hw
   split at hw
   ·rename_i vs xX
    split at hw
    ·rename_i hc
     obtain ⟨k1,k2,k3⟩:=UU (f:=fun j => .b i (off+j)) xX hr
     obtain ⟨b',cur,e,h1,h2,h3,h4,-⟩:=h.A65 hi off vs (a.eval y).cells.toList k1 (by rw [hc.1]; exact hc.2) k3
     rw [hb] at h1
     injection h1 with h1
     subst h1
     have By:=Es (P:=P) ho hx rfl hm h2 (by rw [<-k1]; exact hc.1) (by have:=hc.2; omega) k2
     intro Q
     unfold Oper.wp
     rw [By,Oper.upon_skip,hd]
     refine ⟨_,g,l,hw,?_⟩
     have QO:s.I9 [.cells i off vs]={ s with boxes:=put s.boxes i (AA cs off vs) }:=by simp only [S.I9,S.wr,hi]
     rw [QO]
     exact h4
    ·exact hw.elim
   ·exact hw.elim
  cases lv with
  | uniq e z es=>
   obtain ⟨t,rfl,rfl,ht⟩:=hu e z es rfl
   simp only at hw
   split at hw
   ·rename_i hc
    obtain ⟨ha,rfl,Ac,Lv⟩:=hc
    have D3:cs[off]?=some cs[off]:=List.getElem?_eq_getElem Ac
    have QN:B4 cx { s with tmps:=put s.tmps t (.v (.sl z es)),boxes:=put s.boxes i (AA cs off [.DN]) } g l a w:=by
     refine h.jN (fun k v hk=>?_) (fun k v hk=>by
       simp only [B8] at hk
       split at hk
       ·rename_i e0
        subst e0
        injection hk with hk
        subst hk
        exact ⟨cs,hi,Fg.KR D3 (WL.DN (fun TP e2=>by
         obtain ⟨b2,-,-,-,cur,t2,-,-,h6⟩:=h.bx i cs hi
         have:=(h6 off Ac).2.2
         rw [e2] at this
         exact this) (fun c2 ps2 e2=>by
         obtain ⟨b2,-,-,-,cur,t2,-,-,h6⟩:=h.bx i cs hi
         have:=(h6 off Ac).2.2
         rw [e2] at this
         exact this))⟩
       ·exact ⟨v,hk,Fg.refl v⟩) (Ez Fg.refl _)
     simp only [B8] at hk
     split at hk
     ·rename_i e0; subst e0; injection hk with hk; subst hk; exact .inr ⟨_,ht,.inr ⟨rfl,x8 Lv⟩⟩
     ·exact .inr ⟨v,hk,WL.refl v⟩
    obtain ⟨l',k1,k2,kL⟩:=QN.Hh (p := .t t) (q := .b i off) hr (fun e2 z2 TP he=>by simp only [B8,if_true] at he; injection he with he; cases he)
     (fun ds NM e2 z2 TP he=>by
      simp only [B8,if_true,Option.some.injEq] at NM
      subst NM
      rw [BH _ _ _ (by simp; omega)] at he
      simp at he)
    have Cg:(a.eval (.tmp t)).oneCell'=true:=by
     rcases hr with (⟨hv,-⟩ | ⟨a',hv,-⟩) | ⟨b',cap,cur,hv,-⟩ <;> rw [hv] <;> rfl
    have hc:(a.eval (.tmp t)).cells = #[a.eval (.tmp t)]:=by
     generalize a.eval (.tmp t)=v at Cg
     cases v <;> first | rfl | cases Cg
    obtain ⟨b',cur,e',h1,h2,h3,h4,-⟩:=k1.A65 (i:=i) (cs:=AA cs off [.DN]) (by simp only [B8,if_true]) off [.uniq e z es] [a.eval (.tmp t)] rfl (by rw [AU]; simp; omega) (fun j hj Cu=>by
      have:j=0:=by simpa using hj
      subst this
      exact ⟨rfl,Cg,k2⟩)
    have GZ:l.L i=some b:=hb
    have hLL:l'.L i=some b:=by rw [kL]; exact GZ
    rw [hLL] at h1
    injection h1 with h1
    subst h1
    rw [AU] at h3
    have By:=Es (P:=P) ho hx rfl hm h2 (by rw [hc]; rfl) oM (by rw [hc]; simpa using Cg)
    rw [hc] at By
    intro Q
    unfold Oper.wp
    rw [By,Oper.upon_skip,hd]
    refine ⟨_,g,l',hw,?_⟩
    have QO:s.I9 [.tmp t (.v (.sl z es)),.cells i off [.uniq e z es]]={ s with tmps:=put s.tmps t (.v (.sl z es)),boxes:=put s.boxes i (AA cs off [.uniq e z es]) }:=by simp only [S.I9,S.wr,hi]
    rw [QO]
    refine h4.congr (fun _=>rfl) (fun k=>by simp only [B8,IX cs off _ _ Ac]; split <;> rfl) (fun _=>rfl)
   ·exact hw.elim
  | v p=>exact plain sM hw
  | full z es=>exact plain sM hw
  | lp j oo=>exact plain sM hw
  | DN=>exact plain sM hw
  | mm _=>exact hr.elim
  | row _ _=>exact hr.elim
 ·exact hw.elim
theorem Wy{ty:TypeId}{x y:Operand}{i off b:Nat}{cs:List LV}{lv:LV}{u:UL}(ho:o.op = .store ty x y)(hd:o.dst=none)(h:B4 cx s g l a w)(hi:lk s.ext i=some cs)(hb:g.X i=some b)
  (hx:a.eval x = .pointer (some ⟨b,off,none⟩)) (hr:Cr g l w u lv (a.eval y)) (hu:∀e z es,lv = .uniq e z es->∃t,y = .tmp t/\u = .t t/\lk s.tmps t=some lv)
  (Xt:Px cs=true) (hw:(Ww P ty y lv cs off (.ext i off)).wp s K):B5 P cx s o K a w:=by
 unfold Ww at hw
 split at hw
 ·rename_i m hm
  have plain:(∀e z es,lv ≠ .uniq e z es)->((match stV P ty lv with
   | some vs=>if vs.length=m/\off+m<=cs.length then RM.ret [Wr.ext i off vs] else RM.fail
   | none=>RM.fail):RM (List Wr)).wp s K->B5 P cx s o K a w:=by
   intro _ hw
   split at hw
   ·rename_i vs xX
    split at hw
    ·rename_i hc
     obtain ⟨k1,k2,k3⟩:=UU (f:=fun j => .x i (off+j)) xX hr
     obtain ⟨b',cur,e,h1,h2,h3,h4,-⟩:=h.A66 hi off vs (a.eval y).cells.toList k1 (by rw [hc.1]; exact hc.2) k3 (Hj Xt)
     rw [hb] at h1
     injection h1 with h1
     subst h1
     have By:=Es (P:=P) ho hx rfl hm h2 (by rw [<-k1]; exact hc.1) (by have:=hc.2; omega) k2
     intro Q
     unfold Oper.wp
     rw [By,Oper.upon_skip,hd]
     refine ⟨_,g,l,hw,?_⟩
     have QO:s.I9 [.ext i off vs]={ s with ext:=put s.ext i (AA cs off vs) }:=by simp only [S.I9,S.wr,hi]
     rw [QO]
     exact h4
    ·exact hw.elim
   ·exact hw.elim
  cases lv with
  | uniq e z es=>
   obtain ⟨t,rfl,rfl,ht⟩:=hu e z es rfl
   simp only at hw
   split at hw
   ·rename_i hc
    obtain ⟨ha,rfl,Ac,Lv⟩:=hc
    have D3:cs[off]?=some cs[off]:=List.getElem?_eq_getElem Ac
    have hmm:∀es,cs[off] ≠ .mm es:=fun TP e2=>by
     obtain ⟨b2,-,-,hE⟩:=h.ex i cs hi
     rcases hE with ⟨-,cur,t2,-,-,h6⟩ | hE
     ·have:=(h6 off Ac).2.2
      rw [e2] at this
      exact this
     ·exact hE.plain (Hj Xt)
    have hrw:∀c ps,cs[off] ≠ .row c ps:=fun c2 ps2 e2=>by
     obtain ⟨b2,-,-,hE⟩:=h.ex i cs hi
     rcases hE with ⟨-,cur,t2,-,-,h6⟩ | hE
     ·have:=(h6 off Ac).2.2
      rw [e2] at this
      exact this
     ·exact hE.plain (Hj Xt)
    have QN:B4 cx { s with tmps:=put s.tmps t (.v (.sl z es)),ext:=put s.ext i (AA cs off [.DN]) } g l a w:=by
     refine h.jN (fun k v hk=>?_) (Ez Fg.refl _) (fun k v hk=>by
       simp only [B8] at hk
       split at hk
       ·rename_i e0
        subst e0
        injection hk with hk
        subst hk
        exact ⟨cs,hi,Fg.KR D3 (WL.DN hmm hrw)⟩
       ·exact ⟨v,hk,Fg.refl v⟩) (by simp only [DI hi]; exact Nat.le_refl _)
     simp only [B8] at hk
     split at hk
     ·rename_i e0; subst e0; injection hk with hk; subst hk; exact .inr ⟨_,ht,.inr ⟨rfl,x8 Lv⟩⟩
     ·exact .inr ⟨v,hk,WL.refl v⟩
    obtain ⟨l',k1,k2,kL⟩:=QN.Hh (p := .t t) (q := .x i off) hr (fun e2 z2 TP he=>by simp only [B8,if_true] at he; injection he with he; cases he)
     (fun ds NM e2 z2 TP he=>by
      simp only [B8,if_true,Option.some.injEq] at NM
      subst NM
      rw [BH _ _ _ (by simp; omega)] at he
      simp at he)
    have Cg:(a.eval (.tmp t)).oneCell'=true:=by
     rcases hr with (⟨hv,-⟩ | ⟨a',hv,-⟩) | ⟨b',cap,cur,hv,-⟩ <;> rw [hv] <;> rfl
    have hc:(a.eval (.tmp t)).cells = #[a.eval (.tmp t)]:=by
     generalize a.eval (.tmp t)=v at Cg
     cases v <;> first | rfl | cases Cg
    obtain ⟨b',cur,e',h1,h2,h3,h4,-⟩:=k1.A66 (i:=i) (cs:=AA cs off [.DN]) (by simp only [B8,if_true]) off [.uniq e z es] [a.eval (.tmp t)] rfl (by rw [AU]; simp; omega) (fun j hj Cu=>by
      have:j=0:=by simpa using hj
      subst this
      exact ⟨rfl,Cg,k2⟩) ⟨fun TP hs=>by
      have h0:=hs.inv
      have h1:=BH cs off [LV.DN] (by simp; omega) off
      rw [h0] at h1
      have hl:=congrArg List.length h0
      rw [AU] at hl
      have:off=0:=by simp at hl; omega
      subst this
      simp at h1,fun c2 ps2 h0=>by
      have h1:=BH cs off [LV.DN] (by simp; omega) off
      rw [h0] at h1
      have hl:=congrArg List.length h0
      rw [AU] at hl
      have:off=0:=by simp at hl; omega
      subst this
      simp at h1⟩
    have GZ:g.X i=some b:=hb
    rw [GZ] at h1
    injection h1 with h1
    subst h1
    rw [AU] at h3
    have By:=Es (P:=P) ho hx rfl hm h2 (by rw [hc]; rfl) oM (by rw [hc]; simpa using Cg)
    rw [hc] at By
    intro Q
    unfold Oper.wp
    rw [By,Oper.upon_skip,hd]
    refine ⟨_,g,l',hw,?_⟩
    have QO:s.I9 [.tmp t (.v (.sl z es)),.ext i off [.uniq e z es]]={ s with tmps:=put s.tmps t (.v (.sl z es)),ext:=put s.ext i (AA cs off [.uniq e z es]) }:=by simp only [S.I9,S.wr,hi]
    rw [QO]
    refine h4.congr (fun _=>rfl) (fun _=>rfl) (fun k=>by simp only [B8,IX cs off _ _ Ac]; split <;> rfl) (by simp only [G9]; omega)
   ·exact hw.elim
  | v p=>exact plain sM hw
  | full z es=>exact plain sM hw
  | lp j oo=>exact plain sM hw
  | DN=>exact plain sM hw
  | mm _=>exact hr.elim
  | row _ _=>exact hr.elim
 ·exact hw.elim
theorem Wz{ty:TypeId}{x y:Operand}{n c off:Nat}{cs:List LV}{ps:List Int}{p:Int}(ho:o.op = .store ty x y)(hd:o.dst=none)(h:B4 cx s g l a w)(hi:lk s.ext n=some cs)(Kg:rowOf cs=some (c,ps))
  (hx:∀b,g.Y n c=some b->a.eval x = .pointer (some ⟨b,off,none⟩)) (hr:BN g w (.int .i64 p) (a.eval y)) (hm:Lu P ty=some 1) (Ac:off<ps.length) (hw:K [.ext n 0 [.row c (ps.set off p)]]):B5 P cx s o K a w:=by
 obtain ⟨b,hY,hO,hF,hM,cur,e,h4,h5,h6⟩:=TJ h hi Kg
 have D3:=Jw Kg
 subst D3
 have h1:=BN.one hr rfl
 have hc:(a.eval y).cells = #[a.eval y]:=by
  generalize a.eval y=v at h1
  cases v <;> first | rfl | cases h1
 have By:=Es (P:=P) ho (hx b hY) rfl hm h4 (by rw [hc]; rfl) oM (by rw [hc]; simpa using h1)
 rw [hc] at By
 have kS:off<cur.size:=by omega
 have hg:∀j,((AA cur.toList off [a.eval y]).toArray.getD j undef)=if j=off then a.eval y else cur.getD j undef:=fun j=>by
  have N7:off+[a.eval y].length<=cur.toList.length:=by simp; omega
  have g2:=BH cur.toList off [a.eval y] N7 j
  have g3:((AA cur.toList off [a.eval y]).toArray.getD j undef)=((AA cur.toList off [a.eval y])[j]?).getD undef:=by simp [Array.getD_eq_getD_getElem?]
  rw [g3,g2]
  by_cases hj:j=off
  ·subst hj; simp
  ·rw [iN hj,iN (by simp only [List.length_singleton]; omega)]
   simp [Array.getD_eq_getD_getElem?]
 have k1:=h.XT (c2:=c) (ps':=ps.set off p) (cur':=(AA cur.toList off [a.eval y]).toArray) hi hY hO hF hM h4 (by simp [AU]) (.inl rfl) (by simp [AU]; omega) (fun j hj=>by
  have Il:j<ps.length:=by simpa using hj
  rw [hg j]
  by_cases hjo:j=off
  ·subst hjo
   rw [iP rfl]
   refine ⟨h1,?_⟩
   rw [List.getElem_set_self]; exact hr
  ·rw [iN hjo,List.getElem_set_ne oM]
   exact h6 j Il)
 intro Q
 unfold Oper.wp
 rw [By,Oper.upon_skip,hd]
 refine ⟨_,{ g with Y:=IM g.Y n c b },l,hw,?_⟩
 have QO:s.I9 [.ext n 0 [.row c (ps.set off p)]]={ s with ext:=put s.ext n (AA [.row c ps] 0 [.row c (ps.set off p)]) }:=by simp only [S.I9,S.wr,hi]
 rw [QO]
 exact k1
theorem NO{ty:TypeId}{x y:Operand}(ho:o.op = .store ty x y)(h:B4 cx s g l a w)(hw:(NN P o ty x y).wp s K):B5 P cx s o K a w:=by
 unfold NN at hw
 split at hw
 ·rename_i hd
  obtain ⟨lp,u,h1,r1,-⟩:=C6 h hw
  obtain ⟨lv,u2,h2,r2,hu2⟩:=C6 h h1
  split at h2
  ·rename_i i off
   simp only [RM.wp] at h2
   split at h2
   ·rename_i cs D3
    obtain ⟨b,k1,k2⟩:=r1
    exact Wx ho hd h D3 k1 k2 r2 hu2 h2
   ·exact h2.elim
  ·rename_i m off
   simp only [RM.wp] at h2
   split at h2
   ·rename_i cs D3
    have hx:∃b,g.X m=some b/\a.eval x = .pointer (some ⟨b,off,none⟩):=by
     generalize a.eval x=vx at r1
     cases r1 with
     | xp _ _ b' hx=>exact ⟨b',hx,rfl⟩
    obtain ⟨b,k1,k2⟩:=hx
    split at h2
    ·rename_i Xt; exact Wy ho hd h D3 k1 k2 r2 hu2 Xt h2
    ·exact h2.elim
   ·exact h2.elim
  ·rename_i m c off
   simp only [RM.wp] at h2
   split at h2
   ·rename_i cs D3
    split at h2
    ·rename_i c' ps p Kg hp
     split at h2
     ·rename_i hc1
      obtain ⟨hm,ha⟩:=hc1
      simp only [RM.wp] at h2
      obtain ⟨FZ,h2⟩:=h2
      obtain ⟨rfl,Ac⟩:=of_decide_eq_true FZ
      exact Wz ho hd h D3 Kg (by
       intro b hb
       generalize a.eval x=vx at r1
       cases r1 with
       | yp _ _ _ b' hx=>
        rw [hx] at hb
        injection hb with hb
        rw [hb]) (EY hp r2) hm Ac h2
     ·exact h2.elim
    ·exact h2.elim
   ·exact h2.elim
  ·exact h2.elim
 ·exact hw.elim
end
section
variable {P:Program} {cx:Cx} {s t:S} {g:Gh} {l:LG} {a:Act} {w:World} {o:Oper} {K:List Wr->Prop}
def Pz:LV->Option (List (List PV))
 | .v .A2=>some []
 | lv=>(Wt lv).map (·.2)
def xZ:LV->Option Nat
 | .v .A2=>none
 | lv=>(Wt lv).map (·.1)
def okZ(z:Nat)(lv:LV):Bool:=match xZ lv with
 | some z'=>z'==z
 | none=>true
def A6h(e z:Nat):LV->Option (List (List PV))
 | .v .A2=>some []
 | .full z' es=>if z'=z then some es else none
 | .uniq e' z' es=>if nY e'=e/\z'=z then some es else none
 | _=>none
def TQ(P:Program)(n:Nat)(o:Oper)(ty:TypeId)(x y:Operand):RM (List Wr):=match GJ P ty,o.dst with
 | some e,some d=>match Lu P e,FO P e,UO P e with
  | some (m+1),some (B+1),some zs=>if d<n/\zs.length=m+1/\e<1000000 then ev x fun lx=>ev y fun ly=>match A6h e (m+1) lx,Pz ly with
   | some es,some ys=>if okZ (m+1) ly=true then .assume (decide ((es++ys).length * (B+1)<=140737488355328)) (match lx,x with
    | .uniq e1 _ _,.tmp t=>if t≠d then (if e1<1000000 then .ret [.tmp t (.v (.sl (m+1) es)),.tmp d (.uniq e1 (m+1) (es++ys))] else .ret [.tmp t .DN,.tmp d (.uniq e1 (m+1) (es++ys))]) else .fail
    | _,_ => .ret [.tmp d (.uniq e (m+1) (es++ys))]) else .fail
   | _,_ => .fail
   else .fail
  | _,_,_ => .fail
 | _,_ => .fail
theorem FP{ty e:TypeId}{i:TypeInfo}{rt:TypeId}{A B:Option Addr}{n cap c:Nat}(hu:P.underlying ty=some (.slice e))(hi:P.info? e=some i)(hle:n<=cap) :
  (Builtin.append_ #[ty,ty] rt #[.slice A n cap,.slice B 0 c]).run P w = .ok (.slice A n cap) w:=by
 have hf:(Builtin.firstCells i.size 0 (.slice B 0 c)).run P w = .ok #[] w:=by
  cases B with
  | none=>rfl
  | some b=>simp [Builtin.firstCells,loadCells,loadCellsFrom]
 cases A with
 | none=>simp [Builtin.append_,run_underlying hu,sizeOf,typeInfo,hi,Builtin.lenOf,hle,hf]
 | some a=>simp [Builtin.append_,run_underlying hu,sizeOf,typeInfo,hi,Builtin.lenOf,hle,hf,storeCells]
def Yc(g:Gh)(l:LG)(w:World)(e e1:TypeId)(z:Nat)(p:Option UL)(es:List (List PV))(v:Value):Prop:=
 (v = .slice none 0 0/\es=[])∨(∃a,v = .slice (some a) es.length es.length/\BN g w (.sl z es) v/\e1<1000000) ∨
  ∃q b cap cur,p=some q/\v = .slice (some ⟨b,0,none⟩) es.length cap/\l.U q=some b/\g.M b=some (RN e1 (es.length * z))/\w.heap[b]?=some (.cells cur e (0,0))/\cur.size=cap * z/\P5 g w e1 z es cap cur v
theorem AG.app{ps qs:List PV}{us vs:List Value}(h:AG g w ps us)(k:AG g w qs vs):AG g w (ps++qs) (us++vs):=by
 refine ⟨by simp [h.1,k.1],fun j hj Cu=>?_⟩
 simp only [List.getElem_append]
 have hl:=h.1
 split
 ·rw [dif_pos oM]; exact h.2 _ _ _
 ·rw [dif_neg oM]
  simp only [hl]
  exact k.2 _ _ _
theorem QS(h:B4 cx s g l a w){d:Nat}(hq:RS s (.t d)){e e1:TypeId}(Wn:nY e1=e){zv:Value}{m:Nat}{es ys:List (List PV)}{olds news:List Value}{cap:Nat}(hz:zv.cells.size=m+1)
  (Jv:∀i (h:i<es.length),es[i].length=m+1) (KN:∀i (h:i<ys.length),ys[i].length=m+1) (ho:AG g w es.flatten olds) (hn:AG g w ys.flatten news) (Yd:∀u∈olds,u.oneCell'=true) (Nk:∀u∈news,u.oneCell'=true)
  (Cm:es.length+ys.length<=cap) (Dv:cap<=maxLen) :
  ∃g' l',B4 cx s g' l' a (w.drew.alloc (.cells (olds.toArray++news.toArray++Builtin.zeroCells zv.cells (cap - (es.length+ys.length))) e)) /\
   Cr g' l' (w.drew.alloc (.cells (olds.toArray++news.toArray++Builtin.zeroCells zv.cells (cap - (es.length+ys.length))) e)) (.t d) (.uniq e1 (m+1) (es++ys)) (.slice (some ⟨w.heap.size,0,none⟩) (es.length+ys.length) cap):=by
 obtain ⟨h1,jO⟩:=h.drew
 have UW:olds.length=es.length * (m+1):=by rw [<-ho.1,BT _ es Jv]
 have IV:news.length=ys.length * (m+1):=by rw [<-hn.1,BT _ ys KN]
 obtain ⟨g',l',k1,k2,k3⟩:=h1.x9 (.t d) hq (olds.toArray++news.toArray++Builtin.zeroCells zv.cells (cap - (es.length+ys.length))) e Wn (m+1) cap (es++ys) (by
   simp only [Array.size_append,List.size_toArray,size_zeroCells,hz,UW,IV,<-Nat.add_mul]
   congr 1
   omega) (by simpa using Cm) Dv (by
   intro i hi
   rw [List.getElem_append]
   split
   ·exact Jv _ _
   ·exact KN _ _) (olds++news) (by rw [List.flatten_append]; exact (ho.mono jO).app (hn.mono jO)) (by
   intro u hu
   rcases List.mem_append.1 hu with hu | hu
   ·exact Yd u hu
   ·exact Nk u hu) (by
   simp only [Array.toList_append]
   rw [show (es++ys).length * (m+1)=(olds++news).length by rw [List.length_append,List.length_append,Nat.add_mul,UW,IV]]
   exact List.take_left)
 refine ⟨g',l',k1,?_⟩
 rw [List.length_append] at k3
 exact k3
theorem S7{ty e e1 rt:TypeId}(Wn:nY e1=e){i:TypeInfo}{zv:Value}{m B d:Nat}{es ys:List (List PV)}{p:Option UL}{vx vy:Value}(h:B4 cx s g l a w)(hu:P.underlying ty=some (.slice e))(hi:P.info? e=some i)(hz:i.zero=some zv)
  (Bk:i.size=m+1) (Xu:i.bytes=B+1) (P0:zv.cells.size=m+1) (hq:RS s (.t d)) (hp:∀q,p=some q->RS s q) (RV:Yc g l w e e1 (m+1) p es vx)
  (hy:(ys=[]/\∃A c,vy = .slice A 0 c)∨∃ay c,vy = .slice (some ay) ys.length c/\BN g w (.sl (m+1) ys) vy) (hb:(es++ys).length * (B+1)<=140737488355328) :
  ∃v' w' g' l',(Builtin.append_ #[ty,ty] rt #[vx,vy]).run P w = .ok v' w'/\B4 cx s g' l' a w'/\Cr g' l' w' (.t d) (.uniq e1 (m+1) (es++ys)) v':=by
 have hlen:es.length+ys.length<=140737488355328:=by
  rw [List.length_append] at hb
  have:=Nat.le_mul_of_pos_right (es.length+ys.length) (Nat.succ_pos B)
  simp only [Nat.succ_eq_add_one] at this
  omega
 have Xv:es.length+ys.length<=maxLen:=by simp only [maxLen]; omega
 by_cases CX:ys=[]
 ·subst CX
  have WA:∃A c,vy = .slice A 0 c:=by
   rcases hy with ⟨-,h⟩ | ⟨ay,c,h,-⟩
   ·exact h
   ·exact ⟨some ay,c,h⟩
  obtain ⟨A,c,rfl⟩:=WA
  rw [List.append_nil]
  rcases RV with ⟨rfl,rfl⟩ | ⟨a',rfl,hR,hR2⟩ | ⟨q,b,cap,cur,rfl,rfl,h1,h2,h3,h4,h5⟩
  ·exact ⟨_,w,g,l,FP hu hi (Nat.le_refl _),h,.inl (.inl ⟨rfl,rfl⟩)⟩
  ·exact ⟨_,w,g,l,FP hu hi (Nat.le_refl _),h,.inl (.inr ⟨a',rfl,hR,hR2⟩)⟩
  ·obtain ⟨l',k1,k2,-⟩:=h.Hh (p:=q) (q := .t d) (e:=e1) (.inr ⟨b,cap,cur,rfl,h1,h2,by rw [Wn]; exact h3,h4,h5⟩) (hp q rfl) hq
   exact ⟨_,w,g,l',FP hu hi (h5.flat h3 h4).1,k1,k2⟩
 ·have Hp:0<ys.length:=List.length_pos_iff.2 CX
  obtain ⟨ay,c,rfl,jP⟩:∃ay c,vy = .slice (some ay) ys.length c/\BN g w (.sl (m+1) ys) vy:=by
   rcases hy with ⟨h,-⟩ | h
   ·exact absurd h CX
   ·exact h
  obtain ⟨-,-,-,KN,news,hn,IV,Ye⟩:=jP.flat
  have KS:∀j v,news[j]?=some v->w.cell? (ay.add j)=some v:=fun j v hj=>(Ye j v hj).1
  have Nk:∀u∈news,u.oneCell'=true:=fun u hu=>by
   obtain ⟨j,hj,e⟩:=List.getElem_of_mem hu
   exact (Ye j u (by rw [List.getElem?_eq_getElem hj,e])).2.2
  have QT:news.length=ys.length * i.size:=by rw [Bk]; exact IV
  have NP:(es.length+ys.length) * i.bytes<=140737488355328:=by rw [Xu,<-List.length_append]; exact hb
  rcases RV with ⟨rfl,rfl⟩ | ⟨a',rfl,hR,-⟩ | ⟨q,b,cap,cur,rfl,rfl,h1,h2,h3,h4,hR⟩
  ·have hr:=run_append_nil (P:=P) w ty rt e i zv hu hi hz ay ys.length c news QT KS Hp oM (by simp only [List.length_nil,Nat.zero_add] at NP; omega)
   have Cm:=grownCap_ge w ys.length 0 e
   have WB:=grownCap_le_maxLen w ys.length 0 e (by simpa using Xv)
   obtain ⟨g',l',k1,k2⟩:=QS h hq (e:=e) Wn (es:=[]) (olds:=[]) P0 (fun i h=>by simp at h) KN .nil hn sM Nk (by simpa using Cm) WB
   simp only [List.length_nil,Nat.zero_add,Array.empty_append,List.nil_append] at k1 k2
   exact ⟨_,_,g',l',hr,by simpa using k1,by simpa using k2⟩
  ·obtain ⟨-,-,-,Jv,olds,ho,UW,hoc⟩:=hR.flat
   have Yd:∀u∈olds,u.oneCell'=true:=fun u hu=>by
    obtain ⟨j,hj,e⟩:=List.getElem_of_mem hu
    exact (hoc j u (by rw [List.getElem?_eq_getElem hj,e])).2.2
   have hr:=run_append_grow (P:=P) w ty rt e i zv hu hi hz a' es.length es.length olds (by rw [Bk]; exact UW) (fun j v hj=>(hoc j v hj).1) ay ys.length c news QT KS oM oM (growslice_fits oM NP)
   have Cm:=grownCap_ge w (es.length+ys.length) es.length e
   have WB:=grownCap_le_maxLen w (es.length+ys.length) es.length e Xv
   obtain ⟨g',l',k1,k2⟩:=QS h hq (e:=e) Wn P0 Jv KN ho hn Yd Nk Cm WB
   exact ⟨_,_,g',l',hr,k1,k2⟩
  ·obtain ⟨hle,-,Jv,olds,ho,UW,-,hoc⟩:=hR.flat h3 h4
   by_cases GI:es.length+ys.length<=cap
   ·have hr:=run_append_room (P:=P) w ty rt e i hu hi b es.length cap cur h3 ay ys.length c news QT KS Nk GI (by rw [Bk,IV,h4,<-Nat.add_mul]; exact Nat.mul_le_mul_right _ GI)
    obtain ⟨g',l',k1,-,k3⟩:=h.kI (q := .t d) Wn (hp q rfl) hq h1 h2 h3 h4 hR KN news hn Nk GI
    rw [Bk] at hr
    exact ⟨_,_,g',l',hr,k1,k3⟩
   ·have Yd:∀u∈olds,u.oneCell'=true:=fun u hu=>by
     obtain ⟨j,hj,e⟩:=List.getElem_of_mem hu
     exact (hoc j u (by rw [List.getElem?_eq_getElem hj,e])).2
    have hr:=run_append_grow (P:=P) w ty rt e i zv hu hi hz ⟨b,0,none⟩ es.length cap olds (by rw [Bk]; exact UW) (fun j v hj=>by rw [RP]; exact (hoc j v hj).1) ay ys.length c news QT KS oM oM (growslice_fits oM NP)
    have Cm:=grownCap_ge w (es.length+ys.length) cap e
    have WB:=grownCap_le_maxLen w (es.length+ys.length) cap e Xv
    obtain ⟨g',l',k1,k2⟩:=QS h hq (e:=e) Wn P0 Jv KN ho hn Yd Nk Cm WB
    exact ⟨_,_,g',l',hr,k1,k2⟩
theorem Nn{ly:LV}{ys:List (List PV)}{z:Nat}{u:UL}{v:Value}(h:Pz ly=some ys)(hz:okZ z ly=true)(hr:Cr g l w u ly v) :
  (ys=[]/\∃A c,v = .slice A 0 c)∨∃ay c,v = .slice (some ay) ys.length c/\BN g w (.sl z ys) v:=by
 unfold Pz at h
 split at h
 ·injection h with h; subst h; cases hr; exact .inl ⟨rfl,_,_,rfl⟩
 ·rename_i hn
  simp only [Option.map_eq_some_iff] at h
  obtain ⟨⟨z',es⟩,hs,rfl⟩:=h
  have UX:z'=z:=by
   have Bk:xZ ly=some z':=by
    unfold xZ
    split
    ·exact absurd rfl hn
    ·rw [hs]; rfl
   unfold okZ at hz
   rw [Bk] at hz
   simpa using hz
  subst UX
  have kP:=EY (ND hs) hr
  cases kP with
  | slnil=>exact .inl ⟨rfl,_,_,rfl⟩
  | sl _ _ ay cap vs k1 k2 k3 k4 k5 k6 k7=>exact .inr ⟨ay,cap,rfl,.sl _ _ ay cap vs k1 k2 k3 k4 k5 k6 k7⟩
theorem Fq:∀ {vs:List Value} {ps:List PV},jM vs=some ps->ps.length=vs.length
 | [],ps,h=>by simp only [jM,Option.some.injEq] at h; subst h; rfl
 | v::r,ps,h=>by
  simp only [jM] at h
  split at h
  ·rename_i p qs h1 h2
   injection h with h
   subst h
   simp [Fq h2]
  ·cases h
theorem QU{ty:TypeId}{x y:Operand}(ho:o.op = .call { callee := .builtin .append,args:=#[x,y],argTypes:=#[ty,ty] })(h:B4 cx s g l a w)(hw:(TQ P cx.n o ty x y).wp s K):B5 P cx s o K a w:=by
 unfold TQ at hw
 split at hw
 ·rename_i e d he hd
  have hu:=EL he
  split at hw
  ·rename_i m B zs hm hB hz
   split at hw
   ·rename_i hc
    obtain ⟨hdn,S8,Lv⟩:=hc
    obtain ⟨lx,ux,h1,r1,hu1⟩:=C6 h hw
    obtain ⟨ly,uy,h2,r2,-⟩:=C6 h h1
    obtain ⟨i,zv,z1,z2,z3⟩:=FA hz
    have Bk:i.size=m+1:=by simpa [Lu,z1] using hm
    have Xu:i.bytes=B+1:=by simpa [FO,z1] using hB
    have P0:zv.cells.size=m+1:=by rw [<-Array.length_toList,<-Fq z3]; exact S8
    split at h2
    ·rename_i es ys Jv KN
     split at h2
     ·rename_i EA
      have hb:=of_decide_eq_true h2.1; replace h2:=h2.2
      have hy:=Nn KN EA r2
      have hex:∀v' w',(Builtin.append_ #[ty,ty] o.type #[a.eval x,a.eval y]).run P w = .ok v' w'->(execOp a.eval o).run P w = .ok (.value v') w':=by
       intro v' w' hr
       simp only [execOp,ho,resolve,invoke,builtin,Sem.run_bind,Sem.run_pure,Result.andThen_ok,List.map_toArray,List.map_cons,List.map_nil,hr]
      have plain:Yc g l w e e (m+1) none es (a.eval x)->K [.tmp d (.uniq e (m+1) (es++ys))]->B5 P cx s o K a w:=by
       intro RV hK
       have QN:B4 cx { s with tmps:=put s.tmps d .DN } g l a w:=by
        refine h.jN (fun k v hk=>?_) (Ez Fg.refl _) (Ez Fg.refl _)
        simp only [B8] at hk
        split at hk
        ·injection hk with hk; exact .inl hk.symm
        ·exact .inr ⟨v,hk,WL.refl v⟩
       obtain ⟨v',w',g',l',k1,k2,k3⟩:=S7 (rt:=o.type) (Tz Lv) (p:=none) QN hu z1 z2 Bk Xu P0 (kN sM) (fun q hq=>by cases hq) RV hy hb
       intro Q
       unfold Oper.wp
       rw [hex v' w' k1,Oper.upon_value,hd]
       refine ⟨_,g',l',hK,(k2.set hdn k3).congr (fun k=>?_) (fun _=>rfl) (fun _=>rfl)⟩
       simp only [S.I9,S.wr,B8]
       split <;> rfl
      unfold A6h at Jv
      split at Jv
      ·injection Jv with Jv
       subst Jv
       refine plain (.inl ⟨?_,rfl⟩) h2
       generalize a.eval x=vx at r1
       cases r1; rfl
      ·rename_i z' es'
       split at Jv
       ·rename_i UX
        subst UX
        injection Jv with Jv
        subst Jv
        refine plain ?_ h2
        rcases r1 with ⟨k1,k2⟩ | ⟨a',k1,k2⟩
        ·exact .inl ⟨k1,k2⟩
        ·exact .inr (.inl ⟨a',k1,k2,Lv⟩)
       ·cases Jv
      ·rename_i e' z' es'
       split at Jv
       ·rename_i UX
        obtain ⟨rfl,rfl⟩:=UX
        injection Jv with Jv
        subst Jv
        obtain ⟨t,rfl,rfl,ht⟩:=hu1 _ _ _ rfl
        simp only at h2
        split at h2
        ·rename_i De
         have key:∀lf:LV,(lf = .DN∨lf = .v (.sl (m+1) es')/\e'<1000000)->K [.tmp t lf,.tmp d (.uniq e' (m+1) (es'++ys))]->B5 P cx s o K a w:=by
          intro lf hlf hK
          have QN:B4 cx { s with tmps:=put (put s.tmps t lf) d .DN } g l a w:=by
           refine h.jN (fun k v hk=>?_) (Ez Fg.refl _) (Ez Fg.refl _)
           simp only [B8] at hk
           split at hk
           ·injection hk with hk; exact .inl hk.symm
           ·split at hk
            ·rename_i e0; subst e0; injection hk with hk; subst hk; rcases hlf with rfl | ⟨rfl,Ac⟩; exact .inl rfl; exact .inr ⟨_,ht,.inr ⟨rfl,x8 Ac⟩⟩
            ·exact .inr ⟨v,hk,WL.refl v⟩
          have RV:Yc g l w (nY e') e' (m+1) (some (.t t)) es' (a.eval (.tmp t)):=by
           rcases r1 with (⟨k1,k2⟩ | ⟨a',k1,k2,k3⟩) | ⟨b,cap,cur,k1,k2,k3,k4,k5,k6⟩
           ·exact .inl ⟨k1,k2⟩
           ·exact .inr (.inl ⟨a',k1,k2,k3⟩)
           ·exact .inr (.inr ⟨.t t,b,cap,cur,rfl,k1,k2,k3,k4,k5,k6⟩)
          obtain ⟨v',w',g',l',k1,k2,k3⟩:=S7 (rt:=o.type) rfl (p:=some (.t t)) (d:=d) QN hu z1 z2 Bk Xu P0 (fun e2 z2 TP he=>by simp only [B8,if_true] at he; injection he with he; cases he)
           (fun q hq=>by
            injection hq with hq
            subst hq
            intro e2 z2 TP he
            simp only [B8,iN (Ne.symm De),if_true] at he
            injection he with he
            rcases hlf with h0 | ⟨h0,-⟩ <;> (rw [h0] at he; cases he)) RV hy hb
          intro Q
          unfold Oper.wp
          rw [hex v' w' k1,Oper.upon_value,hd]
          refine ⟨_,g',l',hK,(k2.set hdn k3).congr (fun k=>?_) (fun _=>rfl) (fun _=>rfl)⟩
          simp only [S.I9,S.wr,B8]
          split <;> rfl
         split at h2
         ·rename_i Ac; exact key _ (.inr ⟨rfl,Ac⟩) h2
         ·exact key _ (.inl rfl) h2
        ·exact h2.elim
       ·cases Jv
      ·cases Jv
     ·exact h2.elim
    ·exact h2.elim
   ·exact hw.elim
  ·exact hw.elim
 ·exact hw.elim
end
def EC{κ:Type} [DecidableEq κ] (k:κ):List (κ × PV)->Option PV
 | []=>none
 | x::r=>if x.1=k then some x.2 else EC k r
def EZ{κ:Type} [DecidableEq κ] (k:κ) (v:PV):List (κ × PV)->List (κ × PV)
 | []=>[(k,v)]
 | x::r=>if x.1=k then (k,v)::r else x::EZ k v r
theorem Jz{κ:Type} [DecidableEq κ] {k:κ}:∀ {es:List (κ × PV)},(∀x∈es,x.1≠k)->EC k es=none
 | [],_=>rfl
 | x::r,h=>by
  simp only [EC,h x sM,if_false]
  exact Jz fun y hy=>h y (List.mem_cons_of_mem _ hy)
theorem NQ{κ:Type} [DecidableEq κ] {k:κ} {v:PV}:∀ {es:List (κ × PV)},(∀x∈es,x.1≠k)->EZ k v es=es++[(k,v)]
 | [],_=>rfl
 | x::r,h=>by
  simp only [EZ,h x sM,if_false,List.cons_append]
  rw [NQ fun y hy=>h y (List.mem_cons_of_mem _ hy)]
theorem UY{κ:Type} [DecidableEq κ] {k:κ}:∀ {es:List (κ × PV)} {j:Nat} (hj:j<es.length),es[j].1=k->(∀i (h:i<es.length),i<j->es[i].1≠k)->EC k es=some es[j].2
 | [],j,hj,_,_=>by simp at hj
 | x::r,0,_,h,_=>by simp only [List.getElem_cons_zero] at h; simp [EC,h]
 | x::r,j+1,hj,h,hn=>by
  have h0:=hn 0 sM oM
  simp only [List.getElem_cons_zero] at h0
  simp only [EC,h0,if_false,List.getElem_cons_succ]
  exact UY (by simpa using hj) (by simpa using h) fun i hi UZ=>hn (i+1) (by simpa using hi) oM
theorem V0{κ:Type} [DecidableEq κ] {k:κ} {v:PV}:∀ {es:List (κ × PV)} {j:Nat} (hj:j<es.length),es[j].1=k->(∀i (h:i<es.length),i<j->es[i].1≠k)->EZ k v es=es.set j (k,v)
 | [],j,hj,_,_=>by simp at hj
 | x::r,0,_,h,_=>by simp only [List.getElem_cons_zero] at h; simp [EZ,h]
 | x::r,j+1,hj,h,hn=>by
  have h0:=hn 0 sM oM
  simp only [List.getElem_cons_zero] at h0
  simp only [EZ,h0,if_false,List.set_cons_succ]
  rw [V0 (by simpa using hj) (by simpa using h) fun i hi UZ=>hn (i+1) (by simpa using hi) oM]
def Kh{κ:Type} [DecidableEq κ] (k:κ):List (κ × PV)->List (κ × PV)
 | []=>[]
 | x::r=>if x.1=k then r else x::Kh k r
theorem PA{κ:Type} [DecidableEq κ] {k:κ}:∀ {es:List (κ × PV)},(∀x∈es,x.1≠k)->Kh k es=es
 | [],_=>rfl
 | x::r,h=>by
  simp only [Kh,h x sM,if_false]
  rw [PA fun y hy=>h y (List.mem_cons_of_mem _ hy)]
theorem QV{κ:Type} [DecidableEq κ] {k:κ}:∀ {es:List (κ × PV)} {j:Nat} (hj:j<es.length),es[j].1=k->(∀i (h:i<es.length),i<j->es[i].1≠k)->Kh k es=es.eraseIdx j
 | [],j,hj,_,_=>by simp at hj
 | x::r,0,_,h,_=>by simp only [List.getElem_cons_zero] at h; simp [Kh,h]
 | x::r,j+1,hj,h,hn=>by
  have h0:=hn 0 sM oM
  simp only [List.getElem_cons_zero] at h0
  simp only [Kh,h0,if_false,List.eraseIdx_cons_succ]
  rw [QV (by simpa using hj) (by simpa using h) fun i hi UZ=>hn (i+1) (by simpa using hi) oM]
structure NR {κ:Type} (d:TypeDesc) (kv:κ->Value):Prop where
 key:∀k,MapKept.IsKey d (kv k)
 inj:∀ {a b},kv a=kv b->a=b
theorem Yf:NR .string Value.string:=⟨fun _=>trivial,fun h=>by injection h⟩
theorem Yg:NR (.int .i64) (Value.int .i64):=⟨fun _=>rfl,fun h=>by injection h⟩
section
variable {P:Program} {cx:Cx} {s t:S} {g:Gh} {l:LG} {a:Act} {w:World} {o:Oper} {K:List Wr->Prop}
section
variable {κ:Type} {d:TypeDesc} {kv:κ->Value} {es:List (κ × PV)} {arr:Array MapEntry} {clock:Nat}
theorem GY.keys(ko:NR d kv)(h:GY kv g w es arr clock):∀x∈arr.toList,MapKept.IsKey d x.key:=fun x hx=>by
 obtain ⟨-,h2,h3⟩:=h
 obtain ⟨j,hj,e⟩:=List.getElem_of_mem hx
 have Cu:j<arr.size:=by simpa using hj
 have:=(h3 j oM Cu).1
 have e':arr[j]=x:=by simpa using e
 rw [e'] at this
 rw [this]
 exact ko.key _
theorem GY.find(ko:NR d kv)(h:GY kv g w es arr clock)(k:κ) :
  (Instr.findNow d (kv k) arr.toList 0=some none/\(∀x∈arr.toList,x.key≠kv k)/\∀x∈es,x.1≠k) ∨
  ∃ (j:Nat) (hj:j<es.length) (Cu:j<arr.size),Instr.findNow d (kv k) arr.toList 0=some (some (j,arr[j].val))/\arr[j].key=kv k/\es[j].1=k/\(∀i (h:i<es.length),i<j->es[i].1≠k):=by
 have hk:=h.keys ko
 obtain ⟨hs,h2,h3⟩:=h
 rcases MapKept.findNow_spec (d:=d) (k:=kv k) (ko.key k) arr.toList 0 hk with ⟨h4,h5⟩ | ⟨j,e,h4,h5,h6⟩
 ·refine .inl ⟨h4,h5,fun x hx e=>?_⟩
  obtain ⟨j,hj,e1⟩:=List.getElem_of_mem hx
  have Cu:j<arr.size:=by omega
  have:=(h3 j hj Cu).1
  exact h5 arr[j] sM (by rw [this,e1,e])
 ·rw [Nat.zero_add] at h4
  have Cu:j<arr.size:=by simpa using (List.getElem?_eq_some_iff.1 h5).1
  have e1:arr[j]=e:=by
   have:=(List.getElem?_eq_some_iff.1 h5).2
   simpa using this
  have hj:j<es.length:=by omega
  subst e1
  have hkj:=(h3 j hj Cu).1
  refine .inr ⟨j,hj,Cu,h4,h6,?_,fun i hi UZ ei=>?_⟩
  ·rw [hkj] at h6; exact ko.inj h6
  ·have PB:i<arr.size:=by omega
   have y3:=(h3 i hi PB).1
   have hnd:=hs.2.2
   have h7:(arr.toList.map (·.key))[i]'(by simpa using PB)=(arr.toList.map (·.key))[j]'(by simpa using Cu):=by simp [y3,h6,ei]
   exact List.pairwise_iff_getElem.1 hnd i j (by simpa using PB) (by simpa using Cu) UZ h7
theorem GY.DT [DecidableEq κ] (ko:NR d kv) (hR:GY kv g w es arr clock) {kt et ty:TypeId} (hu:P.underlying ty=some (.map kt et)) (hk:P.underlying kt=some d) {b:Nat} (hh:w.heap[b]?=some (.map arr clock)) (k:κ) {x:Value} {px:PV} (r3:BN g w px x) :
  ∃ED Cc,(Instr.mapUpdate ty (.map (some b)) (kv k) x).run P w = .ok () { w with heap:=w.heap.setIfInBounds b (.map ED Cc) }/\GY kv g w (EZ k px es) ED Cc:=by
 rcases hR.find ko k with ⟨f1,f2,f3⟩ | ⟨j,hj,Cu,f1,f2,f3,f4⟩
 ·refine ⟨arr.push { key:=kv k,val:=x,born:=clock },clock+1,?_,?_⟩
  ·simp [Instr.mapUpdate,run_underlying hu,MapKept.run_getObj_map hh,MapKept.run_checkKey hk (ko.key k),MapKept.run_findKey hk f1,MapKept.run_setObj_map _ hh,Result.andThen]
  ·rw [NQ f3]
   obtain ⟨q1,q2,q3⟩:=hR
   refine ⟨MapKept.stamped_push q1 f2,by simp [q2],fun j hj Cu=>?_⟩
   by_cases hjl:j<es.length
   ·have hja:j<arr.size:=by omega
    rw [List.getElem_append_left hjl,Array.getElem_push_lt hja]
    exact q3 j hjl hja
   ·have hje:j=es.length:=by simp at hj; omega
    subst hje
    simp only [List.getElem_append_right (Nat.le_refl _),Nat.sub_self,List.getElem_cons_zero]
    have:(arr.push { key:=kv k,val:=x,born:=clock })[es.length]={ key:=kv k,val:=x,born:=clock }:=by simp [<-q2]
    rw [this]
    exact ⟨rfl,r3⟩
 ·refine ⟨arr.modify j fun e=>{ e with key:=kv k,val:=x },clock,?_,?_⟩
  ·have hja:arr[j]?=some arr[j]:=Array.getElem?_eq_getElem Cu
   simp [Instr.mapUpdate,run_underlying hu,MapKept.run_getObj_map hh,MapKept.run_checkKey hk (ko.key k),MapKept.run_findKey hk f1,hja,f2,MapKept.run_keyThatStays (d:=d) (k:=kv k) (ko.key k),MapKept.run_setObj_map _ hh,Result.andThen]
  ·rw [V0 hj f3 f4]
   obtain ⟨q1,q2,q3⟩:=hR
   refine ⟨MapKept.stamped_modify q1 _ _ (fun _ _=>rfl) (fun e' _ kT=>?_),by simp [q2],fun i hi PB=>?_⟩
   ·rw [Array.getElem?_eq_getElem Cu] at kT
    injection kT with kT
    rw [<-kT,f2]
   ·have hi2:i<es.length:=by simpa using hi
    have hi3:i<arr.size:=by simpa using PB
    rw [Array.getElem_modify,List.getElem_set]
    by_cases UZ:j=i
    ·subst UZ; simp only [if_true]; exact ⟨trivial,r3⟩
    ·simp only [UZ,if_false]; exact q3 i hi2 hi3
theorem GY.del [DecidableEq κ] (ko:NR d kv) (hR:GY kv g w es arr clock) {kt et ty Yh ty3:TypeId} (hu:P.underlying ty=some (.map kt et)) (hk:P.underlying kt=some d) {b:Nat} (hh:w.heap[b]?=some (.map arr clock)) (k:κ) :
  ∃ED Cc,(Builtin.delete_ #[ty,Yh] ty3 #[.map (some b),kv k]).run P w = .ok (.tuple #[]) { w with heap:=w.heap.setIfInBounds b (.map ED Cc) }/\GY kv g w (Kh k es) ED Cc:=by
 rcases hR.find ko k with ⟨f1,f2,f3⟩ | ⟨j,hj,Cu,f1,f2,f3,f4⟩
 ·refine ⟨arr,clock,?_,?_⟩
  ·simp [Builtin.delete_,run_underlying hu,MapKept.run_getObj_map hh,MapKept.run_checkKey hk (ko.key k),MapKept.run_findKey hk f1,MapKept.run_setObj_map _ hh,Result.andThen]
  ·rw [PA f3]; exact hR
 ·refine ⟨arr.eraseIdxIfInBounds j,clock,?_,?_⟩
  ·simp [Builtin.delete_,run_underlying hu,MapKept.run_getObj_map hh,MapKept.run_checkKey hk (ko.key k),MapKept.run_findKey hk f1,MapKept.run_setObj_map _ hh,Result.andThen]
  ·rw [QV hj f3 f4]
   obtain ⟨q1,q2,q3⟩:=hR
   have e:arr.eraseIdxIfInBounds j=arr.eraseIdx j Cu:=by unfold Array.eraseIdxIfInBounds; rw [dif_pos Cu]
   refine ⟨MapKept.stamped_erase q1 j,by rw [e,Array.size_eraseIdx,List.length_eraseIdx_of_lt hj,q2],fun i hi PB=>?_⟩
   have hi2:i<es.length - 1:=by rw [List.length_eraseIdx_of_lt hj] at hi; exact hi
   simp only [e]
   rw [Array.getElem_eraseIdx,List.getElem_eraseIdx]
   by_cases UZ:i<j
   ·rw [dif_pos UZ,dif_pos UZ]; exact q3 i oM oM
   ·rw [dif_neg UZ,dif_neg UZ]; exact q3 (i+1) oM oM
end
theorem S9{b:Nat}{arr ED:Array MapEntry}{clock Cc:Nat}(h4:w.heap[b]?=some (.map arr clock)):C3 g w g { w with heap:=w.heap.setIfInBounds b (.map ED Cc) }:=by
 have hs:=MapKept.heap_set (o' := .map ED Cc) h4
 refine ⟨fun _ _ e=>e,fun b' o v hc hf=>⟨?_,hf⟩,fun b' cur e hh=>?_,fun _ _ _ h=>h⟩
 ·have De:b'≠b:=by
   rintro rfl
   unfold World.cell? at hc
   simp [h4] at hc
  rw [<-hc]
  exact World.cell?_of_block (hs.2 b' De)
 ·have De:b'≠b:=by rintro rfl; rw [h4] at hh; cases hh
  exact ⟨cur,(hs.2 b' De).trans hh,rfl⟩
theorem B4.oO(h:B4 cx s g l a w){i b:Nat}{es es':MM}{arr ED:Array MapEntry}{clock Cc:Nat}(hi:lk s.ext i=some [.mm es])(h1:g.X i=some b)(h2:l.O b=some (.x i))(h4:w.heap[b]?=some (.map arr clock))
  (hC:C3 g w g { w with heap:=w.heap.setIfInBounds b (.map ED Cc) }->(w.heap.setIfInBounds b (.map ED Cc))[b]?=some (.map ED Cc)->TA g { w with heap:=w.heap.setIfInBounds b (.map ED Cc) } b es') :
  B4 cx { s with ext:=put s.ext i [.mm es'] } g l a { w with heap:=w.heap.setIfInBounds b (.map ED Cc) }:=by
 have hs:=MapKept.heap_set (o' := .map ED Cc) h4
 have hm:C3 g w g { w with heap:=w.heap.setIfInBounds b (.map ED Cc) }:=S9 h4
 have De:∀ {b' o},l.O b'=some o->o ≠ .x i->b'≠b:=fun {b' o} ho hn e=>by
  subst e
  rw [h2] at ho
  injection ho with ho
  exact hn ho.symm
 have hL:∀ {p lv v},Cr g l w p lv v->Cr g l { w with heap:=w.heap.setIfInBounds b (.map ED Cc) } p lv v:=fun hr=>hr.BR hm (fun _ _ _=>rfl) fun b' hu=>⟨hu,rfl,hs.2 b' (De (h.uo _ _ hu) sM)⟩
 refine ⟨⟨h.AR.mono.trans hm,by simpa using h.AR.size,fun b' Ac ho=>?_,h.AR.os,h.AR.tape,h.AR.output,h.AR.Kf.mono hm⟩,h.size,h.defers,fun t lv ht=>hL (h.tm t lv ht),?_,?_,?_,h.uo,?_,?_⟩
 ·have hnb:b'≠b:=by
   rintro rfl
   rcases (h.own b' _ h2).2 with hb | hb
   ·omega
   ·exact ho hb
  obtain ⟨k1,k2⟩:=h.AR.frame b' Ac ho
  exact ⟨(hs.2 b' hnb).trans k1,k2⟩
 ·intro k KM hk
  obtain ⟨b',k1,k2,k3,cur',e',k4,k5,k6⟩:=h.bx k KM hk
  have hn:=De k2 sM
  exact ⟨b',k1,k2,k3,cur',e',(hs.2 b' hn).trans k4,k5,fun j hj=>⟨(k6 j hj).1,(k6 j hj).2.1,hL (k6 j hj).2.2⟩⟩
 ·intro k KM hk
  rw [B8] at hk
  split at hk
  ·rename_i ek
   subst ek
   injection hk with hk
   subst hk
   exact ⟨b,h1,h2,.inr (.inl ⟨es',rfl,hC hm hs.1⟩)⟩
  ·rename_i ek
   obtain ⟨b',k1,k2,hE⟩:=h.ex k KM hk
   have hn:=De k2 (by simp; exact fun e=>ek e.symm)
   refine ⟨b',k1,k2,?_⟩
   rcases hE with ⟨k3,cur',e',k4,k5,k6⟩ | hE
   ·exact .inl ⟨k3,cur',e',(hs.2 b' hn).trans k4,k5,fun j hj=>⟨(k6 j hj).1,(k6 j hj).2.1,hL (k6 j hj).2.2⟩⟩
   ·exact .inr (hE.BR hm (fun _ _ _ h=>h) rfl (hs.2 b' hn))
 ·intro b' o ho
  simpa using h.own b' o ho
 ·exact ⟨fun b' GZ=>h.fresh.1 b' (by simpa using GZ),fun n hn=>h.fresh.2.1 n (by rw [DI hi] at hn; exact hn),fun n c hn=>h.fresh.2.2 n c (by rw [DI hi] at hn; exact hn)⟩
 ·intro n b' hx
  simpa using h.GH n b' hx
theorem B4.Yi(h:B4 cx s g l a w){i:Nat}{es:MM}(hi:lk s.ext i=some [.mm es]):∃b,g.X i=some b/\l.O b=some (.x i)/\TA g w b es:=by
 obtain ⟨b,h1,h2,hE⟩:=h.ex i _ hi
 replace h1:g.X i=some b:=h1
 rcases hE with ⟨-,cur,e,-,-,h6⟩ | ⟨TP,he,hM⟩ | ⟨n0,c0,ps0,-,e0,-⟩
 ·exact ((h6 0 sM).2.2).elim
 ·have kT:es=TP:=he
  subst kT
  exact ⟨b,h1,h2,hM⟩
 ·injection e0 with e0 _; cases e0
theorem B4.Yj(h:B4 cx s g l a w){i:Nat}{es es':List (ByteArray × PV)}(hi:lk s.ext i=some [.mm (.s es)]) :
  ∃b arr clock,g.X i=some b/\w.heap[b]?=some (.map arr clock)/\GY Value.string g w es arr clock/\∀ED Cc,GY Value.string g w es' ED Cc->B4 cx { s with ext:=put s.ext i [.mm (.s es')] } g l a { w with heap:=w.heap.setIfInBounds b (.map ED Cc) }:=by
 obtain ⟨b,h1,h2,hM,arr,clock,h4,hR⟩:=h.Yi hi
 exact ⟨b,arr,clock,h1,h4,hR,fun ED Cc hR'=>h.oO hi h1 h2 h4 fun hm hs=>⟨hM,ED,Cc,hs,hR'.mono hm⟩⟩
theorem B4.Sa(h:B4 cx s g l a w){i:Nat}{es es':List (Int × PV)}(hi:lk s.ext i=some [.mm (.i es)]) :
  ∃b arr clock,g.X i=some b/\w.heap[b]?=some (.map arr clock)/\GY (Value.int .i64) g w es arr clock/\∀ED Cc,GY (Value.int .i64) g w es' ED Cc->B4 cx { s with ext:=put s.ext i [.mm (.i es')] } g l a { w with heap:=w.heap.setIfInBounds b (.map ED Cc) }:=by
 obtain ⟨b,h1,h2,hM,arr,clock,h4,hR⟩:=h.Yi hi
 exact ⟨b,arr,clock,h1,h4,hR,fun ED Cc hR'=>h.oO hi h1 h2 h4 fun hm hs=>⟨hM,ED,Cc,hs,hR'.mono hm⟩⟩
def QW(P:Program)(t:TypeId):Option (Bool × TypeId):=match P.underlying t with
 | some (.map k e)=>match P.underlying k with
  | some .string=>some (true,e)
  | some (.int .i64)=>some (false,e)
  | _=>none
 | _=>none
theorem Gq{q:Bool}{ty e:TypeId}(h:QW P ty=some (q,e)):∃k,P.underlying ty=some (.map k e)/\P.underlying k=some (if q then .string else .int .i64):=by
 unfold QW at h
 split at h
 ·rename_i k e' hu
  split at h
  ·rename_i hk; injection h with h; injection h with h1 h2; subst h1 h2; exact ⟨k,hu,hk⟩
  ·rename_i hk; injection h with h; injection h with h1 h2; subst h1 h2; exact ⟨k,hu,hk⟩
  ·cases h
 ·cases h
def V1(P:Program)(o:Oper)(ty:TypeId)(m k x:Operand):RM (List Wr):=match o.dst,QW P ty with
 | none,some (true,_)=>FL m fun pm=>FL k fun pk=>FL x fun px=>match pm,pk with
  | .mp i,.str kb => .EB i fun cs=>match cs with
   | [.mm (.s es)] => .ret [.ext i 0 [.mm (.s (EZ kb px es))]]
   | _ => .fail
  | _,_ => .fail
 | none,some (false,_)=>FL m fun pm=>FL k fun pk=>FL x fun px=>match pm,pk with
  | .mp i,.int .i64 kb => .EB i fun cs=>match cs with
   | [.mm (.i es)] => .ret [.ext i 0 [.mm (.i (EZ kb px es))]]
   | _ => .fail
  | _,_ => .fail
 | _,_ => .fail
theorem Ki{i b:Nat}{v:Value}(r:BN g w (.mp i) v)(hb:g.X i=some b):v = .map (some b):=by
 cases r with
 | mp _ b' hx=>rw [hb] at hx; injection hx with hx; rw [hx]
theorem PC{ty:TypeId}{m k x:Operand}(ho:o.op = .mapUpdate ty m k x∨o.op = .insert ty m k x)(hd:o.dst=none){i b:Nat}{es es':MM}{w':World}(D3:lk s.ext i=some [.mm es])(e1:a.eval m = .map (some b))
  (hr:(Instr.mapUpdate ty (.map (some b)) (a.eval k) (a.eval x)).run P w = .ok () w') (hs:B4 cx { s with ext:=put s.ext i [.mm es'] } g l a w') (h3:K [.ext i 0 [.mm es']]):B5 P cx s o K a w:=fun Q=>by
 have hex:(execOp a.eval o).run P w = .ok .skip w':=by
  rcases ho with ho | ho <;> simp only [execOp,ho,e1,Sem.run_bind,hr,Result.andThen_ok] <;> rfl
 unfold Oper.wp
 rw [hex,Oper.upon_skip,hd]
 refine ⟨_,g,l,h3,?_⟩
 have QO:s.I9 [.ext i 0 [.mm es']]={ s with ext:=put s.ext i [.mm es'] }:=by simp only [S.I9,S.wr,D3]; rfl
 rw [QO]
 exact hs
theorem Mi{ty:TypeId}{m k x:Operand}(ho:o.op = .mapUpdate ty m k x∨o.op = .insert ty m k x)(h:B4 cx s g l a w)(hw:(V1 P o ty m k x).wp s K):B5 P cx s o K a w:=by
 unfold V1 at hw
 split at hw
 ·rename_i e hd hT
  obtain ⟨kt,hu,hk⟩:=Gq hT
  obtain ⟨pm,h1,r1⟩:=AH h hw
  obtain ⟨pk,h2,r2⟩:=AH h h1
  obtain ⟨px,h3,r3⟩:=AH h h2
  split at h3
  ·rename_i i kb
   simp only [RM.wp] at h3
   split at h3
   ·rename_i cs D3
    split at h3
    ·rename_i es
     obtain ⟨b,arr,clock,hb,hh,hR,TR⟩:=h.Yj (es':=EZ kb px es) D3
     have e2:a.eval k = .string kb:=by generalize a.eval k=vk at r2; cases r2; rfl
     obtain ⟨ED,Cc,q1,q2⟩:=hR.DT Yf hu hk hh kb r3
     exact PC ho hd D3 (Ki r1 hb) (by rw [e2]; exact q1) (TR _ _ q2) h3
    ·exact h3.elim
   ·exact h3.elim
  ·exact h3.elim
 ·rename_i e hd hT
  obtain ⟨kt,hu,hk⟩:=Gq hT
  obtain ⟨pm,h1,r1⟩:=AH h hw
  obtain ⟨pk,h2,r2⟩:=AH h h1
  obtain ⟨px,h3,r3⟩:=AH h h2
  split at h3
  ·rename_i i kb
   simp only [RM.wp] at h3
   split at h3
   ·rename_i cs D3
    split at h3
    ·rename_i es
     obtain ⟨b,arr,clock,hb,hh,hR,TR⟩:=h.Sa (es':=EZ kb px es) D3
     have e2:a.eval k = .int .i64 kb:=by generalize a.eval k=vk at r2; cases r2; rfl
     obtain ⟨ED,Cc,q1,q2⟩:=hR.DT Yg hu hk hh kb r3
     exact PC ho hd D3 (Ki r1 hb) (by rw [e2]; exact q1) (TR _ _ q2) h3
    ·exact h3.elim
   ·exact h3.elim
  ·exact h3.elim
 ·exact hw.elim
def TS(P:Program)(o:Oper)(ty:TypeId)(m k:Operand):RM (List Wr):=match o.dst,QW P ty with
 | none,some (true,_)=>FL m fun pm=>FL k fun pk=>match pm,pk with
  | .mp i,.str kb => .EB i fun cs=>match cs with
   | [.mm (.s es)] => .ret [.ext i 0 [.mm (.s (Kh kb es))]]
   | _ => .fail
  | _,_ => .fail
 | none,some (false,_)=>FL m fun pm=>FL k fun pk=>match pm,pk with
  | .mp i,.int .i64 kb => .EB i fun cs=>match cs with
   | [.mm (.i es)] => .ret [.ext i 0 [.mm (.i (Kh kb es))]]
   | _ => .fail
  | _,_ => .fail
 | _,_ => .fail
theorem NS{ty Yh:TypeId}{m k:Operand}(ho:o.op = .call ⟨.builtin .delete,⟨[m,k]⟩,⟨[ty,Yh]⟩⟩)(hd:o.dst=none){i b:Nat}{es es':MM}{w':World}(D3:lk s.ext i=some [.mm es])(e1:a.eval m = .map (some b))
  (hr:∀t3,(Builtin.delete_ #[ty,Yh] t3 #[.map (some b),a.eval k]).run P w = .ok (.tuple #[]) w') (hs:B4 cx { s with ext:=put s.ext i [.mm es'] } g l a w') (h3:K [.ext i 0 [.mm es']]):B5 P cx s o K a w:=fun Q=>by
 have hex:(execOp a.eval o).run P w = .ok (.value (.tuple #[])) w':=by
  simp [execOp,ho,resolve,invoke,builtin,e1,hr,Result.andThen]
 unfold Oper.wp
 rw [hex,Oper.upon_value,hd]
 refine ⟨_,g,l,h3,?_⟩
 have QO:s.I9 [.ext i 0 [.mm es']]={ s with ext:=put s.ext i [.mm es'] }:=by simp only [S.I9,S.wr,D3]; rfl
 rw [QO]
 exact hs
theorem QX{ty Yh:TypeId}{m k:Operand}(ho:o.op = .call ⟨.builtin .delete,⟨[m,k]⟩,⟨[ty,Yh]⟩⟩)(h:B4 cx s g l a w)(hw:(TS P o ty m k).wp s K):B5 P cx s o K a w:=by
 unfold TS at hw
 split at hw
 ·rename_i e hd hT
  obtain ⟨kt,hu,hk⟩:=Gq hT
  obtain ⟨pm,h1,r1⟩:=AH h hw
  obtain ⟨pk,h3,r2⟩:=AH h h1
  split at h3
  ·rename_i i kb
   simp only [RM.wp] at h3
   split at h3
   ·rename_i cs D3
    split at h3
    ·rename_i es
     obtain ⟨b,arr,clock,hb,hh,hR,TR⟩:=h.Yj (es':=Kh kb es) D3
     have e2:a.eval k = .string kb:=by generalize a.eval k=vk at r2; cases r2; rfl
     obtain ⟨ED,Cc,q1,q2⟩:=hR.del (Yh:=Yh) (ty3:=0) Yf hu hk hh kb
     exact NS ho hd D3 (Ki r1 hb) (by rw [e2]; exact fun t3=>q1) (TR _ _ q2) h3
    ·exact h3.elim
   ·exact h3.elim
  ·exact h3.elim
 ·rename_i e hd hT
  obtain ⟨kt,hu,hk⟩:=Gq hT
  obtain ⟨pm,h1,r1⟩:=AH h hw
  obtain ⟨pk,h3,r2⟩:=AH h h1
  split at h3
  ·rename_i i kb
   simp only [RM.wp] at h3
   split at h3
   ·rename_i cs D3
    split at h3
    ·rename_i es
     obtain ⟨b,arr,clock,hb,hh,hR,TR⟩:=h.Sa (es':=Kh kb es) D3
     have e2:a.eval k = .int .i64 kb:=by generalize a.eval k=vk at r2; cases r2; rfl
     obtain ⟨ED,Cc,q1,q2⟩:=hR.del (Yh:=Yh) (ty3:=0) Yg hu hk hh kb
     exact NS ho hd D3 (Ki r1 hb) (by rw [e2]; exact fun t3=>q1) (TR _ _ q2) h3
    ·exact h3.elim
   ·exact h3.elim
  ·exact h3.elim
 ·exact hw.elim
def kU(P:Program)(t:TypeId):Option PV:=((P.info? t).bind (·.zero)).bind cv
theorem Sb{t:TypeId}{z:PV}(h:kU P t=some z):∃v,(∀w,(zeroValue t).run P w = .ok v w)/\∀g w,BN g w z v:=by
 unfold kU at h
 simp only [Option.bind_eq_some_iff] at h
 obtain ⟨v,⟨i,h1,h2⟩,h3⟩:=h
 exact ⟨v,fun w=>by simp [zeroValue,typeInfo,h1,h2],fun g w=>XU h3⟩
def IY(ok:Bool)(m:Option PV)(z:PV):PV:=match ok with
 | true => .Bf [m.getD z,.bool m.isSome]
 | false=>m.getD z
def Yk(P:Program)(n:Nat)(o:Oper)(ty:TypeId)(x k:Operand)(ok:Bool):RM (List Wr):=match QW P ty with
 | some (true,e)=>match kU P e with
  | some z=>FL x fun px=>FL k fun pk=>match px,pk with
   | .mp i,.str kb => .EB i fun cs=>match cs with
    | [.mm (.s es)]=>wv n o (.v (IY ok (EC kb es) z))
    | _ => .fail
   | .XM,.str _=>wv n o (.v (IY ok none z))
   | _,_ => .fail
  | none => .fail
 | some (false,e)=>match kU P e with
  | some z=>FL x fun px=>FL k fun pk=>match px,pk with
   | .mp i,.int .i64 kb => .EB i fun cs=>match cs with
    | [.mm (.i es)]=>wv n o (.v (IY ok (EC kb es) z))
    | _ => .fail
   | _,_ => .fail
  | none => .fail
 | none => .fail
theorem LD{ok:Bool}{z:PV}{m:Option PV}{v:Value}(hr:BN g w (m.getD z) v):BN g w (IY ok m z) (if ok then .tuple #[v,.bool m.isSome] else v):=by
 cases ok with
 | true=>
  refine .Bf [m.getD z,.bool m.isSome] [v,.bool m.isSome] rfl fun j hj Cu=>?_
  match j,hj with
  | 0,_=>exact hr
  | 1,_=>exact .bool _
 | false=>exact hr
theorem GY.look{κ:Type} [DecidableEq κ] {d:TypeDesc} {kv:κ->Value} {es:List (κ × PV)} {arr:Array MapEntry} {clock:Nat} (ko:NR d kv) (hR:GY kv g w es arr clock) {kt et ty:TypeId} (hu:P.underlying ty=some (.map kt et)) (hk:P.underlying kt=some d) {b:Nat} (hh:w.heap[b]?=some (.map arr clock)) (k:κ)
  {z:PV} {zv:Value} (jQ:∀w,(zeroValue et).run P w = .ok zv w) (kV:∀g w,BN g w z zv) (ok:Bool):∃v,(Instr.lookup ty (.map (some b)) (kv k) ok).run P w = .ok v w/\BN g w (IY ok (EC k es) z) v:=by
 rcases hR.find ko k with ⟨f1,f2,f3⟩ | ⟨j,hj,Cu,f1,f2,f3,f4⟩
 ·rw [Jz f3]
  refine ⟨if ok then .tuple #[zv,.bool false] else zv,?_,LD (m:=none) (kV g w)⟩
  simp [Instr.lookup,run_underlying hu,MapKept.run_getObj_map hh,MapKept.run_checkKey hk (ko.key k),MapKept.run_findKey hk f1,jQ,Result.andThen]
 ·rw [UY hj f3 f4]
  refine ⟨if ok then .tuple #[arr[j].val,.bool true] else arr[j].val,?_,LD (m:=some es[j].2) (hR.2.2 j hj Cu).2⟩
  simp [Instr.lookup,run_underlying hu,MapKept.run_getObj_map hh,MapKept.run_checkKey hk (ko.key k),MapKept.run_findKey hk f1,Result.andThen]
theorem Sc{ty:TypeId}{x k:Operand}{ok:Bool}(ho:o.op = .lookup ty x k ok)(h:B4 cx s g l a w)(hw:(Yk P cx.n o ty x k ok).wp s K):B5 P cx s o K a w:=by
 have hex:∀v,(Instr.lookup ty (a.eval x) (a.eval k) ok).run P w = .ok v w->(execOp a.eval o).run P w = .ok (.value v) w:=fun v hr=>by
  simp only [execOp,ho,Sem.run_bind,hr,Result.andThen_ok]; rfl
 unfold Yk at hw
 split at hw
 ·rename_i e hT
  obtain ⟨kt,hu,hk⟩:=Gq hT
  split at hw
  ·rename_i z hz
   obtain ⟨zv,jQ,kV⟩:=Sb hz
   obtain ⟨px,h1,r1⟩:=AH h hw
   obtain ⟨pk,h2,r2⟩:=AH h h1
   split at h2
   ·rename_i i kb
    simp only [RM.wp] at h2
    split at h2
    ·rename_i cs D3
     split at h2
     ·rename_i es
      obtain ⟨b,arr,clock,hb,hh,hR,-⟩:=h.Yj (es':=[]) D3
      have e2:a.eval k = .string kb:=by generalize a.eval k=vk at r2; cases r2; rfl
      obtain ⟨v,k1,k2⟩:=hR.look Yf hu hk hh kb jQ kV ok
      exact B5.value h2 h (fun _=>k2) (hex _ (by rw [Ki r1 hb,e2]; exact k1))
     ·exact h2.elim
    ·exact h2.elim
   ·rename_i kb
    have e1:a.eval x = .map none:=by generalize a.eval x=vm at r1; cases r1; rfl
    have e2:a.eval k = .string kb:=by generalize a.eval k=vk at r2; cases r2; rfl
    rw [e1,e2] at hex
    refine B5.value (v:=if ok then .tuple #[zv,.bool false] else zv) h2 h (fun _=>LD (m:=none) (kV g w)) (hex _ ?_)
    simp [Instr.lookup,run_underlying hu,MapKept.run_checkKey hk (show MapKept.IsKey .string (.string kb) from trivial),MapKept.run_findKey hk (l:=[]) (a:=none) (k := .string kb) rfl,jQ,Result.andThen]
   ·exact h2.elim
  ·exact hw.elim
 ·rename_i e hT
  obtain ⟨kt,hu,hk⟩:=Gq hT
  split at hw
  ·rename_i z hz
   obtain ⟨zv,jQ,kV⟩:=Sb hz
   obtain ⟨px,h1,r1⟩:=AH h hw
   obtain ⟨pk,h2,r2⟩:=AH h h1
   split at h2
   ·rename_i i kb
    simp only [RM.wp] at h2
    split at h2
    ·rename_i cs D3
     split at h2
     ·rename_i es
      obtain ⟨b,arr,clock,hb,hh,hR,-⟩:=h.Sa (es':=[]) D3
      have e2:a.eval k = .int .i64 kb:=by generalize a.eval k=vk at r2; cases r2; rfl
      obtain ⟨v,k1,k2⟩:=hR.look Yg hu hk hh kb jQ kV ok
      exact B5.value h2 h (fun _=>k2) (hex _ (by rw [Ki r1 hb,e2]; exact k1))
     ·exact h2.elim
    ·exact h2.elim
   ·exact h2.elim
  ·exact hw.elim
 ·exact hw.elim
def Yl(n:Nat)(o:Oper)(it:Operand):RM (List Wr):=FL it fun p=>match p with
 | .xp k 0 => .EB k fun cs=>match cs with
  | [.mm (.it i)] => .EB i fun ds=>match ds with
   | [.mm (.s [])]=>wv n o (.v (.Bf [.bool false]))
   | [.mm (.i [])]=>wv n o (.v (.Bf [.bool false]))
   | _ => .fail
  | _ => .fail
 | _ => .fail
theorem Ym{b bm since last clock:Nat}{ty:TypeId}(h1:w.heap[b]?=some (.mapIter (some bm) since #[] last))(h2:w.heap[bm]?=some (.map #[] clock)) :
  (Instr.next (.pointer (some ⟨b,0,none⟩)) false ty).run P w = .ok (.tuple #[.bool false]) w:=by
 have e1:(getObj b).run P w = .ok (.mapIter (some bm) since #[] last) w:=by simp [getObj,Sem.run,h1]
 have e2:(getObj bm).run P w = .ok (.map #[] clock) w:=by simp [getObj,Sem.run,h2]
 simp [Instr.next,e1,e2,Result.andThen,Sem.run,choose,Question.forced]
theorem Sd{it:Operand}(ho:o.op = .next it false)(h:B4 cx s g l a w)(hw:(Yl cx.n o it).wp s K):B5 P cx s o K a w:=by
 unfold Yl at hw
 obtain ⟨p,h1,r1⟩:=AH h hw
 split at h1
 ·rename_i k
  simp only [RM.wp] at h1
  split at h1
  ·rename_i cs D3
   split at h1
   ·rename_i i
    simp only [RM.wp] at h1
    split at h1
    ·rename_i ds NM
     obtain ⟨b,hb,-,hM⟩:=h.Yi D3
     obtain ⟨-,bm,since,last,hX,hh⟩:=hM
     have e1:a.eval it = .pointer (some ⟨b,0,none⟩):=by
      generalize a.eval it=v at r1
      cases r1 with
      | xp _ _ b' hx=>rw [hb] at hx; injection hx with hx; rw [hx]
     have fin:∀clock,w.heap[bm]?=some (.map #[] clock)->(execOp a.eval o).run P w = .ok (.value (.tuple #[.bool false])) w:=fun clock hc=>by
      simp [execOp,ho,e1,Ym hh hc,Result.andThen]
     have hr:BN g w (.Bf [.bool false]) (.tuple #[.bool false]) := .Bf [.bool false] [.bool false] rfl fun j hj Cu=>by
      match j,hj with
      | 0,_=>exact .bool _
     split at h1
     ·obtain ⟨b2,arr,clock,TI,hh2,hR,-⟩:=h.Yj (es':=[]) NM
      rw [hX] at TI
      injection TI with TI
      subst TI
      have:arr = #[]:=Array.eq_empty_of_size_eq_zero hR.2.1
      subst this
      exact B5.value h1 h (fun _=>hr) (fin clock hh2)
     ·obtain ⟨b2,arr,clock,TI,hh2,hR,-⟩:=h.Sa (es':=[]) NM
      rw [hX] at TI
      injection TI with TI
      subst TI
      have:arr = #[]:=Array.eq_empty_of_size_eq_zero hR.2.1
      subst this
      exact B5.value h1 h (fun _=>hr) (fin clock hh2)
     ·exact h1.elim
    ·exact h1.elim
   ·exact h1.elim
  ·exact h1.elim
 ·exact h1.elim
def kW(m:Operand):RM Nat:=FL m fun p=>match p with
 | .mp i => .EB i fun cs=>match cs with
  | [.mm (.s _)] => .ret i
  | [.mm (.i _)] => .ret i
  | _ => .fail
 | _ => .fail
theorem V2{m:Operand}{K:Nat->Prop}{ty:TypeId}(ho:o.op = .range ty m)(hT:(QW P ty).isSome=true)(h:B4 cx s g l a w)(hw:(kW m).wp s K) :
  ∃i bm clock,K i/\g.X i=some bm/\i<Eg s.ext/\(execOp a.eval o).run P w = .ok (.value (.pointer (some ⟨w.heap.size,0,none⟩))) (w.alloc (.mapIter (some bm) clock #[] clock)):=by
 unfold kW at hw
 obtain ⟨p,h1,r1⟩:=AH h hw
 split at h1
 ·rename_i i
  simp only [RM.wp] at h1
  split at h1
  ·rename_i cs D3
   have By:∀bm arr clock,g.X i=some bm->w.heap[bm]?=some (.map arr clock)->(execOp a.eval o).run P w = .ok (.value (.pointer (some ⟨w.heap.size,0,none⟩))) (w.alloc (.mapIter (some bm) clock #[] clock)):=fun bm arr clock hb hh=>by
    have e1:=Ki r1 hb
    cases hq:QW P ty with
    | none=>rw [hq] at hT; cases hT
    | some qe=>
     obtain ⟨q,e⟩:=qe
     obtain ⟨kt,hu,-⟩:=Gq hq
     simp [execOp,ho,e1,Instr.range,run_underlying hu,MapKept.run_getObj_map hh,Result.andThen,newObj]
     rfl
   split at h1
   ·obtain ⟨b,arr,clock,hb,hh,-,-⟩:=h.Yj (es':=[]) D3
    exact ⟨i,b,clock,h1,hb,Kc D3,By b arr clock hb hh⟩
   ·obtain ⟨b,arr,clock,hb,hh,-,-⟩:=h.Sa (es':=[]) D3
    exact ⟨i,b,clock,h1,hb,Kc D3,By b arr clock hb hh⟩
   ·exact h1.elim
  ·exact h1.elim
 ·exact h1.elim
def A6i(P:Program)(ty:TypeId):Option (Nat × TypeId):=match P.underlying ty with
 | some (.array n e)=>some (n,e)
 | _=>none
def y4(P:Program)(e:TypeId)(m:Nat)(cs:List PV)(N:Nat):Bool:=match N8 P e with
 | some false=>decide (m=1)&&decide (cs.length=N)
 | _=>false
theorem Yn{e:TypeId}{m N:Nat}{cs:List PV}{k:Int}(h:y4 P e m cs N=true)(h0:0<=k)(h1:k<N):P8 P e cs (k.toNat * m)=some (cs.getD k.toNat .GG):=by
 unfold y4 at h
 split at h
 ·rename_i ha
  simp only [Bool.and_eq_true,decide_eq_true_eq] at h
  obtain ⟨rfl,h2⟩:=h
  have hk:k.toNat<cs.length:=by omega
  simp only [P8,ha,Nat.mul_one,List.getD,List.getElem?_eq_getElem hk,Option.getD_some]
 ·cases h
def TT(P:Program)(n:Nat)(o:Oper)(ty:TypeId)(x i:Operand):RM (List Wr):=if LC P ty=true then FL x fun p=>FL i fun q=>match p,q with
  | .str b,.int _ k => .assume (decide (0<=k/\k<b.size)) (wv n o (.v (.int .u8 (b.data.toList.getD k.toNat default).toNat)))
  | _,_ => .fail
 else match A6i P ty with
  | some (N,e)=>match Lu P e with
   | some m=>FL x fun p=>FL i fun q=>match p,q with
    | .agg cs,.int _ k => .assume (decide (0<=k/\k<N)) (if y4 P e m cs N=true then wv n o (.v (cs.getD k.toNat .GG)) else match P8 P e cs (k.toNat * m) with
     | some q=>wv n o (.v q)
     | none => .fail)
    | _,_ => .fail
   | none => .fail
  | none => .fail
theorem QY{ty:TypeId}{x i:Operand}(ho:o.op = .index ty x i)(h:B4 cx s g l a w)(hw:(TT P cx.n o ty x i).wp s K):B5 P cx s o K a w:=by
 unfold TT at hw
 split at hw
 ·rename_i Cw
  unfold LC at Cw
  split at Cw
  ·rename_i hu
   obtain ⟨p,h1,r1⟩:=AH h hw
   obtain ⟨q,h2,r2⟩:=AH h h1
   have hex:∀v,(Instr.index ty (a.eval x) (a.eval i)).run P w = .ok v w->(execOp a.eval o).run P w = .ok (.value v) w:=fun v hr=>by
    simp only [execOp,ho,Sem.run_bind,hr,Result.andThen_ok]; rfl
   generalize a.eval x=vx at r1 hex
   generalize a.eval i=vi at r2 hex
   split at h2
   ·rename_i b ki k
    cases r1
    cases r2
    obtain ⟨hb,h3⟩:=h2
    obtain ⟨hb0,hb1⟩:=of_decide_eq_true hb
    refine B5.pure h h3 (.int _ _) (hex _ ?_)
    have hk:k.toNat<b.size:=by omega
    have e1:b[k.toNat]?=some b[k.toNat]:=by simp [hk]
    have e2:b.data.toList.getD k.toNat default=b[k.toNat]:=by
     have RO:k.toNat<b.data.size:=hk
     have:b.data.toList.getD k.toNat default=b.data[k.toNat]:=by simp [List.getD,Array.getElem?_eq_getElem RO]
     exact this
    simp only [Instr.index,asIntOf,Sem.run_bind,Sem.run_pure,Result.andThen_ok,run_underlying hu,hb0,if_true,e1,e2]
   ·exact h2.elim
  ·cases Cw
 ·split at hw
  ·rename_i N e he
   have hu:P.underlying ty=some (.array N e):=by
    unfold A6i at he
    split at he
    ·rename_i n' e' hu; simp only [Option.some.injEq,Prod.mk.injEq] at he; obtain ⟨rfl,rfl⟩:=he; exact hu
    ·cases he
   split at hw
   ·rename_i m hm
    obtain ⟨p,h1,r1⟩:=AH h hw
    obtain ⟨q,h2,r2⟩:=AH h h1
    have hex:∀v,(Instr.index ty (a.eval x) (a.eval i)).run P w = .ok v w->(execOp a.eval o).run P w = .ok (.value v) w:=fun v hr=>by
     simp only [execOp,ho,Sem.run_bind,hr,Result.andThen_ok]; rfl
    generalize a.eval x=vx at r1 hex
    generalize a.eval i=vi at r2 hex
    split at h2
    ·rename_i cs ki k
     cases r2
     obtain ⟨hb,h3⟩:=h2
     have hb:=of_decide_eq_true hb
     split at h3
     ·rename_i A6j
      cases r1 with
      | agg _ vs hl Cg hr=>
       obtain ⟨v,k1,k2⟩:=Hl (P:=P) (Yn A6j hb.1 hb.2) ⟨hl,hr⟩ Cg
       refine B5.pure h h3 k2 (hex _ ?_)
       simp only [Instr.index,asIntOf,Sem.run_bind,Sem.run_pure,Result.andThen_ok,run_underlying hu,iP hb,run_sizeOf hm,k1]
     split at h3
     ·rename_i q hq
      cases r1 with
      | agg _ vs hl Cg hr=>
       obtain ⟨v,k1,k2⟩:=Hl (P:=P) hq ⟨hl,hr⟩ Cg
       refine B5.pure h h3 k2 (hex _ ?_)
       simp only [Instr.index,asIntOf,Sem.run_bind,Sem.run_pure,Result.andThen_ok,run_underlying hu,iP hb,run_sizeOf hm,k1]
     ·exact h3.elim
    ·exact h2.elim
   ·exact hw.elim
  ·exact hw.elim
def WC(x:Option Operand)(d:Nat)(k:Int->RM (List Wr)):RM (List Wr):=match x with
 | none=>k d
 | some y=>FL y fun q=>match q with
  | .int _ i=>k i
  | _ => .fail
def TU(P:Program)(n:Nat)(o:Oper)(ty:TypeId)(x:Operand)(lo hi:Option Operand):RM (List Wr):=match GJ P ty with
 | some e=>match Lu P e with
  | some z'=>FL x fun p=>match p with
   | .sl z es=>if z=z' then WC hi es.length fun h=>WC lo 0 fun k => .assume (decide (0<=k/\k<=h/\h<=es.length)) (wv n o (.v (.sl z ((es.take h.toNat).drop k.toNat)))) else .fail
   | _ => .fail
  | none => .fail
 | none => .fail
theorem Ia{x:Option Operand}{d:Nat}{k:Int->RM (List Wr)}(h:B4 cx s g l a w)(hw:(WC x d k).wp s K) :
  ∃i:Int,(k i).wp s K/\((x=none/\i=d)∨∃y ki,x=some y/\a.eval y = .int ki i):=by
 unfold WC at hw
 split at hw
 ·exact ⟨d,hw,.inl ⟨rfl,rfl⟩⟩
 ·rename_i y
  obtain ⟨q,h1,r1⟩:=AH h hw
  split at h1
  ·rename_i ki i
   refine ⟨i,h1,.inr ⟨y,ki,rfl,?_⟩⟩
   generalize a.eval y=v at r1
   cases r1
   rfl
  ·exact h1.elim
theorem QZ{ty:TypeId}{x:Operand}{lo hi:Option Operand}(ho:o.op = .slice ty x lo hi none)(h:B4 cx s g l a w)(hw:(TU P cx.n o ty x lo hi).wp s K):B5 P cx s o K a w:=by
 unfold TU at hw
 split at hw
 ·rename_i e he
  split at hw
  ·rename_i z' hz
   obtain ⟨p,h1,r1⟩:=AH h hw
   split at h1
   ·rename_i z es
    split at h1
    ·rename_i hzz
     subst hzz
     obtain ⟨hh,h2,hhi⟩:=Ia h h1
     obtain ⟨kk,h3,hlo⟩:=Ia h h2
     obtain ⟨hb,h4⟩:=h3
     obtain ⟨b0,b1,b2⟩:=of_decide_eq_true hb
     have hu:P.underlying ty=some (.slice e):=by
      unfold GJ at he
      split at he
      ·rename_i e' hu; injection he with he; rw [hu,he]
      ·cases he
     have hel:P.elem ty=e:=by simp [Program.elem,hu]
     have Ya:P.underlying ty=some (.slice (P.elem ty)):=by rw [hel]; exact hu
     have Bk:(sizeOf (P.elem ty)).run P w = .ok z w:=by rw [hel]; exact run_sizeOf hz
     have hex:∀v,(Instr.slice ty (a.eval x) (lo.map a.eval) (hi.map a.eval) none).run P w = .ok v w->(execOp a.eval o).run P w = .ok (.value v) w:=fun v hr=>by
      simp only [execOp,ho,Option.map_none,Sem.run_bind,run_sliceAt_slice _ _ _ _ _ _ Ya,hr,Result.andThen_ok]; rfl
     have By:∀ (ad:Option Addr) (cap:Nat),es.length<=cap->(Instr.slice ty (.slice ad es.length cap) (lo.map a.eval) (hi.map a.eval) none).run P w = .ok (sliced ad kk.toNat hh.toNat cap z) w:=by
      intro ad cap Dv
      rcases hhi with ⟨rfl,rfl⟩ | ⟨y,ki,rfl,hy⟩
      ·rcases hlo with ⟨rfl,rfl⟩ | ⟨y',ki',rfl,y5⟩
       ·simp only [Option.map_none]
        rw [run_slice_all (ht:=Ya),Bk]
        rfl
       ·simp only [Option.map_none,Option.map_some,y5]
        rw [run_slice_l (ht:=Ya) (h0:=b0) (h1:=b1),Bk]
        rfl
      ·rcases hlo with ⟨rfl,rfl⟩ | ⟨y',ki',rfl,y5⟩
       ·simp only [Option.map_none,Option.map_some,hy]
        rw [run_slice_h (ht:=Ya) (h0:=by omega) (h2:=by omega),Bk]
        rfl
       ·simp only [Option.map_some,hy,y5]
        rw [run_slice_lh (ht:=Ya) (h0:=b0) (h1:=b1) (h2:=by omega),Bk]
        rfl
     have hlen:((es.take hh.toNat).drop kk.toNat).length=hh.toNat - kk.toNat:=by
      rw [List.length_drop,List.length_take]
      omega
     generalize a.eval x=vx at r1 hex
     cases r1 with
     | slnil _=>
      have:=By none 0 sM
      simp only [List.length_nil] at b2 this
      have LF:kk.toNat=0:=by omega
      have hh0:hh.toNat=0:=by omega
      refine B5.pure h h4 (v := .slice none 0 0) ?_ (hex _ ?_)
      ·simp only [List.take_nil,List.drop_nil]; exact .slnil z
      ·rw [this,LF,hh0]; rfl
     | sl _ _ ad cap vs hle Dv TH hc hf UR hr=>
      refine B5.pure h h4 (v:=sliced (some ad) kk.toNat hh.toNat cap z) ?_ (hex _ (By _ _ hle))
      unfold sliced
      rw [<-hlen]
      by_cases hck:cap=kk.toNat
      ·have TV:(es.take hh.toNat).drop kk.toNat=[]:=List.eq_nil_of_length_eq_zero (by rw [hlen]; omega)
       rw [iP hck,TV]
       exact .sl z [] ad _ vs sM oM (fun i hi=>by simp at hi) (fun i j hi=>by simp at hi) (fun i j hi=>by simp at hi) (fun i j hi=>by simp at hi) (fun i j hi=>by simp at hi)
      ·rw [iN hck]
       simp only [Option.map_some]
       have Yo:∀i (hi:i<((es.take hh.toNat).drop kk.toNat).length),∃h2:kk.toNat+i<es.length,((es.take hh.toNat).drop kk.toNat)[i]=es[kk.toNat+i]:=fun i hi=>by
        have h3:kk.toNat+i<es.length:=by rw [hlen] at hi; omega
        exact ⟨h3,by simp⟩
       refine .sl z _ (ad.add (kk.toNat * z)) _ (fun i j=>vs (kk.toNat+i) j) (by rw [hlen]; omega) oM (fun i hi=>?_) (fun i j hi hj=>?_) (fun i j hi hj=>?_) (fun i j hi hj=>?_) (fun i j hi hj=>?_)
       ·obtain ⟨h3,y6⟩:=Yo i hi
        rw [y6]; exact TH _ h3
       ·obtain ⟨h3,y6⟩:=Yo i hi
        rw [Addr.add_add,show kk.toNat * z+(i * z+j)=(kk.toNat+i) * z+j by rw [Nat.add_mul]; omega]
        exact hc _ j h3 hj
       ·obtain ⟨h3,y6⟩:=Yo i hi
        have:=hf _ j h3 hj
        have e1:(ad.add (kk.toNat * z)).block=ad.block:=by unfold Addr.add; split <;> rfl
        have e2:(ad.add (kk.toNat * z)).off=ad.off+kk.toNat * z:=by unfold Addr.add; split <;> simp_all
        rw [e1,e2,show ad.off+kk.toNat * z+(i * z+j)=ad.off+((kk.toNat+i) * z+j) by rw [Nat.add_mul]; omega]
        exact this
       ·obtain ⟨h3,y6⟩:=Yo i hi
        exact UR _ j h3 hj
       ·obtain ⟨h3,y6⟩:=Yo i hi
        have Cu:j<es[kk.toNat+i].length:=by rw [<-y6]; exact hj
        have:=hr _ j h3 Cu
        simp only [y6]
        exact this
    ·exact h1.elim
   ·exact h1.elim
  ·exact hw.elim
 ·exact hw.elim
def Yp(P:Program)(n:Nat)(o:Oper)(ty:TypeId)(x:Operand)(lo hi:Option Operand):RM (List Wr):=if LC P ty=true then FL x fun p=>match p with
  | .str b=>WC hi b.size fun h=>WC lo 0 fun k => .assume (decide (0<=k/\k<=h/\h<=b.size)) (wv n o (.v (.str (b.extract k.toNat h.toNat))))
  | _ => .fail
 else TU P n o ty x lo hi
theorem Se{ty:TypeId}{x:Operand}{lo hi:Option Operand}(ho:o.op = .slice ty x lo hi none)(h:B4 cx s g l a w)(hw:(Yp P cx.n o ty x lo hi).wp s K):B5 P cx s o K a w:=by
 unfold Yp at hw
 split at hw
 ·rename_i Cw
  have hu:P.underlying ty=some .string:=by
   unfold LC at Cw
   split at Cw
   ·rename_i hu; exact hu
   ·cases Cw
  obtain ⟨p,h1,r1⟩:=AH h hw
  split at h1
  ·rename_i b
   obtain ⟨hh,h2,hhi⟩:=Ia h h1
   obtain ⟨kk,h3,hlo⟩:=Ia h h2
   obtain ⟨hb,h4⟩:=h3
   obtain ⟨b0,b1,b2⟩:=of_decide_eq_true hb
   have hex:∀v,(Instr.slice ty (a.eval x) (lo.map a.eval) (hi.map a.eval) none).run P w = .ok v w->(execOp a.eval o).run P w = .ok (.value v) w:=fun v hr=>by
    simp only [execOp,ho,Option.map_none,Sem.run_bind,run_sliceAt_string _ _ _ _ _ _ hu,hr,Result.andThen_ok]; rfl
   generalize a.eval x=vx at r1 hex
   cases r1
   refine B5.pure h h4 (.str _) (hex _ ?_)
   rcases hhi with ⟨rfl,rfl⟩ | ⟨y,ki,rfl,hy⟩
   ·rcases hlo with ⟨rfl,rfl⟩ | ⟨y',ki',rfl,y5⟩
    ·simp only [Option.map_none]
     rw [run_slice_string_all (ht:=hu)]
     rfl
    ·simp only [Option.map_none,Option.map_some,y5]
     rw [run_slice_string_l (ht:=hu) (h0:=b0) (h1:=b1)]
     rfl
   ·rcases hlo with ⟨rfl,rfl⟩ | ⟨y',ki',rfl,y5⟩
    ·simp only [Option.map_none,Option.map_some,hy]
     rw [run_slice_string_h (ht:=hu) (h0:=by omega) (h2:=by omega)]
     rfl
    ·simp only [Option.map_some,hy,y5]
     rw [run_slice_string w ty b _ _ _ _ hu b0 b1 b2]
  ·exact h1.elim
 ·exact QZ ho h hw
end
end Go.Pv
