/- Values of Go as plain data, an evaluator over them, and what the functions of the program return; part Xb. -/
import Derived.Test.YthchpmnkecoafaaGreatDoorXa
import Derived.Laws.Tables
import Derived.Laws.Slices
import Derived.Laws.Strings2
import Derived.DataElems
set_option linter.unusedVariables false
set_option linter.unusedSimpArgs false
set_option linter.unusedSectionVars false
namespace Go.Pv
open Go.RowKit
section
variable {cx:Cx} {s t:S} {g:Gh} {l:LG} {a:Act} {w:World}
theorem Bb.eM(h:Bb cx s g l a w)(h1:∀k v,lk t.tmps k=some v->v = .Dx∨∃u,lk s.tmps k=some u/\WL v u)(h2:∀k v,lk t.boxes k=some v->∃u,lk s.boxes k=some u/\F7 v u)
  (h3:∀k v,lk t.ext k=some v->∃u,lk s.ext k=some u/\F7 v u) (h4:DN s.ext<=DN t.ext:=by exact Nat.le_refl _):Bb cx t g l a w where
 AV:=h.AV
 size:=h.size
 defers:=h.defers
 tm k v hk:=by
  rcases h1 k v hk with rfl | ⟨_,hu,hw⟩
  ·trivial
  ·exact hw.rep (h.tm k _ hu)
 bx k v hk:=by
  obtain ⟨u,hu,hw⟩:=h2 k v hk
  obtain ⟨b,k1,k2,k3⟩:=h.bx k u hu
  exact ⟨b,k1,k2,k3.le hw⟩
 ex k v hk:=by
  obtain ⟨u,hu,hw⟩:=h3 k v hk
  obtain ⟨b,k1,k2,k3⟩:=h.ex k u hu
  exact ⟨b,k1.le hw,k2,k3.le hw⟩
 own:=h.own
 uo:=h.uo
 fresh:=⟨h.fresh.1,fun n hn=>h.fresh.2.1 n (Nat.le_trans h4 hn),fun n c hn=>h.fresh.2.2 n c (Nat.le_trans h4 hn)⟩
 Gg:=h.Gg
theorem E4{α:Type}{W:α->α->Prop}(hW:∀x,W x x)(x:List (Nat × α)):∀k v,lk x k=some v->∃u,lk x k=some u/\W v u:=fun _ v h=>⟨v,h,hW v⟩
theorem Bb.congr(h:Bb cx s g l a w)(h1:∀k,lk t.tmps k=lk s.tmps k)(h2:∀k,lk t.boxes k=lk s.boxes k)(h3:∀k,lk t.ext k=lk s.ext k)(h4:DN s.ext<=DN t.ext:=by exact Nat.le_refl _):Bb cx t g l a w:=
 h.eM (fun k v e => .inr ⟨v,by rw [<-h1]; exact e,WL.refl v⟩) (fun k v e=>⟨v,by rw [<-h2]; exact e,F7.refl v⟩) (fun k v e=>⟨v,by rw [<-h3]; exact e,F7.refl v⟩) h4
def Bc(P:Program)(cx:Cx)(s:S)(o:Oper)(K:List Wr->Prop)(a:Act)(w:World):Prop:=
 ∀Q,o.wp P a w (fun a' w'=>∃wr g' l',K wr/\Bb cx (s.HY wr) g' l' a' w') Q
def wv(n:Nat)(o:Oper)(lv:LV):RM (List Wr):=match o.dst with
 | some d=>if d<n then .ret [.tmp d lv] else .fail
 | none => .ret []
theorem Bc.value{P:Program}{o:Oper}{K:List Wr->Prop}{lv:LV}{v:Value}{g':Gh}{l':LG}{w':World}(hw:(wv cx.n o lv).wp s K)(hs:Bb cx s g' l' a w')
  (hr:∀d,Cq g' l' w' (.t d) lv v) (Bz:(execOp a.eval o).run P w = .ok (.value v) w'):Bc P cx s o K a w:=by
 intro Q
 unfold Oper.wp
 rw [Bz,Oper.upon_value]
 unfold wv at hw
 split at hw
 ·rename_i d hd
  split at hw
  ·rename_i Ag
   refine ⟨_,g',l',hw,?_⟩
   rw [hd]
   exact hs.set Ag (hr d)
  ·exact hw.elim
 ·rename_i hd
  refine ⟨_,g',l',hw,?_⟩
  rw [hd]
  exact hs
def Xd:List Oper->Nat->Bool
 | [],_=>false
 | o::r,d=>(match o.op with
  | .call { callee := .builtin .append,args,.. }=>(match args.toList with | .tmp t::_=>t==d | _=>false)
  | .assign (.tmp t)=>t==d
  | _=>false)||Xd r d
def mv(n:Nat)(ops:List Oper)(o:Oper)(take:Bool)(x:Operand):RM (List Wr):=match x with
 | .tmp t => .It t fun lv=>match lv,o.dst with
  | .uniq e z es,some d=>if d<n/\t≠d then (if e<1000000 then (if take||Xd ops d then .ret [.tmp t (.v (.sl z es)),.tmp d (.uniq e z es)] else .ret [.tmp d (.v (.sl z es))]) else .ret [.tmp t .Dx,.tmp d (.uniq e z es)]) else .fail
  | .uniq _ _ _,none => .fail
  | lv,_=>wv n o lv
 | x=>ev x fun lv=>match lv with
  | .uniq _ _ _ => .fail
  | lv=>wv n o lv
theorem fQ{t:Nat}{lv:LV}(h:∀e z es,lv ≠ .uniq e z es):QU { s with tmps:=put s.tmps t lv } (.t t):=fun e z es he=>by
 rw [Lu] at he
 injection he with he
 exact h e z es he
theorem Bb.take(h:Bb cx s g l a w){t d:Nat}{e:TypeId}{z:Nat}{es:List (List PV)}{lf:LV}(hlf:lf = .Dx∨lf = .v (.sl z es)/\e<1000000)(hd:d<cx.n)(D4:t≠d)(ht:lk s.tmps t=some (.uniq e z es)) :
  ∃l',Bb cx { s with tmps:=put (put s.tmps t lf) d (.uniq e z es) } g l' (a.put (some d) (a.tmps.getD t undef)) w:=by
 have hr:=h.tm t _ ht
 have hlu:∀e z es,lf ≠ .uniq e z es:=by rintro e z es rfl; rcases hlf with h | ⟨h,-⟩ <;> cases h
 have h1:Bb cx { s with tmps:=put (put s.tmps t lf) d .Dx } g l a w:=by
  refine h.eM (fun k v hk=>?_) (E4 F7.refl _) (E4 F7.refl _)
  simp only [Be] at hk
  split at hk
  ·injection hk with hk
   exact .inl hk.symm
  ·split at hk
   ·rename_i e0
    subst e0
    injection hk with hk
    subst hk
    rcases hlf with rfl | ⟨rfl,Ag⟩
    ·exact .inl rfl
    ·exact .inr ⟨_,ht,.inr ⟨rfl,pJ Ag⟩⟩
   ·exact .inr ⟨v,hk,WL.refl v⟩
 obtain ⟨l',h2,h3,-⟩:=h1.He (p := .t t) (q := .t d) hr (fun e z es he=>by simp only [Be,iN (Ne.symm D4),if_true] at he; injection he with he; exact hlu _ _ _ he)
  (fun e z es he=>by simp only [Be,if_true] at he; injection he with he; cases he)
 refine ⟨l',(h2.set hd h3).congr (fun k=>?_) (fun _=>rfl) (fun _=>rfl)⟩
 simp only [Be]
 split <;> rfl
theorem QV{P:Program}{ops:List Oper}{o:Oper}{K:List Wr->Prop}{tk:Bool}{x:Operand}(h:Bb cx s g l a w)(hw:(mv cx.n ops o tk x).wp s K)
  (Bz:(execOp a.eval o).run P w = .ok (.value (a.eval x)) w):Bc P cx s o K a w:=by
 unfold mv at hw
 split at hw
 ·rename_i t
  simp only [RM.wp] at hw
  split at hw
  ·rename_i lv Gc
   have hr:=h.tm t lv Gc
   split at hw
   ·rename_i e z es d hd
    split at hw
    ·rename_i hc
     split at hw
     ·rename_i Ag
      split at hw
      ·intro Q
       unfold Oper.wp
       rw [Bz,Oper.upon_value,hd]
       obtain ⟨l',h2⟩:=h.take (.inr ⟨rfl,Ag⟩) hc.1 hc.2 Gc
       exact ⟨_,g,l',hw,h2⟩
      ·refine Bc.value (lv := .v (.sl z es)) (v:=a.eval (.tmp t)) ?_ h (fun d=>Eo (Xc Ag) hr) Bz
       unfold wv
       rw [hd]
       simp only [hc.1,if_true]
       exact hw
     ·intro Q
      unfold Oper.wp
      rw [Bz,Oper.upon_value,hd]
      obtain ⟨l',h2⟩:=h.take (.inl rfl) hc.1 hc.2 Gc
      exact ⟨_,g,l',hw,h2⟩
    ·exact hw.elim
   ·exact hw.elim
   ·rename_i lv1 lv2 x2 M4 hnu
    refine Bc.value hw h (fun d=>?_) Bz
    refine hr.free ?_
    cases lv1 with
    | uniq e z es=>
     cases fR:o.dst with
     | none=>exact (hnu e z es rfl fR).elim
     | some d=>exact (M4 e z es d rfl fR).elim
    | _=>rfl
  ·exact hw.elim
 ·obtain ⟨lv,u,h1,h2,h3⟩:=C2 h hw
  split at h1
  ·exact h1.elim
  ·rename_i hnu
   refine Bc.value h1 h (fun d=>?_) Bz
   refine h2.free ?_
   cases lv with
   | uniq e z es=>exact (hnu e z es rfl).elim
   | _=>rfl
end
section
variable {P:Program} {cx:Cx} {s t:S} {g:Gh} {l:LG} {a:Act} {w:World} {o:Oper} {K:List Wr->Prop}
theorem Bc.pure{p:PV}{v:Value}(h:Bb cx s g l a w)(hw:(wv cx.n o (.v p)).wp s K)(hr:BJ g w p v)(Bz:(execOp a.eval o).run P w = .ok (.value v) w):Bc P cx s o K a w:=
 Bc.value hw h (fun _=>hr) Bz
def A0a(op:BinOp)(k:IntKind)(x y:Int):Option PV:=match op with
 | .add=>some (.int k (k.wrap (x+y)))
 | .sub=>some (.int k (k.wrap (x - y)))
 | .mul=>some (.int k (k.wrap (x * y)))
 | .eql=>some (.bool (x==y))
 | .neq=>some (.bool (x != y))
 | .lss=>some (.bool (decide (x<y)))
 | .leq=>some (.bool (decide (x<=y)))
 | .gtr=>some (.bool (decide (x>y)))
 | .geq=>some (.bool (decide (x>=y)))
 | _=>none
def A0b(op:BinOp)(x y:ByteArray):Option PV:=match op with
 | .eql=>some (.bool (x.toList==y.toList))
 | .neq=>some (.bool (!(x.toList==y.toList)))
 | .lss=>some (.bool (Op.bytesLess x.toList y.toList))
 | .leq=>some (.bool (Op.bytesLess x.toList y.toList||x.toList==y.toList))
 | .gtr=>some (.bool (!(Op.bytesLess x.toList y.toList||x.toList==y.toList)))
 | .geq=>some (.bool (!Op.bytesLess x.toList y.toList))
 | _=>none
def isEq:BinOp->Option Bool
 | .eql=>some true
 | .neq=>some false
 | _=>none
def eqP(P:Program)(t:TypeId)(cst:Bool)(p q:PV):Option Bool:=match P.underlying t,p,q with
 | some .bool,.bool x,.bool y=>some (x==y)
 | some (.pointer _),.Gf,.Gf=>some true
 | some (.pointer _),.Gf,.ro _ _=>some false
 | some (.pointer _),.Gf,.xp _ _=>some false
 | some (.pointer _),.ro _ _,.Gf=>some false
 | some (.pointer _),.xp _ _,.Gf=>some false
 | some (.interface _),.Fz,.Fz=>if cst then some true else none
 | some (.interface _),.Fz,.iface _ _=>some false
 | some (.interface _),.iface _ _,.Fz=>some false
 | some (.map _ _),.X3,.X3=>some true
 | some (.map _ _),.mp _,.X3=>some false
 | some (.slice _),.A4,.A4=>some true
 | some (.slice _),.sl _ (_::_),.A4=>some false
 | some (.slice _),.TH _ _ _,.A4=>some false
 | _,_,_=>none
def isConst:Operand->Bool
 | .const _=>true
 | _=>false
def Xe(P:Program)(n:Nat)(o:Oper)(op:BinOp)(ty:TypeId)(x y:Operand):RM (List Wr):=
 Fm x fun p=>Fm y fun q=>match p,q with
  | .int k i,.int k' j=>if k=k' then (match op with
    | .quo => .assume (decide (j≠0)) (wv n o (.v (.int k (k.wrap (i.tdiv j)))))
    | .rem => .assume (decide (j≠0)) (wv n o (.v (.int k (i.tmod j))))
    | op=>match A0a op k i j with
     | some r=>wv n o (.v r)
     | none => .fail) else .fail
  | .str i,.str j=>match op with
   | .add => .assume (decide (i.size+j.size<=9223372036854775807)) (wv n o (.v (.str (i++j))))
   | op=>match A0b op i j with
    | some r=>wv n o (.v r)
    | none => .fail
  | p,q=>match isEq op,eqP P ty (isConst x||isConst y) p q with
   | some pos,some b=>wv n o (.v (.bool (if pos then b else !b)))
   | _,_ => .fail
theorem TL{α:Type}{c:Prop} [Decidable c] {x y:Sem α} {r:Result α} (hx:x.run P w=r) (hy:y.run P w=r):(if c then x else y).run P w=r:=by
 split
 ·exact hx
 ·exact hy
theorem D5{op:BinOp}{ty:TypeId}{x y:Operand}{u v:Value}(h:¬(u = .nilIface/\v = .nilIface))(h':∀c d,¬(u = .agg c/\v = .agg d)):(eqGuard op ty x y u v).run P w = .ok () w:=by
 unfold eqGuard
 refine TL rfl ?_
 split
 ·exact absurd ⟨rfl,rfl⟩ h
 ·rename_i c d; exact absurd ⟨rfl,rfl⟩ (h' c d)
 ·rfl
theorem LW{op:BinOp}{ty:TypeId}{x y:Operand}(h:(isConst x||isConst y)=true):(eqGuard op ty x y .nilIface .nilIface).run P w = .ok () w:=by
 unfold eqGuard
 refine TL rfl ?_
 cases x <;> cases y <;> first | rfl | cases h
theorem Kk{ty:TypeId}{u v:Value}{b:Bool}(h:∀d,(Op.equalIn (d+1) ty u v).run P w = .ok b w):(Op.equal ty u v).run P w = .ok b w:=h 9999
theorem VL{ty:TypeId}{x y:Operand}{p q:PV}{b:Bool}{u v:Value}{op:BinOp}{pos:Bool}(hb:eqP P ty (isConst x||isConst y) p q=some b)(hp:isEq op=some pos)(r1:BJ g w p u)(r2:BJ g w q v) :
    (eqGuard op ty x y u v).run P w = .ok () w/\(binOp op ty u v).run P w = .ok (.bool (if pos then b else !b)) w:=by
  have A0c:(∀k i,u ≠ .int k i)->(∀i,u ≠ .string i)->(∀k i,u ≠ .float k i)->(∀k i j,u ≠ .complex k i j)->(Op.equal ty u v).run P w = .ok b w->(binOp op ty u v).run P w = .ok (.bool (if pos then b else !b)) w:=by
    intro n1 n2 n3 n4 he
    cases op <;> simp [isEq] at hp <;> subst hp
    · unfold binOp
      split <;> simp_all
    · unfold binOp
      split <;> simp_all
  unfold eqP at hb
  cases hu:P.underlying ty with
  | none=>simp [hu] at hb
  | some d=>
    rw [hu] at hb
    split at hb
    all_goals first | (cases hb; done) | skip
    all_goals rename_i hd
    all_goals injection hd with hd
    all_goals subst hd
    all_goals cases r1
    all_goals cases r2
    all_goals first
      | (split at hb
         · rename_i hc
           injection hb with hb
           subst hb
           exact ⟨LW hc,A0c sM sM sM sM (Kk fun d=>by simp only [Op.equalIn,Sem.run_bind,run_underlying hu,Result.andThen_ok]; rfl)⟩
         · cases hb)
      | (injection hb with hb
         subst hb
         exact ⟨D5 sM sM,A0c sM sM sM sM (Kk fun d=>by simp only [Op.equalIn,Sem.run_bind,run_underlying hu,Result.andThen_ok]; rfl)⟩)
theorem PC{op:BinOp}{ty yt:TypeId}{x y:Operand}(ho:o.op = .binOp op ty x y yt)(h:Bb cx s g l a w)(hw:(Xe P cx.n o op ty x y).wp s K):Bc P cx s o K a w:=by
 obtain ⟨p,h1,r1⟩:=AL h hw
 obtain ⟨q,h2,r2⟩:=AL h h1
 clear hw h1
 have hex:∀v,(eqGuard op ty x y (a.eval x) (a.eval y)).run P w = .ok () w->(binOp op ty (a.eval x) (a.eval y)).run P w = .ok v w->(execOp a.eval o).run P w = .ok (.value v) w:=by
  intro v hg hv
  simp only [execOp,ho,Sem.run_bind,hg,Result.andThen_ok,hv,Sem.run_pure]
 generalize a.eval x=vx at r1 hex
 generalize a.eval y=vy at r2 hex
 split at h2
 ·rename_i k i k' j
  cases r1
  cases r2
  split at h2
  ·rename_i hk
   subst hk
   have hg:(eqGuard op ty x y (.int k i) (.int k j)).run P w = .ok () w:=D5 sM sM
   split at h2
   ·have hj:=of_decide_eq_true h2.1; replace h2:=h2.2
    exact Bc.pure h h2 (.int _ _) (hex _ hg (by simp [binOp,Op.intDiv,hj]))
   ·have hj:=of_decide_eq_true h2.1; replace h2:=h2.2
    exact Bc.pure h h2 (.int _ _) (hex _ hg (by simp [binOp,Op.intDiv,hj]))
   ·split at h2
    ·rename_i r hr
     have key:∃v,(binOp op ty (.int k i) (.int k j)).run P w = .ok v w/\BJ g w r v:=by
      cases op <;> simp only [A0a] at hr <;> first
       | (cases hr; done)
       | (injection hr with hr; subst hr; exact ⟨_,by simp only [binOp,Op.intArith,Op.intCmp,ne_eq,not_true_eq_false,if_false]; rfl,by constructor⟩)
     obtain ⟨v,hv,pO⟩:=key
     exact Bc.pure h h2 pO (hex _ hg hv)
    ·exact h2.elim
  ·exact h2.elim
 ·rename_i i j
  cases r1
  cases r2
  have hg:(eqGuard op ty x y (.string i) (.string j)).run P w = .ok () w:=D5 sM sM
  split at h2
  ·have hj:=of_decide_eq_true h2.1; replace h2:=h2.2
   refine Bc.pure h h2 (.str _) (hex _ hg ?_)
   have Cu:¬(((i.size+j.size:Nat):Int)>IntKind.i64.max):=by
    have:IntKind.i64.max=9223372036854775807:=rfl
    rw [this]
    omega
   simp only [binOp,Op.stringOp]
   rw [iN Cu]
   rfl
  ·split at h2
   ·rename_i r hr
    have key:∃v,(binOp op ty (.string i) (.string j)).run P w = .ok v w/\BJ g w r v:=by
     cases op <;> simp only [A0b] at hr <;> first
      | (cases hr; done)
      | (injection hr with hr; subst hr; exact ⟨_,by simp only [binOp,Op.stringOp]; rfl,by constructor⟩)
    obtain ⟨v,hv,pO⟩:=key
    exact Bc.pure h h2 pO (hex _ hg hv)
   ·exact h2.elim
 ·split at h2
  ·rename_i pos b hp hb
   obtain ⟨k1,k2⟩:=VL hb hp r1 r2
   exact Bc.pure h h2 (.bool _) (hex _ k1 k2)
  ·exact h2.elim
end
section
variable {P:Program} {cx:Cx} {s t:S} {g:Gh} {l:LG} {a:Act} {w:World} {o:Oper} {K:List Wr->Prop}
def kB(n:Nat)(o:Oper)(op:UnOp)(x:Operand):RM (List Wr):=Fm x fun p=>match op,p with
 | .not,.bool b=>wv n o (.v (.bool (!b)))
 | .neg,.int k i=>wv n o (.v (.int k (k.wrap (0 - i))))
 | _,_ => .fail
theorem QW{op:UnOp}{ty:TypeId}{x:Operand}(ho:o.op = .unOp op ty x)(h:Bb cx s g l a w)(hw:(kB cx.n o op x).wp s K):Bc P cx s o K a w:=by
 obtain ⟨p,h1,r1⟩:=AL h hw
 have hex:∀v,(Op.unary op (a.eval x)).run P w = .ok v w->(execOp a.eval o).run P w = .ok (.value v) w:=by
  intro v hv
  simp only [execOp,ho,Sem.run_bind,hv,Result.andThen_ok,Sem.run_pure]
 generalize a.eval x=vx at r1 hex
 split at h1
 ·cases r1; exact Bc.pure h h1 (.bool _) (hex _ rfl)
 ·cases r1; exact Bc.pure h h1 (.int _ _) (hex _ rfl)
 ·exact h1.elim
def TM(P:Program)(n:Nat)(o:Oper)(dst:TypeId)(x:Operand):RM (List Wr):=Fm x fun p=>match pN P dst,p with
 | some k,.int _ i=>wv n o (.v (.int k (k.wrap i)))
 | _,_ => .fail
theorem Xf{ty:TypeId}{k:IntKind}(h:pN P ty=some k):P.underlying ty=some (.int k):=by
 unfold pN at h
 split at h
 ·rename_i hu; injection h with h; subst h; exact hu
 ·cases h
theorem On{src dst:TypeId}{x:Operand}(ho:o.op = .convert src dst x)(QX:(P.underlying src).isSome=true)(h:Bb cx s g l a w)(hw:(TM P cx.n o dst x).wp s K):Bc P cx s o K a w:=by
 obtain ⟨p,h1,r1⟩:=AL h hw
 have hex:∀v,(convert src dst (a.eval x)).run P w = .ok v w->(execOp a.eval o).run P w = .ok (.value v) w:=by
  intro v hv
  simp only [execOp,ho,Sem.run_bind,hv,Result.andThen_ok,Sem.run_pure]
 generalize a.eval x=vx at r1 hex
 split at h1
 ·rename_i k i hk
  cases r1
  obtain ⟨d,hd⟩:=Option.isSome_iff_exists.1 QX
  refine Bc.pure h h1 (.int _ _) (hex _ ?_)
  simp only [convert,Sem.run_bind,run_underlying hd,run_underlying (Xf hk),Result.andThen_ok]
  rfl
 ·exact h1.elim
def Kl(P:Program)(t:TypeId):Bool:=match P.underlying t with
 | some (.interface _)=>false
 | some _=>true
 | none=>false
def Xg(P:Program)(n:Nat)(o:Oper)(ty:TypeId)(x:Operand):RM (List Wr):=Fm x fun p=>if Kl P ty=true then wv n o (.v (.iface ty p)) else .fail
theorem PD{ty:TypeId}{x:Operand}(ho:o.op = .makeInterface ty x)(h:Bb cx s g l a w)(hw:(Xg P cx.n o ty x).wp s K):Bc P cx s o K a w:=by
 obtain ⟨p,h1,r1⟩:=AL h hw
 split at h1
 ·rename_i hn
  refine Bc.pure h h1 (.iface ty p _ r1) ?_
  unfold Kl at hn
  split at hn
  ·cases hn
  ·rename_i d hd hu
   simp only [execOp,ho,Instr.makeInterface,Sem.run_bind,run_underlying hu,Result.andThen_ok]
   rfl
  ·cases hn
 ·exact h1.elim
def Xh(n:Nat)(o:Oper)(fn:Fn)(first captured:Array Operand):RM (List Wr):=kA first.toList fun ps=>kA captured.toList fun qs=>wv n o (.v (.fn fn ps qs))
theorem PE{fn:Fn}{first captured:Array Operand}(ho:o.op = .makeFunc fn first captured)(h:Bb cx s g l a w)(hw:(Xh cx.n o fn first captured).wp s K):Bc P cx s o K a w:=by
 obtain ⟨ps,h1,r1⟩:=EW h hw
 obtain ⟨qs,h2,r2⟩:=EW h h1
 refine Bc.pure h h2 (.fn fn ps qs _ _ r1.1 r2.1 r1.2 r2.2) ?_
 simp only [execOp,ho,Instr.makeFunc,Sem.run_bind,Sem.run_pure,Result.andThen_ok]
 congr 2
 simp [<-Array.toList_map]
def Km(P:Program)(t:TypeId)(name:String):Option FuncId:=match P.info? t with
 | some i=>match i.methods.find? (·.name==name) with
  | some m=>if m.path.toList.isEmpty=true then match m.func,P.underlying t with
    | some (_,false),some (.pointer _)=>none
    | some (f,false),some _=>some f
    | some (f,true),some (.pointer _)=>some f
    | _,_=>none
   else none
  | none=>none
 | none=>none
theorem PF{t:TypeId}{name:String}{f:FuncId}{v:Value}(h:Km P t name=some f):(nilAhead (P.types.size+Made.depth) t v name).run P w = .ok (some false) w:=by
 unfold Km at h
 split at h
 ·rename_i i hi
  split at h
  ·rename_i m hm
   split at h
   ·rename_i hp
    have kC:m.path.toList=[]:=by simpa using hp
    have hd:P.types.size+Made.depth=(P.types.size+(Made.depth - 1))+1:=by
     have:0<Made.depth:=by decide
     omega
    rw [hd]
    split at h
    ·cases h
    ·rename_i f' u hn hf hu
     simp only [nilAhead,Sem.run_bind,typeInfo,run_program,Result.andThen_ok,hi,Sem.run_pure,hm,kC,followBlind,hf,run_underlying hu]
     cases u <;> first | (exact (hn _ rfl).elim) | (simp; done)
    ·rename_i f' hf hu
     simp [nilAhead,typeInfo,hi,hm,kC,followBlind,hf]
    ·cases h
   ·cases h
  ·cases h
 ·cases h
def Xi(P:Program)(n:Nat)(o:Oper)(x:Operand):RM (List Wr):=ev x fun lv=>match lv with
 | .v (.fn (.method name) (.iface t q::ps) qs)=>if (Km P t name).isSome=true then wv n o (.v (.fn (.method name) (.iface t q::ps) qs)) else .fail
 | .v (.fn (.method name) (.VF t f q::ps) qs) => .assume (decide (Km P t name=some f)) (wv n o (.v (.fn (.method name) (.VF t f q::ps) qs)))
 | .lp i off=>wv n o (.lp i off)
 | .v (.ro cs off)=>wv n o (.v (.ro cs off))
 | .v (.xp m off)=>wv n o (.v (.xp m off))
 | .v (.fn (.func f) ps qs)=>wv n o (.v (.fn (.func f) ps qs))
 | _ => .fail
theorem PG{x:Operand}(ho:o.op = .nilCheck x)(h:Bb cx s g l a w)(hw:(Xi P cx.n o x).wp s K):Bc P cx s o K a w:=by
 obtain ⟨lv,u,h1,r1,-⟩:=C2 h hw
 have hex:∀v,v=a.eval x->(∃b,v = .pointer (some b))∨(∃f p q,v = .func (.func f) p q)->(execOp a.eval o).run P w = .ok (.value v) w:=by
  intro v hv hc
  subst hv
  simp only [execOp,ho]
  rcases hc with ⟨b,hb⟩ | ⟨f,p,q,hb⟩ <;> rw [hb] <;> rfl
 have pP:∀t name f v fv (qv:Array Value),Km P t name=some f->a.eval x = .func (.method name) (Value.iface t v::fv).toArray qv->(execOp a.eval o).run P w = .ok (.value (.func (.method name) (Value.iface t v::fv).toArray qv)) w:=by
  intro t name f v fv qv hm hv
  have e0:(Value.iface t v::fv).toArray[0]?=some (.iface t v):=by simp
  simp only [execOp,ho,hv,e0,Sem.run_bind,run_program,Result.andThen_ok,PF hm]
  simp
 generalize a.eval x=vx at r1 hex pP
 split at h1
 ·rename_i name t q ps qs
  split at h1
  ·rename_i hm
   obtain ⟨f,hf⟩:=Option.isSome_iff_exists.1 hm
   refine Bc.pure h h1 r1 ?_
   cases r1 with
   | fn _ _ _ fv cv l1 l2 r3 r4=>
    cases fv with
    | nil=>simp at l1
    | cons v0 fv=>
     have:=r3 0 sM sM
     simp only [List.getElem_cons_zero] at this
     cases this with
     | iface _ _ v hv=>exact pP t name f v fv _ hf rfl
  ·exact h1.elim
 ·rename_i name t f q ps qs
  obtain ⟨hd,h1⟩:=h1
  have hf:=of_decide_eq_true hd
  refine Bc.pure h h1 r1 ?_
  cases r1 with
  | fn _ _ _ fv cv l1 l2 r3 r4=>
   cases fv with
   | nil=>simp at l1
   | cons v0 fv=>
    have:=r3 0 sM sM
    simp only [List.getElem_cons_zero] at this
    cases this with
    | VF _ _ _ v hv=>exact pP t name f v fv _ hf rfl
 ·obtain ⟨b,hb,rfl⟩:=r1
  exact Bc.value h1 h (fun _=>⟨b,hb,rfl⟩) (hex _ rfl (.inl ⟨_,rfl⟩))
 ·refine Bc.pure h h1 r1 (hex _ rfl ?_)
  cases r1; exact .inl ⟨_,rfl⟩
 ·refine Bc.pure h h1 r1 (hex _ rfl ?_)
  cases r1; exact .inl ⟨_,rfl⟩
 ·refine Bc.pure h h1 r1 (hex _ rfl ?_)
  cases r1; exact .inr ⟨_,_,_,rfl⟩
 ·exact h1.elim
def Xj(P:Program)(n:Nat)(o:Oper)(ty:TypeId)(x:Operand)(f:Nat):RM (List Wr):=match Xb P ty f with
 | some (fo,ft)=>match KW P ft with
  | some (_+1)=>ev x fun lv=>match lv with
   | .lp i off=>wv n o (.lp i (off+fo))
   | .v (.ro cs off)=>wv n o (.v (.ro cs (off+fo)))
   | .v (.xp m off)=>wv n o (.v (.xp m (off+fo)))
   | _ => .fail
  | _ => .fail
 | none => .fail
theorem QY{ty:TypeId}{f fo:Nat}{ft:TypeId}(h:Xb P ty f=some (fo,ft)):∃fs fd,P.underlying ty=some (.struct fs)/\fs[f]?=some fd/\fd.offset=fo/\fd.type=ft:=by
 unfold Xb at h
 split at h
 ·rename_i fs hu
  simp only [Option.map_eq_some_iff,Prod.mk.injEq] at h
  obtain ⟨fd,h1,h2,h3⟩:=h
  exact ⟨fs,fd,hu,h1,h2,h3⟩
 ·cases h
theorem QZ{ty:TypeId}{f fo:Nat}{ft:TypeId}{m:Nat}(h:Xb P ty f=some (fo,ft))(hs:KW P ft=some (m+1))(b off:Nat):(Instr.fieldAt ty (.pointer (some ⟨b,off,none⟩)) f).run P w = .ok (.pointer (some ⟨b,off+fo,none⟩)) w:=by
 obtain ⟨fs,fd,hu,hf,rfl,rfl⟩:=QY h
 have Xk:(⟨b,off,none⟩:Addr).add fd.offset=⟨b,off+fd.offset,none⟩:=by unfold Addr.add; split <;> simp_all
 simp only [Instr.fieldAt,Sem.run_bind,run_underlying hu,Result.andThen_ok,hf,Instr.sureAddr,Sem.run_pure,fieldPlace,run_sizeOf hs]
 simp [Xk]
theorem R1{ty:TypeId}{x:Operand}{f:Nat}(ho:o.op = .fieldAddr ty x f)(h:Bb cx s g l a w)(hw:(Xj P cx.n o ty x f).wp s K):Bc P cx s o K a w:=by
 unfold Xj at hw
 split at hw
 ·rename_i fo ft hfo
  split at hw
  ·rename_i m hm
   obtain ⟨lv,u,h1,r1,-⟩:=C2 h hw
   have hex:∀b off,a.eval x = .pointer (some ⟨b,off,none⟩)->(execOp a.eval o).run P w = .ok (.value (.pointer (some ⟨b,off+fo,none⟩))) w:=by
    intro b off hv
    simp only [execOp,ho,hv,Sem.run_bind,QZ hfo hm,Result.andThen_ok,Sem.run_pure]
   generalize a.eval x=vx at r1 hex
   split at h1
   ·obtain ⟨b,hb,rfl⟩:=r1
    exact Bc.value h1 h (fun _=>⟨b,hb,rfl⟩) (hex _ _ rfl)
   ·cases r1 with
    | ro _ A9m b oo vs hc hf TN hr=>
     have:=hex b _ rfl
     rw [Nat.add_assoc] at this
     exact Bc.pure h h1 (.ro _ _ b oo vs hc hf TN hr) this
   ·cases r1 with
    | xp _ off b hx=>exact Bc.pure h h1 (.xp _ _ b hx) (hex _ _ rfl)
   ·exact h1.elim
  ·exact hw.elim
 ·exact hw.elim
def Oo(P:Program)(ty:TypeId)(cs:List PV)(off:Nat):Option PV:=match LU P ty with
 | some true=>match KW P ty with
  | some m=>if off+m<=cs.length then some (.agg ((cs.drop off).take m)) else none
  | none=>none
 | some false=>cs[off]?
 | none=>none
theorem Hh{ty:TypeId}{cs:List PV}{off:Nat}{p:PV}{vs:List Value}(h:Oo P ty cs off=some p)(hr:AG g w cs vs)(ho:∀v∈vs,v.oneCell'=true):∃v,(part ty vs.toArray off).run P w = .ok v w/\BJ g w p v:=by
 unfold Oo at h
 split at h
 ·rename_i ha
  split at h
  ·rename_i m hm
   split at h
   ·rename_i hle
    injection h with h
    subst h
    refine ⟨.agg ((vs.drop off).take m).toArray,?_,?_⟩
    ·simp only [part,Sem.run_bind,Hf ha,Result.andThen_ok,if_true,run_sizeOf hm,Sem.run_pure]
     congr 2
     apply Array.ext'
     simp [List.extract_eq_take_drop]
    ·refine .agg _ _ (by simp [hr.1]) (fun v hv=>ho v (List.mem_of_mem_drop (List.mem_of_mem_take hv))) fun j hj Cu=>?_
     simp only [List.getElem_take,List.getElem_drop]
     exact hr.2 _ _ _
   ·cases h
  ·cases h
 ·rename_i ha
  have Ag:=(List.getElem?_eq_some_iff.1 h).1
  have CE:off<vs.length:=by rw [<-hr.1]; exact Ag
  refine ⟨vs[off],?_,?_⟩
  ·simp [part,Hf ha,List.getElem?_eq_getElem CE]
  ·have:=hr.2 off Ag CE
   rw [List.getElem?_eq_getElem Ag] at h
   injection h with h
   rw [<-h]; exact this
 ·cases h
def Mj(P:Program)(n:Nat)(o:Oper)(ty:TypeId)(x:Operand)(f:Nat):RM (List Wr):=match Xb P ty f with
 | some (fo,ft)=>Fm x fun p=>match p with
  | .agg cs=>match Oo P ft cs fo with
   | some q=>wv n o (.v q)
   | none => .fail
  | _ => .fail
 | none => .fail
theorem Mk{ty:TypeId}{x:Operand}{f:Nat}(ho:o.op = .field ty x f)(h:Bb cx s g l a w)(hw:(Mj P cx.n o ty x f).wp s K):Bc P cx s o K a w:=by
 unfold Mj at hw
 split at hw
 ·rename_i fo ft hfo
  obtain ⟨p,h1,r1⟩:=AL h hw
  obtain ⟨fs,fd,hu,hf,rfl,rfl⟩:=QY hfo
  have hex:∀v vs,a.eval x = .agg vs->(part fd.type vs fd.offset).run P w = .ok v w->(execOp a.eval o).run P w = .ok (.value v) w:=by
   intro v vs hv hp
   simp only [execOp,ho,hv,Instr.field,Sem.run_bind,run_underlying hu,Result.andThen_ok,hf,asAgg,Sem.run_pure,hp]
  generalize a.eval x=vx at r1 hex
  split at h1
  ·rename_i cs
   split at h1
   ·rename_i q hq
    cases r1 with
    | agg _ vs hl Ce hr=>
     obtain ⟨v,k1,k2⟩:=Hh (P:=P) hq ⟨hl,hr⟩ Ce
     exact Bc.pure h h1 k2 (hex _ _ rfl k1)
   ·exact h1.elim
  ·exact h1.elim
 ·exact hw.elim
def VM:LV->Option (Nat × List (List PV))
 | .v (.sl z es)=>some (z,es)
 | .uniq e z es=>if e<1000000 then some (z,es) else none
 | .full z es=>some (z,es)
 | _=>none
theorem Ml{lv:LV}{z:Nat}{es:List (List PV)}(h:VM lv=some (z,es)):WN lv=some (.sl z es):=by
 unfold VM at h
 split at h
 ·injection h with h; injection h with h1 h2; subst h1 h2; rfl
 ·split at h
  ·rename_i Ag
   injection h with h; injection h with h1 h2; subst h1 h2; exact iP Ag
  ·cases h
 ·injection h with h; injection h with h1 h2; subst h1 h2; rfl
 ·cases h
def kD:LV->Option (Nat × Nat × Nat)
 | .v (.TH x z len)=>some (x,z,len)
 | _=>none
def OI:LV->Option (Nat × Nat × Nat)
 | .v (.LR x c len)=>some (x,c,len)
 | _=>none
def Xl(P:Program)(n:Nat)(o:Oper)(ty:TypeId)(x i:Operand):RM (List Wr):=match (Gj P ty).bind (KW P) with
 | some (m+1)=>ev x fun lv=>Fm i fun q=>match OI lv,kD lv,VM lv,q with
  | some (x,c,len),_,_,.int _ j=>if m=0 then .assume (decide (0<=j/\j<len)) (wv n o (.v (.yp x c j.toNat))) else .fail
  | none,some (x,z,len),_,.int _ j=>if z=m+1 then .assume (decide (0<=j/\j<len)) (wv n o (.v (.xp x (j.toNat * (m+1))))) else .fail
  | none,none,some (z,es),.int _ j=>if z=m+1 then .assume (decide (0<=j/\j<es.length)) (wv n o (.v (.ro (es.getD j.toNat []) 0))) else .fail
  | _,_,_,_ => .fail
 | _ => .fail
theorem Eh{ty e:TypeId}(h:Gj P ty=some e):P.underlying ty=some (.slice e):=by
 unfold Gj at h
 split at h
 ·rename_i hu; injection h with h; subst h; exact hu
 ·cases h
theorem BJ.elem{z:Nat}{es:List (List PV)}{a:Addr}{n cap i:Nat}(h:BJ g w (.sl z es) (.slice (some a) n cap))(hz:0<z)(hi:i<es.length):BJ g w (.ro es[i] 0) (.pointer (some (a.add (i * z)))):=by
 cases h with
 | sl _ _ _ _ vs hle Di Bq hc hf h1 hr=>
  have h0:=hc i 0 hi hz
  have ha:=Kf h0
  rw [Nat.add_zero] at ha
  rw [ha]
  refine .ro es[i] 0 a.block (a.off+i * z) (vs i) (fun j hj=>?_) (fun j hj=>?_) (fun j hj=>h1 i j hi (by rw [<-Bq i hi]; exact hj)) fun j hj=>hr i j hi hj
  ·have Cu:j<z:=by rw [<-Bq i hi]; exact hj
   have:=hc i j hi Cu
   rw [Kf this] at this
   rw [Nat.add_assoc]
   exact this
  ·have Cu:j<z:=by rw [<-Bq i hi]; exact hj
   rw [Nat.add_assoc]
   exact hf i j hi Cu
theorem R2{ty:TypeId}{x i:Operand}(ho:o.op = .indexAddr ty x i)(h:Bb cx s g l a w)(hw:(Xl P cx.n o ty x i).wp s K):Bc P cx s o K a w:=by
 unfold Xl at hw
 split at hw
 ·rename_i m hm
  simp only [Option.bind_eq_some_iff] at hm
  obtain ⟨e,he,hme⟩:=hm
  have hu:=Eh he
  obtain ⟨lv,u,h1,r1,-⟩:=C2 h hw
  obtain ⟨q,h2,r2⟩:=AL h h1
  have hex:∀b len cap k (j:Int),a.eval x = .slice (some b) len cap->a.eval i = .int k j->0<=j/\j<len->(execOp a.eval o).run P w = .ok (.value (.pointer (some (b.add (j.toNat * (m+1)))))) w:=by
   intro b len cap k j hx hi hj
   simp only [execOp,ho,hx,hi,Instr.indexAt,Sem.run_bind,asIntOf,Sem.run_pure,Result.andThen_ok,run_underlying hu]
   simp [hj,run_sizeOf hme]
  generalize a.eval x=vx at r1 hex
  generalize a.eval i=vi at r2 hex
  split at h2
  ·rename_i x c len k j hx
   split at h2
   case isFalse=>exact h2.elim
   rename_i pM
   subst pM
   have hj:=of_decide_eq_true h2.1; replace h2:=h2.2
   unfold OI at hx
   split at hx
   ·injection hx with hx
    simp only [Prod.mk.injEq] at hx
    obtain ⟨rfl,rfl,rfl⟩:=hx
    cases r2
    cases r1 with
    | LR _ _ _ b cap cur e hb _ _ _ _=>
     refine Bc.pure h h2 ?_ (hex _ _ _ _ _ rfl rfl hj)
     have:∀q,(⟨b,q,none⟩:Addr).add (j.toNat * (0+1))=⟨b,q+j.toNat * (0+1),none⟩:=fun q=>Mc _ _ (by unfold Addr.add; split <;> rfl)
     rw [this,Nat.zero_add,Nat.zero_add,Nat.mul_one]
     exact .yp _ _ _ b hb
   ·cases hx
  ·rename_i x z len k j _ hx
   split at h2
   case isFalse=>exact h2.elim
   have hj:=of_decide_eq_true h2.1; replace h2:=h2.2
   unfold kD at hx
   split at hx
   ·injection hx with hx
    simp only [Prod.mk.injEq] at hx
    obtain ⟨rfl,rfl,rfl⟩:=hx
    cases r2
    cases r1 with
    | TH _ _ _ b cap cur e hb _ _ _ _=>
     refine Bc.pure h h2 ?_ (hex _ _ _ _ _ rfl rfl hj)
     have:∀q,(⟨b,q,none⟩:Addr).add (j.toNat * (m+1))=⟨b,q+j.toNat * (m+1),none⟩:=fun q=>Mc _ _ (by unfold Addr.add; split <;> rfl)
     rw [this,Nat.zero_add]
     exact .xp _ _ b hb
   ·cases hx
  ·rename_i z es k j _ _ hsl
   split at h2
   ·rename_i hz
    have hj:=of_decide_eq_true h2.1; replace h2:=h2.2
    have r1':=Eo (Ml hsl) r1
    cases r2
    have hjn:j.toNat<es.length:=by omega
    rw [List.getD_eq_getElem?_getD,List.getElem?_eq_getElem hjn] at h2
    subst hz
    have D4:es≠[]:=by rintro rfl; simp at hjn
    have pQ:∃b cap,vx = .slice (some b) es.length cap:=by
     cases r1' with
     | slnil=>exact absurd rfl D4
     | sl _ _ b cap _ _ _ _ _ _ _=>exact ⟨b,cap,rfl⟩
    obtain ⟨b,cap,rfl⟩:=pQ
    exact Bc.pure h h2 (r1'.elem (Nat.succ_pos m) hjn) (hex _ _ _ _ _ rfl rfl hj)
   ·exact h2.elim
  ·exact h2.elim
 ·exact hw.elim
def L2(P:Program)(t:TypeId):Bool:=match P.underlying t with
 | some .string=>true
 | _=>false
def kE(n:Nat)(o:Oper)(x:Operand)(i:Nat):RM (List Wr):=Fm x fun p=>match p with
 | .AE vs=>match vs[i]? with
  | some q=>wv n o (.v q)
  | none => .fail
 | _ => .fail
theorem R3{x:Operand}{i:Nat}(ho:o.op = .extract x i)(h:Bb cx s g l a w)(hw:(kE cx.n o x i).wp s K):Bc P cx s o K a w:=by
 obtain ⟨p,h1,r1⟩:=AL h hw
 have hex:∀v vs,a.eval x = .tuple vs->vs[i]?=some v->(execOp a.eval o).run P w = .ok (.value v) w:=by
  intro v vs hx hv
  simp [execOp,ho,hx,Instr.extract,hv]
 generalize a.eval x=vx at r1 hex
 split at h1
 ·rename_i ps
  split at h1
  ·rename_i q hq
   cases r1 with
   | AE _ vs hl hr=>
    have Ag:=(List.getElem?_eq_some_iff.1 hq).1
    have CE:i<vs.length:=by rw [<-hl]; exact Ag
    rw [List.getElem?_eq_getElem Ag] at hq
    injection hq with hq
    have:=hr i Ag CE
    rw [hq] at this
    exact Bc.pure h h1 this (hex _ _ rfl (by simp [List.getElem?_eq_getElem CE]))
  ·exact h1.elim
 ·exact h1.elim
def A0d:LV->Option Nat
 | .v .A4=>some 0
 | .v (.TH _ _ len)=>some len
 | .v (.LR _ _ len)=>some len
 | lv=>(VM lv).map (·.2.length)
def SG(P:Program)(n:Nat)(o:Oper)(ty:TypeId)(x:Operand):RM (List Wr):=match Gj P ty with
 | some _=>ev x fun lv=>match A0d lv with
  | some k=>wv n o (.v (.int .i64 k))
  | none => .fail
 | none=>if L2 P ty=true then Fm x fun p=>match p with
   | .str b=>wv n o (.v (.int .i64 b.size))
   | _ => .fail
  else .fail
theorem PI{x:Operand}{ty:TypeId}(ho:o.op = .call { callee := .builtin .len,args:=#[x],argTypes:=#[ty] })(h:Bb cx s g l a w)(hw:(SG P cx.n o ty x).wp s K):Bc P cx s o K a w:=by
 have hex:∀k:Nat,(Builtin.len_ #[ty] o.type #[a.eval x]).run P w = .ok (.int .i64 k) w->(execOp a.eval o).run P w = .ok (.value (.int .i64 k)) w:=by
  intro k hv
  simp only [execOp,ho,resolve,invoke,builtin,Sem.run_bind,Sem.run_pure,Result.andThen_ok,List.map_toArray,List.map_cons,List.map_nil,hv]
 unfold SG at hw
 split at hw
 ·rename_i e he
  have hu:=Eh he
  obtain ⟨lv,u,h1,r1,-⟩:=C2 h hw
  generalize a.eval x=vx at r1 hex
  have key:∀b n c,(Builtin.len_ #[ty] o.type #[.slice b n c]).run P w = .ok (.int .i64 n) w:=by
   intro b n c
   simp [Builtin.len_,run_underlying hu,goInt]
  split at h1
  ·rename_i k hk
   refine Bc.pure h h1 (.int _ _) (hex _ ?_)
   unfold A0d at hk
   split at hk
   ·injection hk with hk; subst hk; cases r1; exact key _ _ _
   ·injection hk with hk; subst hk; cases r1; exact key _ _ _
   ·injection hk with hk; subst hk; cases r1; exact key _ _ _
   ·simp only [Option.map_eq_some_iff] at hk
    obtain ⟨⟨z,es⟩,hs,rfl⟩:=hk
    have r1':=Eo (Ml hs) r1
    cases r1' <;> exact key _ _ _
  ·exact h1.elim
 ·split at hw
  ·rename_i IF
   unfold L2 at IF
   split at IF
   ·rename_i hu
    obtain ⟨p,h1,r1⟩:=AL h hw
    generalize a.eval x=vx at r1 hex
    split at h1
    ·cases r1
     refine Bc.pure h h1 (.int _ _) (hex _ ?_)
     simp [Builtin.len_,run_underlying hu,goInt]
    ·exact h1.elim
   ·cases IF
  ·exact hw.elim
def M5(n:Nat)(o:Oper)(c x y:Operand):RM (List Wr):=Fm c fun p=>match p with
 | .bool true=>Fm x fun q=>wv n o (.v q)
 | .bool false=>Fm y fun q=>wv n o (.v q)
 | _ => .fail
theorem Oq{c x y:Operand}(ho:o.op = .pick c x y)(h:Bb cx s g l a w)(hw:(M5 cx.n o c x y).wp s K):Bc P cx s o K a w:=by
 obtain ⟨p,h1,r1⟩:=AL h hw
 have hex:∀b,a.eval c = .bool b->(execOp a.eval o).run P w = .ok (.value (if b then a.eval x else a.eval y)) w:=by
  intro b hc
  simp [execOp,ho,hc,asBool]
 generalize a.eval c=vc at r1 hex
 split at h1
 ·cases r1
  obtain ⟨q,h2,r2⟩:=AL h h1
  exact Bc.pure h h2 r2 (hex _ rfl)
 ·cases r1
  obtain ⟨q,h2,r2⟩:=AL h h1
  exact Bc.pure h h2 r2 (hex _ rfl)
 ·exact h1.elim
def Xm(P:Program)(n:Nat)(o:Oper)(x:Operand)(ty:TypeId)(ok:Bool):RM (List Wr):=if Kl P ty=true then Fm x fun p=>match p with
  | .iface t q=>if t=ty then (if ok then wv n o (.v (.AE [q,.bool true])) else wv n o (.v q)) else .fail
  | _ => .fail
 else .fail
theorem R4{x:Operand}{xt ty:TypeId}{ok:Bool}(ho:o.op = .typeAssert x xt ty ok)(h:Bb cx s g l a w)(hw:(Xm P cx.n o x ty ok).wp s K):Bc P cx s o K a w:=by
 unfold Xm at hw
 split at hw
 ·rename_i hn
  obtain ⟨p,h1,r1⟩:=AL h hw
  have hex:∀v,a.eval x = .iface ty v->(execOp a.eval o).run P w = .ok (.value (if ok then .tuple #[v,.bool true] else v)) w:=by
   intro v hx
   unfold Kl at hn
   split at hn
   ·cases hn
   ·rename_i d hd hu
    simp only [execOp,ho,hx,Instr.typeAssert,Sem.run_bind,run_underlying hu,Result.andThen_ok]
    cases d <;> simp_all
   ·cases hn
  generalize a.eval x=vx at r1 hex
  split at h1
  ·rename_i t q
   split at h1
   ·rename_i ht
    subst ht
    cases r1 with
    | iface _ _ v hv=>
     cases ok with
     | true=>exact Bc.pure h h1 (.AE [q,.bool true] [v,.bool true] rfl fun j hj Cu=>by
       match j,hj with
       | 0,_=>exact hv
       | 1,_=>exact .bool true) (hex _ rfl)
     | false=>exact Bc.pure h h1 hv (hex _ rfl)
   ·exact h1.elim
  ·exact h1.elim
 ·exact hw.elim
end
section
variable {P:Program} {cx:Cx} {s t:S} {g:Gh} {l:LG} {a:Act} {w:World} {o:Oper} {K:List Wr->Prop}
def PV.cel:PV->Option (List PV)
 | .agg cs=>some cs
 | .AE _=>none
 | p=>some [p]
theorem Ja{p:PV}{v:Value}{cs:List PV}(h:p.cel=some cs)(hr:BJ g w p v):AG g w cs v.cells.toList/\∀u∈v.cells.toList,u.oneCell'=true:=by
 unfold PV.cel at h
 split at h
 ·injection h with h
  subst h
  cases hr with
  | agg _ vs hl ho hr=>exact ⟨⟨hl,hr⟩,ho⟩
 ·cases h
 ·rename_i n1 n2
  injection h with h
  subst h
  have Ce:v.oneCell'=true:=hr.one (by cases p <;> first | rfl | exact absurd rfl (n1 _) | exact absurd rfl (n2 _))
  have:v.cells = #[v]:=by cases v <;> first | rfl | cases Ce
  rw [this]
  exact ⟨.cons hr .nil,by simpa using Ce⟩
theorem F4{ty:TypeId}{zs:List PV}(h:TK P ty=some zs):∃i z,P.info? ty=some i/\i.zero=some z/\eL z.cells.toList=some zs:=by
 unfold TK at h
 simp only [Option.bind_eq_some_iff] at h
 obtain ⟨z,⟨i,h1,h2⟩,h3⟩:=h
 exact ⟨i,z,h1,h2,h3⟩
theorem Bb.box(h:Bb cx s g l a w){d:Nat}(hd:d<cx.n)(cur:Array Value)(e:TypeId)(ps:List PV)(hr:AG g w ps cur.toList)(Ce:∀u∈cur.toList,u.oneCell'=true) :
  ∃g' l',Bb cx (s.HY [.Dd d ps,.tmp d (.lp d 0)]) g' l' (a.put (some d) (.pointer (some ⟨w.heap.size,0,none⟩))) (w.alloc (.cells cur e)):=by
 obtain ⟨h1,-⟩:=h.Dd d cur e ps hr Ce
 exact ⟨_,_,h1.set hd ⟨w.heap.size,Bt _ _ _,rfl⟩⟩
def Mm(P:Program)(n:Nat)(o:Oper)(ty:TypeId):RM (List Wr):=match TK P ty,o.dst with
 | some zs,some d=>if d<n then .ret [.Dd d zs,.tmp d (.lp d 0)] else .fail
 | _,_ => .fail
theorem Mn{ty:TypeId}(ho:o.op = .alloc ty)(h:Bb cx s g l a w)(hw:(Mm P cx.n o ty).wp s K):Bc P cx s o K a w:=by
 unfold Mm at hw
 split at hw
 ·rename_i zs d hz hd
  split at hw
  ·rename_i Ag
   obtain ⟨i,z,h1,h2,h3⟩:=F4 hz
   intro Q
   unfold Oper.wp
   have Bz:(execOp a.eval o).run P w = .ok (.value (.pointer (some ⟨w.heap.size,0,none⟩))) (w.alloc (.cells z.cells ty)):=by
    simp [execOp,ho,Instr.alloc,zeroValue,typeInfo,h1,h2,newVar,newRow]
   rw [Bz,Oper.upon_value,hd]
   obtain ⟨g',l',hs⟩:=h.box Ag z.cells ty zs (En h3).1 (En (g:=g) (w:=w) h3).2.1
   exact ⟨_,g',l',hw,hs⟩
  ·exact hw.elim
 ·exact hw.elim
def Xn(ro:TypeId->Option Bool)(n:Nat)(o:Oper)(ty:TypeId)(x:Operand):RM (List Wr):=Fm x fun p=>match p.cel,o.dst with
 | some cs,some d=>if d<n then (match ro ty with | some true => .ret [.tmp d (.v (.ro cs 0))] | some false => .ret [.Dd d cs,.tmp d (.lp d 0)] | none => .fail) else .fail
 | _,_ => .fail
theorem PJ{ro:TypeId->Option Bool}{ty:TypeId}{x:Operand}(ho:o.op = .box ty x)(h:Bb cx s g l a w)(hw:(Xn ro cx.n o ty x).wp s K):Bc P cx s o K a w:=by
 obtain ⟨p,h1,r1⟩:=AL h hw
 have Bz:(execOp a.eval o).run P w = .ok (.value (.pointer (some ⟨w.heap.size,0,none⟩))) (w.alloc (.cells (a.eval x).cells ty)):=by
  simp [execOp,ho,Instr.box,newVar,newRow]
 generalize a.eval x=vx at r1 Bz
 split at h1
 ·rename_i cs d hc hd
  obtain ⟨hr,Ce⟩:=Ja hc r1
  split at h1
  ·rename_i Ag
   split at h1
   ·obtain ⟨h2,hm⟩:=h.alloc (.cells vx.cells ty)
    refine Bc.value (lv := .v (.ro cs 0)) (by unfold wv; rw [hd]; simp only [Ag,if_true]; exact h1) h2 (fun _=>?_) Bz
    have F8:∀j (hj:j<cs.length),(w.alloc (.cells vx.cells ty)).cell? ⟨w.heap.size,0+j,none⟩=some (vx.cells.getD j undef):=fun j hj=>by
     have:=heap_alloc_new w (.cells vx.cells ty)
     have Cu:j<vx.cells.size:=by rw [<-Array.length_toList,<-hr.1]; exact hj
     simp only [World.cell?,this]
     simp [Cu]
    refine .ro cs 0 w.heap.size 0 (fun j=>vx.cells.getD j undef) F8 (fun j hj k hk=>?_) (fun j hj=>?_) fun j hj=>?_
    ·rw [h.fresh.1 _ (Nat.le_refl _)] at hk; cases hk
    ·have Cu:j<vx.cells.size:=by rw [<-Array.length_toList,<-hr.1]; exact hj
     refine Ce _ ?_
     simp [Cu]
    ·have Cu:j<vx.cells.toList.length:=by rw [<-hr.1]; exact hj
     have:=(hr.2 j hj Cu).mono hm
     have WK:j<vx.cells.size:=by simpa using Cu
     simpa [WK] using this
   ·intro Q
    unfold Oper.wp
    rw [Bz,Oper.upon_value,hd]
    obtain ⟨g',l',hs⟩:=h.box Ag vx.cells ty cs hr Ce
    exact ⟨_,g',l',h1,hs⟩
   ·exact h1.elim
  ·exact h1.elim
 ·exact h1.elim
def TO(P:Program)(ty:TypeId):Option (List (Nat × Nat)):=match P.underlying ty with
 | some (.struct fs)=>fs.toList.mapM (fun f=>(P.info? f.type).map fun i=>(f.offset,i.size))
 | _=>none
def R5(places:List (Nat × Nat))(cells:List PV):List (Nat × PV)->Option (List PV)
 | []=>some cells
 | (i,p)::r=>match places[i]?,p.cel with
  | some (off,size),some pc=>if pc.length=size/\off+size<=cells.length then R5 places (AI cells off pc) r else none
  | _,_=>none
theorem SH{α:Type}(cs:List α)(k:Nat)(v:α)(r:List α)(h:k+(r.length+1)<=cs.length):AI (cs.set k v) (k+1) r=AI cs k (v::r):=by
 apply List.ext_getElem?
 intro j
 rw [BG _ _ _ (by simp; omega),BG _ _ _ (by simpa using h)]
 by_cases hj:j=k
 ·subst hj
  rw [iN oM,iP sM]
  simp [show j<cs.length by omega]
 ·by_cases Ib:k+1<=j/\j<k+1+r.length
  ·rw [iP Ib,iP (by simp; omega)]
   rw [show j - k=(j - (k+1))+1 by omega]
   simp
  ·rw [iN Ib,iN (by simp; omega),List.getElem?_set_ne oM]
theorem IG(off:Nat):∀ (vs:List Value) (k:Nat) (cells:Array Value),off+k+vs.length<=cells.size ->
  ((vs.zipIdx k).foldl (fun (cs:Array Value) (x:Value × Nat)=>cs.setIfInBounds (off+x.2) x.1) cells).toList=AI cells.toList (off+k) vs
 | [],k,cells,_=>by simp [FM cells.toList (off+k) [] (by simp; omega)]
 | v::r,k,cells,h=>by
  simp only [List.zipIdx_cons,List.foldl_cons]
  rw [IG off r (k+1) _ (by simp at h ⊢; omega)]
  simp only [Array.toList_setIfInBounds]
  exact SH cells.toList (off+k) v r (by simp at h ⊢; omega)
theorem AG.AI{cs ds:List PV}{vs us:List Value}{off:Nat}(h:AG g w cs vs)(k:AG g w ds us)(hf:off+ds.length<=cs.length):AG g w (Pv.AI cs off ds) (Pv.AI vs off us):=by
 have jV:off+us.length<=vs.length:=by rw [<-h.1,<-k.1]; exact hf
 rw [FM _ _ _ hf,FM _ _ _ jV]
 have hl:=h.1
 have kl:=k.1
 refine ⟨by simp [hl,kl],fun j hj Cu=>?_⟩
 simp only [List.getElem_append]
 by_cases h1:j<off
 ·have e1:j<((List.take off cs)++ds).length:=by simp; omega
  have e2:j<((List.take off vs)++us).length:=by simp; omega
  rw [dif_pos e1,dif_pos e2]
  rw [dif_pos (by simp; omega),dif_pos (by simp; omega)]
  simp only [List.getElem_take]
  exact h.2 _ _ _
 ·by_cases h2:j<off+ds.length
  ·have e1:j<((List.take off cs)++ds).length:=by simp; omega
   have e2:j<((List.take off vs)++us).length:=by simp; omega
   rw [dif_pos e1,dif_pos e2]
   rw [dif_neg (by simp; omega),dif_neg (by simp; omega)]
   have e3:(List.take off cs).length=(List.take off vs).length:=by simp [hl]
   simp only [e3]
   exact k.2 _ _ _
  ·have e1:¬j<((List.take off cs)++ds).length:=by simp; omega
   have e2:¬j<((List.take off vs)++us).length:=by simp; omega
   rw [dif_neg e1,dif_neg e2]
   have e3:((List.take off cs)++ds).length=((List.take off vs)++us).length:=by simp [hl,kl]
   simp only [e3,List.getElem_drop,kl]
   exact h.2 _ _ _
theorem SI{α:Type}{cs vs:List α}{off:Nat}(hf:off+vs.length<=cs.length){x:α}(hx:x∈AI cs off vs):x∈cs∨x∈vs:=by
 rw [FM _ _ _ hf] at hx
 simp only [List.mem_append] at hx
 rcases hx with (hx | hx) | hx
 ·exact .inl (List.mem_of_mem_take hx)
 ·exact .inr hx
 ·exact .inl (List.mem_of_mem_drop hx)
theorem R6{places:List (Nat × Nat)}:∀ {parts:List (Nat × PV)} {vals:List (Nat × Value)} {cells r:List PV} {cv:Array Value},R5 places cells parts=some r ->
  AG g w cells cv.toList->(∀u∈cv.toList,u.oneCell'=true)->parts.map (·.1)=vals.map (·.1)->AG g w (parts.map (·.2)) (vals.map (·.2)) ->
  ∃c,Instr.fill (places.toArray[·]?) cv vals=some c/\AG g w r c.toList/\∀u∈c.toList,u.oneCell'=true
 | [],vals,cells,r,cv,h,hr,Ce,hi,_=>by
  simp only [R5,Option.some.injEq] at h
  subst h
  have:vals=[]:=by simpa using hi.symm
  subst this
  exact ⟨cv,rfl,hr,Ce⟩
 | (i,p)::parts,vals,cells,r,cv,h,hr,Ce,hi,hp=>by
  cases vals with
  | nil=>simp at hi
  | cons x vals=>
   obtain ⟨i',v⟩:=x
   simp only [List.map_cons,List.cons.injEq] at hi
   obtain ⟨rfl,hi⟩:=hi
   simp only [List.map_cons] at hp
   obtain ⟨v',fK,e,hv,pR⟩:=hp.H9
   injection e with e1 e2
   subst e1 e2
   simp only [R5] at h
   split at h
   ·rename_i off size pc kF kG
    split at h
    ·rename_i hc
     obtain ⟨k1,k2⟩:=Ja kG hv
     have Bq:v.cells.size=size:=by rw [<-Array.length_toList,<-k1.1]; exact hc.1
     have CS:cells.length=cv.size:=by rw [hr.1]; simp
     have Xo:=IG off v.cells.toList 0 cv (by simp; omega)
     have e3:(v.cells.zipIdx.foldl (fun cs (x:Value × Nat)=>cs.setIfInBounds (off+x.2) x.1) cv).toList=Pv.AI cv.toList off v.cells.toList:=by
      rw [<-Array.foldl_toList,Array.toList_zipIdx]
      simpa using Xo
     have fS:AG g w (Pv.AI cells off pc) (v.cells.zipIdx.foldl (fun cs (x:Value × Nat)=>cs.setIfInBounds (off+x.2) x.1) cv).toList:=by
      rw [e3]
      exact hr.AI k1 (by rw [hc.1]; exact hc.2)
     obtain ⟨c,m1,m2,m3⟩:=R6 (places:=places) h fS (by
      intro u hu
      rw [e3] at hu
      rcases SI (by simp; omega) hu with hu | hu
      ·exact Ce u hu
      ·exact k2 u hu) hi pR
     refine ⟨c,?_,m2,m3⟩
     simp only [Instr.fill]
     rw [show (places.toArray[i]?:Option (Nat × Nat))=some (off,size) by simpa using kF]
     simp only [Bq,ne_eq,not_true_eq_false,decide_false,Bool.false_or]
     rw [iN (by simp; omega)]
     exact m1
    ·cases h
   ·cases h
def M6{α:Type}:List (Nat × Operand)->(List (Nat × PV)->RM α)->RM α
 | [],k=>k []
 | (i,x)::r,k=>Fm x fun p=>M6 r fun ps=>k ((i,p)::ps)
theorem GZ{α:Type}:∀ {xs:List (Nat × Operand)} {k:List (Nat × PV)->RM α} {K:α->Prop},Bb cx s g l a w->(M6 xs k).wp s K ->
  ∃ps,(k ps).wp s K/\ps.map (·.1)=xs.map (·.1)/\AG g w (ps.map (·.2)) (xs.map fun x=>a.eval x.2)
 | [],k,K,_,hw=>⟨[],hw,rfl,.nil⟩
 | (i,x)::r,k,K,h,hw=>by
  obtain ⟨p,h1,h2⟩:=AL h hw
  obtain ⟨ps,h3,h4,h5⟩:=GZ h h1
  exact ⟨(i,p)::ps,h3,by simp [h4],.cons h2 h5⟩
def Mp(P:Program)(n:Nat)(o:Oper)(ty:TypeId)(parts:Array (Nat × Operand)):RM (List Wr):=match TO P ty,TK P ty with
 | some places,some zs=>M6 parts.toList fun ps=>match R5 places zs ps with
  | some cs=>wv n o (.v (.agg cs))
  | none => .fail
 | _,_ => .fail
theorem Mq{ty:TypeId}{parts:Array (Nat × Operand)}(ho:o.op = .build ty parts)(h:Bb cx s g l a w)(hw:(Mp P cx.n o ty parts).wp s K):Bc P cx s o K a w:=by
 unfold Mp at hw
 split at hw
 ·rename_i places zs hp hz
  obtain ⟨ps,h1,h2,h3⟩:=GZ h hw
  split at h1
  ·rename_i cs CS
   obtain ⟨i,z,k1,k2,k3⟩:=F4 hz
   have hzr:=En (g:=g) (w:=w) k3
   obtain ⟨c,m1,m2,m3⟩:=R6 (g:=g) (w:=w) (vals:=parts.toList.map fun x=>(x.1,a.eval x.2)) CS hzr.1 hzr.2.1 (by rw [List.map_map]; exact h2) (by rw [List.map_map]; exact h3)
   have hb:P.built ty (parts.map fun (i,x)=>(i,a.eval x)).toList=some c:=by
    unfold TO at hp
    split at hp
    ·rename_i fs hu
     unfold Program.built
     simp only [k1,hu,k2,hp]
     simpa using m1
    ·cases hp
   refine Bc.pure (v := .agg c) h h1 ?_ ?_
   ·have:=m2.agg m3
    simpa using this
   ·simp only [execOp,ho,Sem.run_bind,run_build w ty _ c hb,Result.andThen_ok,Sem.run_pure]
  ·exact h1.elim
 ·exact hw.elim
end
section
variable {P:Program} {cx:Cx} {s t:S} {g:Gh} {l:LG} {a:Act} {w:World} {o:Oper} {K:List Wr->Prop}
def Mr(size:Nat):Nat->List (Nat × PV)->Option (List (List PV))
 | _,[]=>some []
 | k,(i,p)::r=>match p.cel,Mr size (k+1) r with
  | some pc,some es=>if i=k/\pc.length=size then some (pc::es) else none
  | _,_=>none
theorem Mt{size:Nat}:∀ {ps:List (Nat × PV)} {vals:List (Nat × Value)} {k:Nat} {es:List (List PV)},Mr size k ps=some es->ps.map (·.1)=vals.map (·.1)->AG g w (ps.map (·.2)) (vals.map (·.2)) ->
  vals.map (·.1)=List.range' k vals.length/\(∀x∈vals,x.2.cells.size=size)/\es.length=vals.length/\(∀i (h:i<es.length),es[i].length=size)/\AG g w es.flatten (vals.map fun x=>x.2.cells.toList).flatten /\
   ∀u∈(vals.map fun x=>x.2.cells.toList).flatten,u.oneCell'=true
 | [],vals,k,es,h,hi,_=>by
  simp only [Mr,Option.some.injEq] at h
  subst h
  have:vals=[]:=by simpa using hi.symm
  subst this
  exact ⟨rfl,by simp,rfl,fun i h=>by simp at h,.nil,by simp⟩
 | (i,p)::ps,vals,k,es,h,hi,hp=>by
  cases vals with
  | nil=>simp at hi
  | cons x vals=>
   obtain ⟨i',v⟩:=x
   simp only [List.map_cons,List.cons.injEq] at hi
   obtain ⟨rfl,hi⟩:=hi
   simp only [List.map_cons] at hp
   obtain ⟨v',fK,e,hv,pR⟩:=hp.H9
   injection e with e1 e2
   subst e1 e2
   simp only [Mr] at h
   split at h
   ·rename_i pc es' kG J8
    split at h
    ·rename_i hc
     injection h with h
     subst h
     obtain ⟨h1,h2,h3,h4,h5,h6⟩:=Mt J8 hi pR
     obtain ⟨k1,k2⟩:=Ja kG hv
     have Bq:v.cells.size=size:=by rw [<-Array.length_toList,<-k1.1]; exact hc.2
     refine ⟨by simp [h1,hc.1,List.range'_succ],?_,by simp [h3],?_,?_,?_⟩
     ·simp only [List.mem_cons,forall_eq_or_imp]
      exact ⟨Bq,h2⟩
     ·intro j hj
      cases j with
      | zero=>exact hc.2
      | succ j=>exact h4 j (by simpa using hj)
     ·simp only [List.flatten_cons,List.map_cons]
      refine ⟨by simp [k1.1,h5.1],fun j hj Cu=>?_⟩
      simp only [List.getElem_append]
      have hl:pc.length=v.cells.toList.length:=k1.1
      split
      ·rw [dif_pos oM]; exact k1.2 _ _ _
      ·rw [dif_neg oM]
       simp only [hl]
       exact h5.2 _ _ _
     ·simp only [List.flatten_cons,List.map_cons,List.mem_append]
      rintro u (hu | hu)
      ·exact k2 u hu
      ·exact h6 u hu
    ·cases h
   ·cases h
theorem R7(size:Nat):∀ (vals:List (Nat × Value)) (k:Nat) (cells:Array Value),(∀x∈vals,x.2.cells.size=size)->vals.map (·.1)=List.range' k vals.length->(k+vals.length) * size<=cells.size ->
  ∃c,Instr.fill (fun i=>some (i * size,size)) cells vals=some c/\c.toList=cells.toList.take (k * size)++(vals.map fun x=>x.2.cells.toList).flatten++cells.toList.drop ((k+vals.length) * size)
 | [],k,cells,_,_,_=>⟨cells,rfl,by simp⟩
 | (i,v)::vals,k,cells,hs,hi,hl=>by
  simp only [List.map_cons,List.length_cons,List.range'_succ,List.cons.injEq] at hi
  obtain ⟨rfl,hi⟩:=hi
  have hv:v.cells.size=size:=hs (i,v) sM
  have Xo:=IG (i * size) v.cells.toList 0 cells (by
   simp only [List.length_cons] at hl
   rw [Nat.add_mul] at hl
   have:(vals.length+1) * size=vals.length * size+size:=by rw [Nat.add_mul,Nat.one_mul]
   simp
   omega)
  have e3:(v.cells.zipIdx.foldl (fun cs (x:Value × Nat)=>cs.setIfInBounds (i * size+x.2) x.1) cells).toList=Pv.AI cells.toList (i * size) v.cells.toList:=by
   rw [<-Array.foldl_toList,Array.toList_zipIdx]
   simpa using Xo
  have LS:i * size+v.cells.toList.length<=cells.toList.length:=by
   simp only [List.length_cons] at hl
   rw [Nat.add_mul] at hl
   have:(vals.length+1) * size=vals.length * size+size:=by rw [Nat.add_mul,Nat.one_mul]
   simp
   omega
  have Bq:(v.cells.zipIdx.foldl (fun cs (x:Value × Nat)=>cs.setIfInBounds (i * size+x.2) x.1) cells).size=cells.size:=by
   rw [<-Array.length_toList,e3,B0]
   simp
  obtain ⟨c,h1,h2⟩:=R7 size vals (i+1) (v.cells.zipIdx.foldl (fun cs (x:Value × Nat)=>cs.setIfInBounds (i * size+x.2) x.1) cells) (fun x hx=>hs x (by simp [hx])) hi (by
   rw [Bq]
   simp only [List.length_cons] at hl
   rw [show i+1+vals.length=i+(vals.length+1) by omega]
   exact hl)
  refine ⟨c,?_,?_⟩
  ·simp only [Instr.fill,hv,ne_eq,not_true_eq_false,decide_false,Bool.false_or]
   rw [iN (by simp only [Array.length_toList] at LS; simp; omega)]
   exact h1
  ·rw [h2,e3,FM _ _ _ LS]
   have hlen:v.cells.toList.length=size:=by simpa using hv
   have e4:(i+1) * size=i * size+size:=by rw [Nat.add_mul,Nat.one_mul]
   have e5:(cells.toList.take (i * size)).length=i * size:=by rw [List.length_take]; omega
   have e6:(cells.toList.take (i * size)++v.cells.toList).length=(i+1) * size:=by rw [List.length_append,e5,hlen,e4]
   have e7:i+1+vals.length=i+(vals.length+1):=by omega
   simp only [List.map_cons,List.flatten_cons,List.length_cons]
   have e8:(i+(vals.length+1)) * size=(i+1) * size+vals.length * size:=by rw [<-e7,Nat.add_mul]
   rw [<-List.append_assoc (cells.toList.take (i * size)) v.cells.toList]
   generalize cells.toList.take (i * size)++v.cells.toList=A at e6 ⊢
   rw [e7,e8,List.drop_append,List.drop_eq_nil_of_le (as:=A) oM,List.nil_append,e6,List.take_left' e6]
   simp only [List.append_assoc,hlen,List.drop_drop]
   congr 3
   omega
def Xp(P:Program)(n:Nat)(o:Oper)(ty:TypeId)(len:Nat)(parts:Array (Nat × Operand)):RM (List Wr):=match Gj P ty with
 | some e=>match KW P e,TK P e with
  | some (m+1),some _=>M6 parts.toList fun ps=>match Mr (m+1) 0 ps with
   | some es=>if es.length=len/\len * (m+1)<=16777216 then wv n o (.full (m+1) es) else .fail
   | none => .fail
  | _,_ => .fail
 | none => .fail
theorem R8{ty:TypeId}{len:Nat}{parts:Array (Nat × Operand)}(ho:o.op = .buildSlice ty len parts)(h:Bb cx s g l a w)(hw:(Xp P cx.n o ty len parts).wp s K):Bc P cx s o K a w:=by
 unfold Xp at hw
 split at hw
 ·rename_i e he
  have hu:=Eh he
  split at hw
  ·rename_i m zs hm hz
   obtain ⟨ps,h1,h2,h3⟩:=GZ h hw
   split at h1
   ·rename_i es J8
    split at h1
    ·rename_i hc
     obtain ⟨hlen,Ac8⟩:=hc
     obtain ⟨k1,k2,k3,k4,k5,k6⟩:=Mt (g:=g) (w:=w) (vals:=parts.toList.map fun x=>(x.1,a.eval x.2)) J8 (by rw [List.map_map]; exact h2) (by rw [List.map_map]; exact h3)
     obtain ⟨i,z,z1,z2,z3⟩:=F4 hz
     generalize A0e:(parts.toList.map fun x=>(x.1,a.eval x.2))=vals at k1 k2 k3 k4 k5 k6
     have Gc:vals.length=len:=by rw [<-k3,hlen]
     have A0f:∀zc:Array Value,∃c,Instr.fill (fun i=>some (i * (m+1),m+1)) ((Array.range (len * (m+1))).map (zc[· % zc.size]!)) vals=some c/\c.toList=(vals.map fun x=>x.2.cells.toList).flatten:=by
      intro zc
      obtain ⟨c,c1,c2⟩:=R7 (m+1) vals 0 ((Array.range (len * (m+1))).map (zc[· % zc.size]!)) k2 k1 (by simp [Gc])
      refine ⟨c,c1,?_⟩
      rw [c2,Gc]
      simp
     have Bz:∃c,(execOp a.eval o).run P w = .ok (.value (.slice (some ⟨w.heap.size,0,none⟩) len len)) (w.alloc (.cells c e))/\c.toList=(vals.map fun x=>x.2.cells.toList).flatten:=by
      have hvt:(parts.map fun (x:Nat × Operand)=>(x.1,a.eval x.2)).toList=vals:=by rw [<-A0e]; simp
      have A0g:¬(len * (m+1)>2 ^ 24):=by omega
      have Bq:=run_sizeOf (w:=w) hm
      by_cases h0:len * (m+1)=0
      ·have hl0:len=0:=by
        rcases Nat.mul_eq_zero.1 h0 with h | h
        ·exact h
        ·omega
       subst hl0
       have hv0:vals=[]:=List.eq_nil_of_length_eq_zero Gc
       refine ⟨#[],?_,by simp [hv0]⟩
       simp only [execOp,ho,Instr.buildSlice,Sem.run_bind,run_underlying hu,Result.andThen_ok,Bq,h0,if_true,Sem.run_pure,hvt,hv0]
       have Sm:Array.range 0 = #[]:=Array.eq_empty_of_size_eq_zero sM
       simp [Instr.fill,newRow,Sm]
      ·obtain ⟨c,c1,c2⟩:=A0f z.cells
       refine ⟨c,?_,c2⟩
       simp only [execOp,ho,Instr.buildSlice,Sem.run_bind,run_underlying hu,Result.andThen_ok,Bq,iN A0g,iN h0,Sem.run_pure,hvt,zeroValue,typeInfo,run_program,z1,z2]
       simp [c1,newRow]
     obtain ⟨c,Bz,hct⟩:=Bz
     obtain ⟨h4,hm4⟩:=h.alloc (.cells c e)
     refine Bc.value h1 h4 (fun _ => .inr ⟨⟨w.heap.size,0,none⟩,by rw [hlen],?_⟩) Bz
     rw [<-hlen]
     refine BJ.of_flat (Nat.le_refl _) (by simp only [maxLen]; have:=Nat.le_mul_of_pos_right len (Nat.succ_pos m); simp only [Nat.succ_eq_add_one] at this; omega) k4 (k5.mono hm4) fun j u Xq=>?_
     have Xk:(⟨w.heap.size,0,none⟩:Addr).add j=⟨w.heap.size,j,none⟩:=by unfold Addr.add; split <;> simp_all
     refine ⟨?_,fun k hk=>?_,k6 u (List.mem_of_getElem? Xq)⟩
     ·rw [Xk]
      have:=heap_alloc_new w (.cells c e)
      simp only [World.cell?,this]
      rw [<-hct] at Xq
      simpa using Xq
     ·rw [h.fresh.1 _ (Nat.le_refl _)] at hk; cases hk
    ·exact h1.elim
   ·exact h1.elim
  ·exact hw.elim
 ·exact hw.elim
def ldC(P:Program)(n:Nat)(ops:List Oper)(o:Oper)(ty:TypeId)(mk:List LV->Wr)(cs:List LV)(off:Nat):RM (List Wr):=match LU P ty with
 | some true=>match KW P ty with
  | some m=>if off+m<=cs.length then (match VK ((cs.drop off).take m) with
   | some ps=>wv n o (.v (.agg ps))
   | none => .fail) else .fail
  | none => .fail
 | some false=>match cs[off]? with
  | some (.uniq e z es)=>match o.dst with
   | some d=>if d<n/\e<1000000 then (if Xd ops d=true then .ret [mk [.v (.sl z es)],.tmp d (.uniq e z es)] else .ret [.tmp d (.v (.sl z es))]) else .fail
   | none => .fail
  | some .Dx => .fail
  | some (.mm _) => .fail
  | some (.row _ _) => .fail
  | some lv=>wv n o lv
  | none => .fail
 | none => .fail
def TP(P:Program)(n:Nat)(ops:List Oper)(o:Oper)(ty:TypeId)(x:Operand):RM (List Wr):=ev x fun lv=>match lv with
 | .lp i off => .Iu i fun cs=>ldC P n ops o ty (.cells i off) cs off
 | .v (.xp m off) => .E6 m fun cs=>if OH cs=true then ldC P n ops o ty (.ext m off) cs off else .fail
 | .v (.yp m c off) => .E6 m fun cs=>match rowOf cs with
  | some (c',ps)=>if LU P ty=some false then .assume (decide (c=c'/\off<ps.length)) (wv n o (.v (.int .i64 (ps.getD off 0)))) else .fail
  | none => .fail
 | .v (.ro cs off)=>match Oo P ty cs off with
  | some p=>wv n o (.v p)
  | none => .fail
 | _ => .fail
theorem Mu{f:Nat->UL}:∀ {cs:List LV} {ps:List PV} {vs:List Value},VK cs=some ps->cs.length=vs.length->(∀j (h:j<cs.length) (h':j<vs.length),Cq g l w (f j) cs[j] vs[j])->AG g w ps vs:=by
 intro cs
 induction cs generalizing f with
 | nil=>
  intro ps vs h hl _
  simp only [VK,Option.some.injEq] at h
  subst h
  have:vs=[]:=List.eq_nil_of_length_eq_zero hl.symm
  subst this
  exact .nil
 | cons c cs ih=>
  intro ps vs h hl hr
  cases vs with
  | nil=>simp at hl
  | cons v vs=>
   simp only [VK] at h
   split at h
   ·rename_i p qs h1 h2
    injection h with h
    subst h
    refine .cons (Eo h1 (hr 0 sM sM)) (ih (f:=fun j=>f (j+1)) h2 (by simpa using hl) fun j hj Cu=>?_)
    exact hr (j+1) (by simpa using hj) (by simpa using Cu)
   ·cases h
theorem FH{ty:TypeId}{b off:Nat}{cur:Array Value}{e:TypeId}(hh:w.heap[b]?=some (.cells cur e (0,0)))(ha:LU P ty=some false)(Ag:off<cur.size) :
  (loadVar ty ⟨b,off,none⟩).run P w = .ok (cur.getD off undef) w:=by
 have hc:w.cell? ⟨b,off,none⟩=some (cur.getD off undef):=by simp [World.cell?,hh,Ag]
 simp [loadVar,Hf ha,hc]
theorem FI{ty:TypeId}{b off m:Nat}{vs:Nat->Value}(ha:LU P ty=some true)(hm:KW P ty=some m)(hc:∀j,j<m->w.cell? ⟨b,off+j,none⟩=some (vs j)) :
  (loadVar ty ⟨b,off,none⟩).run P w = .ok (.agg ((List.range m).map vs).toArray) w:=by
 have Xk:∀j,(⟨b,off,none⟩:Addr).add j=⟨b,off+j,none⟩:=fun j=>by unfold Addr.add; split <;> simp_all
 have hl:=run_loadCells (P:=P) w ⟨b,off,none⟩ m vs (fun j hj=>by rw [Xk]; exact hc j hj)
 simp [loadVar,Hf ha,run_sizeOf hm,hl]
theorem FN{ty:TypeId}{x:Operand}{b off:Nat}{v:Value}(ho:o.op = .load ty x)(hx:a.eval x = .pointer (some ⟨b,off,none⟩))(hl:(loadVar ty ⟨b,off,none⟩).run P w = .ok v w):(execOp a.eval o).run P w = .ok (.value v) w:=by
 simp [execOp,ho,hx,Instr.loadAt,Instr.sureAddr,hl]
theorem F7.Kn:∀ {cs:List LV} {off:Nat} {x y:LV},cs[off]?=some x->WL y x->F7 (Pv.AI cs off [y]) cs
 | [],off,x,y,h,_=>by simp at h
 | c::cs,0,x,y,h,hw=>by
  simp only [List.getElem?_cons_zero,Option.some.injEq] at h
  subst h
  simp only [Pv.AI]
  exact ⟨hw,F7.refl cs⟩
 | c::cs,off+1,x,y,h,hw=>by
  simp only [List.getElem?_cons_succ] at h
  exact ⟨WL.refl c,F7.Kn h hw⟩
theorem VN{ty:TypeId}{x:Operand}{ops:List Oper}{i off:Nat}{cs:List LV}(ho:o.op = .load ty x)(h:Bb cx s g l a w)(hi:lk s.boxes i=some cs)(hx:∀b,l.L i=some b->a.eval x = .pointer (some ⟨b,off,none⟩))
  (hw:(ldC P cx.n ops o ty (.cells i off) cs off).wp s K):Bc P cx s o K a w:=by
 obtain ⟨b,h1,h2,hM,cur,e,h4,h5,h6⟩:=h.bx i cs hi
 have pS:=hx b h1
 unfold ldC at hw
 split at hw
 ·rename_i ha
  split at hw
  ·rename_i m hm
   split at hw
   ·rename_i hle
    split at hw
    ·rename_i ps SJ
     have hc:∀j,j<m->w.cell? ⟨b,off+j,none⟩=some (cur.getD (off+j) undef):=fun j hj=>by
      have:off+j<cur.size:=by omega
      simp [World.cell?,h4,this]
     have Bz:=FN ho pS (FI (P:=P) ha hm hc)
     refine Bc.pure h hw (AG.agg ?_ ?_) Bz
     ·refine Mu (l:=l) (f:=fun j => .b i (off+j)) SJ (by simp; omega) fun j hj Cu=>?_
      simp only [List.getElem_take,List.getElem_drop,List.getElem_map,List.getElem_range]
      exact (h6 (off+j) _).2.2
     ·intro v hv
      simp only [List.mem_map,List.mem_range] at hv
      obtain ⟨j,hj,rfl⟩:=hv
      exact (h6 (off+j) oM).2.1
    ·exact hw.elim
   ·exact hw.elim
  ·exact hw.elim
 ·rename_i ha
  cases CS:cs[off]? with
  | none=>rw [CS] at hw; exact hw.elim
  | some lv=>
   rw [CS] at hw
   have Ag:=(List.getElem?_eq_some_iff.1 CS).1
   have Bz:=FN ho pS (FH (P:=P) h4 ha oM)
   have F8:=h6 off Ag
   have Gc:cs[off]=lv:=by rw [List.getElem?_eq_getElem Ag] at CS; injection CS
   rw [Gc] at F8
   obtain ⟨hc1,R9,Xr⟩:=F8
   generalize cur.getD off undef=v at Bz R9 Xr
   cases lv with
   | uniq e' z es=>
    cases hd:o.dst with
    | none=>simp only [hd] at hw; exact hw.elim
    | some d=>
     simp only [hd] at hw
     split at hw
     ·rename_i CE
      obtain ⟨CE,KX⟩:=CE
      split at hw
      ·-- handed on
       have PK:Bb cx { s with boxes:=put s.boxes i (AI cs off [.v (.sl z es)]),tmps:=put s.tmps d .Dx } g l a w:=by
        refine h.eM (fun k u hk=>?_) (fun k u hk=>by
         simp only [Be] at hk
         split at hk
         ·rename_i e2
          subst e2
          injection hk with hk
          subst hk
          exact ⟨cs,hi,F7.Kn CS (.inr ⟨rfl,pJ KX⟩)⟩
         ·exact ⟨u,hk,F7.refl u⟩) (E4 F7.refl _)
        simp only [Be] at hk
        split at hk
        ·injection hk with hk; exact .inl hk.symm
        ·exact .inr ⟨u,hk,WL.refl u⟩
       have PN:s.HY [.cells i off [.v (.sl z es)],.tmp d (.uniq e' z es)]={ s with boxes:=put s.boxes i (AI cs off [.v (.sl z es)]),tmps:=put s.tmps d (.uniq e' z es) }:=by
        simp only [S.HY,S.wr,hi]
       obtain ⟨l',k1,k2,-⟩:=PK.He (p := .b i off) (q := .t d) Xr (fun ds Mv e2 z2 SK he=>by
         simp only [Be,if_true,Option.some.injEq] at Mv
         subst Mv
         rw [BG _ _ _ (by simp; omega)] at he
         simp at he)
        (fun e2 z2 SK he=>by simp only [Be,if_true] at he; injection he with he; cases he)
       intro Q
       unfold Oper.wp
       rw [Bz,Oper.upon_value,hd]
       refine ⟨_,g,l',hw,?_⟩
       rw [PN]
       refine (k1.set CE k2).congr (fun k=>?_) (fun _=>rfl) (fun _=>rfl)
       simp only [Be]
       split <;> rfl
      ·refine Bc.value (lv := .v (.sl z es)) (v:=v) (by unfold wv; rw [hd]; simp only [CE,if_true]; exact hw) h (fun _=>Eo (Xc KX) Xr) Bz
     ·exact hw.elim
   | v p=>exact Bc.value hw h (fun _=>Xr) Bz
   | full z es=>exact Bc.value hw h (fun _=>Xr) Bz
   | lp j oo=>cases hc1
   | Dx=>exact hw.elim
   | mm _=>exact hw.elim
   | row _ _=>exact hw.elim
 ·exact hw.elim
theorem VO{ty:TypeId}{x:Operand}{ops:List Oper}{i off:Nat}{cs:List LV}(ho:o.op = .load ty x)(h:Bb cx s g l a w)(hi:lk s.ext i=some cs)(hx:∀b,g.X i=some b->a.eval x = .pointer (some ⟨b,off,none⟩))(CS:OH cs=true)
  (hw:(ldC P cx.n ops o ty (.ext i off) cs off).wp s K):Bc P cx s o K a w:=by
 obtain ⟨b,h1,h2,hE⟩:=h.ex i cs hi
 rcases hE with hB | hE
 rotate_left
 ·exact (hE.plain (Hg CS)).elim
 replace h1:=h1.plain hB.TI
 obtain ⟨hM,cur,e,h4,h5,h6⟩:=hB
 have pS:=hx b h1
 unfold ldC at hw
 split at hw
 ·rename_i ha
  split at hw
  ·rename_i m hm
   split at hw
   ·rename_i hle
    split at hw
    ·rename_i ps SJ
     have hc:∀j,j<m->w.cell? ⟨b,off+j,none⟩=some (cur.getD (off+j) undef):=fun j hj=>by
      have:off+j<cur.size:=by omega
      simp [World.cell?,h4,this]
     have Bz:=FN ho pS (FI (P:=P) ha hm hc)
     refine Bc.pure h hw (AG.agg ?_ ?_) Bz
     ·refine Mu (l:=l) (f:=fun j => .x i (off+j)) SJ (by simp; omega) fun j hj Cu=>?_
      simp only [List.getElem_take,List.getElem_drop,List.getElem_map,List.getElem_range]
      exact (h6 (off+j) _).2.2
     ·intro v hv
      simp only [List.mem_map,List.mem_range] at hv
      obtain ⟨j,hj,rfl⟩:=hv
      exact (h6 (off+j) oM).2.1
    ·exact hw.elim
   ·exact hw.elim
  ·exact hw.elim
 ·rename_i ha
  cases CS:cs[off]? with
  | none=>rw [CS] at hw; exact hw.elim
  | some lv=>
   rw [CS] at hw
   have Ag:=(List.getElem?_eq_some_iff.1 CS).1
   have Bz:=FN ho pS (FH (P:=P) h4 ha oM)
   have F8:=h6 off Ag
   have Gc:cs[off]=lv:=by rw [List.getElem?_eq_getElem Ag] at CS; injection CS
   rw [Gc] at F8
   obtain ⟨hc1,R9,Xr⟩:=F8
   generalize cur.getD off undef=v at Bz R9 Xr
   cases lv with
   | uniq e' z es=>
    cases hd:o.dst with
    | none=>simp only [hd] at hw; exact hw.elim
    | some d=>
     simp only [hd] at hw
     split at hw
     ·rename_i CE
      obtain ⟨CE,KX⟩:=CE
      split at hw
      ·-- handed on
       have PK:Bb cx { s with ext:=put s.ext i (AI cs off [.v (.sl z es)]),tmps:=put s.tmps d .Dx } g l a w:=by
        refine h.eM (fun k u hk=>?_) (E4 F7.refl _) (fun k u hk=>by
         simp only [Be] at hk
         split at hk
         ·rename_i e2
          subst e2
          injection hk with hk
          subst hk
          exact ⟨cs,hi,F7.Kn CS (.inr ⟨rfl,pJ KX⟩)⟩
         ·exact ⟨u,hk,F7.refl u⟩) (by simp only [Dr hi]; exact Nat.le_refl _)
        simp only [Be] at hk
        split at hk
        ·injection hk with hk; exact .inl hk.symm
        ·exact .inr ⟨u,hk,WL.refl u⟩
       have PN:s.HY [.ext i off [.v (.sl z es)],.tmp d (.uniq e' z es)]={ s with ext:=put s.ext i (AI cs off [.v (.sl z es)]),tmps:=put s.tmps d (.uniq e' z es) }:=by
        simp only [S.HY,S.wr,hi]
       obtain ⟨l',k1,k2,-⟩:=PK.He (p := .x i off) (q := .t d) Xr (fun ds Mv e2 z2 SK he=>by
         simp only [Be,if_true,Option.some.injEq] at Mv
         subst Mv
         rw [BG _ _ _ (by simp; omega)] at he
         simp at he)
        (fun e2 z2 SK he=>by simp only [Be,if_true] at he; injection he with he; cases he)
       intro Q
       unfold Oper.wp
       rw [Bz,Oper.upon_value,hd]
       refine ⟨_,g,l',hw,?_⟩
       rw [PN]
       refine (k1.set CE k2).congr (fun k=>?_) (fun _=>rfl) (fun _=>rfl)
       simp only [Be]
       split <;> rfl
      ·refine Bc.value (lv := .v (.sl z es)) (v:=v) (by unfold wv; rw [hd]; simp only [CE,if_true]; exact hw) h (fun _=>Eo (Xc KX) Xr) Bz
     ·exact hw.elim
   | v p=>exact Bc.value hw h (fun _=>Xr) Bz
   | full z es=>exact Bc.value hw h (fun _=>Xr) Bz
   | lp j oo=>cases hc1
   | Dx=>exact hw.elim
   | mm _=>exact hw.elim
   | row _ _=>exact hw.elim
 ·exact hw.elim
theorem Ot{ty:TypeId}{x:Operand}{ops:List Oper}(ho:o.op = .load ty x)(h:Bb cx s g l a w)(hw:(TP P cx.n ops o ty x).wp s K):Bc P cx s o K a w:=by
 obtain ⟨lv,u,h1,r1,-⟩:=C2 h hw
 split at h1
 ·rename_i i off
  simp only [RM.wp] at h1
  split at h1
  ·rename_i cs CS
   refine VN ho h CS (fun b hb=>?_) h1
   obtain ⟨b',k1,k2⟩:=r1
   rw [k1] at hb
   injection hb with hb
   rw [<-hb]; exact k2
  ·exact h1.elim
 ·rename_i m off
  simp only [RM.wp] at h1
  split at h1
  ·rename_i cs CS
   split at h1
   rotate_left
   ·exact h1.elim
   rename_i WO
   refine VO ho h CS (fun b hb=>?_) WO h1
   generalize a.eval x=vx at r1
   cases r1 with
   | xp _ _ b' hx=>
    rw [hx] at hb
    injection hb with hb
    rw [hb]
  ·exact h1.elim
 ·rename_i m c off
  simp only [RM.wp] at h1
  split at h1
  ·rename_i cs CS
   split at h1
   ·rename_i c' ps JI
    split at h1
    ·rename_i ha
     simp only [RM.wp] at h1
     obtain ⟨hd,h1⟩:=h1
     obtain ⟨rfl,Ag⟩:=of_decide_eq_true hd
     obtain ⟨b,hY,-,-,hM,cur,e,h4,h5,h6⟩:=SE h CS JI
     have pS:a.eval x = .pointer (some ⟨b,off,none⟩):=by
      generalize a.eval x=vx at r1
      cases r1 with
      | yp _ _ _ b' hx=>
       rw [hx] at hY
       injection hY with hY
       rw [hY]
     refine Bc.value h1 h (fun _=>?_) (FN ho pS (FH (P:=P) h4 ha oM))
     have h7:=(h6 off Ag).2
     have e7:ps.getD off 0=ps[off]:=by simp [List.getD,Ag]
     rw [e7]
     exact h7
    ·exact h1.elim
   ·exact h1.elim
  ·exact h1.elim
 ·rename_i cs off
  split at h1
  ·rename_i p hp
   have hex:∀b oo v,a.eval x = .pointer (some ⟨b,oo,none⟩)->(loadVar ty ⟨b,oo,none⟩).run P w = .ok v w->(execOp a.eval o).run P w = .ok (.value v) w:=fun b oo v hv hl=>FN ho hv hl
   generalize a.eval x=vx at r1 hex
   cases r1 with
   | ro _ A9m b oo vs hc hf Ce hr=>
    unfold Oo at hp
    split at hp
    ·rename_i ha
     split at hp
     ·rename_i m hm
      split at hp
      ·rename_i hle
       injection hp with hp
       subst hp
       refine Bc.pure h h1 (AG.agg (vs:=(List.range m).map fun j=>vs (off+j)) ⟨by simp; omega,fun j hj Cu=>?_⟩ ?_) (hex _ _ _ rfl (FI ha hm fun j hj=>?_))
       ·simp only [List.getElem_take,List.getElem_drop,List.getElem_map,List.getElem_range]
        exact hr _ _
       ·intro v hv
        simp only [List.mem_map,List.mem_range] at hv
        obtain ⟨j,hj,rfl⟩:=hv
        exact Ce _ oM
       ·have:=hc (off+j) oM
        rw [Nat.add_assoc]
        exact this
      ·cases hp
     ·cases hp
    ·rename_i ha
     have Ag:=(List.getElem?_eq_some_iff.1 hp).1
     have hcc:=hc off Ag
     refine Bc.pure (v:=vs off) h h1 ?_ (hex _ _ _ rfl (by simp [loadVar,Hf ha,hcc]))
     rw [List.getElem?_eq_getElem Ag] at hp
     injection hp with hp
     rw [<-hp]
     exact hr off Ag
    ·cases hp
  ·exact h1.elim
 ·exact h1.elim
end
section
variable {P:Program} {cx:Cx} {s t:S} {g:Gh} {l:LG} {a:Act} {w:World} {o:Oper} {K:List Wr->Prop}
def stV(P:Program)(ty:TypeId)(lv:LV):Option (List LV):=match LU P ty with
 | some true=>match lv with
  | .v (.agg cs)=>some (cs.map .v)
  | _=>none
 | some false=>match lv with
  | .v p=>if p.one=true then some [.v p] else none
  | .full z es=>some [.full z es]
  | _=>none
 | none=>none
def VP(P:Program)(ty:TypeId)(y:Operand)(lv:LV)(cs:List LV)(off:Nat)(mk:List LV->Wr):RM (List Wr):=match KW P ty with
 | some m=>match lv,y with
  | .uniq e z es,.tmp t=>if LU P ty=some false/\m=1/\off<cs.length/\e<1000000 then .ret [.tmp t (.v (.sl z es)),mk [.uniq e z es]] else .fail
  | lv,_=>match stV P ty lv with
   | some vs=>if vs.length=m/\off+m<=cs.length then .ret [mk vs] else .fail
   | none => .fail
 | none => .fail
def Mw(P:Program)(o:Oper)(ty:TypeId)(x y:Operand):RM (List Wr):=match o.dst with
 | none=>ev x fun lp=>ev y fun lv=>match lp with
  | .lp i off => .Iu i fun cs=>VP P ty y lv cs off (.cells i off)
  | .v (.xp m off) => .E6 m fun cs=>if OH cs=true then VP P ty y lv cs off (.ext m off) else .fail
  | .v (.yp m c off) => .E6 m fun cs=>match rowOf cs,WN lv with
   | some (c',ps),some (.int .i64 p)=>if KW P ty=some 1/\LU P ty=some false then .assume (decide (c=c'/\off<ps.length)) (.ret [.ext m 0 [.row c (ps.set off p)]]) else .fail
   | _,_ => .fail
  | _ => .fail
 | some _ => .fail
theorem TQ{ty:TypeId}{lv:LV}{vs:List LV}{v:Value}{u:UL}{f:Nat->UL}(h:stV P ty lv=some vs)(hr:Cq g l w u lv v) :
  vs.length=v.cells.toList.length/\(∀u∈v.cells.toList,u.oneCell'=true)/\∀j (h:j<vs.length) (h':j<v.cells.toList.length),vs[j].Me=true/\v.cells.toList[j].oneCell'=true/\Cq g l w (f j) vs[j] v.cells.toList[j]:=by
 unfold stV at h
 split at h
 ·split at h
  ·rename_i cs
   injection h with h
   subst h
   obtain ⟨k1,k2⟩:=Ja (p := .agg cs) rfl hr
   refine ⟨by simp [k1.1],k2,fun j hj Cu=>⟨by simp [LV.Me],k2 _ (List.getElem_mem _),?_⟩⟩
   simp only [List.getElem_map]
   exact k1.2 j (by simpa using hj) Cu
  ·cases h
 ·split at h
  ·rename_i p
   split at h
   ·rename_i hp
    injection h with h
    subst h
    have Ce:=BJ.one hr hp
    have hc:v.cells = #[v]:=by cases v <;> first | rfl | cases Ce
    rw [hc]
    refine ⟨by simp,by simpa using Ce,fun j hj Cu=>?_⟩
    have:j=0:=by simpa using hj
    subst this
    exact ⟨rfl,Ce,hr⟩
   ·cases h
  ·rename_i z es
   injection h with h
   subst h
   have Ce:v.oneCell'=true:=by
    rcases hr with ⟨rfl,-⟩ | ⟨a,rfl,-⟩ <;> rfl
   have hc:v.cells = #[v]:=by cases v <;> first | rfl | cases Ce
   rw [hc]
   refine ⟨by simp,by simpa using Ce,fun j hj Cu=>?_⟩
   have:j=0:=by simpa using hj
   subst this
   exact ⟨rfl,Ce,hr⟩
  ·cases h
 ·cases h
theorem DY{ty:TypeId}{x y:Operand}{b off m:Nat}{cur:Array Value}{e:TypeId}{v:Value}(ho:o.op = .store ty x y)(hx:a.eval x = .pointer (some ⟨b,off,none⟩))(hy:a.eval y=v)(hm:KW P ty=some m)
  (hh:w.heap[b]?=some (.cells cur e (0,0))) (hl:v.cells.toList.length=m) (LS:off+m<=cur.size) (Ce:∀u∈v.cells.toList,u.oneCell'=true) :
  (execOp a.eval o).run P w = .ok .skip (w.setRow b (AI cur.toList off v.cells.toList).toArray):=by
 have h1:=run_storeCells_at P b off e v.cells.toList 0 cur w hh oM Ce
 have Bq:v.cells.size=m:=by simpa using hl
 rw [Nat.add_zero,<-FM _ _ _ (by simp; omega)] at h1
 simp [execOp,ho,hx,hy,Instr.storeAt,Instr.sureAddr,storeVar,run_sizeOf hm,Bq,h1]
theorem II{α:Type}(cs:List α)(off:Nat)(x y:α)(h:off<cs.length):AI (AI cs off [x]) off [y]=AI cs off [y]:=by
 apply List.ext_getElem?
 intro j
 rw [BG _ _ _ (by rw [B0]; simp; omega),BG _ _ _ (by simp; omega),BG _ _ _ (by simp; omega)]
 by_cases hj:off<=j/\j<off+[y].length
 ·rw [iP hj,iP hj]
 ·rw [iN hj,iN hj,iN (by simpa using hj)]
theorem VQ{ty:TypeId}{x y:Operand}{i off b:Nat}{cs:List LV}{lv:LV}{u:UL}(ho:o.op = .store ty x y)(hd:o.dst=none)(h:Bb cx s g l a w)(hi:lk s.boxes i=some cs)(hb:l.L i=some b)
  (hx:a.eval x = .pointer (some ⟨b,off,none⟩)) (hr:Cq g l w u lv (a.eval y)) (hu:∀e z es,lv = .uniq e z es->∃t,y = .tmp t/\u = .t t/\lk s.tmps t=some lv)
  (hw:(VP P ty y lv cs off (.cells i off)).wp s K):Bc P cx s o K a w:=by
 unfold VP at hw
 split at hw
 ·rename_i m hm
  have plain:(∀e z es,lv ≠ .uniq e z es)->((match stV P ty lv with
   | some vs=>if vs.length=m/\off+m<=cs.length then RM.ret [Wr.cells i off vs] else RM.fail
   | none=>RM.fail):RM (List Wr)).wp s K->Bc P cx s o K a w:=by
   intro _ hw
   split at hw
   ·rename_i vs pR
    split at hw
    ·rename_i hc
     obtain ⟨k1,k2,k3⟩:=TQ (f:=fun j => .b i (off+j)) pR hr
     obtain ⟨b',cur,e,h1,h2,h3,h4,-⟩:=h.A05 hi off vs (a.eval y).cells.toList k1 (by rw [hc.1]; exact hc.2) k3
     rw [hb] at h1
     injection h1 with h1
     subst h1
     have Bz:=DY (P:=P) ho hx rfl hm h2 (by rw [<-k1]; exact hc.1) (by have:=hc.2; omega) k2
     intro Q
     unfold Oper.wp
     rw [Bz,Oper.upon_skip,hd]
     refine ⟨_,g,l,hw,?_⟩
     have PN:s.HY [.cells i off vs]={ s with boxes:=put s.boxes i (AI cs off vs) }:=by simp only [S.HY,S.wr,hi]
     rw [PN]
     exact h4
    ·exact hw.elim
   ·exact hw.elim
  cases lv with
  | uniq e z es=>
   obtain ⟨t,rfl,rfl,ht⟩:=hu e z es rfl
   simp only at hw
   split at hw
   ·rename_i hc
    obtain ⟨ha,rfl,Ag,KX⟩:=hc
    have CS:cs[off]?=some cs[off]:=List.getElem?_eq_getElem Ag
    have PK:Bb cx { s with tmps:=put s.tmps t (.v (.sl z es)),boxes:=put s.boxes i (AI cs off [.Dx]) } g l a w:=by
     refine h.eM (fun k v hk=>?_) (fun k v hk=>by
       simp only [Be] at hk
       split at hk
       ·rename_i e0
        subst e0
        injection hk with hk
        subst hk
        exact ⟨cs,hi,F7.Kn CS (WL.Dx (fun SK e2=>by
         obtain ⟨b2,-,-,-,cur,t2,-,-,h6⟩:=h.bx i cs hi
         have:=(h6 off Ag).2.2
         rw [e2] at this
         exact this) (fun c2 ps2 e2=>by
         obtain ⟨b2,-,-,-,cur,t2,-,-,h6⟩:=h.bx i cs hi
         have:=(h6 off Ag).2.2
         rw [e2] at this
         exact this))⟩
       ·exact ⟨v,hk,F7.refl v⟩) (E4 F7.refl _)
     simp only [Be] at hk
     split at hk
     ·rename_i e0; subst e0; injection hk with hk; subst hk; exact .inr ⟨_,ht,.inr ⟨rfl,pJ KX⟩⟩
     ·exact .inr ⟨v,hk,WL.refl v⟩
    obtain ⟨l',k1,k2,kL⟩:=PK.He (p := .t t) (q := .b i off) hr (fun e2 z2 SK he=>by simp only [Be,if_true] at he; injection he with he; cases he)
     (fun ds Mv e2 z2 SK he=>by
      simp only [Be,if_true,Option.some.injEq] at Mv
      subst Mv
      rw [BG _ _ _ (by simp; omega)] at he
      simp at he)
    have Ce:(a.eval (.tmp t)).oneCell'=true:=by
     rcases hr with (⟨hv,-⟩ | ⟨a',hv,-⟩) | ⟨b',cap,cur,hv,-⟩ <;> rw [hv] <;> rfl
    have hc:(a.eval (.tmp t)).cells = #[a.eval (.tmp t)]:=by
     generalize a.eval (.tmp t)=v at Ce
     cases v <;> first | rfl | cases Ce
    obtain ⟨b',cur,e',h1,h2,h3,h4,-⟩:=k1.A05 (i:=i) (cs:=AI cs off [.Dx]) (by simp only [Be,if_true]) off [.uniq e z es] [a.eval (.tmp t)] rfl (by rw [B0]; simp; omega) (fun j hj Cu=>by
      have:j=0:=by simpa using hj
      subst this
      exact ⟨rfl,Ce,k2⟩)
    have GY:l.L i=some b:=hb
    have hLL:l'.L i=some b:=by rw [kL]; exact GY
    rw [hLL] at h1
    injection h1 with h1
    subst h1
    rw [B0] at h3
    have Bz:=DY (P:=P) ho hx rfl hm h2 (by rw [hc]; rfl) oM (by rw [hc]; simpa using Ce)
    rw [hc] at Bz
    intro Q
    unfold Oper.wp
    rw [Bz,Oper.upon_skip,hd]
    refine ⟨_,g,l',hw,?_⟩
    have PN:s.HY [.tmp t (.v (.sl z es)),.cells i off [.uniq e z es]]={ s with tmps:=put s.tmps t (.v (.sl z es)),boxes:=put s.boxes i (AI cs off [.uniq e z es]) }:=by simp only [S.HY,S.wr,hi]
    rw [PN]
    refine h4.congr (fun _=>rfl) (fun k=>by simp only [Be,II cs off _ _ Ag]; split <;> rfl) (fun _=>rfl)
   ·exact hw.elim
  | v p=>exact plain sM hw
  | full z es=>exact plain sM hw
  | lp j oo=>exact plain sM hw
  | Dx=>exact plain sM hw
  | mm _=>exact hr.elim
  | row _ _=>exact hr.elim
 ·exact hw.elim
theorem VR{ty:TypeId}{x y:Operand}{i off b:Nat}{cs:List LV}{lv:LV}{u:UL}(ho:o.op = .store ty x y)(hd:o.dst=none)(h:Bb cx s g l a w)(hi:lk s.ext i=some cs)(hb:g.X i=some b)
  (hx:a.eval x = .pointer (some ⟨b,off,none⟩)) (hr:Cq g l w u lv (a.eval y)) (hu:∀e z es,lv = .uniq e z es->∃t,y = .tmp t/\u = .t t/\lk s.tmps t=some lv)
  (WO:OH cs=true) (hw:(VP P ty y lv cs off (.ext i off)).wp s K):Bc P cx s o K a w:=by
 unfold VP at hw
 split at hw
 ·rename_i m hm
  have plain:(∀e z es,lv ≠ .uniq e z es)->((match stV P ty lv with
   | some vs=>if vs.length=m/\off+m<=cs.length then RM.ret [Wr.ext i off vs] else RM.fail
   | none=>RM.fail):RM (List Wr)).wp s K->Bc P cx s o K a w:=by
   intro _ hw
   split at hw
   ·rename_i vs pR
    split at hw
    ·rename_i hc
     obtain ⟨k1,k2,k3⟩:=TQ (f:=fun j => .x i (off+j)) pR hr
     obtain ⟨b',cur,e,h1,h2,h3,h4,-⟩:=h.A06 hi off vs (a.eval y).cells.toList k1 (by rw [hc.1]; exact hc.2) k3 (Hg WO)
     rw [hb] at h1
     injection h1 with h1
     subst h1
     have Bz:=DY (P:=P) ho hx rfl hm h2 (by rw [<-k1]; exact hc.1) (by have:=hc.2; omega) k2
     intro Q
     unfold Oper.wp
     rw [Bz,Oper.upon_skip,hd]
     refine ⟨_,g,l,hw,?_⟩
     have PN:s.HY [.ext i off vs]={ s with ext:=put s.ext i (AI cs off vs) }:=by simp only [S.HY,S.wr,hi]
     rw [PN]
     exact h4
    ·exact hw.elim
   ·exact hw.elim
  cases lv with
  | uniq e z es=>
   obtain ⟨t,rfl,rfl,ht⟩:=hu e z es rfl
   simp only at hw
   split at hw
   ·rename_i hc
    obtain ⟨ha,rfl,Ag,KX⟩:=hc
    have CS:cs[off]?=some cs[off]:=List.getElem?_eq_getElem Ag
    have hmm:∀es,cs[off] ≠ .mm es:=fun SK e2=>by
     obtain ⟨b2,-,-,hE⟩:=h.ex i cs hi
     rcases hE with ⟨-,cur,t2,-,-,h6⟩ | hE
     ·have:=(h6 off Ag).2.2
      rw [e2] at this
      exact this
     ·exact hE.plain (Hg WO)
    have hrw:∀c ps,cs[off] ≠ .row c ps:=fun c2 ps2 e2=>by
     obtain ⟨b2,-,-,hE⟩:=h.ex i cs hi
     rcases hE with ⟨-,cur,t2,-,-,h6⟩ | hE
     ·have:=(h6 off Ag).2.2
      rw [e2] at this
      exact this
     ·exact hE.plain (Hg WO)
    have PK:Bb cx { s with tmps:=put s.tmps t (.v (.sl z es)),ext:=put s.ext i (AI cs off [.Dx]) } g l a w:=by
     refine h.eM (fun k v hk=>?_) (E4 F7.refl _) (fun k v hk=>by
       simp only [Be] at hk
       split at hk
       ·rename_i e0
        subst e0
        injection hk with hk
        subst hk
        exact ⟨cs,hi,F7.Kn CS (WL.Dx hmm hrw)⟩
       ·exact ⟨v,hk,F7.refl v⟩) (by simp only [Dr hi]; exact Nat.le_refl _)
     simp only [Be] at hk
     split at hk
     ·rename_i e0; subst e0; injection hk with hk; subst hk; exact .inr ⟨_,ht,.inr ⟨rfl,pJ KX⟩⟩
     ·exact .inr ⟨v,hk,WL.refl v⟩
    obtain ⟨l',k1,k2,kL⟩:=PK.He (p := .t t) (q := .x i off) hr (fun e2 z2 SK he=>by simp only [Be,if_true] at he; injection he with he; cases he)
     (fun ds Mv e2 z2 SK he=>by
      simp only [Be,if_true,Option.some.injEq] at Mv
      subst Mv
      rw [BG _ _ _ (by simp; omega)] at he
      simp at he)
    have Ce:(a.eval (.tmp t)).oneCell'=true:=by
     rcases hr with (⟨hv,-⟩ | ⟨a',hv,-⟩) | ⟨b',cap,cur,hv,-⟩ <;> rw [hv] <;> rfl
    have hc:(a.eval (.tmp t)).cells = #[a.eval (.tmp t)]:=by
     generalize a.eval (.tmp t)=v at Ce
     cases v <;> first | rfl | cases Ce
    obtain ⟨b',cur,e',h1,h2,h3,h4,-⟩:=k1.A06 (i:=i) (cs:=AI cs off [.Dx]) (by simp only [Be,if_true]) off [.uniq e z es] [a.eval (.tmp t)] rfl (by rw [B0]; simp; omega) (fun j hj Cu=>by
      have:j=0:=by simpa using hj
      subst this
      exact ⟨rfl,Ce,k2⟩) ⟨fun SK hs=>by
      have h0:=hs.inv
      have h1:=BG cs off [LV.Dx] (by simp; omega) off
      rw [h0] at h1
      have hl:=congrArg List.length h0
      rw [B0] at hl
      have:off=0:=by simp at hl; omega
      subst this
      simp at h1,fun c2 ps2 h0=>by
      have h1:=BG cs off [LV.Dx] (by simp; omega) off
      rw [h0] at h1
      have hl:=congrArg List.length h0
      rw [B0] at hl
      have:off=0:=by simp at hl; omega
      subst this
      simp at h1⟩
    have GY:g.X i=some b:=hb
    rw [GY] at h1
    injection h1 with h1
    subst h1
    rw [B0] at h3
    have Bz:=DY (P:=P) ho hx rfl hm h2 (by rw [hc]; rfl) oM (by rw [hc]; simpa using Ce)
    rw [hc] at Bz
    intro Q
    unfold Oper.wp
    rw [Bz,Oper.upon_skip,hd]
    refine ⟨_,g,l',hw,?_⟩
    have PN:s.HY [.tmp t (.v (.sl z es)),.ext i off [.uniq e z es]]={ s with tmps:=put s.tmps t (.v (.sl z es)),ext:=put s.ext i (AI cs off [.uniq e z es]) }:=by simp only [S.HY,S.wr,hi]
    rw [PN]
    refine h4.congr (fun _=>rfl) (fun _=>rfl) (fun k=>by simp only [Be,II cs off _ _ Ag]; split <;> rfl) (by simp only [FG]; omega)
   ·exact hw.elim
  | v p=>exact plain sM hw
  | full z es=>exact plain sM hw
  | lp j oo=>exact plain sM hw
  | Dx=>exact plain sM hw
  | mm _=>exact hr.elim
  | row _ _=>exact hr.elim
 ·exact hw.elim
theorem VS{ty:TypeId}{x y:Operand}{n c off:Nat}{cs:List LV}{ps:List Int}{p:Int}(ho:o.op = .store ty x y)(hd:o.dst=none)(h:Bb cx s g l a w)(hi:lk s.ext n=some cs)(JI:rowOf cs=some (c,ps))
  (hx:∀b,g.Y n c=some b->a.eval x = .pointer (some ⟨b,off,none⟩)) (hr:BJ g w (.int .i64 p) (a.eval y)) (hm:KW P ty=some 1) (Ag:off<ps.length) (hw:K [.ext n 0 [.row c (ps.set off p)]]):Bc P cx s o K a w:=by
 obtain ⟨b,hY,hO,hF,hM,cur,e,h4,h5,h6⟩:=SE h hi JI
 have CS:=J9 JI
 subst CS
 have h1:=BJ.one hr rfl
 have hc:(a.eval y).cells = #[a.eval y]:=by
  generalize a.eval y=v at h1
  cases v <;> first | rfl | cases h1
 have Bz:=DY (P:=P) ho (hx b hY) rfl hm h4 (by rw [hc]; rfl) oM (by rw [hc]; simpa using h1)
 rw [hc] at Bz
 have fT:off<cur.size:=by omega
 have hg:∀j,((AI cur.toList off [a.eval y]).toArray.getD j undef)=if j=off then a.eval y else cur.getD j undef:=fun j=>by
  have LS:off+[a.eval y].length<=cur.toList.length:=by simp; omega
  have g2:=BG cur.toList off [a.eval y] LS j
  have g3:((AI cur.toList off [a.eval y]).toArray.getD j undef)=((AI cur.toList off [a.eval y])[j]?).getD undef:=by simp [Array.getD_eq_getD_getElem?]
  rw [g3,g2]
  by_cases hj:j=off
  ·subst hj; simp
  ·rw [iN hj,iN (by simp only [List.length_singleton]; omega)]
   simp [Array.getD_eq_getD_getElem?]
 have k1:=h.X9 (c2:=c) (ps':=ps.set off p) (cur':=(AI cur.toList off [a.eval y]).toArray) hi hY hO hF hM h4 (by simp [B0]) (.inl rfl) (by simp [B0]; omega) (fun j hj=>by
  have Ib:j<ps.length:=by simpa using hj
  rw [hg j]
  by_cases hjo:j=off
  ·subst hjo
   rw [iP rfl]
   refine ⟨h1,?_⟩
   rw [List.getElem_set_self]; exact hr
  ·rw [iN hjo,List.getElem_set_ne oM]
   exact h6 j Ib)
 intro Q
 unfold Oper.wp
 rw [Bz,Oper.upon_skip,hd]
 refine ⟨_,{ g with Y:=Is g.Y n c b },l,hw,?_⟩
 have PN:s.HY [.ext n 0 [.row c (ps.set off p)]]={ s with ext:=put s.ext n (AI [.row c ps] 0 [.row c (ps.set off p)]) }:=by simp only [S.HY,S.wr,hi]
 rw [PN]
 exact k1
theorem Mx{ty:TypeId}{x y:Operand}(ho:o.op = .store ty x y)(h:Bb cx s g l a w)(hw:(Mw P o ty x y).wp s K):Bc P cx s o K a w:=by
 unfold Mw at hw
 split at hw
 ·rename_i hd
  obtain ⟨lp,u,h1,r1,-⟩:=C2 h hw
  obtain ⟨lv,u2,h2,r2,hu2⟩:=C2 h h1
  split at h2
  ·rename_i i off
   simp only [RM.wp] at h2
   split at h2
   ·rename_i cs CS
    obtain ⟨b,k1,k2⟩:=r1
    exact VQ ho hd h CS k1 k2 r2 hu2 h2
   ·exact h2.elim
  ·rename_i m off
   simp only [RM.wp] at h2
   split at h2
   ·rename_i cs CS
    have hx:∃b,g.X m=some b/\a.eval x = .pointer (some ⟨b,off,none⟩):=by
     generalize a.eval x=vx at r1
     cases r1 with
     | xp _ _ b' hx=>exact ⟨b',hx,rfl⟩
    obtain ⟨b,k1,k2⟩:=hx
    split at h2
    ·rename_i WO; exact VR ho hd h CS k1 k2 r2 hu2 WO h2
    ·exact h2.elim
   ·exact h2.elim
  ·rename_i m c off
   simp only [RM.wp] at h2
   split at h2
   ·rename_i cs CS
    split at h2
    ·rename_i c' ps p JI hp
     split at h2
     ·rename_i hc1
      obtain ⟨hm,ha⟩:=hc1
      simp only [RM.wp] at h2
      obtain ⟨FA,h2⟩:=h2
      obtain ⟨rfl,Ag⟩:=of_decide_eq_true FA
      exact VS ho hd h CS JI (by
       intro b hb
       generalize a.eval x=vx at r1
       cases r1 with
       | yp _ _ _ b' hx=>
        rw [hx] at hb
        injection hb with hb
        rw [hb]) (Eo hp r2) hm Ag h2
     ·exact h2.elim
    ·exact h2.elim
   ·exact h2.elim
  ·exact h2.elim
 ·exact hw.elim
end
section
variable {P:Program} {cx:Cx} {s t:S} {g:Gh} {l:LG} {a:Act} {w:World} {o:Oper} {K:List Wr->Prop}
def OJ:LV->Option (List (List PV))
 | .v .A4=>some []
 | lv=>(VM lv).map (·.2)
def pU:LV->Option Nat
 | .v .A4=>none
 | lv=>(VM lv).map (·.1)
def okZ(z:Nat)(lv:LV):Bool:=match pU lv with
 | some z'=>z'==z
 | none=>true
def A0h(e z:Nat):LV->Option (List (List PV))
 | .v .A4=>some []
 | .full z' es=>if z'=z then some es else none
 | .uniq e' z' es=>if jU e'=e/\z'=z then some es else none
 | _=>none
def SL(P:Program)(n:Nat)(o:Oper)(ty:TypeId)(x y:Operand):RM (List Wr):=match Gj P ty,o.dst with
 | some e,some d=>match KW P e,Fq P e,TK P e with
  | some (m+1),some (B+1),some zs=>if d<n/\zs.length=m+1/\e<1000000 then ev x fun lx=>ev y fun ly=>match A0h e (m+1) lx,OJ ly with
   | some es,some ys=>if okZ (m+1) ly=true then .assume (decide ((es++ys).length * (B+1)<=140737488355328)) (match lx,x with
    | .uniq e1 _ _,.tmp t=>if t≠d then (if e1<1000000 then .ret [.tmp t (.v (.sl (m+1) es)),.tmp d (.uniq e1 (m+1) (es++ys))] else .ret [.tmp t .Dx,.tmp d (.uniq e1 (m+1) (es++ys))]) else .fail
    | _,_ => .ret [.tmp d (.uniq e (m+1) (es++ys))]) else .fail
   | _,_ => .fail
   else .fail
  | _,_,_ => .fail
 | _,_ => .fail
theorem Ft{ty e:TypeId}{i:TypeInfo}{rt:TypeId}{A B:Option Addr}{n cap c:Nat}(hu:P.underlying ty=some (.slice e))(hi:P.info? e=some i)(hle:n<=cap) :
  (Builtin.append_ #[ty,ty] rt #[.slice A n cap,.slice B 0 c]).run P w = .ok (.slice A n cap) w:=by
 have hf:(Builtin.firstCells i.size 0 (.slice B 0 c)).run P w = .ok #[] w:=by
  cases B with
  | none=>rfl
  | some b=>simp [Builtin.firstCells,loadCells,loadCellsFrom]
 cases A with
 | none=>simp [Builtin.append_,run_underlying hu,sizeOf,typeInfo,hi,Builtin.lenOf,hle,hf]
 | some a=>simp [Builtin.append_,run_underlying hu,sizeOf,typeInfo,hi,Builtin.lenOf,hle,hf,storeCells]
def Xs(g:Gh)(l:LG)(w:World)(e e1:TypeId)(z:Nat)(p:Option UL)(es:List (List PV))(v:Value):Prop:=
 (v = .slice none 0 0/\es=[])∨(∃a,v = .slice (some a) es.length es.length/\BJ g w (.sl z es) v/\e1<1000000) ∨
  ∃q b cap cur,p=some q/\v = .slice (some ⟨b,0,none⟩) es.length cap/\l.U q=some b/\g.M b=some (QM e1 (es.length * z))/\w.heap[b]?=some (.cells cur e (0,0))/\cur.size=cap * z/\Ol g w e1 z es cap cur v
theorem AG.app{ps qs:List PV}{us vs:List Value}(h:AG g w ps us)(k:AG g w qs vs):AG g w (ps++qs) (us++vs):=by
 refine ⟨by simp [h.1,k.1],fun j hj Cu=>?_⟩
 simp only [List.getElem_append]
 have hl:=h.1
 split
 ·rw [dif_pos oM]; exact h.2 _ _ _
 ·rw [dif_neg oM]
  simp only [hl]
  exact k.2 _ _ _
theorem PO(h:Bb cx s g l a w){d:Nat}(hq:QU s (.t d)){e e1:TypeId}(VJ:jU e1=e){zv:Value}{m:Nat}{es ys:List (List PV)}{olds news:List Value}{cap:Nat}(hz:zv.cells.size=m+1)
  (J8:∀i (h:i<es.length),es[i].length=m+1) (Kj:∀i (h:i<ys.length),ys[i].length=m+1) (ho:AG g w es.flatten olds) (hn:AG g w ys.flatten news) (Xt:∀u∈olds,u.oneCell'=true) (M4:∀u∈news,u.oneCell'=true)
  (CO:es.length+ys.length<=cap) (Di:cap<=maxLen) :
  ∃g' l',Bb cx s g' l' a (w.drew.alloc (.cells (olds.toArray++news.toArray++Builtin.zeroCells zv.cells (cap - (es.length+ys.length))) e)) /\
   Cq g' l' (w.drew.alloc (.cells (olds.toArray++news.toArray++Builtin.zeroCells zv.cells (cap - (es.length+ys.length))) e)) (.t d) (.uniq e1 (m+1) (es++ys)) (.slice (some ⟨w.heap.size,0,none⟩) (es.length+ys.length) cap):=by
 obtain ⟨h1,eN⟩:=h.drew
 have TR:olds.length=es.length * (m+1):=by rw [<-ho.1,BR _ es J8]
 have IE:news.length=ys.length * (m+1):=by rw [<-hn.1,BR _ ys Kj]
 obtain ⟨g',l',k1,k2,k3⟩:=h1.pK (.t d) hq (olds.toArray++news.toArray++Builtin.zeroCells zv.cells (cap - (es.length+ys.length))) e VJ (m+1) cap (es++ys) (by
   simp only [Array.size_append,List.size_toArray,size_zeroCells,hz,TR,IE,<-Nat.add_mul]
   congr 1
   omega) (by simpa using CO) Di (by
   intro i hi
   rw [List.getElem_append]
   split
   ·exact J8 _ _
   ·exact Kj _ _) (olds++news) (by rw [List.flatten_append]; exact (ho.mono eN).app (hn.mono eN)) (by
   intro u hu
   rcases List.mem_append.1 hu with hu | hu
   ·exact Xt u hu
   ·exact M4 u hu) (by
   simp only [Array.toList_append]
   rw [show (es++ys).length * (m+1)=(olds++news).length by rw [List.length_append,List.length_append,Nat.add_mul,TR,IE]]
   exact List.take_left)
 refine ⟨g',l',k1,?_⟩
 rw [List.length_append] at k3
 exact k3
theorem Ra{ty e e1 rt:TypeId}(VJ:jU e1=e){i:TypeInfo}{zv:Value}{m B d:Nat}{es ys:List (List PV)}{p:Option UL}{vx vy:Value}(h:Bb cx s g l a w)(hu:P.underlying ty=some (.slice e))(hi:P.info? e=some i)(hz:i.zero=some zv)
  (Bq:i.size=m+1) (WQ:i.bytes=B+1) (Od:zv.cells.size=m+1) (hq:QU s (.t d)) (hp:∀q,p=some q->QU s q) (QX:Xs g l w e e1 (m+1) p es vx)
  (hy:(ys=[]/\∃A c,vy = .slice A 0 c)∨∃ay c,vy = .slice (some ay) ys.length c/\BJ g w (.sl (m+1) ys) vy) (hb:(es++ys).length * (B+1)<=140737488355328) :
  ∃v' w' g' l',(Builtin.append_ #[ty,ty] rt #[vx,vy]).run P w = .ok v' w'/\Bb cx s g' l' a w'/\Cq g' l' w' (.t d) (.uniq e1 (m+1) (es++ys)) v':=by
 have hlen:es.length+ys.length<=140737488355328:=by
  rw [List.length_append] at hb
  have:=Nat.le_mul_of_pos_right (es.length+ys.length) (Nat.succ_pos B)
  simp only [Nat.succ_eq_add_one] at this
  omega
 have WR:es.length+ys.length<=maxLen:=by simp only [maxLen]; omega
 by_cases Dc:ys=[]
 ·subst Dc
  have VT:∃A c,vy = .slice A 0 c:=by
   rcases hy with ⟨-,h⟩ | ⟨ay,c,h,-⟩
   ·exact h
   ·exact ⟨some ay,c,h⟩
  obtain ⟨A,c,rfl⟩:=VT
  rw [List.append_nil]
  rcases QX with ⟨rfl,rfl⟩ | ⟨a',rfl,hR,hR2⟩ | ⟨q,b,cap,cur,rfl,rfl,h1,h2,h3,h4,h5⟩
  ·exact ⟨_,w,g,l,Ft hu hi (Nat.le_refl _),h,.inl (.inl ⟨rfl,rfl⟩)⟩
  ·exact ⟨_,w,g,l,Ft hu hi (Nat.le_refl _),h,.inl (.inr ⟨a',rfl,hR,hR2⟩)⟩
  ·obtain ⟨l',k1,k2,-⟩:=h.He (p:=q) (q := .t d) (e:=e1) (.inr ⟨b,cap,cur,rfl,h1,h2,by rw [VJ]; exact h3,h4,h5⟩) (hp q rfl) hq
   exact ⟨_,w,g,l',Ft hu hi (h5.flat h3 h4).1,k1,k2⟩
 ·have Hi:0<ys.length:=List.length_pos_iff.2 Dc
  obtain ⟨ay,c,rfl,eO⟩:∃ay c,vy = .slice (some ay) ys.length c/\BJ g w (.sl (m+1) ys) vy:=by
   rcases hy with ⟨h,-⟩ | h
   ·exact absurd h Dc
   ·exact h
  obtain ⟨-,-,-,Kj,news,hn,IE,Xu⟩:=eO.flat
  have Ko:∀j v,news[j]?=some v->w.cell? (ay.add j)=some v:=fun j v hj=>(Xu j v hj).1
  have M4:∀u∈news,u.oneCell'=true:=fun u hu=>by
   obtain ⟨j,hj,e⟩:=List.getElem_of_mem hu
   exact (Xu j u (by rw [List.getElem?_eq_getElem hj,e])).2.2
  have PR:news.length=ys.length * i.size:=by rw [Bq]; exact IE
  have My:(es.length+ys.length) * i.bytes<=140737488355328:=by rw [WQ,<-List.length_append]; exact hb
  rcases QX with ⟨rfl,rfl⟩ | ⟨a',rfl,hR,-⟩ | ⟨q,b,cap,cur,rfl,rfl,h1,h2,h3,h4,hR⟩
  ·have hr:=run_append_nil (P:=P) w ty rt e i zv hu hi hz ay ys.length c news PR Ko Hi oM (by simp only [List.length_nil,Nat.zero_add] at My; omega)
   have CO:=grownCap_ge w ys.length 0 e
   have VU:=grownCap_le_maxLen w ys.length 0 e (by simpa using WR)
   obtain ⟨g',l',k1,k2⟩:=PO h hq (e:=e) VJ (es:=[]) (olds:=[]) Od (fun i h=>by simp at h) Kj .nil hn sM M4 (by simpa using CO) VU
   simp only [List.length_nil,Nat.zero_add,Array.empty_append,List.nil_append] at k1 k2
   exact ⟨_,_,g',l',hr,by simpa using k1,by simpa using k2⟩
  ·obtain ⟨-,-,-,J8,olds,ho,TR,hoc⟩:=hR.flat
   have Xt:∀u∈olds,u.oneCell'=true:=fun u hu=>by
    obtain ⟨j,hj,e⟩:=List.getElem_of_mem hu
    exact (hoc j u (by rw [List.getElem?_eq_getElem hj,e])).2.2
   have hr:=run_append_grow (P:=P) w ty rt e i zv hu hi hz a' es.length es.length olds (by rw [Bq]; exact TR) (fun j v hj=>(hoc j v hj).1) ay ys.length c news PR Ko oM oM (growslice_fits oM My)
   have CO:=grownCap_ge w (es.length+ys.length) es.length e
   have VU:=grownCap_le_maxLen w (es.length+ys.length) es.length e WR
   obtain ⟨g',l',k1,k2⟩:=PO h hq (e:=e) VJ Od J8 Kj ho hn Xt M4 CO VU
   exact ⟨_,_,g',l',hr,k1,k2⟩
  ·obtain ⟨hle,-,J8,olds,ho,TR,-,hoc⟩:=hR.flat h3 h4
   by_cases Gi:es.length+ys.length<=cap
   ·have hr:=run_append_room (P:=P) w ty rt e i hu hi b es.length cap cur h3 ay ys.length c news PR Ko M4 Gi (by rw [Bq,IE,h4,<-Nat.add_mul]; exact Nat.mul_le_mul_right _ Gi)
    obtain ⟨g',l',k1,-,k3⟩:=h.fN (q := .t d) VJ (hp q rfl) hq h1 h2 h3 h4 hR Kj news hn M4 Gi
    rw [Bq] at hr
    exact ⟨_,_,g',l',hr,k1,k3⟩
   ·have Xt:∀u∈olds,u.oneCell'=true:=fun u hu=>by
     obtain ⟨j,hj,e⟩:=List.getElem_of_mem hu
     exact (hoc j u (by rw [List.getElem?_eq_getElem hj,e])).2
    have hr:=run_append_grow (P:=P) w ty rt e i zv hu hi hz ⟨b,0,none⟩ es.length cap olds (by rw [Bq]; exact TR) (fun j v hj=>by rw [QO]; exact (hoc j v hj).1) ay ys.length c news PR Ko oM oM (growslice_fits oM My)
    have CO:=grownCap_ge w (es.length+ys.length) cap e
    have VU:=grownCap_le_maxLen w (es.length+ys.length) cap e WR
    obtain ⟨g',l',k1,k2⟩:=PO h hq (e:=e) VJ Od J8 Kj ho hn Xt M4 CO VU
    exact ⟨_,_,g',l',hr,k1,k2⟩
theorem M7{ly:LV}{ys:List (List PV)}{z:Nat}{u:UL}{v:Value}(h:OJ ly=some ys)(hz:okZ z ly=true)(hr:Cq g l w u ly v) :
  (ys=[]/\∃A c,v = .slice A 0 c)∨∃ay c,v = .slice (some ay) ys.length c/\BJ g w (.sl z ys) v:=by
 unfold OJ at h
 split at h
 ·injection h with h; subst h; cases hr; exact .inl ⟨rfl,_,_,rfl⟩
 ·rename_i hn
  simp only [Option.map_eq_some_iff] at h
  obtain ⟨⟨z',es⟩,hs,rfl⟩:=h
  have TS:z'=z:=by
   have Bq:pU ly=some z':=by
    unfold pU
    split
    ·exact absurd rfl hn
    ·rw [hs]; rfl
   unfold okZ at hz
   rw [Bq] at hz
   simpa using hz
  subst TS
  have fS:=Eo (Ml hs) hr
  cases fS with
  | slnil=>exact .inl ⟨rfl,_,_,rfl⟩
  | sl _ _ ay cap vs k1 k2 k3 k4 k5 k6 k7=>exact .inr ⟨ay,cap,rfl,.sl _ _ ay cap vs k1 k2 k3 k4 k5 k6 k7⟩
theorem EX:∀ {vs:List Value} {ps:List PV},eL vs=some ps->ps.length=vs.length
 | [],ps,h=>by simp only [eL,Option.some.injEq] at h; subst h; rfl
 | v::r,ps,h=>by
  simp only [eL] at h
  split at h
  ·rename_i p qs h1 h2
   injection h with h
   subst h
   simp [EX h2]
  ·cases h
theorem PS{ty:TypeId}{x y:Operand}(ho:o.op = .call { callee := .builtin .append,args:=#[x,y],argTypes:=#[ty,ty] })(h:Bb cx s g l a w)(hw:(SL P cx.n o ty x y).wp s K):Bc P cx s o K a w:=by
 unfold SL at hw
 split at hw
 ·rename_i e d he hd
  have hu:=Eh he
  split at hw
  ·rename_i m B zs hm hB hz
   split at hw
   ·rename_i hc
    obtain ⟨hdn,Rb,KX⟩:=hc
    obtain ⟨lx,ux,h1,r1,hu1⟩:=C2 h hw
    obtain ⟨ly,uy,h2,r2,-⟩:=C2 h h1
    obtain ⟨i,zv,z1,z2,z3⟩:=F4 hz
    have Bq:i.size=m+1:=by simpa [KW,z1] using hm
    have WQ:i.bytes=B+1:=by simpa [Fq,z1] using hB
    have Od:zv.cells.size=m+1:=by rw [<-Array.length_toList,<-EX z3]; exact Rb
    split at h2
    ·rename_i es ys J8 Kj
     split at h2
     ·rename_i E5
      have hb:=of_decide_eq_true h2.1; replace h2:=h2.2
      have hy:=M7 Kj E5 r2
      have hex:∀v' w',(Builtin.append_ #[ty,ty] o.type #[a.eval x,a.eval y]).run P w = .ok v' w'->(execOp a.eval o).run P w = .ok (.value v') w':=by
       intro v' w' hr
       simp only [execOp,ho,resolve,invoke,builtin,Sem.run_bind,Sem.run_pure,Result.andThen_ok,List.map_toArray,List.map_cons,List.map_nil,hr]
      have plain:Xs g l w e e (m+1) none es (a.eval x)->K [.tmp d (.uniq e (m+1) (es++ys))]->Bc P cx s o K a w:=by
       intro QX hK
       have PK:Bb cx { s with tmps:=put s.tmps d .Dx } g l a w:=by
        refine h.eM (fun k v hk=>?_) (E4 F7.refl _) (E4 F7.refl _)
        simp only [Be] at hk
        split at hk
        ·injection hk with hk; exact .inl hk.symm
        ·exact .inr ⟨v,hk,WL.refl v⟩
       obtain ⟨v',w',g',l',k1,k2,k3⟩:=Ra (rt:=o.type) (Sv KX) (p:=none) PK hu z1 z2 Bq WQ Od (fQ sM) (fun q hq=>by cases hq) QX hy hb
       intro Q
       unfold Oper.wp
       rw [hex v' w' k1,Oper.upon_value,hd]
       refine ⟨_,g',l',hK,(k2.set hdn k3).congr (fun k=>?_) (fun _=>rfl) (fun _=>rfl)⟩
       simp only [S.HY,S.wr,Be]
       split <;> rfl
      unfold A0h at J8
      split at J8
      ·injection J8 with J8
       subst J8
       refine plain (.inl ⟨?_,rfl⟩) h2
       generalize a.eval x=vx at r1
       cases r1; rfl
      ·rename_i z' es'
       split at J8
       ·rename_i TS
        subst TS
        injection J8 with J8
        subst J8
        refine plain ?_ h2
        rcases r1 with ⟨k1,k2⟩ | ⟨a',k1,k2⟩
        ·exact .inl ⟨k1,k2⟩
        ·exact .inr (.inl ⟨a',k1,k2,KX⟩)
       ·cases J8
      ·rename_i e' z' es'
       split at J8
       ·rename_i TS
        obtain ⟨rfl,rfl⟩:=TS
        injection J8 with J8
        subst J8
        obtain ⟨t,rfl,rfl,ht⟩:=hu1 _ _ _ rfl
        simp only at h2
        split at h2
        ·rename_i D4
         have key:∀lf:LV,(lf = .Dx∨lf = .v (.sl (m+1) es')/\e'<1000000)->K [.tmp t lf,.tmp d (.uniq e' (m+1) (es'++ys))]->Bc P cx s o K a w:=by
          intro lf hlf hK
          have PK:Bb cx { s with tmps:=put (put s.tmps t lf) d .Dx } g l a w:=by
           refine h.eM (fun k v hk=>?_) (E4 F7.refl _) (E4 F7.refl _)
           simp only [Be] at hk
           split at hk
           ·injection hk with hk; exact .inl hk.symm
           ·split at hk
            ·rename_i e0; subst e0; injection hk with hk; subst hk; rcases hlf with rfl | ⟨rfl,Ag⟩; exact .inl rfl; exact .inr ⟨_,ht,.inr ⟨rfl,pJ Ag⟩⟩
            ·exact .inr ⟨v,hk,WL.refl v⟩
          have QX:Xs g l w (jU e') e' (m+1) (some (.t t)) es' (a.eval (.tmp t)):=by
           rcases r1 with (⟨k1,k2⟩ | ⟨a',k1,k2,k3⟩) | ⟨b,cap,cur,k1,k2,k3,k4,k5,k6⟩
           ·exact .inl ⟨k1,k2⟩
           ·exact .inr (.inl ⟨a',k1,k2,k3⟩)
           ·exact .inr (.inr ⟨.t t,b,cap,cur,rfl,k1,k2,k3,k4,k5,k6⟩)
          obtain ⟨v',w',g',l',k1,k2,k3⟩:=Ra (rt:=o.type) rfl (p:=some (.t t)) (d:=d) PK hu z1 z2 Bq WQ Od (fun e2 z2 SK he=>by simp only [Be,if_true] at he; injection he with he; cases he)
           (fun q hq=>by
            injection hq with hq
            subst hq
            intro e2 z2 SK he
            simp only [Be,iN (Ne.symm D4),if_true] at he
            injection he with he
            rcases hlf with h0 | ⟨h0,-⟩ <;> (rw [h0] at he; cases he)) QX hy hb
          intro Q
          unfold Oper.wp
          rw [hex v' w' k1,Oper.upon_value,hd]
          refine ⟨_,g',l',hK,(k2.set hdn k3).congr (fun k=>?_) (fun _=>rfl) (fun _=>rfl)⟩
          simp only [S.HY,S.wr,Be]
          split <;> rfl
         split at h2
         ·rename_i Ag; exact key _ (.inr ⟨rfl,Ag⟩) h2
         ·exact key _ (.inl rfl) h2
        ·exact h2.elim
       ·cases J8
      ·cases J8
     ·exact h2.elim
    ·exact h2.elim
   ·exact hw.elim
  ·exact hw.elim
 ·exact hw.elim
end
def E7{κ:Type} [DecidableEq κ] (k:κ):List (κ × PV)->Option PV
 | []=>none
 | x::r=>if x.1=k then some x.2 else E7 k r
def Ep{κ:Type} [DecidableEq κ] (k:κ) (v:PV):List (κ × PV)->List (κ × PV)
 | []=>[(k,v)]
 | x::r=>if x.1=k then (k,v)::r else x::Ep k v r
theorem Jb{κ:Type} [DecidableEq κ] {k:κ}:∀ {es:List (κ × PV)},(∀x∈es,x.1≠k)->E7 k es=none
 | [],_=>rfl
 | x::r,h=>by
  simp only [E7,h x sM,if_false]
  exact Jb fun y hy=>h y (List.mem_cons_of_mem _ hy)
theorem Mz{κ:Type} [DecidableEq κ] {k:κ} {v:PV}:∀ {es:List (κ × PV)},(∀x∈es,x.1≠k)->Ep k v es=es++[(k,v)]
 | [],_=>rfl
 | x::r,h=>by
  simp only [Ep,h x sM,if_false,List.cons_append]
  rw [Mz fun y hy=>h y (List.mem_cons_of_mem _ hy)]
theorem TT{κ:Type} [DecidableEq κ] {k:κ}:∀ {es:List (κ × PV)} {j:Nat} (hj:j<es.length),es[j].1=k->(∀i (h:i<es.length),i<j->es[i].1≠k)->E7 k es=some es[j].2
 | [],j,hj,_,_=>by simp at hj
 | x::r,0,_,h,_=>by simp only [List.getElem_cons_zero] at h; simp [E7,h]
 | x::r,j+1,hj,h,hn=>by
  have h0:=hn 0 sM oM
  simp only [List.getElem_cons_zero] at h0
  simp only [E7,h0,if_false,List.getElem_cons_succ]
  exact TT (by simpa using hj) (by simpa using h) fun i hi TU=>hn (i+1) (by simpa using hi) oM
theorem TV{κ:Type} [DecidableEq κ] {k:κ} {v:PV}:∀ {es:List (κ × PV)} {j:Nat} (hj:j<es.length),es[j].1=k->(∀i (h:i<es.length),i<j->es[i].1≠k)->Ep k v es=es.set j (k,v)
 | [],j,hj,_,_=>by simp at hj
 | x::r,0,_,h,_=>by simp only [List.getElem_cons_zero] at h; simp [Ep,h]
 | x::r,j+1,hj,h,hn=>by
  have h0:=hn 0 sM oM
  simp only [List.getElem_cons_zero] at h0
  simp only [Ep,h0,if_false,List.set_cons_succ]
  rw [TV (by simpa using hj) (by simpa using h) fun i hi TU=>hn (i+1) (by simpa using hi) oM]
def JJ{κ:Type} [DecidableEq κ] (k:κ):List (κ × PV)->List (κ × PV)
 | []=>[]
 | x::r=>if x.1=k then r else x::JJ k r
theorem OK{κ:Type} [DecidableEq κ] {k:κ}:∀ {es:List (κ × PV)},(∀x∈es,x.1≠k)->JJ k es=es
 | [],_=>rfl
 | x::r,h=>by
  simp only [JJ,h x sM,if_false]
  rw [OK fun y hy=>h y (List.mem_cons_of_mem _ hy)]
theorem PT{κ:Type} [DecidableEq κ] {k:κ}:∀ {es:List (κ × PV)} {j:Nat} (hj:j<es.length),es[j].1=k->(∀i (h:i<es.length),i<j->es[i].1≠k)->JJ k es=es.eraseIdx j
 | [],j,hj,_,_=>by simp at hj
 | x::r,0,_,h,_=>by simp only [List.getElem_cons_zero] at h; simp [JJ,h]
 | x::r,j+1,hj,h,hn=>by
  have h0:=hn 0 sM oM
  simp only [List.getElem_cons_zero] at h0
  simp only [JJ,h0,if_false,List.eraseIdx_cons_succ]
  rw [PT (by simpa using hj) (by simpa using h) fun i hi TU=>hn (i+1) (by simpa using hi) oM]
structure MA {κ:Type} (d:TypeDesc) (kv:κ->Value):Prop where
 key:∀k,MapKept.IsKey d (kv k)
 inj:∀ {a b},kv a=kv b->a=b
theorem Xv:MA .string Value.string:=⟨fun _=>trivial,fun h=>by injection h⟩
theorem Xw:MA (.int .i64) (Value.int .i64):=⟨fun _=>rfl,fun h=>by injection h⟩
section
variable {P:Program} {cx:Cx} {s t:S} {g:Gh} {l:LG} {a:Act} {w:World} {o:Oper} {K:List Wr->Prop}
section
variable {κ:Type} {d:TypeDesc} {kv:κ->Value} {es:List (κ × PV)} {arr:Array MapEntry} {clock:Nat}
theorem GX.keys(ko:MA d kv)(h:GX kv g w es arr clock):∀x∈arr.toList,MapKept.IsKey d x.key:=fun x hx=>by
 obtain ⟨-,h2,h3⟩:=h
 obtain ⟨j,hj,e⟩:=List.getElem_of_mem hx
 have Cu:j<arr.size:=by simpa using hj
 have:=(h3 j oM Cu).1
 have e':arr[j]=x:=by simpa using e
 rw [e'] at this
 rw [this]
 exact ko.key _
theorem GX.find(ko:MA d kv)(h:GX kv g w es arr clock)(k:κ) :
  (Instr.findNow d (kv k) arr.toList 0=some none/\(∀x∈arr.toList,x.key≠kv k)/\∀x∈es,x.1≠k) ∨
  ∃ (j:Nat) (hj:j<es.length) (Cu:j<arr.size),Instr.findNow d (kv k) arr.toList 0=some (some (j,arr[j].val))/\arr[j].key=kv k/\es[j].1=k/\(∀i (h:i<es.length),i<j->es[i].1≠k):=by
 have hk:=h.keys ko
 obtain ⟨hs,h2,h3⟩:=h
 rcases MapKept.findNow_spec (d:=d) (k:=kv k) (ko.key k) arr.toList 0 hk with ⟨h4,h5⟩ | ⟨j,e,h4,h5,h6⟩
 ·refine .inl ⟨h4,h5,fun x hx e=>?_⟩
  obtain ⟨j,hj,e1⟩:=List.getElem_of_mem hx
  have Cu:j<arr.size:=by omega
  have:=(h3 j hj Cu).1
  exact h5 arr[j] sM (by rw [this,e1,e])
 ·rw [Nat.zero_add] at h4
  have Cu:j<arr.size:=by simpa using (List.getElem?_eq_some_iff.1 h5).1
  have e1:arr[j]=e:=by
   have:=(List.getElem?_eq_some_iff.1 h5).2
   simpa using this
  have hj:j<es.length:=by omega
  subst e1
  have hkj:=(h3 j hj Cu).1
  refine .inr ⟨j,hj,Cu,h4,h6,?_,fun i hi TU ei=>?_⟩
  ·rw [hkj] at h6; exact ko.inj h6
  ·have OL:i<arr.size:=by omega
   have pV:=(h3 i hi OL).1
   have hnd:=hs.2.2
   have h7:(arr.toList.map (·.key))[i]'(by simpa using OL)=(arr.toList.map (·.key))[j]'(by simpa using Cu):=by simp [pV,h6,ei]
   exact List.pairwise_iff_getElem.1 hnd i j (by simpa using OL) (by simpa using Cu) TU h7
theorem GX.Dz [DecidableEq κ] (ko:MA d kv) (hR:GX kv g w es arr clock) {kt et ty:TypeId} (hu:P.underlying ty=some (.map kt et)) (hk:P.underlying kt=some d) {b:Nat} (hh:w.heap[b]?=some (.map arr clock)) (k:κ) {x:Value} {px:PV} (r3:BJ g w px x) :
  ∃E8 Cb,(Instr.mapUpdate ty (.map (some b)) (kv k) x).run P w = .ok () { w with heap:=w.heap.setIfInBounds b (.map E8 Cb) }/\GX kv g w (Ep k px es) E8 Cb:=by
 rcases hR.find ko k with ⟨f1,f2,f3⟩ | ⟨j,hj,Cu,f1,f2,f3,f4⟩
 ·refine ⟨arr.push { key:=kv k,val:=x,born:=clock },clock+1,?_,?_⟩
  ·simp [Instr.mapUpdate,run_underlying hu,MapKept.run_getObj_map hh,MapKept.run_checkKey hk (ko.key k),MapKept.run_findKey hk f1,MapKept.run_setObj_map _ hh,Result.andThen]
  ·rw [Mz f3]
   obtain ⟨q1,q2,q3⟩:=hR
   refine ⟨MapKept.stamped_push q1 f2,by simp [q2],fun j hj Cu=>?_⟩
   by_cases hjl:j<es.length
   ·have hja:j<arr.size:=by omega
    rw [List.getElem_append_left hjl,Array.getElem_push_lt hja]
    exact q3 j hjl hja
   ·have hje:j=es.length:=by simp at hj; omega
    subst hje
    simp only [List.getElem_append_right (Nat.le_refl _),Nat.sub_self,List.getElem_cons_zero]
    have:(arr.push { key:=kv k,val:=x,born:=clock })[es.length]={ key:=kv k,val:=x,born:=clock }:=by simp [<-q2]
    rw [this]
    exact ⟨rfl,r3⟩
 ·refine ⟨arr.modify j fun e=>{ e with key:=kv k,val:=x },clock,?_,?_⟩
  ·have hja:arr[j]?=some arr[j]:=Array.getElem?_eq_getElem Cu
   simp [Instr.mapUpdate,run_underlying hu,MapKept.run_getObj_map hh,MapKept.run_checkKey hk (ko.key k),MapKept.run_findKey hk f1,hja,f2,MapKept.run_keyThatStays (d:=d) (k:=kv k) (ko.key k),MapKept.run_setObj_map _ hh,Result.andThen]
  ·rw [TV hj f3 f4]
   obtain ⟨q1,q2,q3⟩:=hR
   refine ⟨MapKept.stamped_modify q1 _ _ (fun _ _=>rfl) (fun e' _ fU=>?_),by simp [q2],fun i hi OL=>?_⟩
   ·rw [Array.getElem?_eq_getElem Cu] at fU
    injection fU with fU
    rw [<-fU,f2]
   ·have hi2:i<es.length:=by simpa using hi
    have hi3:i<arr.size:=by simpa using OL
    rw [Array.getElem_modify,List.getElem_set]
    by_cases TU:j=i
    ·subst TU; simp only [if_true]; exact ⟨trivial,r3⟩
    ·simp only [TU,if_false]; exact q3 i hi2 hi3
theorem GX.del [DecidableEq κ] (ko:MA d kv) (hR:GX kv g w es arr clock) {kt et ty Xx ty3:TypeId} (hu:P.underlying ty=some (.map kt et)) (hk:P.underlying kt=some d) {b:Nat} (hh:w.heap[b]?=some (.map arr clock)) (k:κ) :
  ∃E8 Cb,(Builtin.delete_ #[ty,Xx] ty3 #[.map (some b),kv k]).run P w = .ok (.tuple #[]) { w with heap:=w.heap.setIfInBounds b (.map E8 Cb) }/\GX kv g w (JJ k es) E8 Cb:=by
 rcases hR.find ko k with ⟨f1,f2,f3⟩ | ⟨j,hj,Cu,f1,f2,f3,f4⟩
 ·refine ⟨arr,clock,?_,?_⟩
  ·simp [Builtin.delete_,run_underlying hu,MapKept.run_getObj_map hh,MapKept.run_checkKey hk (ko.key k),MapKept.run_findKey hk f1,MapKept.run_setObj_map _ hh,Result.andThen]
  ·rw [OK f3]; exact hR
 ·refine ⟨arr.eraseIdxIfInBounds j,clock,?_,?_⟩
  ·simp [Builtin.delete_,run_underlying hu,MapKept.run_getObj_map hh,MapKept.run_checkKey hk (ko.key k),MapKept.run_findKey hk f1,MapKept.run_setObj_map _ hh,Result.andThen]
  ·rw [PT hj f3 f4]
   obtain ⟨q1,q2,q3⟩:=hR
   have e:arr.eraseIdxIfInBounds j=arr.eraseIdx j Cu:=by unfold Array.eraseIdxIfInBounds; rw [dif_pos Cu]
   refine ⟨MapKept.stamped_erase q1 j,by rw [e,Array.size_eraseIdx,List.length_eraseIdx_of_lt hj,q2],fun i hi OL=>?_⟩
   have hi2:i<es.length - 1:=by rw [List.length_eraseIdx_of_lt hj] at hi; exact hi
   simp only [e]
   rw [Array.getElem_eraseIdx,List.getElem_eraseIdx]
   by_cases TU:i<j
   ·rw [dif_pos TU,dif_pos TU]; exact q3 i oM oM
   ·rw [dif_neg TU,dif_neg TU]; exact q3 (i+1) oM oM
end
theorem Rc{b:Nat}{arr E8:Array MapEntry}{clock Cb:Nat}(h4:w.heap[b]?=some (.map arr clock)):C0 g w g { w with heap:=w.heap.setIfInBounds b (.map E8 Cb) }:=by
 have hs:=MapKept.heap_set (o' := .map E8 Cb) h4
 refine ⟨fun _ _ e=>e,fun b' o v hc hf=>⟨?_,hf⟩,fun b' cur e hh=>?_,fun _ _ _ h=>h⟩
 ·have D4:b'≠b:=by
   rintro rfl
   unfold World.cell? at hc
   simp [h4] at hc
  rw [<-hc]
  exact World.cell?_of_block (hs.2 b' D4)
 ·have D4:b'≠b:=by rintro rfl; rw [h4] at hh; cases hh
  exact ⟨cur,(hs.2 b' D4).trans hh,rfl⟩
theorem Bb.kH(h:Bb cx s g l a w){i b:Nat}{es es':MM}{arr E8:Array MapEntry}{clock Cb:Nat}(hi:lk s.ext i=some [.mm es])(h1:g.X i=some b)(h2:l.O b=some (.x i))(h4:w.heap[b]?=some (.map arr clock))
  (hC:C0 g w g { w with heap:=w.heap.setIfInBounds b (.map E8 Cb) }->(w.heap.setIfInBounds b (.map E8 Cb))[b]?=some (.map E8 Cb)->Sw g { w with heap:=w.heap.setIfInBounds b (.map E8 Cb) } b es') :
  Bb cx { s with ext:=put s.ext i [.mm es'] } g l a { w with heap:=w.heap.setIfInBounds b (.map E8 Cb) }:=by
 have hs:=MapKept.heap_set (o' := .map E8 Cb) h4
 have hm:C0 g w g { w with heap:=w.heap.setIfInBounds b (.map E8 Cb) }:=Rc h4
 have D4:∀ {b' o},l.O b'=some o->o ≠ .x i->b'≠b:=fun {b' o} ho hn e=>by
  subst e
  rw [h2] at ho
  injection ho with ho
  exact hn ho.symm
 have hL:∀ {p lv v},Cq g l w p lv v->Cq g l { w with heap:=w.heap.setIfInBounds b (.map E8 Cb) } p lv v:=fun hr=>hr.BN hm (fun _ _ _=>rfl) fun b' hu=>⟨hu,rfl,hs.2 b' (D4 (h.uo _ _ hu) sM)⟩
 refine ⟨⟨h.AV.mono.trans hm,by simpa using h.AV.size,fun b' Ag ho=>?_,h.AV.os,h.AV.tape,h.AV.output,h.AV.JH.mono hm⟩,h.size,h.defers,fun t lv ht=>hL (h.tm t lv ht),?_,?_,?_,h.uo,?_,?_⟩
 ·have hnb:b'≠b:=by
   rintro rfl
   rcases (h.own b' _ h2).2 with hb | hb
   ·omega
   ·exact ho hb
  obtain ⟨k1,k2⟩:=h.AV.frame b' Ag ho
  exact ⟨(hs.2 b' hnb).trans k1,k2⟩
 ·intro k Ki hk
  obtain ⟨b',k1,k2,k3,cur',e',k4,k5,k6⟩:=h.bx k Ki hk
  have hn:=D4 k2 sM
  exact ⟨b',k1,k2,k3,cur',e',(hs.2 b' hn).trans k4,k5,fun j hj=>⟨(k6 j hj).1,(k6 j hj).2.1,hL (k6 j hj).2.2⟩⟩
 ·intro k Ki hk
  rw [Be] at hk
  split at hk
  ·rename_i ek
   subst ek
   injection hk with hk
   subst hk
   exact ⟨b,h1,h2,.inr (.inl ⟨es',rfl,hC hm hs.1⟩)⟩
  ·rename_i ek
   obtain ⟨b',k1,k2,hE⟩:=h.ex k Ki hk
   have hn:=D4 k2 (by simp; exact fun e=>ek e.symm)
   refine ⟨b',k1,k2,?_⟩
   rcases hE with ⟨k3,cur',e',k4,k5,k6⟩ | hE
   ·exact .inl ⟨k3,cur',e',(hs.2 b' hn).trans k4,k5,fun j hj=>⟨(k6 j hj).1,(k6 j hj).2.1,hL (k6 j hj).2.2⟩⟩
   ·exact .inr (hE.BN hm (fun _ _ _ h=>h) rfl (hs.2 b' hn))
 ·intro b' o ho
  simpa using h.own b' o ho
 ·exact ⟨fun b' GY=>h.fresh.1 b' (by simpa using GY),fun n hn=>h.fresh.2.1 n (by rw [Dr hi] at hn; exact hn),fun n c hn=>h.fresh.2.2 n c (by rw [Dr hi] at hn; exact hn)⟩
 ·intro n b' hx
  simpa using h.Gg n b' hx
theorem Bb.Xy(h:Bb cx s g l a w){i:Nat}{es:MM}(hi:lk s.ext i=some [.mm es]):∃b,g.X i=some b/\l.O b=some (.x i)/\Sw g w b es:=by
 obtain ⟨b,h1,h2,hE⟩:=h.ex i _ hi
 replace h1:g.X i=some b:=h1
 rcases hE with ⟨-,cur,e,-,-,h6⟩ | ⟨SK,he,hM⟩ | ⟨n0,c0,ps0,-,e0,-⟩
 ·exact ((h6 0 sM).2.2).elim
 ·have fU:es=SK:=he
  subst fU
  exact ⟨b,h1,h2,hM⟩
 ·injection e0 with e0 _; cases e0
theorem Bb.Xz(h:Bb cx s g l a w){i:Nat}{es es':List (ByteArray × PV)}(hi:lk s.ext i=some [.mm (.s es)]) :
  ∃b arr clock,g.X i=some b/\w.heap[b]?=some (.map arr clock)/\GX Value.string g w es arr clock/\∀E8 Cb,GX Value.string g w es' E8 Cb->Bb cx { s with ext:=put s.ext i [.mm (.s es')] } g l a { w with heap:=w.heap.setIfInBounds b (.map E8 Cb) }:=by
 obtain ⟨b,h1,h2,hM,arr,clock,h4,hR⟩:=h.Xy hi
 exact ⟨b,arr,clock,h1,h4,hR,fun E8 Cb hR'=>h.kH hi h1 h2 h4 fun hm hs=>⟨hM,E8,Cb,hs,hR'.mono hm⟩⟩
theorem Bb.Rd(h:Bb cx s g l a w){i:Nat}{es es':List (Int × PV)}(hi:lk s.ext i=some [.mm (.i es)]) :
  ∃b arr clock,g.X i=some b/\w.heap[b]?=some (.map arr clock)/\GX (Value.int .i64) g w es arr clock/\∀E8 Cb,GX (Value.int .i64) g w es' E8 Cb->Bb cx { s with ext:=put s.ext i [.mm (.i es')] } g l a { w with heap:=w.heap.setIfInBounds b (.map E8 Cb) }:=by
 obtain ⟨b,h1,h2,hM,arr,clock,h4,hR⟩:=h.Xy hi
 exact ⟨b,arr,clock,h1,h4,hR,fun E8 Cb hR'=>h.kH hi h1 h2 h4 fun hm hs=>⟨hM,E8,Cb,hs,hR'.mono hm⟩⟩
def PU(P:Program)(t:TypeId):Option (Bool × TypeId):=match P.underlying t with
 | some (.map k e)=>match P.underlying k with
  | some .string=>some (true,e)
  | some (.int .i64)=>some (false,e)
  | _=>none
 | _=>none
theorem FR{q:Bool}{ty e:TypeId}(h:PU P ty=some (q,e)):∃k,P.underlying ty=some (.map k e)/\P.underlying k=some (if q then .string else .int .i64):=by
 unfold PU at h
 split at h
 ·rename_i k e' hu
  split at h
  ·rename_i hk; injection h with h; injection h with h1 h2; subst h1 h2; exact ⟨k,hu,hk⟩
  ·rename_i hk; injection h with h; injection h with h1 h2; subst h1 h2; exact ⟨k,hu,hk⟩
  ·cases h
 ·cases h
def TW(P:Program)(o:Oper)(ty:TypeId)(m k x:Operand):RM (List Wr):=match o.dst,PU P ty with
 | none,some (true,_)=>Fm m fun pm=>Fm k fun pk=>Fm x fun px=>match pm,pk with
  | .mp i,.str kb => .E6 i fun cs=>match cs with
   | [.mm (.s es)] => .ret [.ext i 0 [.mm (.s (Ep kb px es))]]
   | _ => .fail
  | _,_ => .fail
 | none,some (false,_)=>Fm m fun pm=>Fm k fun pk=>Fm x fun px=>match pm,pk with
  | .mp i,.int .i64 kb => .E6 i fun cs=>match cs with
   | [.mm (.i es)] => .ret [.ext i 0 [.mm (.i (Ep kb px es))]]
   | _ => .fail
  | _,_ => .fail
 | _,_ => .fail
theorem JK{i b:Nat}{v:Value}(r:BJ g w (.mp i) v)(hb:g.X i=some b):v = .map (some b):=by
 cases r with
 | mp _ b' hx=>rw [hb] at hx; injection hx with hx; rw [hx]
theorem OM{ty:TypeId}{m k x:Operand}(ho:o.op = .mapUpdate ty m k x∨o.op = .insert ty m k x)(hd:o.dst=none){i b:Nat}{es es':MM}{w':World}(CS:lk s.ext i=some [.mm es])(e1:a.eval m = .map (some b))
  (hr:(Instr.mapUpdate ty (.map (some b)) (a.eval k) (a.eval x)).run P w = .ok () w') (hs:Bb cx { s with ext:=put s.ext i [.mm es'] } g l a w') (h3:K [.ext i 0 [.mm es']]):Bc P cx s o K a w:=fun Q=>by
 have hex:(execOp a.eval o).run P w = .ok .skip w':=by
  rcases ho with ho | ho <;> simp only [execOp,ho,e1,Sem.run_bind,hr,Result.andThen_ok] <;> rfl
 unfold Oper.wp
 rw [hex,Oper.upon_skip,hd]
 refine ⟨_,g,l,h3,?_⟩
 have PN:s.HY [.ext i 0 [.mm es']]={ s with ext:=put s.ext i [.mm es'] }:=by simp only [S.HY,S.wr,CS]; rfl
 rw [PN]
 exact hs
theorem Lw{ty:TypeId}{m k x:Operand}(ho:o.op = .mapUpdate ty m k x∨o.op = .insert ty m k x)(h:Bb cx s g l a w)(hw:(TW P o ty m k x).wp s K):Bc P cx s o K a w:=by
 unfold TW at hw
 split at hw
 ·rename_i e hd hT
  obtain ⟨kt,hu,hk⟩:=FR hT
  obtain ⟨pm,h1,r1⟩:=AL h hw
  obtain ⟨pk,h2,r2⟩:=AL h h1
  obtain ⟨px,h3,r3⟩:=AL h h2
  split at h3
  ·rename_i i kb
   simp only [RM.wp] at h3
   split at h3
   ·rename_i cs CS
    split at h3
    ·rename_i es
     obtain ⟨b,arr,clock,hb,hh,hR,SN⟩:=h.Xz (es':=Ep kb px es) CS
     have e2:a.eval k = .string kb:=by generalize a.eval k=vk at r2; cases r2; rfl
     obtain ⟨E8,Cb,q1,q2⟩:=hR.Dz Xv hu hk hh kb r3
     exact OM ho hd CS (JK r1 hb) (by rw [e2]; exact q1) (SN _ _ q2) h3
    ·exact h3.elim
   ·exact h3.elim
  ·exact h3.elim
 ·rename_i e hd hT
  obtain ⟨kt,hu,hk⟩:=FR hT
  obtain ⟨pm,h1,r1⟩:=AL h hw
  obtain ⟨pk,h2,r2⟩:=AL h h1
  obtain ⟨px,h3,r3⟩:=AL h h2
  split at h3
  ·rename_i i kb
   simp only [RM.wp] at h3
   split at h3
   ·rename_i cs CS
    split at h3
    ·rename_i es
     obtain ⟨b,arr,clock,hb,hh,hR,SN⟩:=h.Rd (es':=Ep kb px es) CS
     have e2:a.eval k = .int .i64 kb:=by generalize a.eval k=vk at r2; cases r2; rfl
     obtain ⟨E8,Cb,q1,q2⟩:=hR.Dz Xw hu hk hh kb r3
     exact OM ho hd CS (JK r1 hb) (by rw [e2]; exact q1) (SN _ _ q2) h3
    ·exact h3.elim
   ·exact h3.elim
  ·exact h3.elim
 ·exact hw.elim
def SO(P:Program)(o:Oper)(ty:TypeId)(m k:Operand):RM (List Wr):=match o.dst,PU P ty with
 | none,some (true,_)=>Fm m fun pm=>Fm k fun pk=>match pm,pk with
  | .mp i,.str kb => .E6 i fun cs=>match cs with
   | [.mm (.s es)] => .ret [.ext i 0 [.mm (.s (JJ kb es))]]
   | _ => .fail
  | _,_ => .fail
 | none,some (false,_)=>Fm m fun pm=>Fm k fun pk=>match pm,pk with
  | .mp i,.int .i64 kb => .E6 i fun cs=>match cs with
   | [.mm (.i es)] => .ret [.ext i 0 [.mm (.i (JJ kb es))]]
   | _ => .fail
  | _,_ => .fail
 | _,_ => .fail
theorem MB{ty Xx:TypeId}{m k:Operand}(ho:o.op = .call ⟨.builtin .delete,⟨[m,k]⟩,⟨[ty,Xx]⟩⟩)(hd:o.dst=none){i b:Nat}{es es':MM}{w':World}(CS:lk s.ext i=some [.mm es])(e1:a.eval m = .map (some b))
  (hr:∀t3,(Builtin.delete_ #[ty,Xx] t3 #[.map (some b),a.eval k]).run P w = .ok (.tuple #[]) w') (hs:Bb cx { s with ext:=put s.ext i [.mm es'] } g l a w') (h3:K [.ext i 0 [.mm es']]):Bc P cx s o K a w:=fun Q=>by
 have hex:(execOp a.eval o).run P w = .ok (.value (.tuple #[])) w':=by
  simp [execOp,ho,resolve,invoke,builtin,e1,hr,Result.andThen]
 unfold Oper.wp
 rw [hex,Oper.upon_value,hd]
 refine ⟨_,g,l,h3,?_⟩
 have PN:s.HY [.ext i 0 [.mm es']]={ s with ext:=put s.ext i [.mm es'] }:=by simp only [S.HY,S.wr,CS]; rfl
 rw [PN]
 exact hs
theorem PX{ty Xx:TypeId}{m k:Operand}(ho:o.op = .call ⟨.builtin .delete,⟨[m,k]⟩,⟨[ty,Xx]⟩⟩)(h:Bb cx s g l a w)(hw:(SO P o ty m k).wp s K):Bc P cx s o K a w:=by
 unfold SO at hw
 split at hw
 ·rename_i e hd hT
  obtain ⟨kt,hu,hk⟩:=FR hT
  obtain ⟨pm,h1,r1⟩:=AL h hw
  obtain ⟨pk,h3,r2⟩:=AL h h1
  split at h3
  ·rename_i i kb
   simp only [RM.wp] at h3
   split at h3
   ·rename_i cs CS
    split at h3
    ·rename_i es
     obtain ⟨b,arr,clock,hb,hh,hR,SN⟩:=h.Xz (es':=JJ kb es) CS
     have e2:a.eval k = .string kb:=by generalize a.eval k=vk at r2; cases r2; rfl
     obtain ⟨E8,Cb,q1,q2⟩:=hR.del (Xx:=Xx) (ty3:=0) Xv hu hk hh kb
     exact MB ho hd CS (JK r1 hb) (by rw [e2]; exact fun t3=>q1) (SN _ _ q2) h3
    ·exact h3.elim
   ·exact h3.elim
  ·exact h3.elim
 ·rename_i e hd hT
  obtain ⟨kt,hu,hk⟩:=FR hT
  obtain ⟨pm,h1,r1⟩:=AL h hw
  obtain ⟨pk,h3,r2⟩:=AL h h1
  split at h3
  ·rename_i i kb
   simp only [RM.wp] at h3
   split at h3
   ·rename_i cs CS
    split at h3
    ·rename_i es
     obtain ⟨b,arr,clock,hb,hh,hR,SN⟩:=h.Rd (es':=JJ kb es) CS
     have e2:a.eval k = .int .i64 kb:=by generalize a.eval k=vk at r2; cases r2; rfl
     obtain ⟨E8,Cb,q1,q2⟩:=hR.del (Xx:=Xx) (ty3:=0) Xw hu hk hh kb
     exact MB ho hd CS (JK r1 hb) (by rw [e2]; exact fun t3=>q1) (SN _ _ q2) h3
    ·exact h3.elim
   ·exact h3.elim
  ·exact h3.elim
 ·exact hw.elim
def fV(P:Program)(t:TypeId):Option PV:=((P.info? t).bind (·.zero)).bind cv
theorem Re{t:TypeId}{z:PV}(h:fV P t=some z):∃v,(∀w,(zeroValue t).run P w = .ok v w)/\∀g w,BJ g w z v:=by
 unfold fV at h
 simp only [Option.bind_eq_some_iff] at h
 obtain ⟨v,⟨i,h1,h2⟩,h3⟩:=h
 exact ⟨v,fun w=>by simp [zeroValue,typeInfo,h1,h2],fun g w=>Xa h3⟩
def IJ(ok:Bool)(m:Option PV)(z:PV):PV:=match ok with
 | true => .AE [m.getD z,.bool m.isSome]
 | false=>m.getD z
def XA(P:Program)(n:Nat)(o:Oper)(ty:TypeId)(x k:Operand)(ok:Bool):RM (List Wr):=match PU P ty with
 | some (true,e)=>match fV P e with
  | some z=>Fm x fun px=>Fm k fun pk=>match px,pk with
   | .mp i,.str kb => .E6 i fun cs=>match cs with
    | [.mm (.s es)]=>wv n o (.v (IJ ok (E7 kb es) z))
    | _ => .fail
   | .X3,.str _=>wv n o (.v (IJ ok none z))
   | _,_ => .fail
  | none => .fail
 | some (false,e)=>match fV P e with
  | some z=>Fm x fun px=>Fm k fun pk=>match px,pk with
   | .mp i,.int .i64 kb => .E6 i fun cs=>match cs with
    | [.mm (.i es)]=>wv n o (.v (IJ ok (E7 kb es) z))
    | _ => .fail
   | _,_ => .fail
  | none => .fail
 | none => .fail
theorem L3{ok:Bool}{z:PV}{m:Option PV}{v:Value}(hr:BJ g w (m.getD z) v):BJ g w (IJ ok m z) (if ok then .tuple #[v,.bool m.isSome] else v):=by
 cases ok with
 | true=>
  refine .AE [m.getD z,.bool m.isSome] [v,.bool m.isSome] rfl fun j hj Cu=>?_
  match j,hj with
  | 0,_=>exact hr
  | 1,_=>exact .bool _
 | false=>exact hr
theorem GX.look{κ:Type} [DecidableEq κ] {d:TypeDesc} {kv:κ->Value} {es:List (κ × PV)} {arr:Array MapEntry} {clock:Nat} (ko:MA d kv) (hR:GX kv g w es arr clock) {kt et ty:TypeId} (hu:P.underlying ty=some (.map kt et)) (hk:P.underlying kt=some d) {b:Nat} (hh:w.heap[b]?=some (.map arr clock)) (k:κ)
  {z:PV} {zv:Value} (eP:∀w,(zeroValue et).run P w = .ok zv w) (fW:∀g w,BJ g w z zv) (ok:Bool):∃v,(Instr.lookup ty (.map (some b)) (kv k) ok).run P w = .ok v w/\BJ g w (IJ ok (E7 k es) z) v:=by
 rcases hR.find ko k with ⟨f1,f2,f3⟩ | ⟨j,hj,Cu,f1,f2,f3,f4⟩
 ·rw [Jb f3]
  refine ⟨if ok then .tuple #[zv,.bool false] else zv,?_,L3 (m:=none) (fW g w)⟩
  simp [Instr.lookup,run_underlying hu,MapKept.run_getObj_map hh,MapKept.run_checkKey hk (ko.key k),MapKept.run_findKey hk f1,eP,Result.andThen]
 ·rw [TT hj f3 f4]
  refine ⟨if ok then .tuple #[arr[j].val,.bool true] else arr[j].val,?_,L3 (m:=some es[j].2) (hR.2.2 j hj Cu).2⟩
  simp [Instr.lookup,run_underlying hu,MapKept.run_getObj_map hh,MapKept.run_checkKey hk (ko.key k),MapKept.run_findKey hk f1,Result.andThen]
theorem Rf{ty:TypeId}{x k:Operand}{ok:Bool}(ho:o.op = .lookup ty x k ok)(h:Bb cx s g l a w)(hw:(XA P cx.n o ty x k ok).wp s K):Bc P cx s o K a w:=by
 have hex:∀v,(Instr.lookup ty (a.eval x) (a.eval k) ok).run P w = .ok v w->(execOp a.eval o).run P w = .ok (.value v) w:=fun v hr=>by
  simp only [execOp,ho,Sem.run_bind,hr,Result.andThen_ok]; rfl
 unfold XA at hw
 split at hw
 ·rename_i e hT
  obtain ⟨kt,hu,hk⟩:=FR hT
  split at hw
  ·rename_i z hz
   obtain ⟨zv,eP,fW⟩:=Re hz
   obtain ⟨px,h1,r1⟩:=AL h hw
   obtain ⟨pk,h2,r2⟩:=AL h h1
   split at h2
   ·rename_i i kb
    simp only [RM.wp] at h2
    split at h2
    ·rename_i cs CS
     split at h2
     ·rename_i es
      obtain ⟨b,arr,clock,hb,hh,hR,-⟩:=h.Xz (es':=[]) CS
      have e2:a.eval k = .string kb:=by generalize a.eval k=vk at r2; cases r2; rfl
      obtain ⟨v,k1,k2⟩:=hR.look Xv hu hk hh kb eP fW ok
      exact Bc.value h2 h (fun _=>k2) (hex _ (by rw [JK r1 hb,e2]; exact k1))
     ·exact h2.elim
    ·exact h2.elim
   ·rename_i kb
    have e1:a.eval x = .map none:=by generalize a.eval x=vm at r1; cases r1; rfl
    have e2:a.eval k = .string kb:=by generalize a.eval k=vk at r2; cases r2; rfl
    rw [e1,e2] at hex
    refine Bc.value (v:=if ok then .tuple #[zv,.bool false] else zv) h2 h (fun _=>L3 (m:=none) (fW g w)) (hex _ ?_)
    simp [Instr.lookup,run_underlying hu,MapKept.run_checkKey hk (show MapKept.IsKey .string (.string kb) from trivial),MapKept.run_findKey hk (l:=[]) (a:=none) (k := .string kb) rfl,eP,Result.andThen]
   ·exact h2.elim
  ·exact hw.elim
 ·rename_i e hT
  obtain ⟨kt,hu,hk⟩:=FR hT
  split at hw
  ·rename_i z hz
   obtain ⟨zv,eP,fW⟩:=Re hz
   obtain ⟨px,h1,r1⟩:=AL h hw
   obtain ⟨pk,h2,r2⟩:=AL h h1
   split at h2
   ·rename_i i kb
    simp only [RM.wp] at h2
    split at h2
    ·rename_i cs CS
     split at h2
     ·rename_i es
      obtain ⟨b,arr,clock,hb,hh,hR,-⟩:=h.Rd (es':=[]) CS
      have e2:a.eval k = .int .i64 kb:=by generalize a.eval k=vk at r2; cases r2; rfl
      obtain ⟨v,k1,k2⟩:=hR.look Xw hu hk hh kb eP fW ok
      exact Bc.value h2 h (fun _=>k2) (hex _ (by rw [JK r1 hb,e2]; exact k1))
     ·exact h2.elim
    ·exact h2.elim
   ·exact h2.elim
  ·exact hw.elim
 ·exact hw.elim
def XB(n:Nat)(o:Oper)(it:Operand):RM (List Wr):=Fm it fun p=>match p with
 | .xp k 0 => .E6 k fun cs=>match cs with
  | [.mm (.it i)] => .E6 i fun ds=>match ds with
   | [.mm (.s [])]=>wv n o (.v (.AE [.bool false]))
   | [.mm (.i [])]=>wv n o (.v (.AE [.bool false]))
   | _ => .fail
  | _ => .fail
 | _ => .fail
theorem XC{b bm since last clock:Nat}{ty:TypeId}(h1:w.heap[b]?=some (.mapIter (some bm) since #[] last))(h2:w.heap[bm]?=some (.map #[] clock)) :
  (Instr.next (.pointer (some ⟨b,0,none⟩)) false ty).run P w = .ok (.tuple #[.bool false]) w:=by
 have e1:(getObj b).run P w = .ok (.mapIter (some bm) since #[] last) w:=by simp [getObj,Sem.run,h1]
 have e2:(getObj bm).run P w = .ok (.map #[] clock) w:=by simp [getObj,Sem.run,h2]
 simp [Instr.next,e1,e2,Result.andThen,Sem.run,choose,Question.forced]
theorem Rg{it:Operand}(ho:o.op = .next it false)(h:Bb cx s g l a w)(hw:(XB cx.n o it).wp s K):Bc P cx s o K a w:=by
 unfold XB at hw
 obtain ⟨p,h1,r1⟩:=AL h hw
 split at h1
 ·rename_i k
  simp only [RM.wp] at h1
  split at h1
  ·rename_i cs CS
   split at h1
   ·rename_i i
    simp only [RM.wp] at h1
    split at h1
    ·rename_i ds Mv
     obtain ⟨b,hb,-,hM⟩:=h.Xy CS
     obtain ⟨-,bm,since,last,hX,hh⟩:=hM
     have e1:a.eval it = .pointer (some ⟨b,0,none⟩):=by
      generalize a.eval it=v at r1
      cases r1 with
      | xp _ _ b' hx=>rw [hb] at hx; injection hx with hx; rw [hx]
     have fin:∀clock,w.heap[bm]?=some (.map #[] clock)->(execOp a.eval o).run P w = .ok (.value (.tuple #[.bool false])) w:=fun clock hc=>by
      simp [execOp,ho,e1,XC hh hc,Result.andThen]
     have hr:BJ g w (.AE [.bool false]) (.tuple #[.bool false]) := .AE [.bool false] [.bool false] rfl fun j hj Cu=>by
      match j,hj with
      | 0,_=>exact .bool _
     split at h1
     ·obtain ⟨b2,arr,clock,SD,hh2,hR,-⟩:=h.Xz (es':=[]) Mv
      rw [hX] at SD
      injection SD with SD
      subst SD
      have:arr = #[]:=Array.eq_empty_of_size_eq_zero hR.2.1
      subst this
      exact Bc.value h1 h (fun _=>hr) (fin clock hh2)
     ·obtain ⟨b2,arr,clock,SD,hh2,hR,-⟩:=h.Rd (es':=[]) Mv
      rw [hX] at SD
      injection SD with SD
      subst SD
      have:arr = #[]:=Array.eq_empty_of_size_eq_zero hR.2.1
      subst this
      exact Bc.value h1 h (fun _=>hr) (fin clock hh2)
     ·exact h1.elim
    ·exact h1.elim
   ·exact h1.elim
  ·exact h1.elim
 ·exact h1.elim
def fX(m:Operand):RM Nat:=Fm m fun p=>match p with
 | .mp i => .E6 i fun cs=>match cs with
  | [.mm (.s _)] => .ret i
  | [.mm (.i _)] => .ret i
  | _ => .fail
 | _ => .fail
theorem TX{m:Operand}{K:Nat->Prop}{ty:TypeId}(ho:o.op = .range ty m)(hT:(PU P ty).isSome=true)(h:Bb cx s g l a w)(hw:(fX m).wp s K) :
  ∃i bm clock,K i/\g.X i=some bm/\i<DN s.ext/\(execOp a.eval o).run P w = .ok (.value (.pointer (some ⟨w.heap.size,0,none⟩))) (w.alloc (.mapIter (some bm) clock #[] clock)):=by
 unfold fX at hw
 obtain ⟨p,h1,r1⟩:=AL h hw
 split at h1
 ·rename_i i
  simp only [RM.wp] at h1
  split at h1
  ·rename_i cs CS
   have Bz:∀bm arr clock,g.X i=some bm->w.heap[bm]?=some (.map arr clock)->(execOp a.eval o).run P w = .ok (.value (.pointer (some ⟨w.heap.size,0,none⟩))) (w.alloc (.mapIter (some bm) clock #[] clock)):=fun bm arr clock hb hh=>by
    have e1:=JK r1 hb
    cases hq:PU P ty with
    | none=>rw [hq] at hT; cases hT
    | some qe=>
     obtain ⟨q,e⟩:=qe
     obtain ⟨kt,hu,-⟩:=FR hq
     simp [execOp,ho,e1,Instr.range,run_underlying hu,MapKept.run_getObj_map hh,Result.andThen,newObj]
     rfl
   split at h1
   ·obtain ⟨b,arr,clock,hb,hh,-,-⟩:=h.Xz (es':=[]) CS
    exact ⟨i,b,clock,h1,hb,JG CS,Bz b arr clock hb hh⟩
   ·obtain ⟨b,arr,clock,hb,hh,-,-⟩:=h.Rd (es':=[]) CS
    exact ⟨i,b,clock,h1,hb,JG CS,Bz b arr clock hb hh⟩
   ·exact h1.elim
  ·exact h1.elim
 ·exact h1.elim
def A0i(P:Program)(ty:TypeId):Option (Nat × TypeId):=match P.underlying ty with
 | some (.array n e)=>some (n,e)
 | _=>none
def pW(P:Program)(e:TypeId)(m:Nat)(cs:List PV)(N:Nat):Bool:=match LU P e with
 | some false=>decide (m=1)&&decide (cs.length=N)
 | _=>false
theorem XD{e:TypeId}{m N:Nat}{cs:List PV}{k:Int}(h:pW P e m cs N=true)(h0:0<=k)(h1:k<N):Oo P e cs (k.toNat * m)=some (cs.getD k.toNat .Gf):=by
 unfold pW at h
 split at h
 ·rename_i ha
  simp only [Bool.and_eq_true,decide_eq_true_eq] at h
  obtain ⟨rfl,h2⟩:=h
  have hk:k.toNat<cs.length:=by omega
  simp only [Oo,ha,Nat.mul_one,List.getD,List.getElem?_eq_getElem hk,Option.getD_some]
 ·cases h
def SP(P:Program)(n:Nat)(o:Oper)(ty:TypeId)(x i:Operand):RM (List Wr):=if L2 P ty=true then Fm x fun p=>Fm i fun q=>match p,q with
  | .str b,.int _ k => .assume (decide (0<=k/\k<b.size)) (wv n o (.v (.int .u8 (b.data.toList.getD k.toNat default).toNat)))
  | _,_ => .fail
 else match A0i P ty with
  | some (N,e)=>match KW P e with
   | some m=>Fm x fun p=>Fm i fun q=>match p,q with
    | .agg cs,.int _ k => .assume (decide (0<=k/\k<N)) (if pW P e m cs N=true then wv n o (.v (cs.getD k.toNat .Gf)) else match Oo P e cs (k.toNat * m) with
     | some q=>wv n o (.v q)
     | none => .fail)
    | _,_ => .fail
   | none => .fail
  | none => .fail
theorem PY{ty:TypeId}{x i:Operand}(ho:o.op = .index ty x i)(h:Bb cx s g l a w)(hw:(SP P cx.n o ty x i).wp s K):Bc P cx s o K a w:=by
 unfold SP at hw
 split at hw
 ·rename_i IF
  unfold L2 at IF
  split at IF
  ·rename_i hu
   obtain ⟨p,h1,r1⟩:=AL h hw
   obtain ⟨q,h2,r2⟩:=AL h h1
   have hex:∀v,(Instr.index ty (a.eval x) (a.eval i)).run P w = .ok v w->(execOp a.eval o).run P w = .ok (.value v) w:=fun v hr=>by
    simp only [execOp,ho,Sem.run_bind,hr,Result.andThen_ok]; rfl
   generalize a.eval x=vx at r1 hex
   generalize a.eval i=vi at r2 hex
   split at h2
   ·rename_i b ki k
    cases r1
    cases r2
    obtain ⟨hb,h3⟩:=h2
    obtain ⟨hb0,hb1⟩:=of_decide_eq_true hb
    refine Bc.pure h h3 (.int _ _) (hex _ ?_)
    have hk:k.toNat<b.size:=by omega
    have e1:b[k.toNat]?=some b[k.toNat]:=by simp [hk]
    have e2:b.data.toList.getD k.toNat default=b[k.toNat]:=by
     have QN:k.toNat<b.data.size:=hk
     have:b.data.toList.getD k.toNat default=b.data[k.toNat]:=by simp [List.getD,Array.getElem?_eq_getElem QN]
     exact this
    simp only [Instr.index,asIntOf,Sem.run_bind,Sem.run_pure,Result.andThen_ok,run_underlying hu,hb0,if_true,e1,e2]
   ·exact h2.elim
  ·cases IF
 ·split at hw
  ·rename_i N e he
   have hu:P.underlying ty=some (.array N e):=by
    unfold A0i at he
    split at he
    ·rename_i n' e' hu; simp only [Option.some.injEq,Prod.mk.injEq] at he; obtain ⟨rfl,rfl⟩:=he; exact hu
    ·cases he
   split at hw
   ·rename_i m hm
    obtain ⟨p,h1,r1⟩:=AL h hw
    obtain ⟨q,h2,r2⟩:=AL h h1
    have hex:∀v,(Instr.index ty (a.eval x) (a.eval i)).run P w = .ok v w->(execOp a.eval o).run P w = .ok (.value v) w:=fun v hr=>by
     simp only [execOp,ho,Sem.run_bind,hr,Result.andThen_ok]; rfl
    generalize a.eval x=vx at r1 hex
    generalize a.eval i=vi at r2 hex
    split at h2
    ·rename_i cs ki k
     cases r2
     obtain ⟨hb,h3⟩:=h2
     have hb:=of_decide_eq_true hb
     split at h3
     ·rename_i A0j
      cases r1 with
      | agg _ vs hl Ce hr=>
       obtain ⟨v,k1,k2⟩:=Hh (P:=P) (XD A0j hb.1 hb.2) ⟨hl,hr⟩ Ce
       refine Bc.pure h h3 k2 (hex _ ?_)
       simp only [Instr.index,asIntOf,Sem.run_bind,Sem.run_pure,Result.andThen_ok,run_underlying hu,iP hb,run_sizeOf hm,k1]
     split at h3
     ·rename_i q hq
      cases r1 with
      | agg _ vs hl Ce hr=>
       obtain ⟨v,k1,k2⟩:=Hh (P:=P) hq ⟨hl,hr⟩ Ce
       refine Bc.pure h h3 k2 (hex _ ?_)
       simp only [Instr.index,asIntOf,Sem.run_bind,Sem.run_pure,Result.andThen_ok,run_underlying hu,iP hb,run_sizeOf hm,k1]
     ·exact h3.elim
    ·exact h2.elim
   ·exact hw.elim
  ·exact hw.elim
def VV(x:Option Operand)(d:Nat)(k:Int->RM (List Wr)):RM (List Wr):=match x with
 | none=>k d
 | some y=>Fm y fun q=>match q with
  | .int _ i=>k i
  | _ => .fail
def SQ(P:Program)(n:Nat)(o:Oper)(ty:TypeId)(x:Operand)(lo hi:Option Operand):RM (List Wr):=match Gj P ty with
 | some e=>match KW P e with
  | some z'=>Fm x fun p=>match p with
   | .sl z es=>if z=z' then VV hi es.length fun h=>VV lo 0 fun k => .assume (decide (0<=k/\k<=h/\h<=es.length)) (wv n o (.v (.sl z ((es.take h.toNat).drop k.toNat)))) else .fail
   | _ => .fail
  | none => .fail
 | none => .fail
theorem HZ{x:Option Operand}{d:Nat}{k:Int->RM (List Wr)}(h:Bb cx s g l a w)(hw:(VV x d k).wp s K) :
  ∃i:Int,(k i).wp s K/\((x=none/\i=d)∨∃y ki,x=some y/\a.eval y = .int ki i):=by
 unfold VV at hw
 split at hw
 ·exact ⟨d,hw,.inl ⟨rfl,rfl⟩⟩
 ·rename_i y
  obtain ⟨q,h1,r1⟩:=AL h hw
  split at h1
  ·rename_i ki i
   refine ⟨i,h1,.inr ⟨y,ki,rfl,?_⟩⟩
   generalize a.eval y=v at r1
   cases r1
   rfl
  ·exact h1.elim
theorem PZ{ty:TypeId}{x:Operand}{lo hi:Option Operand}(ho:o.op = .slice ty x lo hi none)(h:Bb cx s g l a w)(hw:(SQ P cx.n o ty x lo hi).wp s K):Bc P cx s o K a w:=by
 unfold SQ at hw
 split at hw
 ·rename_i e he
  split at hw
  ·rename_i z' hz
   obtain ⟨p,h1,r1⟩:=AL h hw
   split at h1
   ·rename_i z es
    split at h1
    ·rename_i hzz
     subst hzz
     obtain ⟨hh,h2,hhi⟩:=HZ h h1
     obtain ⟨kk,h3,hlo⟩:=HZ h h2
     obtain ⟨hb,h4⟩:=h3
     obtain ⟨b0,b1,b2⟩:=of_decide_eq_true hb
     have hu:P.underlying ty=some (.slice e):=by
      unfold Gj at he
      split at he
      ·rename_i e' hu; injection he with he; rw [hu,he]
      ·cases he
     have hel:P.elem ty=e:=by simp [Program.elem,hu]
     have Xq:P.underlying ty=some (.slice (P.elem ty)):=by rw [hel]; exact hu
     have Bq:(sizeOf (P.elem ty)).run P w = .ok z w:=by rw [hel]; exact run_sizeOf hz
     have hex:∀v,(Instr.slice ty (a.eval x) (lo.map a.eval) (hi.map a.eval) none).run P w = .ok v w->(execOp a.eval o).run P w = .ok (.value v) w:=fun v hr=>by
      simp only [execOp,ho,Option.map_none,Sem.run_bind,run_sliceAt_slice _ _ _ _ _ _ Xq,hr,Result.andThen_ok]; rfl
     have Bz:∀ (ad:Option Addr) (cap:Nat),es.length<=cap->(Instr.slice ty (.slice ad es.length cap) (lo.map a.eval) (hi.map a.eval) none).run P w = .ok (sliced ad kk.toNat hh.toNat cap z) w:=by
      intro ad cap Di
      rcases hhi with ⟨rfl,rfl⟩ | ⟨y,ki,rfl,hy⟩
      ·rcases hlo with ⟨rfl,rfl⟩ | ⟨y',ki',rfl,pX⟩
       ·simp only [Option.map_none]
        rw [run_slice_all (ht:=Xq),Bq]
        rfl
       ·simp only [Option.map_none,Option.map_some,pX]
        rw [run_slice_l (ht:=Xq) (h0:=b0) (h1:=b1),Bq]
        rfl
      ·rcases hlo with ⟨rfl,rfl⟩ | ⟨y',ki',rfl,pX⟩
       ·simp only [Option.map_none,Option.map_some,hy]
        rw [run_slice_h (ht:=Xq) (h0:=by omega) (h2:=by omega),Bq]
        rfl
       ·simp only [Option.map_some,hy,pX]
        rw [run_slice_lh (ht:=Xq) (h0:=b0) (h1:=b1) (h2:=by omega),Bq]
        rfl
     have hlen:((es.take hh.toNat).drop kk.toNat).length=hh.toNat - kk.toNat:=by
      rw [List.length_drop,List.length_take]
      omega
     generalize a.eval x=vx at r1 hex
     cases r1 with
     | slnil _=>
      have:=Bz none 0 sM
      simp only [List.length_nil] at b2 this
      have Sn:kk.toNat=0:=by omega
      have hh0:hh.toNat=0:=by omega
      refine Bc.pure h h4 (v := .slice none 0 0) ?_ (hex _ ?_)
      ·simp only [List.take_nil,List.drop_nil]; exact .slnil z
      ·rw [this,Sn,hh0]; rfl
     | sl _ _ ad cap vs hle Di SC hc hf TN hr=>
      refine Bc.pure h h4 (v:=sliced (some ad) kk.toNat hh.toNat cap z) ?_ (hex _ (Bz _ _ hle))
      unfold sliced
      rw [<-hlen]
      by_cases hck:cap=kk.toNat
      ·have SS:(es.take hh.toNat).drop kk.toNat=[]:=List.eq_nil_of_length_eq_zero (by rw [hlen]; omega)
       rw [iP hck,SS]
       exact .sl z [] ad _ vs sM oM (fun i hi=>by simp at hi) (fun i j hi=>by simp at hi) (fun i j hi=>by simp at hi) (fun i j hi=>by simp at hi) (fun i j hi=>by simp at hi)
      ·rw [iN hck]
       simp only [Option.map_some]
       have XE:∀i (hi:i<((es.take hh.toNat).drop kk.toNat).length),∃h2:kk.toNat+i<es.length,((es.take hh.toNat).drop kk.toNat)[i]=es[kk.toNat+i]:=fun i hi=>by
        have h3:kk.toNat+i<es.length:=by rw [hlen] at hi; omega
        exact ⟨h3,by simp⟩
       refine .sl z _ (ad.add (kk.toNat * z)) _ (fun i j=>vs (kk.toNat+i) j) (by rw [hlen]; omega) oM (fun i hi=>?_) (fun i j hi hj=>?_) (fun i j hi hj=>?_) (fun i j hi hj=>?_) (fun i j hi hj=>?_)
       ·obtain ⟨h3,pY⟩:=XE i hi
        rw [pY]; exact SC _ h3
       ·obtain ⟨h3,pY⟩:=XE i hi
        rw [Addr.add_add,show kk.toNat * z+(i * z+j)=(kk.toNat+i) * z+j by rw [Nat.add_mul]; omega]
        exact hc _ j h3 hj
       ·obtain ⟨h3,pY⟩:=XE i hi
        have:=hf _ j h3 hj
        have e1:(ad.add (kk.toNat * z)).block=ad.block:=by unfold Addr.add; split <;> rfl
        have e2:(ad.add (kk.toNat * z)).off=ad.off+kk.toNat * z:=by unfold Addr.add; split <;> simp_all
        rw [e1,e2,show ad.off+kk.toNat * z+(i * z+j)=ad.off+((kk.toNat+i) * z+j) by rw [Nat.add_mul]; omega]
        exact this
       ·obtain ⟨h3,pY⟩:=XE i hi
        exact TN _ j h3 hj
       ·obtain ⟨h3,pY⟩:=XE i hi
        have Cu:j<es[kk.toNat+i].length:=by rw [<-pY]; exact hj
        have:=hr _ j h3 Cu
        simp only [pY]
        exact this
    ·exact h1.elim
   ·exact h1.elim
  ·exact hw.elim
 ·exact hw.elim
def XF(P:Program)(n:Nat)(o:Oper)(ty:TypeId)(x:Operand)(lo hi:Option Operand):RM (List Wr):=if L2 P ty=true then Fm x fun p=>match p with
  | .str b=>VV hi b.size fun h=>VV lo 0 fun k => .assume (decide (0<=k/\k<=h/\h<=b.size)) (wv n o (.v (.str (b.extract k.toNat h.toNat))))
  | _ => .fail
 else SQ P n o ty x lo hi
theorem Rh{ty:TypeId}{x:Operand}{lo hi:Option Operand}(ho:o.op = .slice ty x lo hi none)(h:Bb cx s g l a w)(hw:(XF P cx.n o ty x lo hi).wp s K):Bc P cx s o K a w:=by
 unfold XF at hw
 split at hw
 ·rename_i IF
  have hu:P.underlying ty=some .string:=by
   unfold L2 at IF
   split at IF
   ·rename_i hu; exact hu
   ·cases IF
  obtain ⟨p,h1,r1⟩:=AL h hw
  split at h1
  ·rename_i b
   obtain ⟨hh,h2,hhi⟩:=HZ h h1
   obtain ⟨kk,h3,hlo⟩:=HZ h h2
   obtain ⟨hb,h4⟩:=h3
   obtain ⟨b0,b1,b2⟩:=of_decide_eq_true hb
   have hex:∀v,(Instr.slice ty (a.eval x) (lo.map a.eval) (hi.map a.eval) none).run P w = .ok v w->(execOp a.eval o).run P w = .ok (.value v) w:=fun v hr=>by
    simp only [execOp,ho,Option.map_none,Sem.run_bind,run_sliceAt_string _ _ _ _ _ _ hu,hr,Result.andThen_ok]; rfl
   generalize a.eval x=vx at r1 hex
   cases r1
   refine Bc.pure h h4 (.str _) (hex _ ?_)
   rcases hhi with ⟨rfl,rfl⟩ | ⟨y,ki,rfl,hy⟩
   ·rcases hlo with ⟨rfl,rfl⟩ | ⟨y',ki',rfl,pX⟩
    ·simp only [Option.map_none]
     rw [run_slice_string_all (ht:=hu)]
     rfl
    ·simp only [Option.map_none,Option.map_some,pX]
     rw [run_slice_string_l (ht:=hu) (h0:=b0) (h1:=b1)]
     rfl
   ·rcases hlo with ⟨rfl,rfl⟩ | ⟨y',ki',rfl,pX⟩
    ·simp only [Option.map_none,Option.map_some,hy]
     rw [run_slice_string_h (ht:=hu) (h0:=by omega) (h2:=by omega)]
     rfl
    ·simp only [Option.map_some,hy,pX]
     rw [run_slice_string w ty b _ _ _ _ hu b0 b1 b2]
  ·exact h1.elim
 ·exact PZ ho h hw
end
end Go.Pv
