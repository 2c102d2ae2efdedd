/- Values of Go as plain data, an evaluator over them, and what the functions of the program return; part Xb. -/
import Derived.Test.YtmllcplaohkjnaaGreatDoorXa
import Derived.Laws.Tables
import Derived.Laws.Slices
import Derived.Laws.Strings2
import Derived.DataElems
set_option linter.unusedVariables false
set_option linter.unusedSimpArgs false
set_option linter.unusedSectionVars false
namespace Go.Pv
open Go.RowKit
section
variable {cx:Cx} {s t:S} {g:Gh} {l:LG} {a:Act} {w:World}
theorem Bc.eU(h:Bc cx s g l a w)(h1:∀k v,lk t.tmps k=some v->v = .D8∨∃u,lk s.tmps k=some u/\WL v u)(h2:∀k v,lk t.boxes k=some v->∃u,lk s.boxes k=some u/\ES v u)
  (h3:∀k v,lk t.ext k=some v->∃u,lk s.ext k=some u/\ES v u) (h4:El s.ext<=El t.ext:=by exact Nat.le_refl _):Bc cx t g l a w where
 AM:=h.AM
 size:=h.size
 defers:=h.defers
 tm k v hk:=by
  rcases h1 k v hk with rfl | ⟨_,hu,hw⟩
  ·trivial
  ·exact hw.rep (h.tm k _ hu)
 bx k v hk:=by
  obtain ⟨u,hu,hw⟩:=h2 k v hk
  obtain ⟨b,k1,k2,k3⟩:=h.bx k u hu
  exact ⟨b,k1,k2,k3.le hw⟩
 ex k v hk:=by
  obtain ⟨u,hu,hw⟩:=h3 k v hk
  obtain ⟨b,k1,k2,k3⟩:=h.ex k u hu
  exact ⟨b,k1.le hw,k2,k3.le hw⟩
 own:=h.own
 uo:=h.uo
 fresh:=⟨h.fresh.1,fun n hn=>h.fresh.2.1 n (Nat.le_trans h4 hn),fun n c hn=>h.fresh.2.2 n c (Nat.le_trans h4 hn)⟩
 Gg:=h.Gg
theorem Et{α:Type}{W:α->α->Prop}(hW:∀x,W x x)(x:List (Nat × α)):∀k v,lk x k=some v->∃u,lk x k=some u/\W v u:=fun _ v h=>⟨v,h,hW v⟩
theorem Bc.congr(h:Bc cx s g l a w)(h1:∀k,lk t.tmps k=lk s.tmps k)(h2:∀k,lk t.boxes k=lk s.boxes k)(h3:∀k,lk t.ext k=lk s.ext k)(h4:El s.ext<=El t.ext:=by exact Nat.le_refl _):Bc cx t g l a w:=
 h.eU (fun k v e => .inr ⟨v,by rw [<-h1]; exact e,WL.refl v⟩) (fun k v e=>⟨v,by rw [<-h2]; exact e,ES.refl v⟩) (fun k v e=>⟨v,by rw [<-h3]; exact e,ES.refl v⟩) h4
def Be(P:Program)(cx:Cx)(s:S)(o:Oper)(K:List Wr->Prop)(a:Act)(w:World):Prop:=
 ∀Q,o.wp P a w (fun a' w'=>∃wr g' l',K wr/\Bc cx (s.Io wr) g' l' a' w') Q
def wv(n:Nat)(o:Oper)(lv:LV):RM (List Wr):=match o.dst with
 | some d=>if d<n then .ret [.tmp d lv] else .fail
 | none => .ret []
theorem Be.value{P:Program}{o:Oper}{K:List Wr->Prop}{lv:LV}{v:Value}{g':Gh}{l':LG}{w':World}(hw:(wv cx.n o lv).wp s K)(hs:Bc cx s g' l' a w')
  (hr:∀d,Cm g' l' w' (.t d) lv v) (BW:(execOp a.eval o).run P w = .ok (.value v) w'):Be P cx s o K a w:=by
 intro Q
 unfold Oper.wp
 rw [BW,Oper.upon_value]
 unfold wv at hw
 split at hw
 ·rename_i d hd
  split at hw
  ·rename_i Ad
   refine ⟨_,g',l',hw,?_⟩
   rw [hd]
   exact hs.set Ad (hr d)
  ·exact hw.elim
 ·rename_i hd
  refine ⟨_,g',l',hw,?_⟩
  rw [hd]
  exact hs
def XC:List Oper->Nat->Bool
 | [],_=>false
 | o::r,d=>(match o.op with
  | .call { callee := .builtin .append,args,.. }=>(match args.toList with | .tmp t::_=>t==d | _=>false)
  | .assign (.tmp t)=>t==d
  | _=>false)||XC r d
def mv(n:Nat)(ops:List Oper)(o:Oper)(take:Bool)(x:Operand):RM (List Wr):=match x with
 | .tmp t => .Il t fun lv=>match lv,o.dst with
  | .uniq e z es,some d=>if d<n/\t≠d then (if e<1000000 then (if take||XC ops d then .ret [.tmp t (.v (.sl z es)),.tmp d (.uniq e z es)] else .ret [.tmp d (.v (.sl z es))]) else .ret [.tmp t .D8,.tmp d (.uniq e z es)]) else .fail
  | .uniq _ _ _,none => .fail
  | lv,_=>wv n o lv
 | x=>ev x fun lv=>match lv with
  | .uniq _ _ _ => .fail
  | lv=>wv n o lv
theorem fU{t:Nat}{lv:LV}(h:∀e z es,lv ≠ .uniq e z es):Rg { s with tmps:=put s.tmps t lv } (.t t):=fun e z es he=>by
 rw [Lt] at he
 injection he with he
 exact h e z es he
theorem Bc.take(h:Bc cx s g l a w){t d:Nat}{e:TypeId}{z:Nat}{es:List (List PV)}{lf:LV}(yP:lf = .D8∨lf = .v (.sl z es)/\e<1000000)(hd:d<cx.n)(Ct:t≠d)(ht:lk s.tmps t=some (.uniq e z es)) :
  ∃l',Bc cx { s with tmps:=put (put s.tmps t lf) d (.uniq e z es) } g l' (a.put (some d) (a.tmps.getD t undef)) w:=by
 have hr:=h.tm t _ ht
 have hlu:∀e z es,lf ≠ .uniq e z es:=by rintro e z es rfl; rcases yP with h | ⟨h,-⟩ <;> cases h
 have h1:Bc cx { s with tmps:=put (put s.tmps t lf) d .D8 } g l a w:=by
  refine h.eU (fun k v hk=>?_) (Et ES.refl _) (Et ES.refl _)
  simp only [B8] at hk
  split at hk
  ·injection hk with hk
   exact .inl hk.symm
  ·split at hk
   ·rename_i e0
    subst e0
    injection hk with hk
    subst hk
    rcases yP with rfl | ⟨rfl,Ad⟩
    ·exact .inl rfl
    ·exact .inr ⟨_,ht,.inr ⟨rfl,p9 Ad⟩⟩
   ·exact .inr ⟨v,hk,WL.refl v⟩
 obtain ⟨l',h2,h3,-⟩:=h1.Hg (p := .t t) (q := .t d) hr (fun e z es he=>by simp only [B8,iN (Ne.symm Ct),if_true] at he; injection he with he; exact hlu _ _ _ he)
  (fun e z es he=>by simp only [B8,if_true] at he; injection he with he; cases he)
 refine ⟨l',(h2.set hd h3).congr (fun k=>?_) (fun _=>rfl) (fun _=>rfl)⟩
 simp only [B8]
 split <;> rfl
theorem Rh{P:Program}{ops:List Oper}{o:Oper}{K:List Wr->Prop}{tk:Bool}{x:Operand}(h:Bc cx s g l a w)(hw:(mv cx.n ops o tk x).wp s K)
  (BW:(execOp a.eval o).run P w = .ok (.value (a.eval x)) w):Be P cx s o K a w:=by
 unfold mv at hw
 split at hw
 ·rename_i t
  simp only [RM.wp] at hw
  split at hw
  ·rename_i lv Gx
   have hr:=h.tm t lv Gx
   split at hw
   ·rename_i e z es d hd
    split at hw
    ·rename_i hc
     split at hw
     ·rename_i Ad
      split at hw
      ·intro Q
       unfold Oper.wp
       rw [BW,Oper.upon_value,hd]
       obtain ⟨l',h2⟩:=h.take (.inr ⟨rfl,Ad⟩) hc.1 hc.2 Gx
       exact ⟨_,g,l',hw,h2⟩
      ·refine Be.value (lv := .v (.sl z es)) (v:=a.eval (.tmp t)) ?_ h (fun d=>EY (XB Ad) hr) BW
       unfold wv
       rw [hd]
       simp only [hc.1,if_true]
       exact hw
     ·intro Q
      unfold Oper.wp
      rw [BW,Oper.upon_value,hd]
      obtain ⟨l',h2⟩:=h.take (.inl rfl) hc.1 hc.2 Gx
      exact ⟨_,g,l',hw,h2⟩
    ·exact hw.elim
   ·exact hw.elim
   ·rename_i lv1 lv2 x2 QY hnu
    refine Be.value hw h (fun d=>?_) BW
    refine hr.free ?_
    cases lv1 with
    | uniq e z es=>
     cases fV:o.dst with
     | none=>exact (hnu e z es rfl fV).elim
     | some d=>exact (QY e z es d rfl fV).elim
    | _=>rfl
  ·exact hw.elim
 ·obtain ⟨lv,u,h1,h2,h3⟩:=Cc h hw
  split at h1
  ·exact h1.elim
  ·rename_i hnu
   refine Be.value h1 h (fun d=>?_) BW
   refine h2.free ?_
   cases lv with
   | uniq e z es=>exact (hnu e z es rfl).elim
   | _=>rfl
end
section
variable {P:Program} {cx:Cx} {s t:S} {g:Gh} {l:LG} {a:Act} {w:World} {o:Oper} {K:List Wr->Prop}
theorem Be.pure{p:PV}{v:Value}(h:Bc cx s g l a w)(hw:(wv cx.n o (.v p)).wp s K)(hr:BO g w p v)(BW:(execOp a.eval o).run P w = .ok (.value v) w):Be P cx s o K a w:=
 Be.value hw h (fun _=>hr) BW
def yQ(op:BinOp)(k:IntKind)(x y:Int):Option PV:=match op with
 | .add=>some (.int k (k.wrap (x+y)))
 | .sub=>some (.int k (k.wrap (x - y)))
 | .mul=>some (.int k (k.wrap (x * y)))
 | .eql=>some (.bool (x==y))
 | .neq=>some (.bool (x != y))
 | .lss=>some (.bool (decide (x<y)))
 | .leq=>some (.bool (decide (x<=y)))
 | .gtr=>some (.bool (decide (x>y)))
 | .geq=>some (.bool (decide (x>=y)))
 | _=>none
def yR(op:BinOp)(x y:ByteArray):Option PV:=match op with
 | .eql=>some (.bool (x.toList==y.toList))
 | .neq=>some (.bool (!(x.toList==y.toList)))
 | .lss=>some (.bool (Op.bytesLess x.toList y.toList))
 | .leq=>some (.bool (Op.bytesLess x.toList y.toList||x.toList==y.toList))
 | .gtr=>some (.bool (!(Op.bytesLess x.toList y.toList||x.toList==y.toList)))
 | .geq=>some (.bool (!Op.bytesLess x.toList y.toList))
 | _=>none
def isEq:BinOp->Option Bool
 | .eql=>some true
 | .neq=>some false
 | _=>none
def eqP(P:Program)(t:TypeId)(cst:Bool)(p q:PV):Option Bool:=match P.underlying t,p,q with
 | some .bool,.bool x,.bool y=>some (x==y)
 | some (.pointer _),.Dy,.Dy=>some true
 | some (.pointer _),.Dy,.ro _ _=>some false
 | some (.pointer _),.Dy,.xp _ _=>some false
 | some (.pointer _),.ro _ _,.Dy=>some false
 | some (.pointer _),.xp _ _,.Dy=>some false
 | some (.interface _),.FW,.FW=>if cst then some true else none
 | some (.interface _),.FW,.iface _ _=>some false
 | some (.interface _),.iface _ _,.FW=>some false
 | some (.map _ _),.HJ,.HJ=>some true
 | some (.map _ _),.mp _,.HJ=>some false
 | some (.slice _),.Ab,.Ab=>some true
 | some (.slice _),.sl _ (_::_),.Ab=>some false
 | some (.slice _),.Ue _ _ _,.Ab=>some false
 | _,_,_=>none
def isConst:Operand->Bool
 | .const _=>true
 | _=>false
def XD(P:Program)(n:Nat)(o:Oper)(op:BinOp)(ty:TypeId)(x y:Operand):RM (List Wr):=
 Hj x fun p=>Hj y fun q=>match p,q with
  | .int k i,.int k' j=>if k=k' then (match op with
    | .quo => .assume (decide (j≠0)) (wv n o (.v (.int k (k.wrap (i.tdiv j)))))
    | .rem => .assume (decide (j≠0)) (wv n o (.v (.int k (i.tmod j))))
    | op=>match yQ op k i j with
     | some r=>wv n o (.v r)
     | none => .fail) else .fail
  | .str i,.str j=>match op with
   | .add => .assume (decide (i.size+j.size<=9223372036854775807)) (wv n o (.v (.str (i++j))))
   | op=>match yR op i j with
    | some r=>wv n o (.v r)
    | none => .fail
  | p,q=>match isEq op,eqP P ty (isConst x||isConst y) p q with
   | some pos,some b=>wv n o (.v (.bool (if pos then b else !b)))
   | _,_ => .fail
theorem Ui{α:Type}{c:Prop} [Decidable c] {x y:Sem α} {r:Result α} (hx:x.run P w=r) (hy:y.run P w=r):(if c then x else y).run P w=r:=by
 split
 ·exact hx
 ·exact hy
theorem Dp{op:BinOp}{ty:TypeId}{x y:Operand}{u v:Value}(h:¬(u = .nilIface/\v = .nilIface))(h':∀c d,¬(u = .agg c/\v = .agg d)):(eqGuard op ty x y u v).run P w = .ok () w:=by
 unfold eqGuard
 refine Ui rfl ?_
 split
 ·exact absurd ⟨rfl,rfl⟩ h
 ·rename_i c d; exact absurd ⟨rfl,rfl⟩ (h' c d)
 ·rfl
theorem M4{op:BinOp}{ty:TypeId}{x y:Operand}(h:(isConst x||isConst y)=true):(eqGuard op ty x y .nilIface .nilIface).run P w = .ok () w:=by
 unfold eqGuard
 refine Ui rfl ?_
 cases x <;> cases y <;> first | rfl | cases h
theorem Ki{ty:TypeId}{u v:Value}{b:Bool}(h:∀d,(Op.equalIn (d+1) ty u v).run P w = .ok b w):(Op.equal ty u v).run P w = .ok b w:=h 9999
theorem VX{ty:TypeId}{x y:Operand}{p q:PV}{b:Bool}{u v:Value}{op:BinOp}{pos:Bool}(hb:eqP P ty (isConst x||isConst y) p q=some b)(hp:isEq op=some pos)(r1:BO g w p u)(r2:BO g w q v) :
    (eqGuard op ty x y u v).run P w = .ok () w/\(binOp op ty u v).run P w = .ok (.bool (if pos then b else !b)) w:=by
  have yS:(∀k i,u ≠ .int k i)->(∀i,u ≠ .string i)->(∀k i,u ≠ .float k i)->(∀k i j,u ≠ .complex k i j)->(Op.equal ty u v).run P w = .ok b w->(binOp op ty u v).run P w = .ok (.bool (if pos then b else !b)) w:=by
    intro n1 n2 n3 n4 he
    cases op <;> simp [isEq] at hp <;> subst hp
    · unfold binOp
      split <;> simp_all
    · unfold binOp
      split <;> simp_all
  unfold eqP at hb
  cases hu:P.underlying ty with
  | none=>simp [hu] at hb
  | some d=>
    rw [hu] at hb
    split at hb
    all_goals first | (cases hb; done) | skip
    all_goals rename_i hd
    all_goals injection hd with hd
    all_goals subst hd
    all_goals cases r1
    all_goals cases r2
    all_goals first
      | (split at hb
         · rename_i hc
           injection hb with hb
           subst hb
           exact ⟨M4 hc,yS sM sM sM sM (Ki fun d=>by simp only [Op.equalIn,Sem.run_bind,run_underlying hu,Result.andThen_ok]; rfl)⟩
         · cases hb)
      | (injection hb with hb
         subst hb
         exact ⟨Dp sM sM,yS sM sM sM sM (Ki fun d=>by simp only [Op.equalIn,Sem.run_bind,run_underlying hu,Result.andThen_ok]; rfl)⟩)
theorem PJ{op:BinOp}{ty yt:TypeId}{x y:Operand}(ho:o.op = .binOp op ty x y yt)(h:Bc cx s g l a w)(hw:(XD P cx.n o op ty x y).wp s K):Be P cx s o K a w:=by
 obtain ⟨p,h1,r1⟩:=AZ h hw
 obtain ⟨q,h2,r2⟩:=AZ h h1
 clear hw h1
 have hex:∀v,(eqGuard op ty x y (a.eval x) (a.eval y)).run P w = .ok () w->(binOp op ty (a.eval x) (a.eval y)).run P w = .ok v w->(execOp a.eval o).run P w = .ok (.value v) w:=by
  intro v hg hv
  simp only [execOp,ho,Sem.run_bind,hg,Result.andThen_ok,hv,Sem.run_pure]
 generalize a.eval x=vx at r1 hex
 generalize a.eval y=vy at r2 hex
 split at h2
 ·rename_i k i k' j
  cases r1
  cases r2
  split at h2
  ·rename_i hk
   subst hk
   have hg:(eqGuard op ty x y (.int k i) (.int k j)).run P w = .ok () w:=Dp sM sM
   split at h2
   ·have hj:=of_decide_eq_true h2.1; replace h2:=h2.2
    exact Be.pure h h2 (.int _ _) (hex _ hg (by simp [binOp,Op.intDiv,hj]))
   ·have hj:=of_decide_eq_true h2.1; replace h2:=h2.2
    exact Be.pure h h2 (.int _ _) (hex _ hg (by simp [binOp,Op.intDiv,hj]))
   ·split at h2
    ·rename_i r hr
     have key:∃v,(binOp op ty (.int k i) (.int k j)).run P w = .ok v w/\BO g w r v:=by
      cases op <;> simp only [yQ] at hr <;> first
       | (cases hr; done)
       | (injection hr with hr; subst hr; exact ⟨_,by simp only [binOp,Op.intArith,Op.intCmp,ne_eq,not_true_eq_false,if_false]; rfl,by constructor⟩)
     obtain ⟨v,hv,fW⟩:=key
     exact Be.pure h h2 fW (hex _ hg hv)
    ·exact h2.elim
  ·exact h2.elim
 ·rename_i i j
  cases r1
  cases r2
  have hg:(eqGuard op ty x y (.string i) (.string j)).run P w = .ok () w:=Dp sM sM
  split at h2
  ·have hj:=of_decide_eq_true h2.1; replace h2:=h2.2
   refine Be.pure h h2 (.str _) (hex _ hg ?_)
   have Cj:¬(((i.size+j.size:Nat):Int)>IntKind.i64.max):=by
    have:IntKind.i64.max=9223372036854775807:=rfl
    rw [this]
    omega
   simp only [binOp,Op.stringOp]
   rw [iN Cj]
   rfl
  ·split at h2
   ·rename_i r hr
    have key:∃v,(binOp op ty (.string i) (.string j)).run P w = .ok v w/\BO g w r v:=by
     cases op <;> simp only [yR] at hr <;> first
      | (cases hr; done)
      | (injection hr with hr; subst hr; exact ⟨_,by simp only [binOp,Op.stringOp]; rfl,by constructor⟩)
    obtain ⟨v,hv,fW⟩:=key
    exact Be.pure h h2 fW (hex _ hg hv)
   ·exact h2.elim
 ·split at h2
  ·rename_i pos b hp hb
   obtain ⟨k1,k2⟩:=VX hb hp r1 r2
   exact Be.pure h h2 (.bool _) (hex _ k1 k2)
  ·exact h2.elim
end
section
variable {P:Program} {cx:Cx} {s t:S} {g:Gh} {l:LG} {a:Act} {w:World} {o:Oper} {K:List Wr->Prop}
def kU(n:Nat)(o:Oper)(op:UnOp)(x:Operand):RM (List Wr):=Hj x fun p=>match op,p with
 | .not,.bool b=>wv n o (.v (.bool (!b)))
 | .neg,.int k i=>wv n o (.v (.int k (k.wrap (0 - i))))
 | _,_ => .fail
theorem Ri{op:UnOp}{ty:TypeId}{x:Operand}(ho:o.op = .unOp op ty x)(h:Bc cx s g l a w)(hw:(kU cx.n o op x).wp s K):Be P cx s o K a w:=by
 obtain ⟨p,h1,r1⟩:=AZ h hw
 have hex:∀v,(Op.unary op (a.eval x)).run P w = .ok v w->(execOp a.eval o).run P w = .ok (.value v) w:=by
  intro v hv
  simp only [execOp,ho,Sem.run_bind,hv,Result.andThen_ok,Sem.run_pure]
 generalize a.eval x=vx at r1 hex
 split at h1
 ·cases r1; exact Be.pure h h1 (.bool _) (hex _ rfl)
 ·cases r1; exact Be.pure h h1 (.int _ _) (hex _ rfl)
 ·exact h1.elim
def Uj(P:Program)(n:Nat)(o:Oper)(dst:TypeId)(x:Operand):RM (List Wr):=Hj x fun p=>match pK P dst,p with
 | some k,.int _ i=>wv n o (.v (.int k (k.wrap i)))
 | _,_ => .fail
theorem XE{ty:TypeId}{k:IntKind}(h:pK P ty=some k):P.underlying ty=some (.int k):=by
 unfold pK at h
 split at h
 ·rename_i hu; injection h with h; subst h; exact hu
 ·cases h
theorem Oa{src dst:TypeId}{x:Operand}(ho:o.op = .convert src dst x)(Rj:(P.underlying src).isSome=true)(h:Bc cx s g l a w)(hw:(Uj P cx.n o dst x).wp s K):Be P cx s o K a w:=by
 obtain ⟨p,h1,r1⟩:=AZ h hw
 have hex:∀v,(convert src dst (a.eval x)).run P w = .ok v w->(execOp a.eval o).run P w = .ok (.value v) w:=by
  intro v hv
  simp only [execOp,ho,Sem.run_bind,hv,Result.andThen_ok,Sem.run_pure]
 generalize a.eval x=vx at r1 hex
 split at h1
 ·rename_i k i hk
  cases r1
  obtain ⟨d,hd⟩:=Option.isSome_iff_exists.1 Rj
  refine Be.pure h h1 (.int _ _) (hex _ ?_)
  simp only [convert,Sem.run_bind,run_underlying hd,run_underlying (XE hk),Result.andThen_ok]
  rfl
 ·exact h1.elim
def Kj(P:Program)(t:TypeId):Bool:=match P.underlying t with
 | some (.interface _)=>false
 | some _=>true
 | none=>false
def XF(P:Program)(n:Nat)(o:Oper)(ty:TypeId)(x:Operand):RM (List Wr):=Hj x fun p=>if Kj P ty=true then wv n o (.v (.iface ty p)) else .fail
theorem PK{ty:TypeId}{x:Operand}(ho:o.op = .makeInterface ty x)(h:Bc cx s g l a w)(hw:(XF P cx.n o ty x).wp s K):Be P cx s o K a w:=by
 obtain ⟨p,h1,r1⟩:=AZ h hw
 split at h1
 ·rename_i hn
  refine Be.pure h h1 (.iface ty p _ r1) ?_
  unfold Kj at hn
  split at hn
  ·cases hn
  ·rename_i d hd hu
   simp only [execOp,ho,Instr.makeInterface,Sem.run_bind,run_underlying hu,Result.andThen_ok]
   rfl
  ·cases hn
 ·exact h1.elim
def XG(n:Nat)(o:Oper)(fn:Fn)(first captured:Array Operand):RM (List Wr):=kT first.toList fun ps=>kT captured.toList fun qs=>wv n o (.v (.fn fn ps qs))
theorem PN{fn:Fn}{first captured:Array Operand}(ho:o.op = .makeFunc fn first captured)(h:Bc cx s g l a w)(hw:(XG cx.n o fn first captured).wp s K):Be P cx s o K a w:=by
 obtain ⟨ps,h1,r1⟩:=Fj h hw
 obtain ⟨qs,h2,r2⟩:=Fj h h1
 refine Be.pure h h2 (.fn fn ps qs _ _ r1.1 r2.1 r1.2 r2.2) ?_
 simp only [execOp,ho,Instr.makeFunc,Sem.run_bind,Sem.run_pure,Result.andThen_ok]
 congr 2
 simp [<-Array.toList_map]
def Kk(P:Program)(t:TypeId)(name:String):Option FuncId:=match P.info? t with
 | some i=>match i.methods.find? (·.name==name) with
  | some m=>if m.path.toList.isEmpty=true then match m.func,P.underlying t with
    | some (_,false),some (.pointer _)=>none
    | some (f,false),some _=>some f
    | some (f,true),some (.pointer _)=>some f
    | _,_=>none
   else none
  | none=>none
 | none=>none
theorem PO{t:TypeId}{name:String}{f:FuncId}{v:Value}(h:Kk P t name=some f):(nilAhead (P.types.size+Made.depth) t v name).run P w = .ok (some false) w:=by
 unfold Kk at h
 split at h
 ·rename_i i hi
  split at h
  ·rename_i m hm
   split at h
   ·rename_i hp
    have kV:m.path.toList=[]:=by simpa using hp
    have hd:P.types.size+Made.depth=(P.types.size+(Made.depth - 1))+1:=by
     have:0<Made.depth:=by decide
     omega
    rw [hd]
    split at h
    ·cases h
    ·rename_i f' u hn hf hu
     simp only [nilAhead,Sem.run_bind,typeInfo,run_program,Result.andThen_ok,hi,Sem.run_pure,hm,kV,followBlind,hf,run_underlying hu]
     cases u <;> first | (exact (hn _ rfl).elim) | (simp; done)
    ·rename_i f' hf hu
     simp [nilAhead,typeInfo,hi,hm,kV,followBlind,hf]
    ·cases h
   ·cases h
  ·cases h
 ·cases h
def XH(P:Program)(n:Nat)(o:Oper)(x:Operand):RM (List Wr):=ev x fun lv=>match lv with
 | .v (.fn (.method name) (.iface t q::ps) qs)=>if (Kk P t name).isSome=true then wv n o (.v (.fn (.method name) (.iface t q::ps) qs)) else .fail
 | .v (.fn (.method name) (.VQ t f q::ps) qs) => .assume (decide (Kk P t name=some f)) (wv n o (.v (.fn (.method name) (.VQ t f q::ps) qs)))
 | .lp i off=>wv n o (.lp i off)
 | .v (.ro cs off)=>wv n o (.v (.ro cs off))
 | .v (.xp m off)=>wv n o (.v (.xp m off))
 | .v (.fn (.func f) ps qs)=>wv n o (.v (.fn (.func f) ps qs))
 | _ => .fail
theorem PR{x:Operand}(ho:o.op = .nilCheck x)(h:Bc cx s g l a w)(hw:(XH P cx.n o x).wp s K):Be P cx s o K a w:=by
 obtain ⟨lv,u,h1,r1,-⟩:=Cc h hw
 have hex:∀v,v=a.eval x->(∃b,v = .pointer (some b))∨(∃f p q,v = .func (.func f) p q)->(execOp a.eval o).run P w = .ok (.value v) w:=by
  intro v hv hc
  subst hv
  simp only [execOp,ho]
  rcases hc with ⟨b,hb⟩ | ⟨f,p,q,hb⟩ <;> rw [hb] <;> rfl
 have pL:∀t name f v fv (qv:Array Value),Kk P t name=some f->a.eval x = .func (.method name) (Value.iface t v::fv).toArray qv->(execOp a.eval o).run P w = .ok (.value (.func (.method name) (Value.iface t v::fv).toArray qv)) w:=by
  intro t name f v fv qv hm hv
  have e0:(Value.iface t v::fv).toArray[0]?=some (.iface t v):=by simp
  simp only [execOp,ho,hv,e0,Sem.run_bind,run_program,Result.andThen_ok,PO hm]
  simp
 generalize a.eval x=vx at r1 hex pL
 split at h1
 ·rename_i name t q ps qs
  split at h1
  ·rename_i hm
   obtain ⟨f,hf⟩:=Option.isSome_iff_exists.1 hm
   refine Be.pure h h1 r1 ?_
   cases r1 with
   | fn _ _ _ fv cv l1 l2 r3 r4=>
    cases fv with
    | nil=>simp at l1
    | cons v0 fv=>
     have:=r3 0 sM sM
     simp only [List.getElem_cons_zero] at this
     cases this with
     | iface _ _ v hv=>exact pL t name f v fv _ hf rfl
  ·exact h1.elim
 ·rename_i name t f q ps qs
  obtain ⟨hd,h1⟩:=h1
  have hf:=of_decide_eq_true hd
  refine Be.pure h h1 r1 ?_
  cases r1 with
  | fn _ _ _ fv cv l1 l2 r3 r4=>
   cases fv with
   | nil=>simp at l1
   | cons v0 fv=>
    have:=r3 0 sM sM
    simp only [List.getElem_cons_zero] at this
    cases this with
    | VQ _ _ _ v hv=>exact pL t name f v fv _ hf rfl
 ·obtain ⟨b,hb,rfl⟩:=r1
  exact Be.value h1 h (fun _=>⟨b,hb,rfl⟩) (hex _ rfl (.inl ⟨_,rfl⟩))
 ·refine Be.pure h h1 r1 (hex _ rfl ?_)
  cases r1; exact .inl ⟨_,rfl⟩
 ·refine Be.pure h h1 r1 (hex _ rfl ?_)
  cases r1; exact .inl ⟨_,rfl⟩
 ·refine Be.pure h h1 r1 (hex _ rfl ?_)
  cases r1; exact .inr ⟨_,_,_,rfl⟩
 ·exact h1.elim
def XI(P:Program)(n:Nat)(o:Oper)(ty:TypeId)(x:Operand)(f:Nat):RM (List Wr):=match XA P ty f with
 | some (fo,ft)=>match KV P ft with
  | some (_+1)=>ev x fun lv=>match lv with
   | .lp i off=>wv n o (.lp i (off+fo))
   | .v (.ro cs off)=>wv n o (.v (.ro cs (off+fo)))
   | .v (.xp m off)=>wv n o (.v (.xp m (off+fo)))
   | _ => .fail
  | _ => .fail
 | none => .fail
theorem Rk{ty:TypeId}{f fo:Nat}{ft:TypeId}(h:XA P ty f=some (fo,ft)):∃fs fd,P.underlying ty=some (.struct fs)/\fs[f]?=some fd/\fd.offset=fo/\fd.type=ft:=by
 unfold XA at h
 split at h
 ·rename_i fs hu
  simp only [Option.map_eq_some_iff,Prod.mk.injEq] at h
  obtain ⟨fd,h1,h2,h3⟩:=h
  exact ⟨fs,fd,hu,h1,h2,h3⟩
 ·cases h
theorem Rl{ty:TypeId}{f fo:Nat}{ft:TypeId}{m:Nat}(h:XA P ty f=some (fo,ft))(hs:KV P ft=some (m+1))(b off:Nat):(Instr.fieldAt ty (.pointer (some ⟨b,off,none⟩)) f).run P w = .ok (.pointer (some ⟨b,off+fo,none⟩)) w:=by
 obtain ⟨fs,fd,hu,hf,rfl,rfl⟩:=Rk h
 have XJ:(⟨b,off,none⟩:Addr).add fd.offset=⟨b,off+fd.offset,none⟩:=by unfold Addr.add; split <;> simp_all
 simp only [Instr.fieldAt,Sem.run_bind,run_underlying hu,Result.andThen_ok,hf,Instr.sureAddr,Sem.run_pure,fieldPlace,run_sizeOf hs]
 simp [XJ]
theorem Rm{ty:TypeId}{x:Operand}{f:Nat}(ho:o.op = .fieldAddr ty x f)(h:Bc cx s g l a w)(hw:(XI P cx.n o ty x f).wp s K):Be P cx s o K a w:=by
 unfold XI at hw
 split at hw
 ·rename_i fo ft hfo
  split at hw
  ·rename_i m hm
   obtain ⟨lv,u,h1,r1,-⟩:=Cc h hw
   have hex:∀b off,a.eval x = .pointer (some ⟨b,off,none⟩)->(execOp a.eval o).run P w = .ok (.value (.pointer (some ⟨b,off+fo,none⟩))) w:=by
    intro b off hv
    simp only [execOp,ho,hv,Sem.run_bind,Rl hfo hm,Result.andThen_ok,Sem.run_pure]
   generalize a.eval x=vx at r1 hex
   split at h1
   ·obtain ⟨b,hb,rfl⟩:=r1
    exact Be.value h1 h (fun _=>⟨b,hb,rfl⟩) (hex _ _ rfl)
   ·cases r1 with
    | ro _ A73 b oo vs hc hf Xd hr=>
     have:=hex b _ rfl
     rw [Nat.add_assoc] at this
     exact Be.pure h h1 (.ro _ _ b oo vs hc hf Xd hr) this
   ·cases r1 with
    | xp _ off b hx=>exact Be.pure h h1 (.xp _ _ b hx) (hex _ _ rfl)
   ·exact h1.elim
  ·exact hw.elim
 ·exact hw.elim
def Oc(P:Program)(ty:TypeId)(cs:List PV)(off:Nat):Option PV:=match M3 P ty with
 | some true=>match KV P ty with
  | some m=>if off+m<=cs.length then some (.agg ((cs.drop off).take m)) else none
  | none=>none
 | some false=>cs[off]?
 | none=>none
theorem Hl{ty:TypeId}{cs:List PV}{off:Nat}{p:PV}{vs:List Value}(h:Oc P ty cs off=some p)(hr:AE g w cs vs)(ho:∀v∈vs,v.oneCell'=true):∃v,(part ty vs.toArray off).run P w = .ok v w/\BO g w p v:=by
 unfold Oc at h
 split at h
 ·rename_i ha
  split at h
  ·rename_i m hm
   split at h
   ·rename_i hle
    injection h with h
    subst h
    refine ⟨.agg ((vs.drop off).take m).toArray,?_,?_⟩
    ·simp only [part,Sem.run_bind,Hh ha,Result.andThen_ok,if_true,run_sizeOf hm,Sem.run_pure]
     congr 2
     apply Array.ext'
     simp [List.extract_eq_take_drop]
    ·refine .agg _ _ (by simp [hr.1]) (fun v hv=>ho v (List.mem_of_mem_drop (List.mem_of_mem_take hv))) fun j hj Cj=>?_
     simp only [List.getElem_take,List.getElem_drop]
     exact hr.2 _ _ _
   ·cases h
  ·cases h
 ·rename_i ha
  have Ad:=(List.getElem?_eq_some_iff.1 h).1
  have CL:off<vs.length:=by rw [<-hr.1]; exact Ad
  refine ⟨vs[off],?_,?_⟩
  ·simp [part,Hh ha,List.getElem?_eq_getElem CL]
  ·have:=hr.2 off Ad CL
   rw [List.getElem?_eq_getElem Ad] at h
   injection h with h
   rw [<-h]; exact this
 ·cases h
def ME(P:Program)(n:Nat)(o:Oper)(ty:TypeId)(x:Operand)(f:Nat):RM (List Wr):=match XA P ty f with
 | some (fo,ft)=>Hj x fun p=>match p with
  | .agg cs=>match Oc P ft cs fo with
   | some q=>wv n o (.v q)
   | none => .fail
  | _ => .fail
 | none => .fail
theorem MF{ty:TypeId}{x:Operand}{f:Nat}(ho:o.op = .field ty x f)(h:Bc cx s g l a w)(hw:(ME P cx.n o ty x f).wp s K):Be P cx s o K a w:=by
 unfold ME at hw
 split at hw
 ·rename_i fo ft hfo
  obtain ⟨p,h1,r1⟩:=AZ h hw
  obtain ⟨fs,fd,hu,hf,rfl,rfl⟩:=Rk hfo
  have hex:∀v vs,a.eval x = .agg vs->(part fd.type vs fd.offset).run P w = .ok v w->(execOp a.eval o).run P w = .ok (.value v) w:=by
   intro v vs hv hp
   simp only [execOp,ho,hv,Instr.field,Sem.run_bind,run_underlying hu,Result.andThen_ok,hf,asAgg,Sem.run_pure,hp]
  generalize a.eval x=vx at r1 hex
  split at h1
  ·rename_i cs
   split at h1
   ·rename_i q hq
    cases r1 with
    | agg _ vs hl Ck hr=>
     obtain ⟨v,k1,k2⟩:=Hl (P:=P) hq ⟨hl,hr⟩ Ck
     exact Be.pure h h1 k2 (hex _ _ rfl k1)
   ·exact h1.elim
  ·exact h1.elim
 ·exact hw.elim
def VY:LV->Option (Nat × List (List PV))
 | .v (.sl z es)=>some (z,es)
 | .uniq e z es=>if e<1000000 then some (z,es) else none
 | .full z es=>some (z,es)
 | _=>none
theorem MG{lv:LV}{z:Nat}{es:List (List PV)}(h:VY lv=some (z,es)):Xc lv=some (.sl z es):=by
 unfold VY at h
 split at h
 ·injection h with h; injection h with h1 h2; subst h1 h2; rfl
 ·split at h
  ·rename_i Ad
   injection h with h; injection h with h1 h2; subst h1 h2; exact iP Ad
  ·cases h
 ·injection h with h; injection h with h1 h2; subst h1 h2; rfl
 ·cases h
def kW:LV->Option (Nat × Nat × Nat)
 | .v (.Ue x z len)=>some (x,z,len)
 | _=>none
def OG:LV->Option (Nat × Nat × Nat)
 | .v (.M0 x c len)=>some (x,c,len)
 | _=>none
def XK(P:Program)(n:Nat)(o:Oper)(ty:TypeId)(x i:Operand):RM (List Wr):=match (GC P ty).bind (KV P) with
 | some (m+1)=>ev x fun lv=>Hj i fun q=>match OG lv,kW lv,VY lv,q with
  | some (x,c,len),_,_,.int _ j=>if m=0 then .assume (decide (0<=j/\j<len)) (wv n o (.v (.yp x c j.toNat))) else .fail
  | none,some (x,z,len),_,.int _ j=>if z=m+1 then .assume (decide (0<=j/\j<len)) (wv n o (.v (.xp x (j.toNat * (m+1))))) else .fail
  | none,none,some (z,es),.int _ j=>if z=m+1 then .assume (decide (0<=j/\j<es.length)) (wv n o (.v (.ro (es.getD j.toNat []) 0))) else .fail
  | _,_,_,_ => .fail
 | _ => .fail
theorem EH{ty e:TypeId}(h:GC P ty=some e):P.underlying ty=some (.slice e):=by
 unfold GC at h
 split at h
 ·rename_i hu; injection h with h; subst h; exact hu
 ·cases h
theorem BO.elem{z:Nat}{es:List (List PV)}{a:Addr}{n cap i:Nat}(h:BO g w (.sl z es) (.slice (some a) n cap))(hz:0<z)(hi:i<es.length):BO g w (.ro es[i] 0) (.pointer (some (a.add (i * z)))):=by
 cases h with
 | sl _ _ _ _ vs hle D5 Cb hc hf h1 hr=>
  have h0:=hc i 0 hi hz
  have ha:=Kc h0
  rw [Nat.add_zero] at ha
  rw [ha]
  refine .ro es[i] 0 a.block (a.off+i * z) (vs i) (fun j hj=>?_) (fun j hj=>?_) (fun j hj=>h1 i j hi (by rw [<-Cb i hi]; exact hj)) fun j hj=>hr i j hi hj
  ·have Cj:j<z:=by rw [<-Cb i hi]; exact hj
   have:=hc i j hi Cj
   rw [Kc this] at this
   rw [Nat.add_assoc]
   exact this
  ·have Cj:j<z:=by rw [<-Cb i hi]; exact hj
   rw [Nat.add_assoc]
   exact hf i j hi Cj
theorem Rn{ty:TypeId}{x i:Operand}(ho:o.op = .indexAddr ty x i)(h:Bc cx s g l a w)(hw:(XK P cx.n o ty x i).wp s K):Be P cx s o K a w:=by
 unfold XK at hw
 split at hw
 ·rename_i m hm
  simp only [Option.bind_eq_some_iff] at hm
  obtain ⟨e,he,hme⟩:=hm
  have hu:=EH he
  obtain ⟨lv,u,h1,r1,-⟩:=Cc h hw
  obtain ⟨q,h2,r2⟩:=AZ h h1
  have hex:∀b len cap k (j:Int),a.eval x = .slice (some b) len cap->a.eval i = .int k j->0<=j/\j<len->(execOp a.eval o).run P w = .ok (.value (.pointer (some (b.add (j.toNat * (m+1)))))) w:=by
   intro b len cap k j hx hi hj
   simp only [execOp,ho,hx,hi,Instr.indexAt,Sem.run_bind,asIntOf,Sem.run_pure,Result.andThen_ok,run_underlying hu]
   simp [hj,run_sizeOf hme]
  generalize a.eval x=vx at r1 hex
  generalize a.eval i=vi at r2 hex
  split at h2
  ·rename_i x c len k j hx
   split at h2
   case isFalse=>exact h2.elim
   rename_i pH
   subst pH
   have hj:=of_decide_eq_true h2.1; replace h2:=h2.2
   unfold OG at hx
   split at hx
   ·injection hx with hx
    simp only [Prod.mk.injEq] at hx
    obtain ⟨rfl,rfl,rfl⟩:=hx
    cases r2
    cases r1 with
    | M0 _ _ _ b cap cur e hb _ _ _ _=>
     refine Be.pure h h2 ?_ (hex _ _ _ _ _ rfl rfl hj)
     have:∀q,(⟨b,q,none⟩:Addr).add (j.toNat * (0+1))=⟨b,q+j.toNat * (0+1),none⟩:=fun q=>My _ _ (by unfold Addr.add; split <;> rfl)
     rw [this,Nat.zero_add,Nat.zero_add,Nat.mul_one]
     exact .yp _ _ _ b hb
   ·cases hx
  ·rename_i x z len k j _ hx
   split at h2
   case isFalse=>exact h2.elim
   have hj:=of_decide_eq_true h2.1; replace h2:=h2.2
   unfold kW at hx
   split at hx
   ·injection hx with hx
    simp only [Prod.mk.injEq] at hx
    obtain ⟨rfl,rfl,rfl⟩:=hx
    cases r2
    cases r1 with
    | Ue _ _ _ b cap cur e hb _ _ _ _=>
     refine Be.pure h h2 ?_ (hex _ _ _ _ _ rfl rfl hj)
     have:∀q,(⟨b,q,none⟩:Addr).add (j.toNat * (m+1))=⟨b,q+j.toNat * (m+1),none⟩:=fun q=>My _ _ (by unfold Addr.add; split <;> rfl)
     rw [this,Nat.zero_add]
     exact .xp _ _ b hb
   ·cases hx
  ·rename_i z es k j _ _ hsl
   split at h2
   ·rename_i hz
    have hj:=of_decide_eq_true h2.1; replace h2:=h2.2
    have r1':=EY (MG hsl) r1
    cases r2
    have hjn:j.toNat<es.length:=by omega
    rw [List.getD_eq_getElem?_getD,List.getElem?_eq_getElem hjn] at h2
    subst hz
    have Ct:es≠[]:=by rintro rfl; simp at hjn
    have K6:∃b cap,vx = .slice (some b) es.length cap:=by
     cases r1' with
     | slnil=>exact absurd rfl Ct
     | sl _ _ b cap _ _ _ _ _ _ _=>exact ⟨b,cap,rfl⟩
    obtain ⟨b,cap,rfl⟩:=K6
    exact Be.pure h h2 (r1'.elem (Nat.succ_pos m) hjn) (hex _ _ _ _ _ rfl rfl hj)
   ·exact h2.elim
  ·exact h2.elim
 ·exact hw.elim
def L6(P:Program)(t:TypeId):Bool:=match P.underlying t with
 | some .string=>true
 | _=>false
def kX(n:Nat)(o:Oper)(x:Operand)(i:Nat):RM (List Wr):=Hj x fun p=>match p with
 | .B6 vs=>match vs[i]? with
  | some q=>wv n o (.v q)
  | none => .fail
 | _ => .fail
theorem Ro{x:Operand}{i:Nat}(ho:o.op = .extract x i)(h:Bc cx s g l a w)(hw:(kX cx.n o x i).wp s K):Be P cx s o K a w:=by
 obtain ⟨p,h1,r1⟩:=AZ h hw
 have hex:∀v vs,a.eval x = .tuple vs->vs[i]?=some v->(execOp a.eval o).run P w = .ok (.value v) w:=by
  intro v vs hx hv
  simp [execOp,ho,hx,Instr.extract,hv]
 generalize a.eval x=vx at r1 hex
 split at h1
 ·rename_i ps
  split at h1
  ·rename_i q hq
   cases r1 with
   | B6 _ vs hl hr=>
    have Ad:=(List.getElem?_eq_some_iff.1 hq).1
    have CL:i<vs.length:=by rw [<-hl]; exact Ad
    rw [List.getElem?_eq_getElem Ad] at hq
    injection hq with hq
    have:=hr i Ad CL
    rw [hq] at this
    exact Be.pure h h1 this (hex _ _ rfl (by simp [List.getElem?_eq_getElem CL]))
  ·exact h1.elim
 ·exact h1.elim
def yT:LV->Option Nat
 | .v .Ab=>some 0
 | .v (.Ue _ _ len)=>some len
 | .v (.M0 _ _ len)=>some len
 | lv=>(VY lv).map (·.2.length)
def Td(P:Program)(n:Nat)(o:Oper)(ty:TypeId)(x:Operand):RM (List Wr):=match GC P ty with
 | some _=>ev x fun lv=>match yT lv with
  | some k=>wv n o (.v (.int .i64 k))
  | none => .fail
 | none=>if L6 P ty=true then Hj x fun p=>match p with
   | .str b=>wv n o (.v (.int .i64 b.size))
   | _ => .fail
  else .fail
theorem PS{x:Operand}{ty:TypeId}(ho:o.op = .call { callee := .builtin .len,args:=#[x],argTypes:=#[ty] })(h:Bc cx s g l a w)(hw:(Td P cx.n o ty x).wp s K):Be P cx s o K a w:=by
 have hex:∀k:Nat,(Builtin.len_ #[ty] o.type #[a.eval x]).run P w = .ok (.int .i64 k) w->(execOp a.eval o).run P w = .ok (.value (.int .i64 k)) w:=by
  intro k hv
  simp only [execOp,ho,resolve,invoke,builtin,Sem.run_bind,Sem.run_pure,Result.andThen_ok,List.map_toArray,List.map_cons,List.map_nil,hv]
 unfold Td at hw
 split at hw
 ·rename_i e he
  have hu:=EH he
  obtain ⟨lv,u,h1,r1,-⟩:=Cc h hw
  generalize a.eval x=vx at r1 hex
  have key:∀b n c,(Builtin.len_ #[ty] o.type #[.slice b n c]).run P w = .ok (.int .i64 n) w:=by
   intro b n c
   simp [Builtin.len_,run_underlying hu,goInt]
  split at h1
  ·rename_i k hk
   refine Be.pure h h1 (.int _ _) (hex _ ?_)
   unfold yT at hk
   split at hk
   ·injection hk with hk; subst hk; cases r1; exact key _ _ _
   ·injection hk with hk; subst hk; cases r1; exact key _ _ _
   ·injection hk with hk; subst hk; cases r1; exact key _ _ _
   ·simp only [Option.map_eq_some_iff] at hk
    obtain ⟨⟨z,es⟩,hs,rfl⟩:=hk
    have r1':=EY (MG hs) r1
    cases r1' <;> exact key _ _ _
  ·exact h1.elim
 ·split at hw
  ·rename_i JH
   unfold L6 at JH
   split at JH
   ·rename_i hu
    obtain ⟨p,h1,r1⟩:=AZ h hw
    generalize a.eval x=vx at r1 hex
    split at h1
    ·cases r1
     refine Be.pure h h1 (.int _ _) (hex _ ?_)
     simp [Builtin.len_,run_underlying hu,goInt]
    ·exact h1.elim
   ·cases JH
  ·exact hw.elim
def Mf(n:Nat)(o:Oper)(c x y:Operand):RM (List Wr):=Hj c fun p=>match p with
 | .bool true=>Hj x fun q=>wv n o (.v q)
 | .bool false=>Hj y fun q=>wv n o (.v q)
 | _ => .fail
theorem Od{c x y:Operand}(ho:o.op = .pick c x y)(h:Bc cx s g l a w)(hw:(Mf cx.n o c x y).wp s K):Be P cx s o K a w:=by
 obtain ⟨p,h1,r1⟩:=AZ h hw
 have hex:∀b,a.eval c = .bool b->(execOp a.eval o).run P w = .ok (.value (if b then a.eval x else a.eval y)) w:=by
  intro b hc
  simp [execOp,ho,hc,asBool]
 generalize a.eval c=vc at r1 hex
 split at h1
 ·cases r1
  obtain ⟨q,h2,r2⟩:=AZ h h1
  exact Be.pure h h2 r2 (hex _ rfl)
 ·cases r1
  obtain ⟨q,h2,r2⟩:=AZ h h1
  exact Be.pure h h2 r2 (hex _ rfl)
 ·exact h1.elim
def XL(P:Program)(n:Nat)(o:Oper)(x:Operand)(ty:TypeId)(ok:Bool):RM (List Wr):=if Kj P ty=true then Hj x fun p=>match p with
  | .iface t q=>if t=ty then (if ok then wv n o (.v (.B6 [q,.bool true])) else wv n o (.v q)) else .fail
  | _ => .fail
 else .fail
theorem Rp{x:Operand}{xt ty:TypeId}{ok:Bool}(ho:o.op = .typeAssert x xt ty ok)(h:Bc cx s g l a w)(hw:(XL P cx.n o x ty ok).wp s K):Be P cx s o K a w:=by
 unfold XL at hw
 split at hw
 ·rename_i hn
  obtain ⟨p,h1,r1⟩:=AZ h hw
  have hex:∀v,a.eval x = .iface ty v->(execOp a.eval o).run P w = .ok (.value (if ok then .tuple #[v,.bool true] else v)) w:=by
   intro v hx
   unfold Kj at hn
   split at hn
   ·cases hn
   ·rename_i d hd hu
    simp only [execOp,ho,hx,Instr.typeAssert,Sem.run_bind,run_underlying hu,Result.andThen_ok]
    cases d <;> simp_all
   ·cases hn
  generalize a.eval x=vx at r1 hex
  split at h1
  ·rename_i t q
   split at h1
   ·rename_i ht
    subst ht
    cases r1 with
    | iface _ _ v hv=>
     cases ok with
     | true=>exact Be.pure h h1 (.B6 [q,.bool true] [v,.bool true] rfl fun j hj Cj=>by
       match j,hj with
       | 0,_=>exact hv
       | 1,_=>exact .bool true) (hex _ rfl)
     | false=>exact Be.pure h h1 hv (hex _ rfl)
   ·exact h1.elim
  ·exact h1.elim
 ·exact hw.elim
end
section
variable {P:Program} {cx:Cx} {s t:S} {g:Gh} {l:LG} {a:Act} {w:World} {o:Oper} {K:List Wr->Prop}
def PV.wT:PV->Option (List PV)
 | .agg cs=>some cs
 | .B6 _=>none
 | p=>some [p]
theorem J4{p:PV}{v:Value}{cs:List PV}(h:p.wT=some cs)(hr:BO g w p v):AE g w cs v.cells.toList/\∀u∈v.cells.toList,u.oneCell'=true:=by
 unfold PV.wT at h
 split at h
 ·injection h with h
  subst h
  cases hr with
  | agg _ vs hl ho hr=>exact ⟨⟨hl,hr⟩,ho⟩
 ·cases h
 ·rename_i n1 n2
  injection h with h
  subst h
  have Ck:v.oneCell'=true:=hr.one (by cases p <;> first | rfl | exact absurd rfl (n1 _) | exact absurd rfl (n2 _))
  have:v.cells = #[v]:=by cases v <;> first | rfl | cases Ck
  rw [this]
  exact ⟨.cons hr .nil,by simpa using Ck⟩
theorem Fv{ty:TypeId}{zs:List PV}(h:Uh P ty=some zs):∃i z,P.info? ty=some i/\i.zero=some z/\eT z.cells.toList=some zs:=by
 unfold Uh at h
 simp only [Option.bind_eq_some_iff] at h
 obtain ⟨z,⟨i,h1,h2⟩,h3⟩:=h
 exact ⟨i,z,h1,h2,h3⟩
theorem Bc.box(h:Bc cx s g l a w){d:Nat}(hd:d<cx.n)(cur:Array Value)(e:TypeId)(ps:List PV)(hr:AE g w ps cur.toList)(Ck:∀u∈cur.toList,u.oneCell'=true) :
  ∃g' l',Bc cx (s.Io [.Dz d ps,.tmp d (.lp d 0)]) g' l' (a.put (some d) (.pointer (some ⟨w.heap.size,0,none⟩))) (w.alloc (.cells cur e)):=by
 obtain ⟨h1,-⟩:=h.Dz d cur e ps hr Ck
 exact ⟨_,_,h1.set hd ⟨w.heap.size,BJ _ _ _,rfl⟩⟩
def MH(P:Program)(n:Nat)(o:Oper)(ty:TypeId):RM (List Wr):=match Uh P ty,o.dst with
 | some zs,some d=>if d<n then .ret [.Dz d zs,.tmp d (.lp d 0)] else .fail
 | _,_ => .fail
theorem MI{ty:TypeId}(ho:o.op = .alloc ty)(h:Bc cx s g l a w)(hw:(MH P cx.n o ty).wp s K):Be P cx s o K a w:=by
 unfold MH at hw
 split at hw
 ·rename_i zs d hz hd
  split at hw
  ·rename_i Ad
   obtain ⟨i,z,h1,h2,h3⟩:=Fv hz
   intro Q
   unfold Oper.wp
   have BW:(execOp a.eval o).run P w = .ok (.value (.pointer (some ⟨w.heap.size,0,none⟩))) (w.alloc (.cells z.cells ty)):=by
    simp [execOp,ho,Instr.alloc,zeroValue,typeInfo,h1,h2,newVar,newRow]
   rw [BW,Oper.upon_value,hd]
   obtain ⟨g',l',hs⟩:=h.box Ad z.cells ty zs (EX h3).1 (EX (g:=g) (w:=w) h3).2.1
   exact ⟨_,g',l',hw,hs⟩
  ·exact hw.elim
 ·exact hw.elim
def XM(ro:TypeId->Option Bool)(n:Nat)(o:Oper)(ty:TypeId)(x:Operand):RM (List Wr):=Hj x fun p=>match p.wT,o.dst with
 | some cs,some d=>if d<n then (match ro ty with | some true => .ret [.tmp d (.v (.ro cs 0))] | some false => .ret [.Dz d cs,.tmp d (.lp d 0)] | none => .fail) else .fail
 | _,_ => .fail
theorem PT{ro:TypeId->Option Bool}{ty:TypeId}{x:Operand}(ho:o.op = .box ty x)(h:Bc cx s g l a w)(hw:(XM ro cx.n o ty x).wp s K):Be P cx s o K a w:=by
 obtain ⟨p,h1,r1⟩:=AZ h hw
 have BW:(execOp a.eval o).run P w = .ok (.value (.pointer (some ⟨w.heap.size,0,none⟩))) (w.alloc (.cells (a.eval x).cells ty)):=by
  simp [execOp,ho,Instr.box,newVar,newRow]
 generalize a.eval x=vx at r1 BW
 split at h1
 ·rename_i cs d hc hd
  obtain ⟨hr,Ck⟩:=J4 hc r1
  split at h1
  ·rename_i Ad
   split at h1
   ·obtain ⟨h2,hm⟩:=h.alloc (.cells vx.cells ty)
    refine Be.value (lv := .v (.ro cs 0)) (by unfold wv; rw [hd]; simp only [Ad,if_true]; exact h1) h2 (fun _=>?_) BW
    have Fy:∀j (hj:j<cs.length),(w.alloc (.cells vx.cells ty)).cell? ⟨w.heap.size,0+j,none⟩=some (vx.cells.getD j undef):=fun j hj=>by
     have:=heap_alloc_new w (.cells vx.cells ty)
     have Cj:j<vx.cells.size:=by rw [<-Array.length_toList,<-hr.1]; exact hj
     simp only [World.cell?,this]
     simp [Cj]
    refine .ro cs 0 w.heap.size 0 (fun j=>vx.cells.getD j undef) Fy (fun j hj k hk=>?_) (fun j hj=>?_) fun j hj=>?_
    ·rw [h.fresh.1 _ (Nat.le_refl _)] at hk; cases hk
    ·have Cj:j<vx.cells.size:=by rw [<-Array.length_toList,<-hr.1]; exact hj
     refine Ck _ ?_
     simp [Cj]
    ·have Cj:j<vx.cells.toList.length:=by rw [<-hr.1]; exact hj
     have:=(hr.2 j hj Cj).mono hm
     have Xb:j<vx.cells.size:=by simpa using Cj
     simpa [Xb] using this
   ·intro Q
    unfold Oper.wp
    rw [BW,Oper.upon_value,hd]
    obtain ⟨g',l',hs⟩:=h.box Ad vx.cells ty cs hr Ck
    exact ⟨_,g',l',h1,hs⟩
   ·exact h1.elim
  ·exact h1.elim
 ·exact h1.elim
def FX(P:Program)(ty:TypeId):Option (List (Nat × Nat)):=match P.underlying ty with
 | some (.struct fs)=>fs.toList.mapM (fun f=>(P.info? f.type).map fun i=>(f.offset,i.size))
 | _=>none
def Rq(places:List (Nat × Nat))(cells:List PV):List (Nat × PV)->Option (List PV)
 | []=>some cells
 | (i,p)::r=>match places[i]?,p.wT with
  | some (off,size),some pc=>if pc.length=size/\off+size<=cells.length then Rq places (AO cells off pc) r else none
  | _,_=>none
theorem Te{α:Type}(cs:List α)(k:Nat)(v:α)(r:List α)(h:k+(r.length+1)<=cs.length):AO (cs.set k v) (k+1) r=AO cs k (v::r):=by
 apply List.ext_getElem?
 intro j
 rw [BL _ _ _ (by simp; omega),BL _ _ _ (by simpa using h)]
 by_cases hj:j=k
 ·subst hj
  rw [iN oM,iP sM]
  simp [show j<cs.length by omega]
 ·by_cases HK:k+1<=j/\j<k+1+r.length
  ·rw [iP HK,iP (by simp; omega)]
   rw [show j - k=(j - (k+1))+1 by omega]
   simp
  ·rw [iN HK,iN (by simp; omega),List.getElem?_set_ne oM]
theorem IA(off:Nat):∀ (vs:List Value) (k:Nat) (cells:Array Value),off+k+vs.length<=cells.size ->
  ((vs.zipIdx k).foldl (fun (cs:Array Value) (x:Value × Nat)=>cs.setIfInBounds (off+x.2) x.1) cells).toList=AO cells.toList (off+k) vs
 | [],k,cells,_=>by simp [Gb cells.toList (off+k) [] (by simp; omega)]
 | v::r,k,cells,h=>by
  simp only [List.zipIdx_cons,List.foldl_cons]
  rw [IA off r (k+1) _ (by simp at h ⊢; omega)]
  simp only [Array.toList_setIfInBounds]
  exact Te cells.toList (off+k) v r (by simp at h ⊢; omega)
theorem AE.AO{cs ds:List PV}{vs us:List Value}{off:Nat}(h:AE g w cs vs)(k:AE g w ds us)(hf:off+ds.length<=cs.length):AE g w (Pv.AO cs off ds) (Pv.AO vs off us):=by
 have kK:off+us.length<=vs.length:=by rw [<-h.1,<-k.1]; exact hf
 rw [Gb _ _ _ hf,Gb _ _ _ kK]
 have hl:=h.1
 have kl:=k.1
 refine ⟨by simp [hl,kl],fun j hj Cj=>?_⟩
 simp only [List.getElem_append]
 by_cases h1:j<off
 ·have e1:j<((List.take off cs)++ds).length:=by simp; omega
  have e2:j<((List.take off vs)++us).length:=by simp; omega
  rw [dif_pos e1,dif_pos e2]
  rw [dif_pos (by simp; omega),dif_pos (by simp; omega)]
  simp only [List.getElem_take]
  exact h.2 _ _ _
 ·by_cases h2:j<off+ds.length
  ·have e1:j<((List.take off cs)++ds).length:=by simp; omega
   have e2:j<((List.take off vs)++us).length:=by simp; omega
   rw [dif_pos e1,dif_pos e2]
   rw [dif_neg (by simp; omega),dif_neg (by simp; omega)]
   have e3:(List.take off cs).length=(List.take off vs).length:=by simp [hl]
   simp only [e3]
   exact k.2 _ _ _
  ·have e1:¬j<((List.take off cs)++ds).length:=by simp; omega
   have e2:¬j<((List.take off vs)++us).length:=by simp; omega
   rw [dif_neg e1,dif_neg e2]
   have e3:((List.take off cs)++ds).length=((List.take off vs)++us).length:=by simp [hl,kl]
   simp only [e3,List.getElem_drop,kl]
   exact h.2 _ _ _
theorem Tf{α:Type}{cs vs:List α}{off:Nat}(hf:off+vs.length<=cs.length){x:α}(hx:x∈AO cs off vs):x∈cs∨x∈vs:=by
 rw [Gb _ _ _ hf] at hx
 simp only [List.mem_append] at hx
 rcases hx with (hx | hx) | hx
 ·exact .inl (List.mem_of_mem_take hx)
 ·exact .inr hx
 ·exact .inl (List.mem_of_mem_drop hx)
theorem Rr{places:List (Nat × Nat)}:∀ {parts:List (Nat × PV)} {vals:List (Nat × Value)} {cells r:List PV} {cv:Array Value},Rq places cells parts=some r ->
  AE g w cells cv.toList->(∀u∈cv.toList,u.oneCell'=true)->parts.map (·.1)=vals.map (·.1)->AE g w (parts.map (·.2)) (vals.map (·.2)) ->
  ∃c,Instr.fill (places.toArray[·]?) cv vals=some c/\AE g w r c.toList/\∀u∈c.toList,u.oneCell'=true
 | [],vals,cells,r,cv,h,hr,Ck,hi,_=>by
  simp only [Rq,Option.some.injEq] at h
  subst h
  have:vals=[]:=by simpa using hi.symm
  subst this
  exact ⟨cv,rfl,hr,Ck⟩
 | (i,p)::parts,vals,cells,r,cv,h,hr,Ck,hi,hp=>by
  cases vals with
  | nil=>simp at hi
  | cons x vals=>
   obtain ⟨i',v⟩:=x
   simp only [List.map_cons,List.cons.injEq] at hi
   obtain ⟨rfl,hi⟩:=hi
   simp only [List.map_cons] at hp
   obtain ⟨v',fO,e,hv,Kl⟩:=hp.Hf
   injection e with e1 e2
   subst e1 e2
   simp only [Rq] at h
   split at h
   ·rename_i off size pc kY hpc
    split at h
    ·rename_i hc
     obtain ⟨k1,k2⟩:=J4 hpc hv
     have Cb:v.cells.size=size:=by rw [<-Array.length_toList,<-k1.1]; exact hc.1
     have DM:cells.length=cv.size:=by rw [hr.1]; simp
     have XN:=IA off v.cells.toList 0 cv (by simp; omega)
     have e3:(v.cells.zipIdx.foldl (fun cs (x:Value × Nat)=>cs.setIfInBounds (off+x.2) x.1) cv).toList=Pv.AO cv.toList off v.cells.toList:=by
      rw [<-Array.foldl_toList,Array.toList_zipIdx]
      simpa using XN
     have fX:AE g w (Pv.AO cells off pc) (v.cells.zipIdx.foldl (fun cs (x:Value × Nat)=>cs.setIfInBounds (off+x.2) x.1) cv).toList:=by
      rw [e3]
      exact hr.AO k1 (by rw [hc.1]; exact hc.2)
     obtain ⟨c,m1,m2,m3⟩:=Rr (places:=places) h fX (by
      intro u hu
      rw [e3] at hu
      rcases Tf (by simp; omega) hu with hu | hu
      ·exact Ck u hu
      ·exact k2 u hu) hi Kl
     refine ⟨c,?_,m2,m3⟩
     simp only [Instr.fill]
     rw [show (places.toArray[i]?:Option (Nat × Nat))=some (off,size) by simpa using kY]
     simp only [Cb,ne_eq,not_true_eq_false,decide_false,Bool.false_or]
     rw [iN (by simp; omega)]
     exact m1
    ·cases h
   ·cases h
def Mg{α:Type}:List (Nat × Operand)->(List (Nat × PV)->RM α)->RM α
 | [],k=>k []
 | (i,x)::r,k=>Hj x fun p=>Mg r fun ps=>k ((i,p)::ps)
theorem H6{α:Type}:∀ {xs:List (Nat × Operand)} {k:List (Nat × PV)->RM α} {K:α->Prop},Bc cx s g l a w->(Mg xs k).wp s K ->
  ∃ps,(k ps).wp s K/\ps.map (·.1)=xs.map (·.1)/\AE g w (ps.map (·.2)) (xs.map fun x=>a.eval x.2)
 | [],k,K,_,hw=>⟨[],hw,rfl,.nil⟩
 | (i,x)::r,k,K,h,hw=>by
  obtain ⟨p,h1,h2⟩:=AZ h hw
  obtain ⟨ps,h3,h4,h5⟩:=H6 h h1
  exact ⟨(i,p)::ps,h3,by simp [h4],.cons h2 h5⟩
def MJ(P:Program)(n:Nat)(o:Oper)(ty:TypeId)(parts:Array (Nat × Operand)):RM (List Wr):=match FX P ty,Uh P ty with
 | some places,some zs=>Mg parts.toList fun ps=>match Rq places zs ps with
  | some cs=>wv n o (.v (.agg cs))
  | none => .fail
 | _,_ => .fail
theorem MK{ty:TypeId}{parts:Array (Nat × Operand)}(ho:o.op = .build ty parts)(h:Bc cx s g l a w)(hw:(MJ P cx.n o ty parts).wp s K):Be P cx s o K a w:=by
 unfold MJ at hw
 split at hw
 ·rename_i places zs hp hz
  obtain ⟨ps,h1,h2,h3⟩:=H6 h hw
  split at h1
  ·rename_i cs DM
   obtain ⟨i,z,k1,k2,k3⟩:=Fv hz
   have hzr:=EX (g:=g) (w:=w) k3
   obtain ⟨c,m1,m2,m3⟩:=Rr (g:=g) (w:=w) (vals:=parts.toList.map fun x=>(x.1,a.eval x.2)) DM hzr.1 hzr.2.1 (by rw [List.map_map]; exact h2) (by rw [List.map_map]; exact h3)
   have hb:P.built ty (parts.map fun (i,x)=>(i,a.eval x)).toList=some c:=by
    unfold FX at hp
    split at hp
    ·rename_i fs hu
     unfold Program.built
     simp only [k1,hu,k2,hp]
     simpa using m1
    ·cases hp
   refine Be.pure (v := .agg c) h h1 ?_ ?_
   ·have:=m2.agg m3
    simpa using this
   ·simp only [execOp,ho,Sem.run_bind,run_build w ty _ c hb,Result.andThen_ok,Sem.run_pure]
  ·exact h1.elim
 ·exact hw.elim
end
section
variable {P:Program} {cx:Cx} {s t:S} {g:Gh} {l:LG} {a:Act} {w:World} {o:Oper} {K:List Wr->Prop}
def ML(size:Nat):Nat->List (Nat × PV)->Option (List (List PV))
 | _,[]=>some []
 | k,(i,p)::r=>match p.wT,ML size (k+1) r with
  | some pc,some es=>if i=k/\pc.length=size then some (pc::es) else none
  | _,_=>none
theorem MM{size:Nat}:∀ {ps:List (Nat × PV)} {vals:List (Nat × Value)} {k:Nat} {es:List (List PV)},ML size k ps=some es->ps.map (·.1)=vals.map (·.1)->AE g w (ps.map (·.2)) (vals.map (·.2)) ->
  vals.map (·.1)=List.range' k vals.length/\(∀x∈vals,x.2.cells.size=size)/\es.length=vals.length/\(∀i (h:i<es.length),es[i].length=size)/\AE g w es.flatten (vals.map fun x=>x.2.cells.toList).flatten /\
   ∀u∈(vals.map fun x=>x.2.cells.toList).flatten,u.oneCell'=true
 | [],vals,k,es,h,hi,_=>by
  simp only [ML,Option.some.injEq] at h
  subst h
  have:vals=[]:=by simpa using hi.symm
  subst this
  exact ⟨rfl,by simp,rfl,fun i h=>by simp at h,.nil,by simp⟩
 | (i,p)::ps,vals,k,es,h,hi,hp=>by
  cases vals with
  | nil=>simp at hi
  | cons x vals=>
   obtain ⟨i',v⟩:=x
   simp only [List.map_cons,List.cons.injEq] at hi
   obtain ⟨rfl,hi⟩:=hi
   simp only [List.map_cons] at hp
   obtain ⟨v',fO,e,hv,Kl⟩:=hp.Hf
   injection e with e1 e2
   subst e1 e2
   simp only [ML] at h
   split at h
   ·rename_i pc es' hpc HM
    split at h
    ·rename_i hc
     injection h with h
     subst h
     obtain ⟨h1,h2,h3,h4,h5,h6⟩:=MM HM hi Kl
     obtain ⟨k1,k2⟩:=J4 hpc hv
     have Cb:v.cells.size=size:=by rw [<-Array.length_toList,<-k1.1]; exact hc.2
     refine ⟨by simp [h1,hc.1,List.range'_succ],?_,by simp [h3],?_,?_,?_⟩
     ·simp only [List.mem_cons,forall_eq_or_imp]
      exact ⟨Cb,h2⟩
     ·intro j hj
      cases j with
      | zero=>exact hc.2
      | succ j=>exact h4 j (by simpa using hj)
     ·simp only [List.flatten_cons,List.map_cons]
      refine ⟨by simp [k1.1,h5.1],fun j hj Cj=>?_⟩
      simp only [List.getElem_append]
      have hl:pc.length=v.cells.toList.length:=k1.1
      split
      ·rw [dif_pos oM]; exact k1.2 _ _ _
      ·rw [dif_neg oM]
       simp only [hl]
       exact h5.2 _ _ _
     ·simp only [List.flatten_cons,List.map_cons,List.mem_append]
      rintro u (hu | hu)
      ·exact k2 u hu
      ·exact h6 u hu
    ·cases h
   ·cases h
theorem Rs(size:Nat):∀ (vals:List (Nat × Value)) (k:Nat) (cells:Array Value),(∀x∈vals,x.2.cells.size=size)->vals.map (·.1)=List.range' k vals.length->(k+vals.length) * size<=cells.size ->
  ∃c,Instr.fill (fun i=>some (i * size,size)) cells vals=some c/\c.toList=cells.toList.take (k * size)++(vals.map fun x=>x.2.cells.toList).flatten++cells.toList.drop ((k+vals.length) * size)
 | [],k,cells,_,_,_=>⟨cells,rfl,by simp⟩
 | (i,v)::vals,k,cells,hs,hi,hl=>by
  simp only [List.map_cons,List.length_cons,List.range'_succ,List.cons.injEq] at hi
  obtain ⟨rfl,hi⟩:=hi
  have hv:v.cells.size=size:=hs (i,v) sM
  have XN:=IA (i * size) v.cells.toList 0 cells (by
   simp only [List.length_cons] at hl
   rw [Nat.add_mul] at hl
   have:(vals.length+1) * size=vals.length * size+size:=by rw [Nat.add_mul,Nat.one_mul]
   simp
   omega)
  have e3:(v.cells.zipIdx.foldl (fun cs (x:Value × Nat)=>cs.setIfInBounds (i * size+x.2) x.1) cells).toList=Pv.AO cells.toList (i * size) v.cells.toList:=by
   rw [<-Array.foldl_toList,Array.toList_zipIdx]
   simpa using XN
  have M1:i * size+v.cells.toList.length<=cells.toList.length:=by
   simp only [List.length_cons] at hl
   rw [Nat.add_mul] at hl
   have:(vals.length+1) * size=vals.length * size+size:=by rw [Nat.add_mul,Nat.one_mul]
   simp
   omega
  have Cb:(v.cells.zipIdx.foldl (fun cs (x:Value × Nat)=>cs.setIfInBounds (i * size+x.2) x.1) cells).size=cells.size:=by
   rw [<-Array.length_toList,e3,AV]
   simp
  obtain ⟨c,h1,h2⟩:=Rs size vals (i+1) (v.cells.zipIdx.foldl (fun cs (x:Value × Nat)=>cs.setIfInBounds (i * size+x.2) x.1) cells) (fun x hx=>hs x (by simp [hx])) hi (by
   rw [Cb]
   simp only [List.length_cons] at hl
   rw [show i+1+vals.length=i+(vals.length+1) by omega]
   exact hl)
  refine ⟨c,?_,?_⟩
  ·simp only [Instr.fill,hv,ne_eq,not_true_eq_false,decide_false,Bool.false_or]
   rw [iN (by simp only [Array.length_toList] at M1; simp; omega)]
   exact h1
  ·rw [h2,e3,Gb _ _ _ M1]
   have hlen:v.cells.toList.length=size:=by simpa using hv
   have e4:(i+1) * size=i * size+size:=by rw [Nat.add_mul,Nat.one_mul]
   have e5:(cells.toList.take (i * size)).length=i * size:=by rw [List.length_take]; omega
   have e6:(cells.toList.take (i * size)++v.cells.toList).length=(i+1) * size:=by rw [List.length_append,e5,hlen,e4]
   have e7:i+1+vals.length=i+(vals.length+1):=by omega
   simp only [List.map_cons,List.flatten_cons,List.length_cons]
   have e8:(i+(vals.length+1)) * size=(i+1) * size+vals.length * size:=by rw [<-e7,Nat.add_mul]
   rw [<-List.append_assoc (cells.toList.take (i * size)) v.cells.toList]
   generalize cells.toList.take (i * size)++v.cells.toList=A at e6 ⊢
   rw [e7,e8,List.drop_append,List.drop_eq_nil_of_le (as:=A) oM,List.nil_append,e6,List.take_left' e6]
   simp only [List.append_assoc,hlen,List.drop_drop]
   congr 3
   omega
def XO(P:Program)(n:Nat)(o:Oper)(ty:TypeId)(len:Nat)(parts:Array (Nat × Operand)):RM (List Wr):=match GC P ty with
 | some e=>match KV P e,Uh P e with
  | some (m+1),some _=>Mg parts.toList fun ps=>match ML (m+1) 0 ps with
   | some es=>if es.length=len/\len * (m+1)<=16777216 then wv n o (.full (m+1) es) else .fail
   | none => .fail
  | _,_ => .fail
 | none => .fail
theorem Rt{ty:TypeId}{len:Nat}{parts:Array (Nat × Operand)}(ho:o.op = .buildSlice ty len parts)(h:Bc cx s g l a w)(hw:(XO P cx.n o ty len parts).wp s K):Be P cx s o K a w:=by
 unfold XO at hw
 split at hw
 ·rename_i e he
  have hu:=EH he
  split at hw
  ·rename_i m zs hm hz
   obtain ⟨ps,h1,h2,h3⟩:=H6 h hw
   split at h1
   ·rename_i es HM
    split at h1
    ·rename_i hc
     obtain ⟨hlen,Aa2⟩:=hc
     obtain ⟨k1,k2,k3,k4,k5,k6⟩:=MM (g:=g) (w:=w) (vals:=parts.toList.map fun x=>(x.1,a.eval x.2)) HM (by rw [List.map_map]; exact h2) (by rw [List.map_map]; exact h3)
     obtain ⟨i,z,z1,z2,z3⟩:=Fv hz
     generalize yU:(parts.toList.map fun x=>(x.1,a.eval x.2))=vals at k1 k2 k3 k4 k5 k6
     have Gx:vals.length=len:=by rw [<-k3,hlen]
     have yV:∀zc:Array Value,∃c,Instr.fill (fun i=>some (i * (m+1),m+1)) ((Array.range (len * (m+1))).map (zc[· % zc.size]!)) vals=some c/\c.toList=(vals.map fun x=>x.2.cells.toList).flatten:=by
      intro zc
      obtain ⟨c,c1,c2⟩:=Rs (m+1) vals 0 ((Array.range (len * (m+1))).map (zc[· % zc.size]!)) k2 k1 (by simp [Gx])
      refine ⟨c,c1,?_⟩
      rw [c2,Gx]
      simp
     have BW:∃c,(execOp a.eval o).run P w = .ok (.value (.slice (some ⟨w.heap.size,0,none⟩) len len)) (w.alloc (.cells c e))/\c.toList=(vals.map fun x=>x.2.cells.toList).flatten:=by
      have hvt:(parts.map fun (x:Nat × Operand)=>(x.1,a.eval x.2)).toList=vals:=by rw [<-yU]; simp
      have yW:¬(len * (m+1)>2 ^ 24):=by omega
      have Cb:=run_sizeOf (w:=w) hm
      by_cases h0:len * (m+1)=0
      ·have hl0:len=0:=by
        rcases Nat.mul_eq_zero.1 h0 with h | h
        ·exact h
        ·omega
       subst hl0
       have Dh:vals=[]:=List.eq_nil_of_length_eq_zero Gx
       refine ⟨#[],?_,by simp [Dh]⟩
       simp only [execOp,ho,Instr.buildSlice,Sem.run_bind,run_underlying hu,Result.andThen_ok,Cb,h0,if_true,Sem.run_pure,hvt,Dh]
       have yX:Array.range 0 = #[]:=Array.eq_empty_of_size_eq_zero sM
       simp [Instr.fill,newRow,yX]
      ·obtain ⟨c,c1,c2⟩:=yV z.cells
       refine ⟨c,?_,c2⟩
       simp only [execOp,ho,Instr.buildSlice,Sem.run_bind,run_underlying hu,Result.andThen_ok,Cb,iN yW,iN h0,Sem.run_pure,hvt,zeroValue,typeInfo,run_program,z1,z2]
       simp [c1,newRow]
     obtain ⟨c,BW,yY⟩:=BW
     obtain ⟨h4,hm4⟩:=h.alloc (.cells c e)
     refine Be.value h1 h4 (fun _ => .inr ⟨⟨w.heap.size,0,none⟩,by rw [hlen],?_⟩) BW
     rw [<-hlen]
     refine BO.of_flat (Nat.le_refl _) (by simp only [maxLen]; have:=Nat.le_mul_of_pos_right len (Nat.succ_pos m); simp only [Nat.succ_eq_add_one] at this; omega) k4 (k5.mono hm4) fun j u XP=>?_
     have XJ:(⟨w.heap.size,0,none⟩:Addr).add j=⟨w.heap.size,j,none⟩:=by unfold Addr.add; split <;> simp_all
     refine ⟨?_,fun k hk=>?_,k6 u (List.mem_of_getElem? XP)⟩
     ·rw [XJ]
      have:=heap_alloc_new w (.cells c e)
      simp only [World.cell?,this]
      rw [<-yY] at XP
      simpa using XP
     ·rw [h.fresh.1 _ (Nat.le_refl _)] at hk; cases hk
    ·exact h1.elim
   ·exact h1.elim
  ·exact hw.elim
 ·exact hw.elim
def wU(P:Program)(n:Nat)(ops:List Oper)(o:Oper)(ty:TypeId)(mk:List LV->Wr)(cs:List LV)(off:Nat):RM (List Wr):=match M3 P ty with
 | some true=>match KV P ty with
  | some m=>if off+m<=cs.length then (match VW ((cs.drop off).take m) with
   | some ps=>wv n o (.v (.agg ps))
   | none => .fail) else .fail
  | none => .fail
 | some false=>match cs[off]? with
  | some (.uniq e z es)=>match o.dst with
   | some d=>if d<n/\e<1000000 then (if XC ops d=true then .ret [mk [.v (.sl z es)],.tmp d (.uniq e z es)] else .ret [.tmp d (.v (.sl z es))]) else .fail
   | none => .fail
  | some .D8 => .fail
  | some (.mm _) => .fail
  | some (.row _ _) => .fail
  | some lv=>wv n o lv
  | none => .fail
 | none => .fail
def Uk(P:Program)(n:Nat)(ops:List Oper)(o:Oper)(ty:TypeId)(x:Operand):RM (List Wr):=ev x fun lv=>match lv with
 | .lp i off => .Im i fun cs=>wU P n ops o ty (.cells i off) cs off
 | .v (.xp m off) => .G3 m fun cs=>if OF cs=true then wU P n ops o ty (.ext m off) cs off else .fail
 | .v (.yp m c off) => .G3 m fun cs=>match rowOf cs with
  | some (c',ps)=>if M3 P ty=some false then .assume (decide (c=c'/\off<ps.length)) (wv n o (.v (.int .i64 (ps.getD off 0)))) else .fail
  | none => .fail
 | .v (.ro cs off)=>match Oc P ty cs off with
  | some p=>wv n o (.v p)
  | none => .fail
 | _ => .fail
theorem MN{f:Nat->UL}:∀ {cs:List LV} {ps:List PV} {vs:List Value},VW cs=some ps->cs.length=vs.length->(∀j (h:j<cs.length) (h':j<vs.length),Cm g l w (f j) cs[j] vs[j])->AE g w ps vs:=by
 intro cs
 induction cs generalizing f with
 | nil=>
  intro ps vs h hl _
  simp only [VW,Option.some.injEq] at h
  subst h
  have:vs=[]:=List.eq_nil_of_length_eq_zero hl.symm
  subst this
  exact .nil
 | cons c cs ih=>
  intro ps vs h hl hr
  cases vs with
  | nil=>simp at hl
  | cons v vs=>
   simp only [VW] at h
   split at h
   ·rename_i p qs h1 h2
    injection h with h
    subst h
    refine .cons (EY h1 (hr 0 sM sM)) (ih (f:=fun j=>f (j+1)) h2 (by simpa using hl) fun j hj Cj=>?_)
    exact hr (j+1) (by simpa using hj) (by simpa using Cj)
   ·cases h
theorem G4{ty:TypeId}{b off:Nat}{cur:Array Value}{e:TypeId}(hh:w.heap[b]?=some (.cells cur e (0,0)))(ha:M3 P ty=some false)(Ad:off<cur.size) :
  (loadVar ty ⟨b,off,none⟩).run P w = .ok (cur.getD off undef) w:=by
 have hc:w.cell? ⟨b,off,none⟩=some (cur.getD off undef):=by simp [World.cell?,hh,Ad]
 simp [loadVar,Hh ha,hc]
theorem G5{ty:TypeId}{b off m:Nat}{vs:Nat->Value}(ha:M3 P ty=some true)(hm:KV P ty=some m)(hc:∀j,j<m->w.cell? ⟨b,off+j,none⟩=some (vs j)) :
  (loadVar ty ⟨b,off,none⟩).run P w = .ok (.agg ((List.range m).map vs).toArray) w:=by
 have XJ:∀j,(⟨b,off,none⟩:Addr).add j=⟨b,off+j,none⟩:=fun j=>by unfold Addr.add; split <;> simp_all
 have hl:=run_loadCells (P:=P) w ⟨b,off,none⟩ m vs (fun j hj=>by rw [XJ]; exact hc j hj)
 simp [loadVar,Hh ha,run_sizeOf hm,hl]
theorem Gc{ty:TypeId}{x:Operand}{b off:Nat}{v:Value}(ho:o.op = .load ty x)(hx:a.eval x = .pointer (some ⟨b,off,none⟩))(hl:(loadVar ty ⟨b,off,none⟩).run P w = .ok v w):(execOp a.eval o).run P w = .ok (.value v) w:=by
 simp [execOp,ho,hx,Instr.loadAt,Instr.sureAddr,hl]
theorem ES.Km:∀ {cs:List LV} {off:Nat} {x y:LV},cs[off]?=some x->WL y x->ES (Pv.AO cs off [y]) cs
 | [],off,x,y,h,_=>by simp at h
 | c::cs,0,x,y,h,hw=>by
  simp only [List.getElem?_cons_zero,Option.some.injEq] at h
  subst h
  simp only [Pv.AO]
  exact ⟨hw,ES.refl cs⟩
 | c::cs,off+1,x,y,h,hw=>by
  simp only [List.getElem?_cons_succ] at h
  exact ⟨WL.refl c,ES.Km h hw⟩
theorem VZ{ty:TypeId}{x:Operand}{ops:List Oper}{i off:Nat}{cs:List LV}(ho:o.op = .load ty x)(h:Bc cx s g l a w)(hi:lk s.boxes i=some cs)(hx:∀b,l.L i=some b->a.eval x = .pointer (some ⟨b,off,none⟩))
  (hw:(wU P cx.n ops o ty (.cells i off) cs off).wp s K):Be P cx s o K a w:=by
 obtain ⟨b,h1,h2,hM,cur,e,h4,h5,h6⟩:=h.bx i cs hi
 have pM:=hx b h1
 unfold wU at hw
 split at hw
 ·rename_i ha
  split at hw
  ·rename_i m hm
   split at hw
   ·rename_i hle
    split at hw
    ·rename_i ps Tg
     have hc:∀j,j<m->w.cell? ⟨b,off+j,none⟩=some (cur.getD (off+j) undef):=fun j hj=>by
      have:off+j<cur.size:=by omega
      simp [World.cell?,h4,this]
     have BW:=Gc ho pM (G5 (P:=P) ha hm hc)
     refine Be.pure h hw (AE.agg ?_ ?_) BW
     ·refine MN (l:=l) (f:=fun j => .b i (off+j)) Tg (by simp; omega) fun j hj Cj=>?_
      simp only [List.getElem_take,List.getElem_drop,List.getElem_map,List.getElem_range]
      exact (h6 (off+j) _).2.2
     ·intro v hv
      simp only [List.mem_map,List.mem_range] at hv
      obtain ⟨j,hj,rfl⟩:=hv
      exact (h6 (off+j) oM).2.1
    ·exact hw.elim
   ·exact hw.elim
  ·exact hw.elim
 ·rename_i ha
  cases DM:cs[off]? with
  | none=>rw [DM] at hw; exact hw.elim
  | some lv=>
   rw [DM] at hw
   have Ad:=(List.getElem?_eq_some_iff.1 DM).1
   have BW:=Gc ho pM (G4 (P:=P) h4 ha oM)
   have Fy:=h6 off Ad
   have Gx:cs[off]=lv:=by rw [List.getElem?_eq_getElem Ad] at DM; injection DM
   rw [Gx] at Fy
   obtain ⟨yZ,Ru,XQ⟩:=Fy
   generalize cur.getD off undef=v at BW Ru XQ
   cases lv with
   | uniq e' z es=>
    cases hd:o.dst with
    | none=>simp only [hd] at hw; exact hw.elim
    | some d=>
     simp only [hd] at hw
     split at hw
     ·rename_i CL
      obtain ⟨CL,K7⟩:=CL
      split at hw
      ·-- handed on
       have PU:Bc cx { s with boxes:=put s.boxes i (AO cs off [.v (.sl z es)]),tmps:=put s.tmps d .D8 } g l a w:=by
        refine h.eU (fun k u hk=>?_) (fun k u hk=>by
         simp only [B8] at hk
         split at hk
         ·rename_i e2
          subst e2
          injection hk with hk
          subst hk
          exact ⟨cs,hi,ES.Km DM (.inr ⟨rfl,p9 K7⟩)⟩
         ·exact ⟨u,hk,ES.refl u⟩) (Et ES.refl _)
        simp only [B8] at hk
        split at hk
        ·injection hk with hk; exact .inl hk.symm
        ·exact .inr ⟨u,hk,WL.refl u⟩
       have Rv:s.Io [.cells i off [.v (.sl z es)],.tmp d (.uniq e' z es)]={ s with boxes:=put s.boxes i (AO cs off [.v (.sl z es)]),tmps:=put s.tmps d (.uniq e' z es) }:=by
        simp only [S.Io,S.wr,hi]
       obtain ⟨l',k1,k2,-⟩:=PU.Hg (p := .b i off) (q := .t d) XQ (fun ds PX e2 z2 Th he=>by
         simp only [B8,if_true,Option.some.injEq] at PX
         subst PX
         rw [BL _ _ _ (by simp; omega)] at he
         simp at he)
        (fun e2 z2 Th he=>by simp only [B8,if_true] at he; injection he with he; cases he)
       intro Q
       unfold Oper.wp
       rw [BW,Oper.upon_value,hd]
       refine ⟨_,g,l',hw,?_⟩
       rw [Rv]
       refine (k1.set CL k2).congr (fun k=>?_) (fun _=>rfl) (fun _=>rfl)
       simp only [B8]
       split <;> rfl
      ·refine Be.value (lv := .v (.sl z es)) (v:=v) (by unfold wv; rw [hd]; simp only [CL,if_true]; exact hw) h (fun _=>EY (XB K7) XQ) BW
     ·exact hw.elim
   | v p=>exact Be.value hw h (fun _=>XQ) BW
   | full z es=>exact Be.value hw h (fun _=>XQ) BW
   | lp j oo=>cases yZ
   | D8=>exact hw.elim
   | mm _=>exact hw.elim
   | row _ _=>exact hw.elim
 ·exact hw.elim
theorem W5{ty:TypeId}{x:Operand}{ops:List Oper}{i off:Nat}{cs:List LV}(ho:o.op = .load ty x)(h:Bc cx s g l a w)(hi:lk s.ext i=some cs)(hx:∀b,g.X i=some b->a.eval x = .pointer (some ⟨b,off,none⟩))(DM:OF cs=true)
  (hw:(wU P cx.n ops o ty (.ext i off) cs off).wp s K):Be P cx s o K a w:=by
 obtain ⟨b,h1,h2,hE⟩:=h.ex i cs hi
 rcases hE with hB | hE
 rotate_left
 ·exact (hE.plain (Hi DM)).elim
 replace h1:=h1.plain hB.Uf
 obtain ⟨hM,cur,e,h4,h5,h6⟩:=hB
 have pM:=hx b h1
 unfold wU at hw
 split at hw
 ·rename_i ha
  split at hw
  ·rename_i m hm
   split at hw
   ·rename_i hle
    split at hw
    ·rename_i ps Tg
     have hc:∀j,j<m->w.cell? ⟨b,off+j,none⟩=some (cur.getD (off+j) undef):=fun j hj=>by
      have:off+j<cur.size:=by omega
      simp [World.cell?,h4,this]
     have BW:=Gc ho pM (G5 (P:=P) ha hm hc)
     refine Be.pure h hw (AE.agg ?_ ?_) BW
     ·refine MN (l:=l) (f:=fun j => .x i (off+j)) Tg (by simp; omega) fun j hj Cj=>?_
      simp only [List.getElem_take,List.getElem_drop,List.getElem_map,List.getElem_range]
      exact (h6 (off+j) _).2.2
     ·intro v hv
      simp only [List.mem_map,List.mem_range] at hv
      obtain ⟨j,hj,rfl⟩:=hv
      exact (h6 (off+j) oM).2.1
    ·exact hw.elim
   ·exact hw.elim
  ·exact hw.elim
 ·rename_i ha
  cases DM:cs[off]? with
  | none=>rw [DM] at hw; exact hw.elim
  | some lv=>
   rw [DM] at hw
   have Ad:=(List.getElem?_eq_some_iff.1 DM).1
   have BW:=Gc ho pM (G4 (P:=P) h4 ha oM)
   have Fy:=h6 off Ad
   have Gx:cs[off]=lv:=by rw [List.getElem?_eq_getElem Ad] at DM; injection DM
   rw [Gx] at Fy
   obtain ⟨yZ,Ru,XQ⟩:=Fy
   generalize cur.getD off undef=v at BW Ru XQ
   cases lv with
   | uniq e' z es=>
    cases hd:o.dst with
    | none=>simp only [hd] at hw; exact hw.elim
    | some d=>
     simp only [hd] at hw
     split at hw
     ·rename_i CL
      obtain ⟨CL,K7⟩:=CL
      split at hw
      ·-- handed on
       have PU:Bc cx { s with ext:=put s.ext i (AO cs off [.v (.sl z es)]),tmps:=put s.tmps d .D8 } g l a w:=by
        refine h.eU (fun k u hk=>?_) (Et ES.refl _) (fun k u hk=>by
         simp only [B8] at hk
         split at hk
         ·rename_i e2
          subst e2
          injection hk with hk
          subst hk
          exact ⟨cs,hi,ES.Km DM (.inr ⟨rfl,p9 K7⟩)⟩
         ·exact ⟨u,hk,ES.refl u⟩) (by simp only [DL hi]; exact Nat.le_refl _)
        simp only [B8] at hk
        split at hk
        ·injection hk with hk; exact .inl hk.symm
        ·exact .inr ⟨u,hk,WL.refl u⟩
       have Rv:s.Io [.ext i off [.v (.sl z es)],.tmp d (.uniq e' z es)]={ s with ext:=put s.ext i (AO cs off [.v (.sl z es)]),tmps:=put s.tmps d (.uniq e' z es) }:=by
        simp only [S.Io,S.wr,hi]
       obtain ⟨l',k1,k2,-⟩:=PU.Hg (p := .x i off) (q := .t d) XQ (fun ds PX e2 z2 Th he=>by
         simp only [B8,if_true,Option.some.injEq] at PX
         subst PX
         rw [BL _ _ _ (by simp; omega)] at he
         simp at he)
        (fun e2 z2 Th he=>by simp only [B8,if_true] at he; injection he with he; cases he)
       intro Q
       unfold Oper.wp
       rw [BW,Oper.upon_value,hd]
       refine ⟨_,g,l',hw,?_⟩
       rw [Rv]
       refine (k1.set CL k2).congr (fun k=>?_) (fun _=>rfl) (fun _=>rfl)
       simp only [B8]
       split <;> rfl
      ·refine Be.value (lv := .v (.sl z es)) (v:=v) (by unfold wv; rw [hd]; simp only [CL,if_true]; exact hw) h (fun _=>EY (XB K7) XQ) BW
     ·exact hw.elim
   | v p=>exact Be.value hw h (fun _=>XQ) BW
   | full z es=>exact Be.value hw h (fun _=>XQ) BW
   | lp j oo=>cases yZ
   | D8=>exact hw.elim
   | mm _=>exact hw.elim
   | row _ _=>exact hw.elim
 ·exact hw.elim
theorem Oe{ty:TypeId}{x:Operand}{ops:List Oper}(ho:o.op = .load ty x)(h:Bc cx s g l a w)(hw:(Uk P cx.n ops o ty x).wp s K):Be P cx s o K a w:=by
 obtain ⟨lv,u,h1,r1,-⟩:=Cc h hw
 split at h1
 ·rename_i i off
  simp only [RM.wp] at h1
  split at h1
  ·rename_i cs DM
   refine VZ ho h DM (fun b hb=>?_) h1
   obtain ⟨b',k1,k2⟩:=r1
   rw [k1] at hb
   injection hb with hb
   rw [<-hb]; exact k2
  ·exact h1.elim
 ·rename_i m off
  simp only [RM.wp] at h1
  split at h1
  ·rename_i cs DM
   split at h1
   rotate_left
   ·exact h1.elim
   rename_i fY
   refine W5 ho h DM (fun b hb=>?_) fY h1
   generalize a.eval x=vx at r1
   cases r1 with
   | xp _ _ b' hx=>
    rw [hx] at hb
    injection hb with hb
    rw [hb]
  ·exact h1.elim
 ·rename_i m c off
  simp only [RM.wp] at h1
  split at h1
  ·rename_i cs DM
   split at h1
   ·rename_i c' ps Gi
    split at h1
    ·rename_i ha
     simp only [RM.wp] at h1
     obtain ⟨hd,h1⟩:=h1
     obtain ⟨rfl,Ad⟩:=of_decide_eq_true hd
     obtain ⟨b,hY,-,-,hM,cur,e,h4,h5,h6⟩:=Tb h DM Gi
     have pM:a.eval x = .pointer (some ⟨b,off,none⟩):=by
      generalize a.eval x=vx at r1
      cases r1 with
      | yp _ _ _ b' hx=>
       rw [hx] at hY
       injection hY with hY
       rw [hY]
     refine Be.value h1 h (fun _=>?_) (Gc ho pM (G4 (P:=P) h4 ha oM))
     have h7:=(h6 off Ad).2
     have e7:ps.getD off 0=ps[off]:=by simp [List.getD,Ad]
     rw [e7]
     exact h7
    ·exact h1.elim
   ·exact h1.elim
  ·exact h1.elim
 ·rename_i cs off
  split at h1
  ·rename_i p hp
   have hex:∀b oo v,a.eval x = .pointer (some ⟨b,oo,none⟩)->(loadVar ty ⟨b,oo,none⟩).run P w = .ok v w->(execOp a.eval o).run P w = .ok (.value v) w:=fun b oo v hv hl=>Gc ho hv hl
   generalize a.eval x=vx at r1 hex
   cases r1 with
   | ro _ A73 b oo vs hc hf Ck hr=>
    unfold Oc at hp
    split at hp
    ·rename_i ha
     split at hp
     ·rename_i m hm
      split at hp
      ·rename_i hle
       injection hp with hp
       subst hp
       refine Be.pure h h1 (AE.agg (vs:=(List.range m).map fun j=>vs (off+j)) ⟨by simp; omega,fun j hj Cj=>?_⟩ ?_) (hex _ _ _ rfl (G5 ha hm fun j hj=>?_))
       ·simp only [List.getElem_take,List.getElem_drop,List.getElem_map,List.getElem_range]
        exact hr _ _
       ·intro v hv
        simp only [List.mem_map,List.mem_range] at hv
        obtain ⟨j,hj,rfl⟩:=hv
        exact Ck _ oM
       ·have:=hc (off+j) oM
        rw [Nat.add_assoc]
        exact this
      ·cases hp
     ·cases hp
    ·rename_i ha
     have Ad:=(List.getElem?_eq_some_iff.1 hp).1
     have hcc:=hc off Ad
     refine Be.pure (v:=vs off) h h1 ?_ (hex _ _ _ rfl (by simp [loadVar,Hh ha,hcc]))
     rw [List.getElem?_eq_getElem Ad] at hp
     injection hp with hp
     rw [<-hp]
     exact hr off Ad
    ·cases hp
  ·exact h1.elim
 ·exact h1.elim
end
section
variable {P:Program} {cx:Cx} {s t:S} {g:Gh} {l:LG} {a:Act} {w:World} {o:Oper} {K:List Wr->Prop}
def z6(P:Program)(ty:TypeId)(lv:LV):Option (List LV):=match M3 P ty with
 | some true=>match lv with
  | .v (.agg cs)=>some (cs.map .v)
  | _=>none
 | some false=>match lv with
  | .v p=>if p.one=true then some [.v p] else none
  | .full z es=>some [.full z es]
  | _=>none
 | none=>none
def W6(P:Program)(ty:TypeId)(y:Operand)(lv:LV)(cs:List LV)(off:Nat)(mk:List LV->Wr):RM (List Wr):=match KV P ty with
 | some m=>match lv,y with
  | .uniq e z es,.tmp t=>if M3 P ty=some false/\m=1/\off<cs.length/\e<1000000 then .ret [.tmp t (.v (.sl z es)),mk [.uniq e z es]] else .fail
  | lv,_=>match z6 P ty lv with
   | some vs=>if vs.length=m/\off+m<=cs.length then .ret [mk vs] else .fail
   | none => .fail
 | none => .fail
def MO(P:Program)(o:Oper)(ty:TypeId)(x y:Operand):RM (List Wr):=match o.dst with
 | none=>ev x fun lp=>ev y fun lv=>match lp with
  | .lp i off => .Im i fun cs=>W6 P ty y lv cs off (.cells i off)
  | .v (.xp m off) => .G3 m fun cs=>if OF cs=true then W6 P ty y lv cs off (.ext m off) else .fail
  | .v (.yp m c off) => .G3 m fun cs=>match rowOf cs,Xc lv with
   | some (c',ps),some (.int .i64 p)=>if KV P ty=some 1/\M3 P ty=some false then .assume (decide (c=c'/\off<ps.length)) (.ret [.ext m 0 [.row c (ps.set off p)]]) else .fail
   | _,_ => .fail
  | _ => .fail
 | some _ => .fail
theorem Ul{ty:TypeId}{lv:LV}{vs:List LV}{v:Value}{u:UL}{f:Nat->UL}(h:z6 P ty lv=some vs)(hr:Cm g l w u lv v) :
  vs.length=v.cells.toList.length/\(∀u∈v.cells.toList,u.oneCell'=true)/\∀j (h:j<vs.length) (h':j<v.cells.toList.length),vs[j].Mz=true/\v.cells.toList[j].oneCell'=true/\Cm g l w (f j) vs[j] v.cells.toList[j]:=by
 unfold z6 at h
 split at h
 ·split at h
  ·rename_i cs
   injection h with h
   subst h
   obtain ⟨k1,k2⟩:=J4 (p := .agg cs) rfl hr
   refine ⟨by simp [k1.1],k2,fun j hj Cj=>⟨by simp [LV.Mz],k2 _ (List.getElem_mem _),?_⟩⟩
   simp only [List.getElem_map]
   exact k1.2 j (by simpa using hj) Cj
  ·cases h
 ·split at h
  ·rename_i p
   split at h
   ·rename_i hp
    injection h with h
    subst h
    have Ck:=BO.one hr hp
    have hc:v.cells = #[v]:=by cases v <;> first | rfl | cases Ck
    rw [hc]
    refine ⟨by simp,by simpa using Ck,fun j hj Cj=>?_⟩
    have:j=0:=by simpa using hj
    subst this
    exact ⟨rfl,Ck,hr⟩
   ·cases h
  ·rename_i z es
   injection h with h
   subst h
   have Ck:v.oneCell'=true:=by
    rcases hr with ⟨rfl,-⟩ | ⟨a,rfl,-⟩ <;> rfl
   have hc:v.cells = #[v]:=by cases v <;> first | rfl | cases Ck
   rw [hc]
   refine ⟨by simp,by simpa using Ck,fun j hj Cj=>?_⟩
   have:j=0:=by simpa using hj
   subst this
   exact ⟨rfl,Ck,hr⟩
  ·cases h
 ·cases h
theorem Em{ty:TypeId}{x y:Operand}{b off m:Nat}{cur:Array Value}{e:TypeId}{v:Value}(ho:o.op = .store ty x y)(hx:a.eval x = .pointer (some ⟨b,off,none⟩))(hy:a.eval y=v)(hm:KV P ty=some m)
  (hh:w.heap[b]?=some (.cells cur e (0,0))) (hl:v.cells.toList.length=m) (M1:off+m<=cur.size) (Ck:∀u∈v.cells.toList,u.oneCell'=true) :
  (execOp a.eval o).run P w = .ok .skip (w.setRow b (AO cur.toList off v.cells.toList).toArray):=by
 have h1:=run_storeCells_at P b off e v.cells.toList 0 cur w hh oM Ck
 have Cb:v.cells.size=m:=by simpa using hl
 rw [Nat.add_zero,<-Gb _ _ _ (by simp; omega)] at h1
 simp [execOp,ho,hx,hy,Instr.storeAt,Instr.sureAddr,storeVar,run_sizeOf hm,Cb,h1]
theorem IB{α:Type}(cs:List α)(off:Nat)(x y:α)(h:off<cs.length):AO (AO cs off [x]) off [y]=AO cs off [y]:=by
 apply List.ext_getElem?
 intro j
 rw [BL _ _ _ (by rw [AV]; simp; omega),BL _ _ _ (by simp; omega),BL _ _ _ (by simp; omega)]
 by_cases hj:off<=j/\j<off+[y].length
 ·rw [iP hj,iP hj]
 ·rw [iN hj,iN hj,iN (by simpa using hj)]
theorem W7{ty:TypeId}{x y:Operand}{i off b:Nat}{cs:List LV}{lv:LV}{u:UL}(ho:o.op = .store ty x y)(hd:o.dst=none)(h:Bc cx s g l a w)(hi:lk s.boxes i=some cs)(hb:l.L i=some b)
  (hx:a.eval x = .pointer (some ⟨b,off,none⟩)) (hr:Cm g l w u lv (a.eval y)) (hu:∀e z es,lv = .uniq e z es->∃t,y = .tmp t/\u = .t t/\lk s.tmps t=some lv)
  (hw:(W6 P ty y lv cs off (.cells i off)).wp s K):Be P cx s o K a w:=by
 unfold W6 at hw
 split at hw
 ·rename_i m hm
  have plain:(∀e z es,lv ≠ .uniq e z es)->((match z6 P ty lv with
   | some vs=>if vs.length=m/\off+m<=cs.length then RM.ret [Wr.cells i off vs] else RM.fail
   | none=>RM.fail):RM (List Wr)).wp s K->Be P cx s o K a w:=by
   intro _ hw
   split at hw
   ·rename_i vs Kl
    split at hw
    ·rename_i hc
     obtain ⟨k1,k2,k3⟩:=Ul (f:=fun j => .b i (off+j)) Kl hr
     obtain ⟨b',cur,e,h1,h2,h3,h4,-⟩:=h.yJ hi off vs (a.eval y).cells.toList k1 (by rw [hc.1]; exact hc.2) k3
     rw [hb] at h1
     injection h1 with h1
     subst h1
     have BW:=Em (P:=P) ho hx rfl hm h2 (by rw [<-k1]; exact hc.1) (by have:=hc.2; omega) k2
     intro Q
     unfold Oper.wp
     rw [BW,Oper.upon_skip,hd]
     refine ⟨_,g,l,hw,?_⟩
     have Rv:s.Io [.cells i off vs]={ s with boxes:=put s.boxes i (AO cs off vs) }:=by simp only [S.Io,S.wr,hi]
     rw [Rv]
     exact h4
    ·exact hw.elim
   ·exact hw.elim
  cases lv with
  | uniq e z es=>
   obtain ⟨t,rfl,rfl,ht⟩:=hu e z es rfl
   simp only at hw
   split at hw
   ·rename_i hc
    obtain ⟨ha,rfl,Ad,K7⟩:=hc
    have DM:cs[off]?=some cs[off]:=List.getElem?_eq_getElem Ad
    have PU:Bc cx { s with tmps:=put s.tmps t (.v (.sl z es)),boxes:=put s.boxes i (AO cs off [.D8]) } g l a w:=by
     refine h.eU (fun k v hk=>?_) (fun k v hk=>by
       simp only [B8] at hk
       split at hk
       ·rename_i e0
        subst e0
        injection hk with hk
        subst hk
        exact ⟨cs,hi,ES.Km DM (WL.D8 (fun Th e2=>by
         obtain ⟨b2,-,-,-,cur,t2,-,-,h6⟩:=h.bx i cs hi
         have:=(h6 off Ad).2.2
         rw [e2] at this
         exact this) (fun c2 ps2 e2=>by
         obtain ⟨b2,-,-,-,cur,t2,-,-,h6⟩:=h.bx i cs hi
         have:=(h6 off Ad).2.2
         rw [e2] at this
         exact this))⟩
       ·exact ⟨v,hk,ES.refl v⟩) (Et ES.refl _)
     simp only [B8] at hk
     split at hk
     ·rename_i e0; subst e0; injection hk with hk; subst hk; exact .inr ⟨_,ht,.inr ⟨rfl,p9 K7⟩⟩
     ·exact .inr ⟨v,hk,WL.refl v⟩
    obtain ⟨l',k1,k2,kL⟩:=PU.Hg (p := .t t) (q := .b i off) hr (fun e2 z2 Th he=>by simp only [B8,if_true] at he; injection he with he; cases he)
     (fun ds PX e2 z2 Th he=>by
      simp only [B8,if_true,Option.some.injEq] at PX
      subst PX
      rw [BL _ _ _ (by simp; omega)] at he
      simp at he)
    have Ck:(a.eval (.tmp t)).oneCell'=true:=by
     rcases hr with (⟨hv,-⟩ | ⟨a',hv,-⟩) | ⟨b',cap,cur,hv,-⟩ <;> rw [hv] <;> rfl
    have hc:(a.eval (.tmp t)).cells = #[a.eval (.tmp t)]:=by
     generalize a.eval (.tmp t)=v at Ck
     cases v <;> first | rfl | cases Ck
    obtain ⟨b',cur,e',h1,h2,h3,h4,-⟩:=k1.yJ (i:=i) (cs:=AO cs off [.D8]) (by simp only [B8,if_true]) off [.uniq e z es] [a.eval (.tmp t)] rfl (by rw [AV]; simp; omega) (fun j hj Cj=>by
      have:j=0:=by simpa using hj
      subst this
      exact ⟨rfl,Ck,k2⟩)
    have Ga:l.L i=some b:=hb
    have hLL:l'.L i=some b:=by rw [kL]; exact Ga
    rw [hLL] at h1
    injection h1 with h1
    subst h1
    rw [AV] at h3
    have BW:=Em (P:=P) ho hx rfl hm h2 (by rw [hc]; rfl) oM (by rw [hc]; simpa using Ck)
    rw [hc] at BW
    intro Q
    unfold Oper.wp
    rw [BW,Oper.upon_skip,hd]
    refine ⟨_,g,l',hw,?_⟩
    have Rv:s.Io [.tmp t (.v (.sl z es)),.cells i off [.uniq e z es]]={ s with tmps:=put s.tmps t (.v (.sl z es)),boxes:=put s.boxes i (AO cs off [.uniq e z es]) }:=by simp only [S.Io,S.wr,hi]
    rw [Rv]
    refine h4.congr (fun _=>rfl) (fun k=>by simp only [B8,IB cs off _ _ Ad]; split <;> rfl) (fun _=>rfl)
   ·exact hw.elim
  | v p=>exact plain sM hw
  | full z es=>exact plain sM hw
  | lp j oo=>exact plain sM hw
  | D8=>exact plain sM hw
  | mm _=>exact hr.elim
  | row _ _=>exact hr.elim
 ·exact hw.elim
theorem W8{ty:TypeId}{x y:Operand}{i off b:Nat}{cs:List LV}{lv:LV}{u:UL}(ho:o.op = .store ty x y)(hd:o.dst=none)(h:Bc cx s g l a w)(hi:lk s.ext i=some cs)(hb:g.X i=some b)
  (hx:a.eval x = .pointer (some ⟨b,off,none⟩)) (hr:Cm g l w u lv (a.eval y)) (hu:∀e z es,lv = .uniq e z es->∃t,y = .tmp t/\u = .t t/\lk s.tmps t=some lv)
  (fY:OF cs=true) (hw:(W6 P ty y lv cs off (.ext i off)).wp s K):Be P cx s o K a w:=by
 unfold W6 at hw
 split at hw
 ·rename_i m hm
  have plain:(∀e z es,lv ≠ .uniq e z es)->((match z6 P ty lv with
   | some vs=>if vs.length=m/\off+m<=cs.length then RM.ret [Wr.ext i off vs] else RM.fail
   | none=>RM.fail):RM (List Wr)).wp s K->Be P cx s o K a w:=by
   intro _ hw
   split at hw
   ·rename_i vs Kl
    split at hw
    ·rename_i hc
     obtain ⟨k1,k2,k3⟩:=Ul (f:=fun j => .x i (off+j)) Kl hr
     obtain ⟨b',cur,e,h1,h2,h3,h4,-⟩:=h.yK hi off vs (a.eval y).cells.toList k1 (by rw [hc.1]; exact hc.2) k3 (Hi fY)
     rw [hb] at h1
     injection h1 with h1
     subst h1
     have BW:=Em (P:=P) ho hx rfl hm h2 (by rw [<-k1]; exact hc.1) (by have:=hc.2; omega) k2
     intro Q
     unfold Oper.wp
     rw [BW,Oper.upon_skip,hd]
     refine ⟨_,g,l,hw,?_⟩
     have Rv:s.Io [.ext i off vs]={ s with ext:=put s.ext i (AO cs off vs) }:=by simp only [S.Io,S.wr,hi]
     rw [Rv]
     exact h4
    ·exact hw.elim
   ·exact hw.elim
  cases lv with
  | uniq e z es=>
   obtain ⟨t,rfl,rfl,ht⟩:=hu e z es rfl
   simp only at hw
   split at hw
   ·rename_i hc
    obtain ⟨ha,rfl,Ad,K7⟩:=hc
    have DM:cs[off]?=some cs[off]:=List.getElem?_eq_getElem Ad
    have hmm:∀es,cs[off] ≠ .mm es:=fun Th e2=>by
     obtain ⟨b2,-,-,hE⟩:=h.ex i cs hi
     rcases hE with ⟨-,cur,t2,-,-,h6⟩ | hE
     ·have:=(h6 off Ad).2.2
      rw [e2] at this
      exact this
     ·exact hE.plain (Hi fY)
    have hrw:∀c ps,cs[off] ≠ .row c ps:=fun c2 ps2 e2=>by
     obtain ⟨b2,-,-,hE⟩:=h.ex i cs hi
     rcases hE with ⟨-,cur,t2,-,-,h6⟩ | hE
     ·have:=(h6 off Ad).2.2
      rw [e2] at this
      exact this
     ·exact hE.plain (Hi fY)
    have PU:Bc cx { s with tmps:=put s.tmps t (.v (.sl z es)),ext:=put s.ext i (AO cs off [.D8]) } g l a w:=by
     refine h.eU (fun k v hk=>?_) (Et ES.refl _) (fun k v hk=>by
       simp only [B8] at hk
       split at hk
       ·rename_i e0
        subst e0
        injection hk with hk
        subst hk
        exact ⟨cs,hi,ES.Km DM (WL.D8 hmm hrw)⟩
       ·exact ⟨v,hk,ES.refl v⟩) (by simp only [DL hi]; exact Nat.le_refl _)
     simp only [B8] at hk
     split at hk
     ·rename_i e0; subst e0; injection hk with hk; subst hk; exact .inr ⟨_,ht,.inr ⟨rfl,p9 K7⟩⟩
     ·exact .inr ⟨v,hk,WL.refl v⟩
    obtain ⟨l',k1,k2,kL⟩:=PU.Hg (p := .t t) (q := .x i off) hr (fun e2 z2 Th he=>by simp only [B8,if_true] at he; injection he with he; cases he)
     (fun ds PX e2 z2 Th he=>by
      simp only [B8,if_true,Option.some.injEq] at PX
      subst PX
      rw [BL _ _ _ (by simp; omega)] at he
      simp at he)
    have Ck:(a.eval (.tmp t)).oneCell'=true:=by
     rcases hr with (⟨hv,-⟩ | ⟨a',hv,-⟩) | ⟨b',cap,cur,hv,-⟩ <;> rw [hv] <;> rfl
    have hc:(a.eval (.tmp t)).cells = #[a.eval (.tmp t)]:=by
     generalize a.eval (.tmp t)=v at Ck
     cases v <;> first | rfl | cases Ck
    obtain ⟨b',cur,e',h1,h2,h3,h4,-⟩:=k1.yK (i:=i) (cs:=AO cs off [.D8]) (by simp only [B8,if_true]) off [.uniq e z es] [a.eval (.tmp t)] rfl (by rw [AV]; simp; omega) (fun j hj Cj=>by
      have:j=0:=by simpa using hj
      subst this
      exact ⟨rfl,Ck,k2⟩) ⟨fun Th hs=>by
      have h0:=hs.inv
      have h1:=BL cs off [LV.D8] (by simp; omega) off
      rw [h0] at h1
      have hl:=congrArg List.length h0
      rw [AV] at hl
      have:off=0:=by simp at hl; omega
      subst this
      simp at h1,fun c2 ps2 h0=>by
      have h1:=BL cs off [LV.D8] (by simp; omega) off
      rw [h0] at h1
      have hl:=congrArg List.length h0
      rw [AV] at hl
      have:off=0:=by simp at hl; omega
      subst this
      simp at h1⟩
    have Ga:g.X i=some b:=hb
    rw [Ga] at h1
    injection h1 with h1
    subst h1
    rw [AV] at h3
    have BW:=Em (P:=P) ho hx rfl hm h2 (by rw [hc]; rfl) oM (by rw [hc]; simpa using Ck)
    rw [hc] at BW
    intro Q
    unfold Oper.wp
    rw [BW,Oper.upon_skip,hd]
    refine ⟨_,g,l',hw,?_⟩
    have Rv:s.Io [.tmp t (.v (.sl z es)),.ext i off [.uniq e z es]]={ s with tmps:=put s.tmps t (.v (.sl z es)),ext:=put s.ext i (AO cs off [.uniq e z es]) }:=by simp only [S.Io,S.wr,hi]
    rw [Rv]
    refine h4.congr (fun _=>rfl) (fun _=>rfl) (fun k=>by simp only [B8,IB cs off _ _ Ad]; split <;> rfl) (by simp only [G2]; omega)
   ·exact hw.elim
  | v p=>exact plain sM hw
  | full z es=>exact plain sM hw
  | lp j oo=>exact plain sM hw
  | D8=>exact plain sM hw
  | mm _=>exact hr.elim
  | row _ _=>exact hr.elim
 ·exact hw.elim
theorem W9{ty:TypeId}{x y:Operand}{n c off:Nat}{cs:List LV}{ps:List Int}{p:Int}(ho:o.op = .store ty x y)(hd:o.dst=none)(h:Bc cx s g l a w)(hi:lk s.ext n=some cs)(Gi:rowOf cs=some (c,ps))
  (hx:∀b,g.Y n c=some b->a.eval x = .pointer (some ⟨b,off,none⟩)) (hr:BO g w (.int .i64 p) (a.eval y)) (hm:KV P ty=some 1) (Ad:off<ps.length) (hw:K [.ext n 0 [.row c (ps.set off p)]]):Be P cx s o K a w:=by
 obtain ⟨b,hY,hO,hF,hM,cur,e,h4,h5,h6⟩:=Tb h hi Gi
 have DM:=J3 Gi
 subst DM
 have h1:=BO.one hr rfl
 have hc:(a.eval y).cells = #[a.eval y]:=by
  generalize a.eval y=v at h1
  cases v <;> first | rfl | cases h1
 have BW:=Em (P:=P) ho (hx b hY) rfl hm h4 (by rw [hc]; rfl) oM (by rw [hc]; simpa using h1)
 rw [hc] at BW
 have fZ:off<cur.size:=by omega
 have hg:∀j,((AO cur.toList off [a.eval y]).toArray.getD j undef)=if j=off then a.eval y else cur.getD j undef:=fun j=>by
  have M1:off+[a.eval y].length<=cur.toList.length:=by simp; omega
  have g2:=BL cur.toList off [a.eval y] M1 j
  have g3:((AO cur.toList off [a.eval y]).toArray.getD j undef)=((AO cur.toList off [a.eval y])[j]?).getD undef:=by simp [Array.getD_eq_getD_getElem?]
  rw [g3,g2]
  by_cases hj:j=off
  ·subst hj; simp
  ·rw [iN hj,iN (by simp only [List.length_singleton]; omega)]
   simp [Array.getD_eq_getD_getElem?]
 have k1:=h.Xy (c2:=c) (ps':=ps.set off p) (cur':=(AO cur.toList off [a.eval y]).toArray) hi hY hO hF hM h4 (by simp [AV]) (.inl rfl) (by simp [AV]; omega) (fun j hj=>by
  have HK:j<ps.length:=by simpa using hj
  rw [hg j]
  by_cases hjo:j=off
  ·subst hjo
   rw [iP rfl]
   refine ⟨h1,?_⟩
   rw [List.getElem_set_self]; exact hr
  ·rw [iN hjo,List.getElem_set_ne oM]
   exact h6 j HK)
 intro Q
 unfold Oper.wp
 rw [BW,Oper.upon_skip,hd]
 refine ⟨_,{ g with Y:=Ik g.Y n c b },l,hw,?_⟩
 have Rv:s.Io [.ext n 0 [.row c (ps.set off p)]]={ s with ext:=put s.ext n (AO [.row c ps] 0 [.row c (ps.set off p)]) }:=by simp only [S.Io,S.wr,hi]
 rw [Rv]
 exact k1
theorem MP{ty:TypeId}{x y:Operand}(ho:o.op = .store ty x y)(h:Bc cx s g l a w)(hw:(MO P o ty x y).wp s K):Be P cx s o K a w:=by
 unfold MO at hw
 split at hw
 ·rename_i hd
  obtain ⟨lp,u,h1,r1,-⟩:=Cc h hw
  obtain ⟨lv,u2,h2,r2,hu2⟩:=Cc h h1
  split at h2
  ·rename_i i off
   simp only [RM.wp] at h2
   split at h2
   ·rename_i cs DM
    obtain ⟨b,k1,k2⟩:=r1
    exact W7 ho hd h DM k1 k2 r2 hu2 h2
   ·exact h2.elim
  ·rename_i m off
   simp only [RM.wp] at h2
   split at h2
   ·rename_i cs DM
    have hx:∃b,g.X m=some b/\a.eval x = .pointer (some ⟨b,off,none⟩):=by
     generalize a.eval x=vx at r1
     cases r1 with
     | xp _ _ b' hx=>exact ⟨b',hx,rfl⟩
    obtain ⟨b,k1,k2⟩:=hx
    split at h2
    ·rename_i fY; exact W8 ho hd h DM k1 k2 r2 hu2 fY h2
    ·exact h2.elim
   ·exact h2.elim
  ·rename_i m c off
   simp only [RM.wp] at h2
   split at h2
   ·rename_i cs DM
    split at h2
    ·rename_i c' ps p Gi hp
     split at h2
     ·rename_i yZ
      obtain ⟨hm,ha⟩:=yZ
      simp only [RM.wp] at h2
      obtain ⟨Eh,h2⟩:=h2
      obtain ⟨rfl,Ad⟩:=of_decide_eq_true Eh
      exact W9 ho hd h DM Gi (by
       intro b hb
       generalize a.eval x=vx at r1
       cases r1 with
       | yp _ _ _ b' hx=>
        rw [hx] at hb
        injection hb with hb
        rw [hb]) (EY hp r2) hm Ad h2
     ·exact h2.elim
    ·exact h2.elim
   ·exact h2.elim
  ·exact h2.elim
 ·exact hw.elim
end
section
variable {P:Program} {cx:Cx} {s t:S} {g:Gh} {l:LG} {a:Act} {w:World} {o:Oper} {K:List Wr->Prop}
def OH:LV->Option (List (List PV))
 | .v .Ab=>some []
 | lv=>(VY lv).map (·.2)
def pN:LV->Option Nat
 | .v .Ab=>none
 | lv=>(VY lv).map (·.1)
def wV(z:Nat)(lv:LV):Bool:=match pN lv with
 | some z'=>z'==z
 | none=>true
def z7(e z:Nat):LV->Option (List (List PV))
 | .v .Ab=>some []
 | .full z' es=>if z'=z then some es else none
 | .uniq e' z' es=>if kJ e'=e/\z'=z then some es else none
 | _=>none
def Ti(P:Program)(n:Nat)(o:Oper)(ty:TypeId)(x y:Operand):RM (List Wr):=match GC P ty,o.dst with
 | some e,some d=>match KV P e,FP P e,Uh P e with
  | some (m+1),some (B+1),some zs=>if d<n/\zs.length=m+1/\e<1000000 then ev x fun lx=>ev y fun ly=>match z7 e (m+1) lx,OH ly with
   | some es,some ys=>if wV (m+1) ly=true then .assume (decide ((es++ys).length * (B+1)<=140737488355328)) (match lx,x with
    | .uniq e1 _ _,.tmp t=>if t≠d then (if e1<1000000 then .ret [.tmp t (.v (.sl (m+1) es)),.tmp d (.uniq e1 (m+1) (es++ys))] else .ret [.tmp t .D8,.tmp d (.uniq e1 (m+1) (es++ys))]) else .fail
    | _,_ => .ret [.tmp d (.uniq e (m+1) (es++ys))]) else .fail
   | _,_ => .fail
   else .fail
  | _,_,_ => .fail
 | _,_ => .fail
theorem FQ{ty e:TypeId}{i:TypeInfo}{rt:TypeId}{A B:Option Addr}{n cap c:Nat}(hu:P.underlying ty=some (.slice e))(hi:P.info? e=some i)(hle:n<=cap) :
  (Builtin.append_ #[ty,ty] rt #[.slice A n cap,.slice B 0 c]).run P w = .ok (.slice A n cap) w:=by
 have hf:(Builtin.firstCells i.size 0 (.slice B 0 c)).run P w = .ok #[] w:=by
  cases B with
  | none=>rfl
  | some b=>simp [Builtin.firstCells,loadCells,loadCellsFrom]
 cases A with
 | none=>simp [Builtin.append_,run_underlying hu,sizeOf,typeInfo,hi,Builtin.lenOf,hle,hf]
 | some a=>simp [Builtin.append_,run_underlying hu,sizeOf,typeInfo,hi,Builtin.lenOf,hle,hf,storeCells]
def XS(g:Gh)(l:LG)(w:World)(e e1:TypeId)(z:Nat)(p:Option UL)(es:List (List PV))(v:Value):Prop:=
 (v = .slice none 0 0/\es=[])∨(∃a,v = .slice (some a) es.length es.length/\BO g w (.sl z es) v/\e1<1000000) ∨
  ∃q b cap cur,p=some q/\v = .slice (some ⟨b,0,none⟩) es.length cap/\l.U q=some b/\g.M b=some (R9 e1 (es.length * z))/\w.heap[b]?=some (.cells cur e (0,0))/\cur.size=cap * z/\O8 g w e1 z es cap cur v
theorem AE.app{ps qs:List PV}{us vs:List Value}(h:AE g w ps us)(k:AE g w qs vs):AE g w (ps++qs) (us++vs):=by
 refine ⟨by simp [h.1,k.1],fun j hj Cj=>?_⟩
 simp only [List.getElem_append]
 have hl:=h.1
 split
 ·rw [dif_pos oM]; exact h.2 _ _ _
 ·rw [dif_neg oM]
  simp only [hl]
  exact k.2 _ _ _
theorem PY(h:Bc cx s g l a w){d:Nat}(hq:Rg s (.t d)){e e1:TypeId}(VV:kJ e1=e){zv:Value}{m:Nat}{es ys:List (List PV)}{olds news:List Value}{cap:Nat}(hz:zv.cells.size=m+1)
  (HM:∀i (h:i<es.length),es[i].length=m+1) (Kh:∀i (h:i<ys.length),ys[i].length=m+1) (ho:AE g w es.flatten olds) (hn:AE g w ys.flatten news) (eV:∀u∈olds,u.oneCell'=true) (QY:∀u∈news,u.oneCell'=true)
  (Dm:es.length+ys.length<=cap) (D5:cap<=maxLen) :
  ∃g' l',Bc cx s g' l' a (w.drew.alloc (.cells (olds.toArray++news.toArray++Builtin.zeroCells zv.cells (cap - (es.length+ys.length))) e)) /\
   Cm g' l' (w.drew.alloc (.cells (olds.toArray++news.toArray++Builtin.zeroCells zv.cells (cap - (es.length+ys.length))) e)) (.t d) (.uniq e1 (m+1) (es++ys)) (.slice (some ⟨w.heap.size,0,none⟩) (es.length+ys.length) cap):=by
 obtain ⟨h1,eW⟩:=h.drew
 have Um:olds.length=es.length * (m+1):=by rw [<-ho.1,BQ _ es HM]
 have Iz:news.length=ys.length * (m+1):=by rw [<-hn.1,BQ _ ys Kh]
 obtain ⟨g',l',k1,k2,k3⟩:=h1.pE (.t d) hq (olds.toArray++news.toArray++Builtin.zeroCells zv.cells (cap - (es.length+ys.length))) e VV (m+1) cap (es++ys) (by
   simp only [Array.size_append,List.size_toArray,size_zeroCells,hz,Um,Iz,<-Nat.add_mul]
   congr 1
   omega) (by simpa using Dm) D5 (by
   intro i hi
   rw [List.getElem_append]
   split
   ·exact HM _ _
   ·exact Kh _ _) (olds++news) (by rw [List.flatten_append]; exact (ho.mono eW).app (hn.mono eW)) (by
   intro u hu
   rcases List.mem_append.1 hu with hu | hu
   ·exact eV u hu
   ·exact QY u hu) (by
   simp only [Array.toList_append]
   rw [show (es++ys).length * (m+1)=(olds++news).length by rw [List.length_append,List.length_append,Nat.add_mul,Um,Iz]]
   exact List.take_left)
 refine ⟨g',l',k1,?_⟩
 rw [List.length_append] at k3
 exact k3
theorem Rw{ty e e1 rt:TypeId}(VV:kJ e1=e){i:TypeInfo}{zv:Value}{m B d:Nat}{es ys:List (List PV)}{p:Option UL}{vx vy:Value}(h:Bc cx s g l a w)(hu:P.underlying ty=some (.slice e))(hi:P.info? e=some i)(hz:i.zero=some zv)
  (Cb:i.size=m+1) (Xe:i.bytes=B+1) (O3:zv.cells.size=m+1) (hq:Rg s (.t d)) (hp:∀q,p=some q->Rg s q) (Rj:XS g l w e e1 (m+1) p es vx)
  (hy:(ys=[]/\∃A c,vy = .slice A 0 c)∨∃ay c,vy = .slice (some ay) ys.length c/\BO g w (.sl (m+1) ys) vy) (hb:(es++ys).length * (B+1)<=140737488355328) :
  ∃v' w' g' l',(Builtin.append_ #[ty,ty] rt #[vx,vy]).run P w = .ok v' w'/\Bc cx s g' l' a w'/\Cm g' l' w' (.t d) (.uniq e1 (m+1) (es++ys)) v':=by
 have hlen:es.length+ys.length<=140737488355328:=by
  rw [List.length_append] at hb
  have:=Nat.le_mul_of_pos_right (es.length+ys.length) (Nat.succ_pos B)
  simp only [Nat.succ_eq_add_one] at this
  omega
 have Xf:es.length+ys.length<=maxLen:=by simp only [maxLen]; omega
 by_cases Ee:ys=[]
 ·subst Ee
  have Wa:∃A c,vy = .slice A 0 c:=by
   rcases hy with ⟨-,h⟩ | ⟨ay,c,h,-⟩
   ·exact h
   ·exact ⟨some ay,c,h⟩
  obtain ⟨A,c,rfl⟩:=Wa
  rw [List.append_nil]
  rcases Rj with ⟨rfl,rfl⟩ | ⟨a',rfl,hR,hR2⟩ | ⟨q,b,cap,cur,rfl,rfl,h1,h2,h3,h4,h5⟩
  ·exact ⟨_,w,g,l,FQ hu hi (Nat.le_refl _),h,.inl (.inl ⟨rfl,rfl⟩)⟩
  ·exact ⟨_,w,g,l,FQ hu hi (Nat.le_refl _),h,.inl (.inr ⟨a',rfl,hR,hR2⟩)⟩
  ·obtain ⟨l',k1,k2,-⟩:=h.Hg (p:=q) (q := .t d) (e:=e1) (.inr ⟨b,cap,cur,rfl,h1,h2,by rw [VV]; exact h3,h4,h5⟩) (hp q rfl) hq
   exact ⟨_,w,g,l',FQ hu hi (h5.flat h3 h4).1,k1,k2⟩
 ·have Ho:0<ys.length:=List.length_pos_iff.2 Ee
  obtain ⟨ay,c,rfl,eX⟩:∃ay c,vy = .slice (some ay) ys.length c/\BO g w (.sl (m+1) ys) vy:=by
   rcases hy with ⟨h,-⟩ | h
   ·exact absurd h Ee
   ·exact h
  obtain ⟨-,-,-,Kh,news,hn,Iz,XT⟩:=eX.flat
  have Kn:∀j v,news[j]?=some v->w.cell? (ay.add j)=some v:=fun j v hj=>(XT j v hj).1
  have QY:∀u∈news,u.oneCell'=true:=fun u hu=>by
   obtain ⟨j,hj,e⟩:=List.getElem_of_mem hu
   exact (XT j u (by rw [List.getElem?_eq_getElem hj,e])).2.2
  have PZ:news.length=ys.length * i.size:=by rw [Cb]; exact Iz
  have MQ:(es.length+ys.length) * i.bytes<=140737488355328:=by rw [Xe,<-List.length_append]; exact hb
  rcases Rj with ⟨rfl,rfl⟩ | ⟨a',rfl,hR,-⟩ | ⟨q,b,cap,cur,rfl,rfl,h1,h2,h3,h4,hR⟩
  ·have hr:=run_append_nil (P:=P) w ty rt e i zv hu hi hz ay ys.length c news PZ Kn Ho oM (by simp only [List.length_nil,Nat.zero_add] at MQ; omega)
   have Dm:=grownCap_ge w ys.length 0 e
   have Wb:=grownCap_le_maxLen w ys.length 0 e (by simpa using Xf)
   obtain ⟨g',l',k1,k2⟩:=PY h hq (e:=e) VV (es:=[]) (olds:=[]) O3 (fun i h=>by simp at h) Kh .nil hn sM QY (by simpa using Dm) Wb
   simp only [List.length_nil,Nat.zero_add,Array.empty_append,List.nil_append] at k1 k2
   exact ⟨_,_,g',l',hr,by simpa using k1,by simpa using k2⟩
  ·obtain ⟨-,-,-,HM,olds,ho,Um,z8⟩:=hR.flat
   have eV:∀u∈olds,u.oneCell'=true:=fun u hu=>by
    obtain ⟨j,hj,e⟩:=List.getElem_of_mem hu
    exact (z8 j u (by rw [List.getElem?_eq_getElem hj,e])).2.2
   have hr:=run_append_grow (P:=P) w ty rt e i zv hu hi hz a' es.length es.length olds (by rw [Cb]; exact Um) (fun j v hj=>(z8 j v hj).1) ay ys.length c news PZ Kn oM oM (growslice_fits oM MQ)
   have Dm:=grownCap_ge w (es.length+ys.length) es.length e
   have Wb:=grownCap_le_maxLen w (es.length+ys.length) es.length e Xf
   obtain ⟨g',l',k1,k2⟩:=PY h hq (e:=e) VV O3 HM Kh ho hn eV QY Dm Wb
   exact ⟨_,_,g',l',hr,k1,k2⟩
  ·obtain ⟨hle,-,HM,olds,ho,Um,-,z8⟩:=hR.flat h3 h4
   by_cases GB:es.length+ys.length<=cap
   ·have hr:=run_append_room (P:=P) w ty rt e i hu hi b es.length cap cur h3 ay ys.length c news PZ Kn QY GB (by rw [Cb,Iz,h4,<-Nat.add_mul]; exact Nat.mul_le_mul_right _ GB)
    obtain ⟨g',l',k1,-,k3⟩:=h.fR (q := .t d) VV (hp q rfl) hq h1 h2 h3 h4 hR Kh news hn QY GB
    rw [Cb] at hr
    exact ⟨_,_,g',l',hr,k1,k3⟩
   ·have eV:∀u∈olds,u.oneCell'=true:=fun u hu=>by
     obtain ⟨j,hj,e⟩:=List.getElem_of_mem hu
     exact (z8 j u (by rw [List.getElem?_eq_getElem hj,e])).2
    have hr:=run_append_grow (P:=P) w ty rt e i zv hu hi hz ⟨b,0,none⟩ es.length cap olds (by rw [Cb]; exact Um) (fun j v hj=>by rw [OE]; exact (z8 j v hj).1) ay ys.length c news PZ Kn oM oM (growslice_fits oM MQ)
    have Dm:=grownCap_ge w (es.length+ys.length) cap e
    have Wb:=grownCap_le_maxLen w (es.length+ys.length) cap e Xf
    obtain ⟨g',l',k1,k2⟩:=PY h hq (e:=e) VV O3 HM Kh ho hn eV QY Dm Wb
    exact ⟨_,_,g',l',hr,k1,k2⟩
theorem Mh{ly:LV}{ys:List (List PV)}{z:Nat}{u:UL}{v:Value}(h:OH ly=some ys)(hz:wV z ly=true)(hr:Cm g l w u ly v) :
  (ys=[]/\∃A c,v = .slice A 0 c)∨∃ay c,v = .slice (some ay) ys.length c/\BO g w (.sl z ys) v:=by
 unfold OH at h
 split at h
 ·injection h with h; subst h; cases hr; exact .inl ⟨rfl,_,_,rfl⟩
 ·rename_i hn
  simp only [Option.map_eq_some_iff] at h
  obtain ⟨⟨z',es⟩,hs,rfl⟩:=h
  have XU:z'=z:=by
   have Cb:pN ly=some z':=by
    unfold pN
    split
    ·exact absurd rfl hn
    ·rw [hs]; rfl
   unfold wV at hz
   rw [Cb] at hz
   simpa using hz
  subst XU
  have fX:=EY (MG hs) hr
  cases fX with
  | slnil=>exact .inl ⟨rfl,_,_,rfl⟩
  | sl _ _ ay cap vs k1 k2 k3 k4 k5 k6 k7=>exact .inr ⟨ay,cap,rfl,.sl _ _ ay cap vs k1 k2 k3 k4 k5 k6 k7⟩
theorem Fk:∀ {vs:List Value} {ps:List PV},eT vs=some ps->ps.length=vs.length
 | [],ps,h=>by simp only [eT,Option.some.injEq] at h; subst h; rfl
 | v::r,ps,h=>by
  simp only [eT] at h
  split at h
  ·rename_i p qs h1 h2
   injection h with h
   subst h
   simp [Fk h2]
  ·cases h
theorem Q0{ty:TypeId}{x y:Operand}(ho:o.op = .call { callee := .builtin .append,args:=#[x,y],argTypes:=#[ty,ty] })(h:Bc cx s g l a w)(hw:(Ti P cx.n o ty x y).wp s K):Be P cx s o K a w:=by
 unfold Ti at hw
 split at hw
 ·rename_i e d he hd
  have hu:=EH he
  split at hw
  ·rename_i m B zs hm hB hz
   split at hw
   ·rename_i hc
    obtain ⟨wW,Rx,K7⟩:=hc
    obtain ⟨lx,ux,h1,r1,hu1⟩:=Cc h hw
    obtain ⟨ly,uy,h2,r2,-⟩:=Cc h h1
    obtain ⟨i,zv,z1,z2,z3⟩:=Fv hz
    have Cb:i.size=m+1:=by simpa [KV,z1] using hm
    have Xe:i.bytes=B+1:=by simpa [FP,z1] using hB
    have O3:zv.cells.size=m+1:=by rw [<-Array.length_toList,<-Fk z3]; exact Rx
    split at h2
    ·rename_i es ys HM Kh
     split at h2
     ·rename_i Eu
      have hb:=of_decide_eq_true h2.1; replace h2:=h2.2
      have hy:=Mh Kh Eu r2
      have hex:∀v' w',(Builtin.append_ #[ty,ty] o.type #[a.eval x,a.eval y]).run P w = .ok v' w'->(execOp a.eval o).run P w = .ok (.value v') w':=by
       intro v' w' hr
       simp only [execOp,ho,resolve,invoke,builtin,Sem.run_bind,Sem.run_pure,Result.andThen_ok,List.map_toArray,List.map_cons,List.map_nil,hr]
      have plain:XS g l w e e (m+1) none es (a.eval x)->K [.tmp d (.uniq e (m+1) (es++ys))]->Be P cx s o K a w:=by
       intro Rj hK
       have PU:Bc cx { s with tmps:=put s.tmps d .D8 } g l a w:=by
        refine h.eU (fun k v hk=>?_) (Et ES.refl _) (Et ES.refl _)
        simp only [B8] at hk
        split at hk
        ·injection hk with hk; exact .inl hk.symm
        ·exact .inr ⟨v,hk,WL.refl v⟩
       obtain ⟨v',w',g',l',k1,k2,k3⟩:=Rw (rt:=o.type) (T4 K7) (p:=none) PU hu z1 z2 Cb Xe O3 (fU sM) (fun q hq=>by cases hq) Rj hy hb
       intro Q
       unfold Oper.wp
       rw [hex v' w' k1,Oper.upon_value,hd]
       refine ⟨_,g',l',hK,(k2.set wW k3).congr (fun k=>?_) (fun _=>rfl) (fun _=>rfl)⟩
       simp only [S.Io,S.wr,B8]
       split <;> rfl
      unfold z7 at HM
      split at HM
      ·injection HM with HM
       subst HM
       refine plain (.inl ⟨?_,rfl⟩) h2
       generalize a.eval x=vx at r1
       cases r1; rfl
      ·rename_i z' es'
       split at HM
       ·rename_i XU
        subst XU
        injection HM with HM
        subst HM
        refine plain ?_ h2
        rcases r1 with ⟨k1,k2⟩ | ⟨a',k1,k2⟩
        ·exact .inl ⟨k1,k2⟩
        ·exact .inr (.inl ⟨a',k1,k2,K7⟩)
       ·cases HM
      ·rename_i e' z' es'
       split at HM
       ·rename_i XU
        obtain ⟨rfl,rfl⟩:=XU
        injection HM with HM
        subst HM
        obtain ⟨t,rfl,rfl,ht⟩:=hu1 _ _ _ rfl
        simp only at h2
        split at h2
        ·rename_i Ct
         have key:∀lf:LV,(lf = .D8∨lf = .v (.sl (m+1) es')/\e'<1000000)->K [.tmp t lf,.tmp d (.uniq e' (m+1) (es'++ys))]->Be P cx s o K a w:=by
          intro lf yP hK
          have PU:Bc cx { s with tmps:=put (put s.tmps t lf) d .D8 } g l a w:=by
           refine h.eU (fun k v hk=>?_) (Et ES.refl _) (Et ES.refl _)
           simp only [B8] at hk
           split at hk
           ·injection hk with hk; exact .inl hk.symm
           ·split at hk
            ·rename_i e0; subst e0; injection hk with hk; subst hk; rcases yP with rfl | ⟨rfl,Ad⟩; exact .inl rfl; exact .inr ⟨_,ht,.inr ⟨rfl,p9 Ad⟩⟩
            ·exact .inr ⟨v,hk,WL.refl v⟩
          have Rj:XS g l w (kJ e') e' (m+1) (some (.t t)) es' (a.eval (.tmp t)):=by
           rcases r1 with (⟨k1,k2⟩ | ⟨a',k1,k2,k3⟩) | ⟨b,cap,cur,k1,k2,k3,k4,k5,k6⟩
           ·exact .inl ⟨k1,k2⟩
           ·exact .inr (.inl ⟨a',k1,k2,k3⟩)
           ·exact .inr (.inr ⟨.t t,b,cap,cur,rfl,k1,k2,k3,k4,k5,k6⟩)
          obtain ⟨v',w',g',l',k1,k2,k3⟩:=Rw (rt:=o.type) rfl (p:=some (.t t)) (d:=d) PU hu z1 z2 Cb Xe O3 (fun e2 z2 Th he=>by simp only [B8,if_true] at he; injection he with he; cases he)
           (fun q hq=>by
            injection hq with hq
            subst hq
            intro e2 z2 Th he
            simp only [B8,iN (Ne.symm Ct),if_true] at he
            injection he with he
            rcases yP with h0 | ⟨h0,-⟩ <;> (rw [h0] at he; cases he)) Rj hy hb
          intro Q
          unfold Oper.wp
          rw [hex v' w' k1,Oper.upon_value,hd]
          refine ⟨_,g',l',hK,(k2.set wW k3).congr (fun k=>?_) (fun _=>rfl) (fun _=>rfl)⟩
          simp only [S.Io,S.wr,B8]
          split <;> rfl
         split at h2
         ·rename_i Ad; exact key _ (.inr ⟨rfl,Ad⟩) h2
         ·exact key _ (.inl rfl) h2
        ·exact h2.elim
       ·cases HM
      ·cases HM
     ·exact h2.elim
    ·exact h2.elim
   ·exact hw.elim
  ·exact hw.elim
 ·exact hw.elim
end
def EZ(k:ByteArray):List (ByteArray × PV)->Option PV
 | []=>none
 | x::r=>if x.1=k then some x.2 else EZ k r
def JI(k:ByteArray)(v:PV):List (ByteArray × PV)->List (ByteArray × PV)
 | []=>[(k,v)]
 | x::r=>if x.1=k then (k,v)::r else x::JI k v r
theorem OI{k:ByteArray}:∀ {es:List (ByteArray × PV)},(∀x∈es,x.1≠k)->EZ k es=none
 | [],_=>rfl
 | x::r,h=>by
  simp only [EZ,h x sM,if_false]
  exact OI fun y hy=>h y (List.mem_cons_of_mem _ hy)
theorem Ry{k:ByteArray}{v:PV}:∀ {es:List (ByteArray × PV)},(∀x∈es,x.1≠k)->JI k v es=es++[(k,v)]
 | [],_=>rfl
 | x::r,h=>by
  simp only [JI,h x sM,if_false,List.cons_append]
  rw [Ry fun y hy=>h y (List.mem_cons_of_mem _ hy)]
theorem Un{k:ByteArray}:∀ {es:List (ByteArray × PV)} {j:Nat} (hj:j<es.length),es[j].1=k->(∀i (h:i<es.length),i<j->es[i].1≠k)->EZ k es=some es[j].2
 | [],j,hj,_,_=>by simp at hj
 | x::r,0,_,h,_=>by simp only [List.getElem_cons_zero] at h; simp [EZ,h]
 | x::r,j+1,hj,h,hn=>by
  have h0:=hn 0 sM oM
  simp only [List.getElem_cons_zero] at h0
  simp only [EZ,h0,if_false,List.getElem_cons_succ]
  exact Un (by simpa using hj) (by simpa using h) fun i hi kZ=>hn (i+1) (by simpa using hi) oM
theorem Uo{k:ByteArray}{v:PV}:∀ {es:List (ByteArray × PV)} {j:Nat} (hj:j<es.length),es[j].1=k->(∀i (h:i<es.length),i<j->es[i].1≠k)->JI k v es=es.set j (k,v)
 | [],j,hj,_,_=>by simp at hj
 | x::r,0,_,h,_=>by simp only [List.getElem_cons_zero] at h; simp [JI,h]
 | x::r,j+1,hj,h,hn=>by
  have h0:=hn 0 sM oM
  simp only [List.getElem_cons_zero] at h0
  simp only [JI,h0,if_false,List.set_cons_succ]
  rw [Uo (by simpa using hj) (by simpa using h) fun i hi kZ=>hn (i+1) (by simpa using hi) oM]
section
variable {P:Program} {cx:Cx} {s t:S} {g:Gh} {l:LG} {a:Act} {w:World} {o:Oper} {K:List Wr->Prop}
theorem Rb.keys{es:List (ByteArray × PV)}{arr:Array MapEntry}{clock:Nat}(h:Rb g w es arr clock):∀x∈arr.toList,MapKept.IsKey .string x.key:=fun x hx=>by
 obtain ⟨-,h2,h3⟩:=h
 obtain ⟨j,hj,e⟩:=List.getElem_of_mem hx
 have Cj:j<arr.size:=by simpa using hj
 have:=(h3 j oM Cj).1
 have e':arr[j]=x:=by simpa using e
 rw [e'] at this
 rw [this]
 trivial
theorem Rb.find{es:List (ByteArray × PV)}{arr:Array MapEntry}{clock:Nat}(h:Rb g w es arr clock)(k:ByteArray) :
  (Instr.findNow .string (.string k) arr.toList 0=some none/\(∀x∈arr.toList,x.key ≠ .string k)/\∀x∈es,x.1≠k) ∨
  ∃ (j:Nat) (hj:j<es.length) (Cj:j<arr.size),Instr.findNow .string (.string k) arr.toList 0=some (some (j,arr[j].val))/\arr[j].key = .string k/\es[j].1=k/\(∀i (h:i<es.length),i<j->es[i].1≠k):=by
 have hk:=h.keys
 obtain ⟨hs,h2,h3⟩:=h
 rcases MapKept.findNow_spec (d := .string) (k := .string k) trivial arr.toList 0 hk with ⟨h4,h5⟩ | ⟨j,e,h4,h5,h6⟩
 ·refine .inl ⟨h4,h5,fun x hx e=>?_⟩
  obtain ⟨j,hj,e1⟩:=List.getElem_of_mem hx
  have Cj:j<arr.size:=by omega
  have:=(h3 j hj Cj).1
  exact h5 arr[j] sM (by rw [this,e1,e])
 ·rw [Nat.zero_add] at h4
  have Cj:j<arr.size:=by simpa using (List.getElem?_eq_some_iff.1 h5).1
  have e1:arr[j]=e:=by
   have:=(List.getElem?_eq_some_iff.1 h5).2
   simpa using this
  have hj:j<es.length:=by omega
  subst e1
  have hkj:=(h3 j hj Cj).1
  refine .inr ⟨j,hj,Cj,h4,h6,?_,fun i hi kZ ei=>?_⟩
  ·rw [hkj] at h6; injection h6
  ·have Tj:i<arr.size:=by omega
   have pO:=(h3 i hi Tj).1
   have Of:=hs.2.2
   have h7:(arr.toList.map (·.key))[i]'(by simpa using Tj)=(arr.toList.map (·.key))[j]'(by simpa using Cj):=by simp [pO,h6,ei]
   exact List.pairwise_iff_getElem.1 Of i j (by simpa using Tj) (by simpa using Cj) kZ h7
theorem Rz{b:Nat}{arr JJ:Array MapEntry}{clock Ez:Nat}(h4:w.heap[b]?=some (.map arr clock)):Ch g w g { w with heap:=w.heap.setIfInBounds b (.map JJ Ez) }:=by
 have hs:=MapKept.heap_set (o' := .map JJ Ez) h4
 refine ⟨fun _ _ e=>e,fun b' o v hc hf=>⟨?_,hf⟩,fun b' cur e hh=>?_,fun _ _ _ h=>h⟩
 ·have Ct:b'≠b:=by
   rintro rfl
   unfold World.cell? at hc
   simp [h4] at hc
  rw [<-hc]
  exact World.cell?_of_block (hs.2 b' Ct)
 ·have Ct:b'≠b:=by rintro rfl; rw [h4] at hh; cases hh
  exact ⟨cur,(hs.2 b' Ct).trans hh,rfl⟩
theorem Bc.zA(h:Bc cx s g l a w){i:Nat}{es es':List (ByteArray × PV)}(hi:lk s.ext i=some [.mm es]) :
  ∃b arr clock,g.X i=some b/\w.heap[b]?=some (.map arr clock)/\Rb g w es arr clock/\∀JJ Ez,Rb g w es' JJ Ez->Bc cx { s with ext:=put s.ext i [.mm es'] } g l a { w with heap:=w.heap.setIfInBounds b (.map JJ Ez) }:=by
 obtain ⟨b,h1,h2,hE⟩:=h.ex i _ hi
 replace h1:g.X i=some b:=h1
 rcases hE with ⟨-,cur,e,-,-,h6⟩ | ⟨Th,he,hM,arr,clock,h4,hR⟩ | ⟨n0,c0,ps0,-,e0,-⟩
 ·exact ((h6 0 sM).2.2).elim
 rotate_left
 ·injection e0 with e0 _; cases e0
 have Tk:es=Th:=he
 subst Tk
 refine ⟨b,arr,clock,h1,h4,hR,fun JJ Ez wX=>?_⟩
 have hs:=MapKept.heap_set (o' := .map JJ Ez) h4
 have hm:Ch g w g { w with heap:=w.heap.setIfInBounds b (.map JJ Ez) }:=Rz h4
 have Ct:∀ {b' o},l.O b'=some o->o ≠ .x i->b'≠b:=fun {b' o} ho hn e=>by
  subst e
  rw [h2] at ho
  injection ho with ho
  exact hn ho.symm
 have hL:∀ {p lv v},Cm g l w p lv v->Cm g l { w with heap:=w.heap.setIfInBounds b (.map JJ Ez) } p lv v:=fun hr=>hr.BK hm (fun _ _ _=>rfl) fun b' hu=>⟨hu,rfl,hs.2 b' (Ct (h.uo _ _ hu) sM)⟩
 refine ⟨⟨h.AM.mono.trans hm,by simpa using h.AM.size,fun b' Ad ho=>?_,h.AM.os,h.AM.tape,h.AM.output,h.AM.Jj.mono hm⟩,h.size,h.defers,fun t lv ht=>hL (h.tm t lv ht),?_,?_,?_,h.uo,?_,?_⟩
 ·have hnb:b'≠b:=by
   rintro rfl
   rcases (h.own b' _ h2).2 with hb | hb
   ·omega
   ·exact ho hb
  obtain ⟨k1,k2⟩:=h.AM.frame b' Ad ho
  exact ⟨(hs.2 b' hnb).trans k1,k2⟩
 ·intro k Jk hk
  obtain ⟨b',k1,k2,k3,cur',e',k4,k5,k6⟩:=h.bx k Jk hk
  have hn:=Ct k2 sM
  exact ⟨b',k1,k2,k3,cur',e',(hs.2 b' hn).trans k4,k5,fun j hj=>⟨(k6 j hj).1,(k6 j hj).2.1,hL (k6 j hj).2.2⟩⟩
 ·intro k Jk hk
  rw [B8] at hk
  split at hk
  ·rename_i ek
   subst ek
   injection hk with hk
   subst hk
   obtain ⟨r1,r2,r3⟩:=wX
   exact ⟨b,h1,h2,.inr (.inl ⟨es',rfl,hM,JJ,Ez,hs.1,r1,r2,fun j hj Cj=>⟨(r3 j hj Cj).1,(r3 j hj Cj).2.mono hm⟩⟩)⟩
  ·rename_i ek
   obtain ⟨b',k1,k2,hE⟩:=h.ex k Jk hk
   have hn:=Ct k2 (by simp; exact fun e=>ek e.symm)
   refine ⟨b',k1,k2,?_⟩
   rcases hE with ⟨k3,cur',e',k4,k5,k6⟩ | hE
   ·exact .inl ⟨k3,cur',e',(hs.2 b' hn).trans k4,k5,fun j hj=>⟨(k6 j hj).1,(k6 j hj).2.1,hL (k6 j hj).2.2⟩⟩
   ·exact .inr (hE.BK hm (fun _ _ _ h=>h) rfl (hs.2 b' hn))
 ·intro b' o ho
  simpa using h.own b' o ho
 ·exact ⟨fun b' Ga=>h.fresh.1 b' (by simpa using Ga),fun n hn=>h.fresh.2.1 n (by rw [DL hi] at hn; exact hn),fun n c hn=>h.fresh.2.2 n c (by rw [DL hi] at hn; exact hn)⟩
 ·intro n b' hx
  simpa using h.Gg n b' hx
def gA(P:Program)(t:TypeId):Option TypeId:=match P.underlying t with
 | some (.map k e)=>match P.underlying k with
  | some .string=>some e
  | _=>none
 | _=>none
theorem RA{ty e:TypeId}(h:gA P ty=some e):∃k,P.underlying ty=some (.map k e)/\P.underlying k=some .string:=by
 unfold gA at h
 split at h
 ·rename_i k e' hu
  split at h
  ·rename_i hk; injection h with h; subst h; exact ⟨k,hu,hk⟩
  ·cases h
 ·cases h
def Up(P:Program)(o:Oper)(ty:TypeId)(m k x:Operand):RM (List Wr):=match o.dst,gA P ty with
 | none,some _=>Hj m fun pm=>Hj k fun pk=>Hj x fun px=>match pm,pk with
  | .mp i,.str kb => .G3 i fun cs=>match cs with
   | [.mm es] => .ret [.ext i 0 [.mm (JI kb px es)]]
   | _ => .fail
  | _,_ => .fail
 | _,_ => .fail
theorem Lv{ty:TypeId}{m k x:Operand}(ho:o.op = .mapUpdate ty m k x∨o.op = .insert ty m k x)(h:Bc cx s g l a w)(hw:(Up P o ty m k x).wp s K):Be P cx s o K a w:=by
 unfold Up at hw
 split at hw
 ·rename_i e hd hT
  obtain ⟨kt,hu,hk⟩:=RA hT
  obtain ⟨pm,h1,r1⟩:=AZ h hw
  obtain ⟨pk,h2,r2⟩:=AZ h h1
  obtain ⟨px,h3,r3⟩:=AZ h h2
  split at h3
  ·rename_i i kb
   simp only [RM.wp] at h3
   split at h3
   ·rename_i cs DM
    split at h3
    ·rename_i es
     obtain ⟨b,arr,clock,hb,hh,hR,A74⟩:=h.zA (es':=JI kb px es) DM
     have e1:a.eval m = .map (some b):=by
      generalize a.eval m=vm at r1
      cases r1 with
      | mp _ b' hx=>rw [hb] at hx; injection hx with hx; rw [hx]
     have e2:a.eval k = .string kb:=by generalize a.eval k=vk at r2; cases r2; rfl
     have hex:∀w',(Instr.mapUpdate ty (.map (some b)) (.string kb) (a.eval x)).run P w = .ok () w'->(execOp a.eval o).run P w = .ok .skip w':=fun w' hr=>by
      rcases ho with ho | ho <;> simp only [execOp,ho,e1,e2,Sem.run_bind,hr,Result.andThen_ok] <;> rfl
     have fin:∀JJ Ez,(Instr.mapUpdate ty (.map (some b)) (.string kb) (a.eval x)).run P w = .ok () { w with heap:=w.heap.setIfInBounds b (.map JJ Ez) }->Rb g w (JI kb px es) JJ Ez->Be P cx s o K a w:=fun JJ Ez hr wX Q=>by
      unfold Oper.wp
      rw [hex _ hr,Oper.upon_skip,hd]
      refine ⟨_,g,l,h3,?_⟩
      have Rv:s.Io [.ext i 0 [.mm (JI kb px es)]]={ s with ext:=put s.ext i [.mm (JI kb px es)] }:=by simp only [S.Io,S.wr,DM]; rfl
      rw [Rv]
      exact A74 JJ Ez wX
     rcases hR.find kb with ⟨f1,f2,f3⟩ | ⟨j,hj,Cj,f1,f2,f3,f4⟩
     ·refine fin (arr.push { key := .string kb,val:=a.eval x,born:=clock }) (clock+1) ?_ ?_
      ·simp [Instr.mapUpdate,run_underlying hu,MapKept.run_getObj_map hh,MapKept.run_checkKey hk (show MapKept.IsKey .string (.string kb) from trivial),MapKept.run_findKey hk f1,MapKept.run_setObj_map _ hh,Result.andThen]
      ·rw [Ry f3]
       obtain ⟨q1,q2,q3⟩:=hR
       refine ⟨MapKept.stamped_push q1 f2,by simp [q2],fun j hj Cj=>?_⟩
       by_cases wY:j<es.length
       ·have hja:j<arr.size:=by omega
        rw [List.getElem_append_left wY,Array.getElem_push_lt hja]
        exact q3 j wY hja
       ·have hje:j=es.length:=by simp at hj; omega
        subst hje
        simp only [List.getElem_append_right (Nat.le_refl _),Nat.sub_self,List.getElem_cons_zero]
        have:(arr.push { key := .string kb,val:=a.eval x,born:=clock })[es.length]={ key := .string kb,val:=a.eval x,born:=clock }:=by simp [<-q2]
        rw [this]
        exact ⟨rfl,r3⟩
     ·refine fin (arr.modify j fun e=>{ e with key := .string kb,val:=a.eval x }) clock ?_ ?_
      ·have hja:arr[j]?=some arr[j]:=Array.getElem?_eq_getElem Cj
       simp [Instr.mapUpdate,run_underlying hu,MapKept.run_getObj_map hh,MapKept.run_checkKey hk (show MapKept.IsKey .string (.string kb) from trivial),MapKept.run_findKey hk f1,hja,f2,MapKept.run_keyThatStays (d := .string) (k := .string kb) trivial,MapKept.run_setObj_map _ hh,Result.andThen]
      ·rw [Uo hj f3 f4]
       obtain ⟨q1,q2,q3⟩:=hR
       refine ⟨MapKept.stamped_modify q1 _ _ (fun _ _=>rfl) (fun e' _ Tk=>?_),by simp [q2],fun i hi Tj=>?_⟩
       ·rw [Array.getElem?_eq_getElem Cj] at Tk
        injection Tk with Tk
        rw [<-Tk,f2]
       ·have hi2:i<es.length:=by simpa using hi
        have hi3:i<arr.size:=by simpa using Tj
        rw [Array.getElem_modify,List.getElem_set]
        by_cases kZ:j=i
        ·subst kZ; simp only [if_true]; exact ⟨trivial,r3⟩
        ·simp only [kZ,if_false]; exact q3 i hi2 hi3
    ·exact h3.elim
   ·exact h3.elim
  ·exact h3.elim
 ·exact hw.elim
def pP(P:Program)(t:TypeId):Option PV:=((P.info? t).bind (·.zero)).bind cv
theorem XV{t:TypeId}{z:PV}(h:pP P t=some z):∃v,(∀w,(zeroValue t).run P w = .ok v w)/\∀g w,BO g w z v:=by
 unfold pP at h
 simp only [Option.bind_eq_some_iff] at h
 obtain ⟨v,⟨i,h1,h2⟩,h3⟩:=h
 exact ⟨v,fun w=>by simp [zeroValue,typeInfo,h1,h2],fun g w=>Xz h3⟩
def Eg(ok:Bool)(m:Option PV)(z:PV):PV:=match ok with
 | true => .B6 [m.getD z,.bool m.isSome]
 | false=>m.getD z
def XW(P:Program)(n:Nat)(o:Oper)(ty:TypeId)(x k:Operand)(ok:Bool):RM (List Wr):=match gA P ty with
 | some e=>match pP P e with
  | some z=>Hj x fun px=>Hj k fun pk=>match px,pk with
   | .mp i,.str kb => .G3 i fun cs=>match cs with
    | [.mm es]=>wv n o (.v (Eg ok (EZ kb es) z))
    | _ => .fail
   | .HJ,.str _=>wv n o (.v (Eg ok none z))
   | _,_ => .fail
  | none => .fail
 | none => .fail
theorem RC{ty:TypeId}{x k:Operand}{ok:Bool}(ho:o.op = .lookup ty x k ok)(h:Bc cx s g l a w)(hw:(XW P cx.n o ty x k ok).wp s K):Be P cx s o K a w:=by
 unfold XW at hw
 split at hw
 ·rename_i e hT
  obtain ⟨kt,hu,hk⟩:=RA hT
  split at hw
  ·rename_i z hz
   obtain ⟨zv,wZ,zB⟩:=XV hz
   obtain ⟨px,h1,r1⟩:=AZ h hw
   obtain ⟨pk,h2,r2⟩:=AZ h h1
   have AF:∀ {m:Option PV} {v:Value},BO g w (m.getD z) v->BO g w (Eg ok m z) (if ok then .tuple #[v,.bool m.isSome] else v):=fun {m v} hr=>by
    cases ok with
    | true=>
     refine .B6 [m.getD z,.bool m.isSome] [v,.bool m.isSome] rfl fun j hj Cj=>?_
     match j,hj with
     | 0,_=>exact hr
     | 1,_=>exact .bool _
    | false=>exact hr
   have hex:∀v,(Instr.lookup ty (a.eval x) (a.eval k) ok).run P w = .ok v w->(execOp a.eval o).run P w = .ok (.value v) w:=fun v hr=>by
    simp only [execOp,ho,Sem.run_bind,hr,Result.andThen_ok]; rfl
   split at h2
   ·rename_i i kb
    simp only [RM.wp] at h2
    split at h2
    ·rename_i cs DM
     split at h2
     ·rename_i es
      obtain ⟨b,arr,clock,hb,hh,hR,-⟩:=h.zA (es':=[]) DM
      have e1:a.eval x = .map (some b):=by
       generalize a.eval x=vm at r1
       cases r1 with
       | mp _ b' hx=>rw [hb] at hx; injection hx with hx; rw [hx]
      have e2:a.eval k = .string kb:=by generalize a.eval k=vk at r2; cases r2; rfl
      rw [e1,e2] at hex
      rcases hR.find kb with ⟨f1,f2,f3⟩ | ⟨j,hj,Cj,f1,f2,f3,f4⟩
      ·rw [OI f3] at h2
       refine Be.value (v:=if ok then .tuple #[zv,.bool false] else zv) h2 h (fun _=>AF (m:=none) (zB g w)) (hex _ ?_)
       simp [Instr.lookup,run_underlying hu,MapKept.run_getObj_map hh,MapKept.run_checkKey hk (show MapKept.IsKey .string (.string kb) from trivial),MapKept.run_findKey hk f1,wZ,Result.andThen]
      ·rw [Un hj f3 f4] at h2
       refine Be.value (v:=if ok then .tuple #[arr[j].val,.bool true] else arr[j].val) h2 h (fun _=>AF (m:=some es[j].2) (hR.2.2 j hj Cj).2) (hex _ ?_)
       simp [Instr.lookup,run_underlying hu,MapKept.run_getObj_map hh,MapKept.run_checkKey hk (show MapKept.IsKey .string (.string kb) from trivial),MapKept.run_findKey hk f1,Result.andThen]
     ·exact h2.elim
    ·exact h2.elim
   ·rename_i kb
    have e1:a.eval x = .map none:=by generalize a.eval x=vm at r1; cases r1; rfl
    have e2:a.eval k = .string kb:=by generalize a.eval k=vk at r2; cases r2; rfl
    rw [e1,e2] at hex
    refine Be.value (v:=if ok then .tuple #[zv,.bool false] else zv) h2 h (fun _=>AF (m:=none) (zB g w)) (hex _ ?_)
    simp [Instr.lookup,run_underlying hu,MapKept.run_checkKey hk (show MapKept.IsKey .string (.string kb) from trivial),MapKept.run_findKey hk (l:=[]) (a:=none) (k := .string kb) rfl,wZ,Result.andThen]
   ·exact h2.elim
  ·exact hw.elim
 ·exact hw.elim
def zC(P:Program)(ty:TypeId):Option (Nat × TypeId):=match P.underlying ty with
 | some (.array n e)=>some (n,e)
 | _=>none
def pQ(P:Program)(e:TypeId)(m:Nat)(cs:List PV)(N:Nat):Bool:=match M3 P e with
 | some false=>decide (m=1)&&decide (cs.length=N)
 | _=>false
theorem XX{e:TypeId}{m N:Nat}{cs:List PV}{k:Int}(h:pQ P e m cs N=true)(h0:0<=k)(h1:k<N):Oc P e cs (k.toNat * m)=some (cs.getD k.toNat .Dy):=by
 unfold pQ at h
 split at h
 ·rename_i ha
  simp only [Bool.and_eq_true,decide_eq_true_eq] at h
  obtain ⟨rfl,h2⟩:=h
  have hk:k.toNat<cs.length:=by omega
  simp only [Oc,ha,Nat.mul_one,List.getD,List.getElem?_eq_getElem hk,Option.getD_some]
 ·cases h
def Tl(P:Program)(n:Nat)(o:Oper)(ty:TypeId)(x i:Operand):RM (List Wr):=if L6 P ty=true then Hj x fun p=>Hj i fun q=>match p,q with
  | .str b,.int _ k => .assume (decide (0<=k/\k<b.size)) (wv n o (.v (.int .u8 (b.data.toList.getD k.toNat default).toNat)))
  | _,_ => .fail
 else match zC P ty with
  | some (N,e)=>match KV P e with
   | some m=>Hj x fun p=>Hj i fun q=>match p,q with
    | .agg cs,.int _ k => .assume (decide (0<=k/\k<N)) (if pQ P e m cs N=true then wv n o (.v (cs.getD k.toNat .Dy)) else match Oc P e cs (k.toNat * m) with
     | some q=>wv n o (.v q)
     | none => .fail)
    | _,_ => .fail
   | none => .fail
  | none => .fail
theorem Q1{ty:TypeId}{x i:Operand}(ho:o.op = .index ty x i)(h:Bc cx s g l a w)(hw:(Tl P cx.n o ty x i).wp s K):Be P cx s o K a w:=by
 unfold Tl at hw
 split at hw
 ·rename_i JH
  unfold L6 at JH
  split at JH
  ·rename_i hu
   obtain ⟨p,h1,r1⟩:=AZ h hw
   obtain ⟨q,h2,r2⟩:=AZ h h1
   have hex:∀v,(Instr.index ty (a.eval x) (a.eval i)).run P w = .ok v w->(execOp a.eval o).run P w = .ok (.value v) w:=fun v hr=>by
    simp only [execOp,ho,Sem.run_bind,hr,Result.andThen_ok]; rfl
   generalize a.eval x=vx at r1 hex
   generalize a.eval i=vi at r2 hex
   split at h2
   ·rename_i b ki k
    cases r1
    cases r2
    obtain ⟨hb,h3⟩:=h2
    obtain ⟨hb0,zD⟩:=of_decide_eq_true hb
    refine Be.pure h h3 (.int _ _) (hex _ ?_)
    have hk:k.toNat<b.size:=by omega
    have e1:b[k.toNat]?=some b[k.toNat]:=by simp [hk]
    have e2:b.data.toList.getD k.toNat default=b[k.toNat]:=by
     have Ra:k.toNat<b.data.size:=hk
     have:b.data.toList.getD k.toNat default=b.data[k.toNat]:=by simp [List.getD,Array.getElem?_eq_getElem Ra]
     exact this
    simp only [Instr.index,asIntOf,Sem.run_bind,Sem.run_pure,Result.andThen_ok,run_underlying hu,hb0,if_true,e1,e2]
   ·exact h2.elim
  ·cases JH
 ·split at hw
  ·rename_i N e he
   have hu:P.underlying ty=some (.array N e):=by
    unfold zC at he
    split at he
    ·rename_i n' e' hu; simp only [Option.some.injEq,Prod.mk.injEq] at he; obtain ⟨rfl,rfl⟩:=he; exact hu
    ·cases he
   split at hw
   ·rename_i m hm
    obtain ⟨p,h1,r1⟩:=AZ h hw
    obtain ⟨q,h2,r2⟩:=AZ h h1
    have hex:∀v,(Instr.index ty (a.eval x) (a.eval i)).run P w = .ok v w->(execOp a.eval o).run P w = .ok (.value v) w:=fun v hr=>by
     simp only [execOp,ho,Sem.run_bind,hr,Result.andThen_ok]; rfl
    generalize a.eval x=vx at r1 hex
    generalize a.eval i=vi at r2 hex
    split at h2
    ·rename_i cs ki k
     cases r2
     obtain ⟨hb,h3⟩:=h2
     have hb:=of_decide_eq_true hb
     split at h3
     ·rename_i zE
      cases r1 with
      | agg _ vs hl Ck hr=>
       obtain ⟨v,k1,k2⟩:=Hl (P:=P) (XX zE hb.1 hb.2) ⟨hl,hr⟩ Ck
       refine Be.pure h h3 k2 (hex _ ?_)
       simp only [Instr.index,asIntOf,Sem.run_bind,Sem.run_pure,Result.andThen_ok,run_underlying hu,iP hb,run_sizeOf hm,k1]
     split at h3
     ·rename_i q hq
      cases r1 with
      | agg _ vs hl Ck hr=>
       obtain ⟨v,k1,k2⟩:=Hl (P:=P) hq ⟨hl,hr⟩ Ck
       refine Be.pure h h3 k2 (hex _ ?_)
       simp only [Instr.index,asIntOf,Sem.run_bind,Sem.run_pure,Result.andThen_ok,run_underlying hu,iP hb,run_sizeOf hm,k1]
     ·exact h3.elim
    ·exact h2.elim
   ·exact hw.elim
  ·exact hw.elim
def Wc(x:Option Operand)(d:Nat)(k:Int->RM (List Wr)):RM (List Wr):=match x with
 | none=>k d
 | some y=>Hj y fun q=>match q with
  | .int _ i=>k i
  | _ => .fail
def Tm(P:Program)(n:Nat)(o:Oper)(ty:TypeId)(x:Operand)(lo hi:Option Operand):RM (List Wr):=match GC P ty with
 | some e=>match KV P e with
  | some z'=>Hj x fun p=>match p with
   | .sl z es=>if z=z' then Wc hi es.length fun h=>Wc lo 0 fun k => .assume (decide (0<=k/\k<=h/\h<=es.length)) (wv n o (.v (.sl z ((es.take h.toNat).drop k.toNat)))) else .fail
   | _ => .fail
  | none => .fail
 | none => .fail
theorem HN{x:Option Operand}{d:Nat}{k:Int->RM (List Wr)}(h:Bc cx s g l a w)(hw:(Wc x d k).wp s K) :
  ∃i:Int,(k i).wp s K/\((x=none/\i=d)∨∃y ki,x=some y/\a.eval y = .int ki i):=by
 unfold Wc at hw
 split at hw
 ·exact ⟨d,hw,.inl ⟨rfl,rfl⟩⟩
 ·rename_i y
  obtain ⟨q,h1,r1⟩:=AZ h hw
  split at h1
  ·rename_i ki i
   refine ⟨i,h1,.inr ⟨y,ki,rfl,?_⟩⟩
   generalize a.eval y=v at r1
   cases r1
   rfl
  ·exact h1.elim
theorem Q2{ty:TypeId}{x:Operand}{lo hi:Option Operand}(ho:o.op = .slice ty x lo hi none)(h:Bc cx s g l a w)(hw:(Tm P cx.n o ty x lo hi).wp s K):Be P cx s o K a w:=by
 unfold Tm at hw
 split at hw
 ·rename_i e he
  split at hw
  ·rename_i z' hz
   obtain ⟨p,h1,r1⟩:=AZ h hw
   split at h1
   ·rename_i z es
    split at h1
    ·rename_i hzz
     subst hzz
     obtain ⟨hh,h2,hhi⟩:=HN h h1
     obtain ⟨kk,h3,zF⟩:=HN h h2
     obtain ⟨hb,h4⟩:=h3
     obtain ⟨b0,b1,b2⟩:=of_decide_eq_true hb
     have hu:P.underlying ty=some (.slice e):=by
      unfold GC at he
      split at he
      ·rename_i e' hu; injection he with he; rw [hu,he]
      ·cases he
     have hel:P.elem ty=e:=by simp [Program.elem,hu]
     have XP:P.underlying ty=some (.slice (P.elem ty)):=by rw [hel]; exact hu
     have Cb:(sizeOf (P.elem ty)).run P w = .ok z w:=by rw [hel]; exact run_sizeOf hz
     have hex:∀v,(Instr.slice ty (a.eval x) (lo.map a.eval) (hi.map a.eval) none).run P w = .ok v w->(execOp a.eval o).run P w = .ok (.value v) w:=fun v hr=>by
      simp only [execOp,ho,Option.map_none,Sem.run_bind,run_sliceAt_slice _ _ _ _ _ _ XP,hr,Result.andThen_ok]; rfl
     have BW:∀ (ad:Option Addr) (cap:Nat),es.length<=cap->(Instr.slice ty (.slice ad es.length cap) (lo.map a.eval) (hi.map a.eval) none).run P w = .ok (sliced ad kk.toNat hh.toNat cap z) w:=by
      intro ad cap D5
      rcases hhi with ⟨rfl,rfl⟩ | ⟨y,ki,rfl,hy⟩
      ·rcases zF with ⟨rfl,rfl⟩ | ⟨y',ki',rfl,pR⟩
       ·simp only [Option.map_none]
        rw [run_slice_all (ht:=XP),Cb]
        rfl
       ·simp only [Option.map_none,Option.map_some,pR]
        rw [run_slice_l (ht:=XP) (h0:=b0) (h1:=b1),Cb]
        rfl
      ·rcases zF with ⟨rfl,rfl⟩ | ⟨y',ki',rfl,pR⟩
       ·simp only [Option.map_none,Option.map_some,hy]
        rw [run_slice_h (ht:=XP) (h0:=by omega) (h2:=by omega),Cb]
        rfl
       ·simp only [Option.map_some,hy,pR]
        rw [run_slice_lh (ht:=XP) (h0:=b0) (h1:=b1) (h2:=by omega),Cb]
        rfl
     have hlen:((es.take hh.toNat).drop kk.toNat).length=hh.toNat - kk.toNat:=by
      rw [List.length_drop,List.length_take]
      omega
     generalize a.eval x=vx at r1 hex
     cases r1 with
     | slnil _=>
      have:=BW none 0 sM
      simp only [List.length_nil] at b2 this
      have SU:kk.toNat=0:=by omega
      have hh0:hh.toNat=0:=by omega
      refine Be.pure h h4 (v := .slice none 0 0) ?_ (hex _ ?_)
      ·simp only [List.take_nil,List.drop_nil]; exact .slnil z
      ·rw [this,SU,hh0]; rfl
     | sl _ _ ad cap vs hle D5 Ta hc hf Xd hr=>
      refine Be.pure h h4 (v:=sliced (some ad) kk.toNat hh.toNat cap z) ?_ (hex _ (BW _ _ hle))
      unfold sliced
      rw [<-hlen]
      by_cases hck:cap=kk.toNat
      ·have XY:(es.take hh.toNat).drop kk.toNat=[]:=List.eq_nil_of_length_eq_zero (by rw [hlen]; omega)
       rw [iP hck,XY]
       exact .sl z [] ad _ vs sM oM (fun i hi=>by simp at hi) (fun i j hi=>by simp at hi) (fun i j hi=>by simp at hi) (fun i j hi=>by simp at hi) (fun i j hi=>by simp at hi)
      ·rw [iN hck]
       simp only [Option.map_some]
       have Tn:∀i (hi:i<((es.take hh.toNat).drop kk.toNat).length),∃h2:kk.toNat+i<es.length,((es.take hh.toNat).drop kk.toNat)[i]=es[kk.toNat+i]:=fun i hi=>by
        have h3:kk.toNat+i<es.length:=by rw [hlen] at hi; omega
        exact ⟨h3,by simp⟩
       refine .sl z _ (ad.add (kk.toNat * z)) _ (fun i j=>vs (kk.toNat+i) j) (by rw [hlen]; omega) oM (fun i hi=>?_) (fun i j hi hj=>?_) (fun i j hi hj=>?_) (fun i j hi hj=>?_) (fun i j hi hj=>?_)
       ·obtain ⟨h3,pS⟩:=Tn i hi
        rw [pS]; exact Ta _ h3
       ·obtain ⟨h3,pS⟩:=Tn i hi
        rw [Addr.add_add,show kk.toNat * z+(i * z+j)=(kk.toNat+i) * z+j by rw [Nat.add_mul]; omega]
        exact hc _ j h3 hj
       ·obtain ⟨h3,pS⟩:=Tn i hi
        have:=hf _ j h3 hj
        have e1:(ad.add (kk.toNat * z)).block=ad.block:=by unfold Addr.add; split <;> rfl
        have e2:(ad.add (kk.toNat * z)).off=ad.off+kk.toNat * z:=by unfold Addr.add; split <;> simp_all
        rw [e1,e2,show ad.off+kk.toNat * z+(i * z+j)=ad.off+((kk.toNat+i) * z+j) by rw [Nat.add_mul]; omega]
        exact this
       ·obtain ⟨h3,pS⟩:=Tn i hi
        exact Xd _ j h3 hj
       ·obtain ⟨h3,pS⟩:=Tn i hi
        have Cj:j<es[kk.toNat+i].length:=by rw [<-pS]; exact hj
        have:=hr _ j h3 Cj
        simp only [pS]
        exact this
    ·exact h1.elim
   ·exact h1.elim
  ·exact hw.elim
 ·exact hw.elim
def XZ(P:Program)(n:Nat)(o:Oper)(ty:TypeId)(x:Operand)(lo hi:Option Operand):RM (List Wr):=if L6 P ty=true then Hj x fun p=>match p with
  | .str b=>Wc hi b.size fun h=>Wc lo 0 fun k => .assume (decide (0<=k/\k<=h/\h<=b.size)) (wv n o (.v (.str (b.extract k.toNat h.toNat))))
  | _ => .fail
 else Tm P n o ty x lo hi
theorem RD{ty:TypeId}{x:Operand}{lo hi:Option Operand}(ho:o.op = .slice ty x lo hi none)(h:Bc cx s g l a w)(hw:(XZ P cx.n o ty x lo hi).wp s K):Be P cx s o K a w:=by
 unfold XZ at hw
 split at hw
 ·rename_i JH
  have hu:P.underlying ty=some .string:=by
   unfold L6 at JH
   split at JH
   ·rename_i hu; exact hu
   ·cases JH
  obtain ⟨p,h1,r1⟩:=AZ h hw
  split at h1
  ·rename_i b
   obtain ⟨hh,h2,hhi⟩:=HN h h1
   obtain ⟨kk,h3,zF⟩:=HN h h2
   obtain ⟨hb,h4⟩:=h3
   obtain ⟨b0,b1,b2⟩:=of_decide_eq_true hb
   have hex:∀v,(Instr.slice ty (a.eval x) (lo.map a.eval) (hi.map a.eval) none).run P w = .ok v w->(execOp a.eval o).run P w = .ok (.value v) w:=fun v hr=>by
    simp only [execOp,ho,Option.map_none,Sem.run_bind,run_sliceAt_string _ _ _ _ _ _ hu,hr,Result.andThen_ok]; rfl
   generalize a.eval x=vx at r1 hex
   cases r1
   refine Be.pure h h4 (.str _) (hex _ ?_)
   rcases hhi with ⟨rfl,rfl⟩ | ⟨y,ki,rfl,hy⟩
   ·rcases zF with ⟨rfl,rfl⟩ | ⟨y',ki',rfl,pR⟩
    ·simp only [Option.map_none]
     rw [run_slice_string_all (ht:=hu)]
     rfl
    ·simp only [Option.map_none,Option.map_some,pR]
     rw [run_slice_string_l (ht:=hu) (h0:=b0) (h1:=b1)]
     rfl
   ·rcases zF with ⟨rfl,rfl⟩ | ⟨y',ki',rfl,pR⟩
    ·simp only [Option.map_none,Option.map_some,hy]
     rw [run_slice_string_h (ht:=hu) (h0:=by omega) (h2:=by omega)]
     rfl
    ·simp only [Option.map_some,hy,pR]
     rw [run_slice_string w ty b _ _ _ _ hu b0 b1 b2]
  ·exact h1.elim
 ·exact Q2 ho h hw
end
end Go.Pv
