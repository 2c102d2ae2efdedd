/- Values of Go as plain data, an evaluator over them, and what the functions of the program return; part Xe. -/
import Derived.Test.YthchpmnkecoafaaGreatDoorXd
import Derived.Test.YthchpmnkecoafaaGreatDoorXf
import Derived.Laws.Strings
set_option linter.unusedVariables false
set_option linter.unusedSimpArgs false
set_option linter.unusedSectionVars false
namespace Go.Pv
open Go.RowKit
def No(t s:S):Prop:=TC t.tmps s.tmps/\TD t.boxes s.boxes/\t.ext=s.ext
theorem B4.Xz{cx:Cx}{s t:S}{g:Gh}{l:LG}{a:Act}{w:World}(h:B4 cx s g l a w)(hl:No t s):B4 cx t g l a w where
 AR:=h.AR
 size:=h.size
 defers:=h.defers
 tm k v hk:=let ⟨_,hu,hw⟩:=hl.1.at_ hk; hw.rep (h.tm k _ hu)
 bx k v hk:=by
  obtain ⟨u,hu,hw⟩:=hl.2.1.at_ hk
  obtain ⟨b,h1,h2,h3⟩:=h.bx k u hu
  exact ⟨b,h1,h2,h3.le hw⟩
 ex k v hk:=h.ex k v (by rw [<-hl.2.2]; exact hk)
 own:=h.own
 uo:=h.uo
 fresh:=⟨h.fresh.1,fun n hn=>h.fresh.2.1 n (by rw [<-hl.2.2]; exact hn),fun n c hn=>h.fresh.2.2 n c (by rw [<-hl.2.2]; exact hn)⟩
 GH:=h.GH
theorem PW.Xz{P:Program}{cx:Cx}{s:S}{Q:A4->S->Prop}{c:Code}{t:S}(hl:No t s)(h:PW P cx c t Q):PW P cx c s Q:=fun g l a w hs=>h g l a w (hs.Xz hl)
inductive Du where
 | Rb (r:Ct)
 | Eh (r:Ct) (e:Ext)
 | bit (v:Bool)
 | BR
 | p7 (lv:LV)
 | loop (s0:S) (pe:A4) (s1:S)
 | YY
 | P1 (m:PM) (e:Ext)
 | mrg
inductive Ob where
 | Rb (f:FuncId) (args:List PV) (r:Ct)
 | Eh (f:FuncId) (args:List PV) (e:Ext) (r:Ct) (e':Ext)
 | P1 (f:FuncId) (args:List PV) (e:Ext) (m m':PM) (e':Ext)
 | bit (b v:Bool)
 | eqv (x y:LV)
 | loop (n:Nat) (c:Code) (s0:S) (pe:A4) (s1:S)
 | le (s0 s:S)
 | ES (n:Nat) (c:Code) (s0:S) (pe:A4) (s1:S)
def Ob.ok(P:Program):Ob->Prop
 | .Rb f args r=>FQ P f=true/\∀e,C7 P f args e fun r1 e1=>r1=r/\e1=e
 | .Eh f args e r e'=>FQ P f=true/\C7 P f args e fun r1 e1=>r1=r/\e1=e'
 | .P1 f args e m m' e'=>FQ P f=true/\EG P f args e m fun m1 e1=>m1=m'/\e1=e'
 | .bit b v=>b=v
 | .eqv x y=>x=y
 | .loop n c s0 pe s1=>∀cx:Cx,cx.n=n->PW P cx (.loop c) s0 fun pe' s'=>pe'=pe/\s'=s1
 | .le s0 s=>No s0 s
 | .ES n c s0 pe s1=>∀cx:Cx,cx.n=n->PW P cx c s0 fun pe' s'=>pe'=pe/\s'=s1
def RI(P:Program):List Ob->Prop
 | []=>True
 | o::r=>o.ok P/\RI P r
theorem RI.app{P:Program}:∀ {l m:List Ob},RI P (l++m)->RI P l/\RI P m
 | [],_,h=>⟨trivial,h⟩
 | _::_,_,h=>⟨⟨h.1,(RI.app h.2).1⟩,(RI.app h.2).2⟩
inductive Afi where
 | bad (k:Nat)
 | call (f:FuncId) (args:List PV) (e:Ext)
 | test (b:Bool)
 | val (lv:LV)
 | loop (n:Nat) (c:Code) (s:S)
 | P1 (f:FuncId) (args:List PV) (e:Ext) (m:PM)
 | at_ (k:Nat) (o:Oper) (s:S)
inductive SR (α:Type) where
 | ok (a:α) (sc:List Du) (l:List Ob)
 | no (n:Afi)
abbrev SM(α:Type):=List Du->SR α
section
variable {α β:Type} {P:Program}
def SM.ret(a:α):SM α:=fun sc => .ok a sc []
def SM.bad(k:Nat):SM α:=fun _ => .no (.bad k)
def SM.Fu(m:SM α)(f:α->SM β):SM β:=fun sc=>match m sc with
 | .ok a C4 l=>match f a C4 with
  | .ok b XA l2 => .ok b XA (l++l2)
  | .no n => .no n
 | .no n => .no n
def SR.wp(P:Program)(K:α->List Du->Prop):SR α->Prop
 | .ok a C4 l=>RI P l/\K a C4
 | .no _=>False
def SM.wp(P:Program)(m:SM α)(sc:List Du)(K:α->List Du->Prop):Prop:=(m sc).wp P K
theorem SM.wp_ret{a:α}{sc:List Du}{K:α->List Du->Prop}(h:(SM.ret a).wp P sc K):K a sc:=h.2
theorem SM.B9{m:SM α}{f:α->SM β}{sc:List Du}{K:β->List Du->Prop}(h:(m.Fu f).wp P sc K):m.wp P sc fun a C4=>(f a).wp P C4 K:=by
 unfold SM.wp SM.Fu at *
 cases hm:m sc with
 | no n=>rw [hm] at h; exact h
 | ok a C4 l=>
  rw [hm] at h
  simp only at h
  cases hf:f a C4 with
  | no n=>rw [hf] at h; exact h.elim
  | ok b XA l2=>
   rw [hf] at h
   have:=RI.app h.1
   exact ⟨this.1,by show SR.wp P K (f a C4); rw [hf]; exact ⟨this.2,h.2⟩⟩
def SM.tag(o:Oper)(s:S)(m:SM α):SM α:=fun sc=>match m sc with
 | .ok a C4 l => .ok a C4 l
 | .no (.bad k) => .no (.at_ k o s)
 | .no n => .no n
theorem SM.YZ{o:Oper}{s:S}{m:SM α}{sc:List Du}{K:α->List Du->Prop}(h:(SM.tag o s m).wp P sc K):m.wp P sc K:=by
 unfold SM.wp SM.tag at *
 cases hm:m sc with
 | ok a C4 l=>rw [hm] at h; exact h
 | no n=>rw [hm] at h; cases n <;> exact h.elim
def SM.p8(o:Ob)(a:α):SM α:=fun sc => .ok a sc [o]
theorem SM.Kr{o:Ob}{a:α}{sc:List Du}{K:α->List Du->Prop}(h:(SM.p8 o a).wp P sc K):o.ok P/\K a sc:=⟨h.1.1,h.2⟩
def WT(b:Bool):SM Bool
 | .bit v::sc => .ok v sc [.bit b v]
 | _ => .no (.test b)
theorem Np{b:Bool}{sc:List Du}{K:Bool->List Du->Prop}(h:(WT b).wp P sc K):∃C4,K b C4:=by
 unfold SM.wp WT at h
 split at h
 ·rename_i v C4
  have:b=v:=h.1.1
  subst this
  exact ⟨C4,h.2⟩
 ·exact h.elim
def lT(lv:LV):SM LV
 | .BR::sc => .ok lv sc []
 | .p7 jL::sc => .ok jL sc [.eqv lv jL]
 | _ => .no (.val lv)
theorem Vc{lv:LV}{sc:List Du}{K:LV->List Du->Prop}(h:(lT lv).wp P sc K):∃C4,K lv C4:=by
 unfold SM.wp lT at h
 split at h
 ·exact ⟨_,h.2⟩
 ·have:lv=_:=h.1.1
  subst this
  exact ⟨_,h.2⟩
 ·exact h.elim
def lU(f:FuncId)(args:List PV)(e:Ext):SM (Ct × Ext × Bool)
 | .Rb r::sc => .ok (r,e,true) sc [.Rb f args r]
 | .Eh r e'::sc => .ok (r,e',false) sc [.Eh f args e r e']
 | _ => .no (.call f args e)
theorem Vd{f:FuncId}{args:List PV}{e:Ext}{sc:List Du}{K:Ct × Ext × Bool->List Du->Prop}(h:(lU f args e).wp P sc K) :
  ∃r e' pu C4,K (r,e',pu) C4/\FQ P f=true/\C7 P f args e (fun r1 e1=>r1=r/\e1=e')/\(pu=true->e'=e/\∀e,C7 P f args e fun r1 e1=>r1=r/\e1=e):=by
 unfold SM.wp lU at h
 split at h
 ·obtain ⟨⟨⟨h1,h2⟩,-⟩,h3⟩:=h
  exact ⟨_,_,_,_,h3,h1,h2 e,fun _=>⟨rfl,h2⟩⟩
 ·obtain ⟨⟨⟨h1,h2⟩,-⟩,h3⟩:=h
  exact ⟨_,_,_,_,h3,h1,h2,fun e0=>by cases e0⟩
 ·exact h.elim
def lV(f:FuncId)(args:List PV)(e:Ext)(m:PM):SM (PM × Ext)
 | .P1 m' e'::sc => .ok (m',e') sc [.P1 f args e m m' e']
 | _ => .no (.P1 f args e m)
theorem Rc{f:FuncId}{args:List PV}{e:Ext}{m:PM}{sc:List Du}{K:PM × Ext->List Du->Prop}(h:(lV f args e m).wp P sc K) :
  ∃m' e' C4,K (m',e') C4/\FQ P f=true/\EG P f args e m fun m1 e1=>m1=m'/\e1=e':=by
 unfold SM.wp lV at h
 split at h
 ·obtain ⟨⟨⟨h1,h2⟩,-⟩,h3⟩:=h
  exact ⟨_,_,_,h3,h1,h2⟩
 ·exact h.elim
def RM.runM:RM α->S->SM α
 | .ret a,_ => .ret a
 | .fail,_ => .bad 1
 | .IN t k,s=>match lk s.tmps t with
  | some v=>(k v).runM s
  | none => .bad 2
 | .IP i k,s=>match lk s.boxes i with
  | some v=>(k v).runM s
  | none => .bad 3
 | .EB n k,s=>match lk s.ext n with
  | some v=>(k v).runM s
  | none => .bad 4
 | .assume p k,s=>(SM.p8 (.bit p true) ()).Fu fun _=>k.runM s
theorem RM.Ea{s:S}:∀ {r:RM α} {sc:List Du} {K:α->List Du->Prop},(r.runM s).wp P sc K->r.wp s fun a=>∃C4,K a C4
 | .ret a,sc,K,h=>⟨sc,h.2⟩
 | .fail,_,_,h=>h.elim
 | .IN t f,sc,K,h=>by
  simp only [RM.runM] at h
  simp only [RM.wp]
  split at h
  ·rename_i v hv; rw [hv]; exact RM.Ea h
  ·exact h.elim
 | .IP t f,sc,K,h=>by
  simp only [RM.runM] at h
  simp only [RM.wp]
  split at h
  ·rename_i v hv; rw [hv]; exact RM.Ea h
  ·exact h.elim
 | .EB t f,sc,K,h=>by
  simp only [RM.runM] at h
  simp only [RM.wp]
  split at h
  ·rename_i v hv; rw [hv]; exact RM.Ea h
  ·exact h.elim
 | .assume p f,sc,K,h=>by
  simp only [RM.runM] at h
  obtain ⟨h1,h2⟩:=SM.Kr (SM.B9 h)
  exact ⟨h1,RM.Ea h2⟩
theorem RM.D1{s:S}:∀ {r:RM α} {K K':α->List Loc->Prop},r.Ic s K->(∀x rd,K x rd->K' x rd)->r.Ic s K'
 | .ret _,_,_,h,hk=>hk _ _ h
 | .fail,_,_,h,_=>h
 | .IN t k,K,K',h,hk=>by
  simp only [RM.Ic] at h ⊢
  split at h
  ·exact RM.D1 h fun x rd hx=>hk _ _ hx
  ·exact h.elim
 | .IP t k,K,K',h,hk=>by
  simp only [RM.Ic] at h ⊢
  split at h
  ·exact RM.D1 h fun x rd hx=>hk _ _ hx
  ·exact h.elim
 | .EB t k,K,K',h,hk=>by
  simp only [RM.Ic] at h ⊢
  split at h
  ·exact RM.D1 h fun x rd hx=>hk _ _ hx
  ·exact h.elim
 | .assume p k,K,K',h,hk=>⟨h.1,RM.D1 h.2 hk⟩
def RM.Gt:RM α->S->SM (α × List Loc)
 | .ret a,_ => .ret (a,[])
 | .fail,_ => .bad 5
 | .IN t k,s=>match lk s.tmps t with
  | some v=>((k v).Gt s).Fu fun x => .ret (x.1,.t t::x.2)
  | none => .bad 6
 | .IP i k,s=>match lk s.boxes i with
  | some v=>((k v).Gt s).Fu fun x => .ret (x.1,.b i::x.2)
  | none => .bad 7
 | .EB n k,s=>match lk s.ext n with
  | some v=>((k v).Gt s).Fu fun x => .ret (x.1,.x n::x.2)
  | none => .bad 8
 | .assume p k,s=>(SM.p8 (.bit p true) ()).Fu fun _=>k.Gt s
theorem RM.Et{s:S}:∀ {r:RM α} {sc:List Du} {K:α × List Loc->List Du->Prop},(r.Gt s).wp P sc K->r.Ic s fun a rd=>∃C4,K (a,rd) C4
 | .ret a,sc,K,h=>⟨sc,h.2⟩
 | .fail,_,_,h=>h.elim
 | .IN t f,sc,K,h=>by
  simp only [RM.Gt] at h
  simp only [RM.Ic]
  split at h
  ·rename_i v hv
   rw [hv]
   exact RM.D1 (RM.Et (SM.B9 h)) fun a rd ⟨C4,hk⟩=>⟨C4,SM.wp_ret hk⟩
  ·exact h.elim
 | .IP t f,sc,K,h=>by
  simp only [RM.Gt] at h
  simp only [RM.Ic]
  split at h
  ·rename_i v hv
   rw [hv]
   exact RM.D1 (RM.Et (SM.B9 h)) fun a rd ⟨C4,hk⟩=>⟨C4,SM.wp_ret hk⟩
  ·exact h.elim
 | .EB t f,sc,K,h=>by
  simp only [RM.Gt] at h
  simp only [RM.Ic]
  split at h
  ·rename_i v hv
   rw [hv]
   exact RM.D1 (RM.Et (SM.B9 h)) fun a rd ⟨C4,hk⟩=>⟨C4,SM.wp_ret hk⟩
  ·exact h.elim
 | .assume p f,sc,K,h=>by
  simp only [RM.Gt] at h
  obtain ⟨h1,h2⟩:=SM.Kr (SM.B9 h)
  exact ⟨h1,RM.Et h2⟩
end
def Afj(o:Oper):Bool:=match o.op with
 | .indexAddr _ _ _=>true
 | .binOp .add _ _ _ _=>true
 | .binOp .sub _ _ _ _=>true
 | .binOp .mul _ _ _ _=>true
 | .binOp .quo _ _ _ _=>true
 | .binOp .rem _ _ _ _=>true
 | .unOp .neg _ _=>true
 | .convert _ _ _=>true
 | .call ⟨.builtin .len,_,_⟩=>true
 | .lookup _ _ _ _=>true
 | .index _ _ _=>true
 | .slice _ _ _ _ _=>true
 | _=>false
def reW(o:Oper)(wr:List Wr):SM (List Wr):=if Afj o=true then (match wr with
 | [.tmp d lv]=>(lT lv).Fu fun jL => .ret [.tmp d jL]
 | _ => .ret wr) else .ret wr
theorem yP{P:Program}{o:Oper}{wr:List Wr}{sc:List Du}{K:List Wr->List Du->Prop}(h:(reW o wr).wp P sc K):∃C4,K wr C4:=by
 unfold reW at h
 split at h
 ·split at h
  ·obtain ⟨C4,h1⟩:=Vc (SM.B9 h)
   exact ⟨C4,SM.wp_ret h1⟩
  ·exact ⟨_,SM.wp_ret h⟩
 ·exact ⟨_,SM.wp_ret h⟩
def p9(n:Nat)(o:Oper)(c x y:Operand)(s:S):SM (List Wr × List Loc):=((FL c fun p=>RM.ret p).Gt s).Fu fun pr=>match pr.1 with
 | .bool b=>(WT b).Fu fun v=>match v with
  | true=>((FL x fun q=>wv n o (.v q)).Gt s).Fu fun w => .ret (w.1,pr.2++w.2)
  | false=>((FL y fun q=>wv n o (.v q)).Gt s).Fu fun w => .ret (w.1,pr.2++w.2)
 | _ => .bad 9
theorem WU{α:Type}{c:Operand}{s:S}{k:PV->RM α}{K:α->List Loc->Prop}(h:(FL c fun p=>RM.ret p).Ic s fun p rd1=>(k p).Ic s fun a rd2=>K a (rd1++rd2)):(FL c k).Ic s K:=by
 unfold FL ev at *
 cases c with
 | tmp t=>
  simp only [RM.Ic] at h ⊢
  split at h
  ·split at h
   ·exact h
   ·exact h.elim
  ·exact h.elim
 | const c=>
  simp only at h ⊢
  split at h
  ·split at h
   ·exact h
   ·exact h.elim
  ·exact h.elim
 | func f=>
  simp only at h ⊢
  split at h
  ·exact h
  ·exact h.elim
 | global n=>
  simp only at h ⊢
  cases hg:lk GLB n with
  | none=>rw [hg] at h; exact h.elim
  | some cs=>rw [hg] at h; exact h
theorem Z0{P:Program}{n:Nat}{o:Oper}{c x y:Operand}{s:S}{sc:List Du}{K:List Wr × List Loc->List Du->Prop}(h:(p9 n o c x y s).wp P sc K):(Nl n o c x y).Ic s fun wr rd=>∃C4,K (wr,rd) C4:=by
 unfold Nl
 refine WU (RM.D1 (RM.Et (SM.B9 h)) ?_)
 rintro p rd ⟨Oa,h1⟩
 simp only at h1
 split at h1
 ·rename_i b
  obtain ⟨XA,h2⟩:=Np (SM.B9 h1)
  cases b with
  | true=>exact RM.D1 (RM.Et (SM.B9 h2)) fun a rd2 ⟨sc3,h3⟩=>⟨sc3,SM.wp_ret h3⟩
  | false=>exact RM.D1 (RM.Et (SM.B9 h2)) fun a rd2 ⟨sc3,h3⟩=>⟨sc3,SM.wp_ret h3⟩
 ·exact h1.elim
def lW(P:Program)(ro:TypeId->Option Bool)(n:Nat)(all:List Oper)(o:Oper)(s:S):SM (List Wr × List Loc):=match o.op with
 | .pick c x y=>p9 n o c x y s
 | _=>((act P ro n all o).Gt s).Fu fun x=>(reW o x.1).Fu fun wr => .ret (wr,x.2)
theorem Ve{P:Program}{ro:TypeId->Option Bool}{n:Nat}{all:List Oper}{o:Oper}{s:S}{sc:List Du}{K:List Wr × List Loc->List Du->Prop}(h:(lW P ro n all o s).wp P sc K):(act P ro n all o).Ic s fun wr rd=>∃C4,K (wr,rd) C4:=by
 unfold lW at h
 split at h
 ·rename_i c x y ho
  have:=Z0 h
  unfold act
  rw [ho]
  exact this
 ·refine RM.D1 (RM.Et (SM.B9 h)) ?_
  rintro wr rd ⟨Oa,h1⟩
  obtain ⟨XA,h2⟩:=yP (SM.B9 h1)
  exact ⟨XA,SM.wp_ret h2⟩
theorem RM.Oc{α:Type}{s:S}:∀ {r:RM α} {K:α->List Loc->Prop},r.Ic s K->r.wp s fun a=>∃rd,K a rd
 | .ret _,_,h=>⟨[],h⟩
 | .fail,_,h=>h
 | .IN t k,K,h=>by
  simp only [RM.Ic] at h
  simp only [RM.wp]
  split at h
  ·rename_i v hv; rw [hv]; exact RM.wp_mono (fun a ⟨rd,h⟩=>⟨_,h⟩) (RM.Oc h)
  ·exact h.elim
 | .IP t k,K,h=>by
  simp only [RM.Ic] at h
  simp only [RM.wp]
  split at h
  ·rename_i v hv; rw [hv]; exact RM.wp_mono (fun a ⟨rd,h⟩=>⟨_,h⟩) (RM.Oc h)
  ·exact h.elim
 | .EB t k,K,h=>by
  simp only [RM.Ic] at h
  simp only [RM.wp]
  split at h
  ·rename_i v hv; rw [hv]; exact RM.wp_mono (fun a ⟨rd,h⟩=>⟨_,h⟩) (RM.Oc h)
  ·exact h.elim
 | .assume p k,K,h=>⟨h.1,RM.Oc h.2⟩
def WV(P:Program)(ro:TypeId->Option Bool)(n:Nat)(all:List Oper)(o:Oper)(s:S):SM (A4 × S):=(lW P ro n all o s).Fu fun x => .ret (.normal,s.I9 x.1)
def pE(o:Oper)(r:RM (FuncId × List PV))(s:S):SM (A4 × S):=(r.runM s).Fu fun x=>(lU x.1 x.2 s.ext).Fu fun y=>match y with
 | (.ret p,e,_) => .ret (.normal,s.Nb o.dst (.v p) e)
 | (.own te z es,e,_) => .ret (.normal,s.Nb o.dst (.uniq te z es) e)
 | (.panic p,e,_) => .ret (.panic p,{ s with ext:=e })
def lZ(n:Nat)(o:Oper)(cs:List PV)(s:S):SM (A4 × S):=match WQ n o cs s with
 | some r => .ret r
 | none => .bad 10
def pG(s:S):Operand->Bool
 | .tmp t=>match lk s.tmps t with
  | some (.v (.N6 _ _ _))=>true
  | _=>false
 | _=>false
def yQ(P:Program)(n:Nat)(o:Oper)(ty:TypeId)(x y:Operand)(s:S):SM (A4 × S):=match GJ P ty,o.dst with
 | some e,some d=>match Lu P e,FO P e,UO P e with
  | some (m+1),some (B+1),some zs=>if d<n/\zs.length=m+1 then (match m,pG s x,pG s y with
   | 0,true,_=>((A6z x y).runM s).Fu fun r=>SM.p8 (.bit (decide ((r.1.2.2.length+r.2.length) * (B+1)<=140737488355328)) true) (.normal,{ s with tmps:=put s.tmps d (.v (.N6 r.1.1 (r.1.2.1+1) (r.1.2.2.length+r.2.length))),ext:=put s.ext r.1.1 [.row (r.1.2.1+1) (r.1.2.2++r.2)] })
   | 0,false,true=>((A71 x y).runM s).Fu fun r=>SM.p8 (.bit (decide (r.2.2.length * (B+1)<=140737488355328)) true) (.normal,{ s with tmps:=put s.tmps d (.v (.N6 r.1 (r.2.1+1) r.2.2.length)),ext:=put s.ext r.1 [.row (r.2.1+1) r.2.2] })
   | 0,false,false=>((A72 x y).runM s).Fu fun ks=>SM.p8 (.bit (decide (ks.length * (B+1)<=140737488355328)) true) (.normal,{ s with tmps:=put s.tmps d (.v (.N6 (Eg s.ext) 0 ks.length)),ext:=put s.ext (Eg s.ext) [.row 0 ks] })
   | m+1,_,_=>((yK e (m+2) x y).runM s).Fu fun ys=>SM.p8 (.bit (decide (ys.length * (B+1)<=140737488355328)) true) (.normal,{ s with tmps:=put s.tmps d (.v (.UK (Eg s.ext) (m+2) ys.length)),ext:=put s.ext (Eg s.ext) (ys.flatten.map .v) })) else .bad 11
  | _,_,_ => .bad 12
 | _,_ => .bad 13
def mapM(P:Program)(ty:TypeId)(n:Nat)(o:Oper)(s:S):SM (A4 × S):=match o.dst with
 | some d=>if d<n then .ret (.normal,{ s with tmps:=put s.tmps d (.v (.mp (Eg s.ext))),ext:=put s.ext (Eg s.ext) [.mm (lE (lD P ty))] }) else .bad 15
 | none => .bad 16
def m0:LV->Option PV
 | .v q=>some q
 | .uniq e z es=>if e<1000000 then some (.sl z es) else none
 | .full z es=>some (.sl z es)
 | _=>none
def Sn:List LV->Option (List PV)
 | []=>some []
 | x::r=>match m0 x,Sn r with
  | some q,some qs=>some (q::qs)
  | _,_=>none
def So(i:Nat)(qs:List PV):List (Nat × LV)->List (Nat × LV)
 | []=>[]
 | (k,.lp j off)::r=>(k,if j=i then .v (.ro qs off) else .lp j off)::So i qs r
 | x::r=>x::So i qs r
def yR(s:S):Operand->S
 | .tmp t=>match lk s.tmps t with
  | some (.lp i _)=>match lk s.boxes i with
   | some cs=>match Sn cs with
    | some qs=>⟨So i qs s.tmps,del s.boxes i,s.ext⟩
    | none=>s
   | none=>s
  | _=>s
 | _=>s
def yS(s:S):List Operand->S
 | []=>s
 | o::r=>yS (yR s o) r
theorem Vf(i:Nat)(qs:List PV):∀ (l:List (Nat × LV)) (t:Nat) (lv:LV),lk (So i qs l) t=some lv->lk l t=some lv∨∃off,lk l t=some (.lp i off)/\lv = .v (.ro qs off)
 | [],_,_,h=>by cases h
 | (k,x)::r,t,lv,h=>by
  by_cases hk:k=t
  ·cases x
   case lp j off=>
    simp only [So,lk,iP hk] at h ⊢
    injection h with h
    by_cases hj:j=i
    ·subst hj; rw [iP rfl] at h; exact .inr ⟨off,rfl,h.symm⟩
    ·rw [iN hj] at h; exact .inl (by rw [<-h])
   all_goals (simp only [So,lk,iP hk] at h ⊢; exact .inl h)
  ·have ih:=Vf i qs r t lv
   cases x <;> (simp only [So,lk,iN hk] at h ⊢; exact ih h)
theorem Sq:∀ {cs:List LV} {qs:List PV},Sn cs=some qs->qs.length=cs.length
 | [],qs,h=>by simp only [Sn] at h; injection h with h; subst h; rfl
 | x::r,qs,h=>by
  simp only [Sn] at h
  split at h
  ·rename_i q qs' h1 h2
   injection h with h; subst h
   simp [Sq h2]
  ·cases h
theorem Vg:∀ {cs:List LV} {qs:List PV},Sn cs=some qs->∀j (h:j<cs.length) (h':j<qs.length),m0 cs[j]=some qs[j]
 | [],_,_,j,h,_=>absurd h sM
 | x::r,qs,hq,j,h,h'=>by
  simp only [Sn] at hq
  split at hq
  ·rename_i q qs' h1 h2
   injection hq with hq; subst hq
   cases j with
   | zero=>exact h1
   | succ j=>exact Vg h2 j (by simpa using h) (by simpa using h')
  ·cases hq
theorem Z1{g:Gh}{l:LG}{w:World}{p:UL}{x:LV}{q:PV}{v:Value}(h:m0 x=some q)(hr:Cr g l w p x v):BN g w q v:=by
 cases x <;> simp only [m0] at h <;> first | (cases h; done) | (injection h with h; subst h) | (split at h; rename_i Ac; injection h with h; subst h; rotate_left; cases h)
 ·exact hr
 ·rename_i e z es; exact WL.rep (p:=p) (l:=l) (t := .v (.sl z es)) (s := .uniq e z es) (.inr ⟨rfl,x8 (by assumption)⟩) hr
 ·rename_i z es; exact WL.rep (p:=p) (l:=l) (t := .v (.sl z es)) (s := .full z es) (.inr ⟨rfl,rfl⟩) hr
theorem B4.frz{cx:Cx}{s:S}{g:Gh}{l:LG}{a:Act}{w:World}(h:B4 cx s g l a w){i:Nat}{cs:List LV}{qs:List PV}(hb:lk s.boxes i=some cs)(hq:Sn cs=some qs) :
  ∃g' l',B4 cx ⟨So i qs s.tmps,del s.boxes i,s.ext⟩ g' l' a w:=by
 obtain ⟨b,h1,h2,h3,cur,e,h4,h5,h6⟩:=h.bx i cs hb
 let g':Gh:=⟨fun x=>if x=b then none else g.M x,g.X,g.Y⟩
 let l':LG:=⟨l.L,l.U,fun x=>if x=b then none else l.O x⟩
 have hm:C3 g w g' w:=⟨fun _ _ e=>e,fun b' o v hc hf=>⟨hc,fun k hk=>by
  simp only [g'] at hk
  split at hk
  ·cases hk
  ·exact hf k hk⟩,fun _ cur _ h=>⟨cur,h,rfl⟩,fun _ _ _ h=>h⟩
 have hO:∀ {b' o},l.O b'=some o->o ≠ .l i->b'≠b:=fun {b' o} ho De e0=>by
  subst e0; rw [h2] at ho; injection ho with ho; exact De ho.symm
 have hM:∀ {b'},b'≠b->g'.M b'=g.M b':=fun De=>by simp only [g',iN De]
 have hO':∀ {b' o},l.O b'=some o->o ≠ .l i->l'.O b'=some o:=fun ho De=>by simp only [l',iN (hO ho De)]; exact ho
 have hL:∀ {p lv v},Cr g l w p lv v->Cr g' l' w p lv v:=fun hr=>hr.BR hm (fun _ _ _=>rfl) fun b2 hu=>⟨hu,hM (hO (h.uo _ _ hu) (by intro e0; cases e0)),rfl⟩
 refine ⟨g',l',⟨⟨h.AR.mono.trans hm,h.AR.size,fun b' Ac ho=>?_,h.AR.os,h.AR.tape,h.AR.output,h.AR.Kf.mono hm⟩,h.size,h.defers,fun t lv ht=>?_,fun j KM hj=>?_,fun x KM hx=>?_,fun b' o ho=>?_,fun p b' hu=>?_,⟨fun b' GZ=>?_,h.fresh.2⟩,h.GH⟩⟩
 ·obtain ⟨k1,k2⟩:=h.AR.frame b' Ac ho
  refine ⟨k1,?_⟩
  rw [hM]
  ·exact k2
  ·intro e0; subst e0
   rcases (h.own b' _ h2).2 with h7 | h7
   ·omega
   ·exact ho h7
 ·rcases Vf i qs s.tmps t lv ht with ht2 | ⟨off,ht2,rfl⟩
  ·exact hL (h.tm t lv ht2)
  ·obtain ⟨b',k1,k2⟩:=h.tm t (.lp i off) ht2
   rw [h1] at k1; injection k1 with k1; subst k1
   show BN g' w (.ro qs off) _
   have hlen:=Sq hq
   have e9:(Value.pointer (some ⟨b,off,none⟩):Value) = .pointer (some ⟨b,0+off,none⟩):=by rw [Nat.zero_add]
   rw [k2,e9]
   refine .ro qs off b 0 (fun j=>cur.getD j undef) (fun j hj=>?_) (fun j hj k hk=>?_) (fun j hj=>(h6 j oM).2.1) fun j hj=>?_
   ·have Cu:j<cur.size:=by omega
    simp only [World.cell?,h4]
    simp [Cu]
   ·simp only [g'] at hk
    simp at hk
   ·exact (Z1 (Vg hq j oM hj) (h6 j oM).2.2).mono hm
 ·rw [TG] at hj
  split at hj
  ·cases hj
  ·rename_i De
   obtain ⟨b',k1,k2,k3,cur',e',k4,k5,k6⟩:=h.bx j KM hj
   have hnj:(Own.l j) ≠ .l i:=by intro e0; injection e0 with e0; exact De e0.symm
   exact ⟨b',k1,hO' k2 hnj,(hM (hO k2 hnj)).trans k3,cur',e',k4,k5,fun j' Cu=>⟨(k6 j' Cu).1,(k6 j' Cu).2.1,hL (k6 j' Cu).2.2⟩⟩
 ·obtain ⟨b',k1,k2,hE⟩:=h.ex x KM hx
  have hnx:(Own.x x) ≠ .l i:=by intro e0; cases e0
  refine ⟨b',k1.mono hm,hO' k2 hnx,?_⟩
  rcases hE with ⟨k3,cur',e',k4,k5,k6⟩ | hE
  ·exact .inl ⟨(hM (hO k2 hnx)).trans k3,cur',e',k4,k5,fun j' Cu=>⟨(k6 j' Cu).1,(k6 j' Cu).2.1,hL (k6 j' Cu).2.2⟩⟩
  ·exact .inr (hE.BR hm (fun _ _ _ k=>k) (hM (hO k2 hnx)) rfl)
 ·simp only [l'] at ho
  split at ho
  ·cases ho
  ·exact h.own b' o ho
 ·exact hO' (h.uo p b' hu) (by intro e0; cases e0)
 ·simp only [g']
  split
  ·rfl
  ·exact h.fresh.1 b' GZ
theorem Pe.Afk{P:Program}{cx:Cx}{s:S}{o:Oper}{K:S->Prop}{Q:A4->S->Prop}{x:Operand}(h:Pe P cx (yR s x) o K Q):Pe P cx s o K Q:=fun g l a w hs=>by
 unfold yR at h
 split at h
 ·split at h
  ·split at h
   ·split at h
    ·rename_i hb _ _ hq
     obtain ⟨g',l',Tr⟩:=hs.frz hb hq
     exact h g' l' a w Tr
    ·exact h g l a w hs
   ·exact h g l a w hs
  ·exact h g l a w hs
 ·exact h g l a w hs
theorem Pe.frz{P:Program}{cx:Cx}{o:Oper}{K:S->Prop}{Q:A4->S->Prop}:∀ {l:List Operand} {s:S},Pe P cx (yS s l) o K Q->Pe P cx s o K Q
 | [],_,h=>h
 | _::_,_,h=>Pe.Afk (Pe.frz h)
def A73(P:Program)(ty:TypeId)(n:Nat)(o:Oper)(m:Operand)(s:S):SM (A4 × S):=match (QW P ty).isSome,o.dst with
 | true,some d=>if d<n then ((kW m).runM s).Fu fun i => .ret (.normal,{ s with tmps:=put s.tmps d (.v (.xp (Eg s.ext) 0)),ext:=put s.ext (Eg s.ext) [.mm (.it i)] }) else .bad 17
 | _,_ => .bad 18
def opX(P:Program)(md:Md)(n:Nat)(all:List Oper)(o:Oper)(s:S):SM (A4 × S):=match callee P o with
 | some r=>pE o r s
 | none=>match o.op with
  | .alloc ty=>if (md.ro ty).isNone=true then (match UO P ty with | some zs=>lZ n o zs s | none => .bad 14) else WV P md.ro n all o s
  | .box ty x=>if (md.ro ty).isNone=true then ((A6u x).runM s).Fu fun cs=>lZ n o cs s else WV P md.ro n all o s
  | .panic x=>((A6t x).runM s).Fu fun p => .ret (.panic p,s)
  | .makeMap ty none=>mapM P ty n o s
  | .range ty m=>A73 P ty n o m s
  | .makeFunc _ _ captured=>WV P md.ro n all o (yS s captured.toList)
  | .call ⟨.builtin .append,⟨[x,y]⟩,⟨[ty,kY]⟩⟩=>if md.row ty=true/\ty=kY then yQ P n o ty x y s else WV P md.ro n all o s
  | _=>WV P md.ro n all o s
section
variable {P:Program} {cx:Cx} {s s':S} {Q:A4->S->Prop} {K:S->Prop} {o:Oper} {pe:A4} {md:Md} {all:List Oper} {sc C4:List Du}
theorem Gu{ro:TypeId->Option Bool}{K':A4 × S->List Du->Prop}(h:(WV P ro cx.n all o s).wp P sc K')(hk:∀pe s' C4,K' (pe,s') C4->Im K Q pe s'):Pe P cx s o K Q:=fun g l a w hs=>by
 have h1:=RM.Oc (Ve (SM.B9 h))
 refine CA ?_ (Gl hs h1 (post cx Q))
 rintro a' w' ⟨wr,g',l',⟨rd,Oa,h2⟩,sm⟩
 exact ⟨_,g',l',hk _ _ _ (SM.wp_ret h2),sm⟩
theorem Sr{r:RM (FuncId × List PV)}{K':A4 × S->List Du->Prop}(ho:callee P o=some r)(hd:∀d,o.dst=some d->d<cx.n)(h:(pE o r s).wp P sc K')(hk:∀pe s' C4,K' (pe,s') C4->Im K Q pe s'):Pe P cx s o K Q:=fun g l a w hs=>by
 have h1:=RM.Ea (SM.B9 h)
 refine Gc ho hd hs (RM.wp_mono ?_ h1)
 rintro ⟨f,args⟩ ⟨Oa,h2⟩
 obtain ⟨res,e',pu,XA,h3,h4,h5,-⟩:=Vd (SM.B9 h2)
 refine ⟨h4,h5.mono ?_⟩
 rintro Afl e1 ⟨h6,h7⟩
 subst h6 h7
 cases Afl with
 | ret p=>exact hk _ _ _ (SM.wp_ret h3)
 | own te z es=>exact hk _ _ _ (SM.wp_ret h3)
 | panic p=>exact hk _ _ _ (SM.wp_ret h3)
theorem Ss{n:Nat}{cs:List PV}{K':A4 × S->List Du->Prop}(h:(lZ n o cs s).wp P sc K'):∃pe s',WQ n o cs s=some (pe,s')/\K' (pe,s') sc:=by
 unfold lZ at h
 split at h
 ·rename_i r hr; exact ⟨r.1,r.2,hr,SM.wp_ret h⟩
 ·exact h.elim
theorem U9{ty:TypeId}{x y:Operand}{K':A4 × S->List Du->Prop}(ho:o.op = .call ⟨.builtin .append,#[x,y],#[ty,ty]⟩)(h:(yQ P cx.n o ty x y s).wp P sc K')(hk:∀pe s' C4,K' (pe,s') C4->Im K Q pe s'):Pe P cx s o K Q:=fun g l0 a w hs=>by
 unfold yQ at h
 split at h
 ·rename_i e d he hd
  split at h
  ·rename_i m B zs hm hB hz
   split at h
   ·rename_i hc
    obtain ⟨hn,S8⟩:=hc
    split at h
    ·refine lO ho hd hn he hm hB hz S8 hs (RM.wp_mono ?_ (RM.Ea (SM.B9 h)))
     rintro ys ⟨Oa,h2⟩
     obtain ⟨h3,h4⟩:=SM.Kr h2
     exact ⟨of_decide_eq_true h3,hk _ _ _ h4⟩
    ·refine lQ ho hd hn he hm hB hz S8 hs (RM.wp_mono ?_ (RM.Ea (SM.B9 h)))
     rintro ys ⟨Oa,h2⟩
     obtain ⟨h3,h4⟩:=SM.Kr h2
     exact ⟨of_decide_eq_true h3,hk _ _ _ h4⟩
    ·refine lR ho hd hn he hm hB hz S8 hs (RM.wp_mono ?_ (RM.Ea (SM.B9 h)))
     rintro ys ⟨Oa,h2⟩
     obtain ⟨h3,h4⟩:=SM.Kr h2
     exact ⟨of_decide_eq_true h3,hk _ _ _ h4⟩
    ·refine V7 ho hd hn he hm hB hz S8 hs (RM.wp_mono ?_ (RM.Ea (SM.B9 h)))
     rintro ys ⟨Oa,h2⟩
     obtain ⟨h3,h4⟩:=SM.Kr h2
     exact ⟨of_decide_eq_true h3,hk _ _ _ h4⟩
   ·exact h.elim
  ·exact h.elim
 ·exact h.elim
theorem WW{K':A4 × S->List Du->Prop}(hd:∀d,o.dst=some d->d<cx.n)(h:(opX P md cx.n all o s).wp P sc K')(hk:∀pe s' C4,K' (pe,s') C4->Im K Q pe s'):Pe P cx s o K Q:=by
 unfold opX at h
 split at h
 ·rename_i r hr; exact Sr hr hd h hk
 ·split at h
  ·rename_i ty JA
   split at h
   ·split at h
    ·rename_i zs hz
     obtain ⟨pe,s',hx,hK⟩:=Ss h
     intro g l a w hs
     obtain ⟨i,z,h1,h2,h3⟩:=FA hz
     obtain ⟨hr,Cg,-⟩:=EX (g:=g) (w:=w) h3
     exact Ig (ty:=ty) hs hr Cg (by simp [execOp,JA,Instr.alloc,zeroValue,typeInfo,h1,h2,newVar,newRow]) hx (hk _ _ _ hK)
    ·exact h.elim
   ·exact Gu h hk
  ·rename_i ty x JA
   split at h
   ·intro g l0 a w hs
    obtain ⟨p,h1,r1⟩:=AH hs (RM.Ea (SM.B9 h))
    split at h1
    ·rename_i cs hc
     obtain ⟨Oa,h2⟩:=h1
     obtain ⟨pe,s',hx,hK⟩:=Ss h2
     obtain ⟨hr,Cg⟩:=Jy hc r1
     exact Ig (ty:=ty) hs hr Cg (by simp [execOp,JA,Instr.box,newVar,newRow]) hx (hk _ _ _ hK)
    ·exact h1.elim
   ·exact Gu h hk
  ·rename_i x JA
   intro g l0 a w hs
   obtain ⟨p',h1,r1⟩:=AH hs (RM.Ea (SM.B9 h))
   split at h1
   ·rename_i t q
    obtain ⟨Oa,h2⟩:=h1
    have h3:=hk _ _ _ (SM.wp_ret h2)
    have By:∀v,a.eval x = .iface t v->(execOp a.eval o).run P w = .halt (.panic (.iface t v)) w:=fun v hv=>by
     simp [execOp,JA,hv,Instr.panic,goPanic]
    generalize a.eval x=vx at r1 By
    cases r1 with
    | iface _ _ v hv=>
     unfold Oper.wp
     rw [By v rfl,Oper.upon_panic]
     exact ⟨.panic (.iface t q),s,g,l0,h3,⟨_,rfl,.iface _ _ _ hv⟩,hs⟩
   ·exact h1.elim
  ·rename_i ty JA
   unfold mapM at h
   intro g l0 a w hs
   split at h
   ·rename_i d jS
    split at h
    ·rename_i hn
     unfold Oper.wp
     rw [show (execOp a.eval o).run P w = .ok (.value (.map (some w.heap.size))) (w.alloc (.map #[] 0)) by simp [execOp,JA,Instr.makeMap,Result.andThen],Oper.upon_value,jS]
     obtain ⟨k1,-⟩:=hs.YI (lD P ty)
     exact ⟨_,_,_,hk _ _ _ (SM.wp_ret h),k1.set hn (.mp _ _ (Bl _ _ _))⟩
    ·exact h.elim
   ·exact h.elim
  ·rename_i ty m JA
   unfold A73 at h
   intro g l0 a w hs
   split at h
   ·rename_i d hT jS
    split at h
    ·rename_i hn
     obtain ⟨i,bm,clock,⟨Oa,h2⟩,hX,Ac,By⟩:=V2 JA hT hs (RM.Ea (SM.B9 h))
     unfold Oper.wp
     rw [By,Oper.upon_value,jS]
     obtain ⟨k1,-⟩:=hs.oW hX Ac
     exact ⟨_,_,_,hk _ _ _ (SM.wp_ret h2),k1.set hn (.xp _ _ _ (Bl _ _ _))⟩
    ·exact h.elim
   ·exact h.elim
  ·exact Pe.frz (Gu h hk)
  ·rename_i x y ty kY JA
   split at h
   ·rename_i hc
    obtain ⟨-,rfl⟩:=hc
    exact U9 JA h hk
   ·exact Gu h hk
  ·exact Gu h hk
end
def op1(P:Program)(md:Md)(n:Nat)(all:List Oper)(o:Oper)(s:S):Option S:=match callee P o with
 | some _=>none
 | none=>match (act P md.ro n all o).run s with
  | some [.tmp d lv]=>if o.dst=some d then some { s with tmps:=put s.tmps d lv } else none
  | _=>none
def und(all:List Oper)(KG:List Nat)(o:Oper)(s:S):Option (Nat × Nat × Bool):=match o.guard with
 | none=>none
 | some (j,_)=>match KG.contains j with
  | true=>none
  | false=>match (all[j]?).bind (·.dst) with
   | some dj=>match lk s.tmps dj with
    | some (.v (.bool b))=>some (j,dj,b)
    | _=>none
   | none=>none
def J4(i0 j:Nat):List Oper->Nat
 | []=>0
 | o::r=>match o.guard with
  | some (g,_)=>if g=j∨i0<=g then J4 i0 j r+1 else 0
  | none=>0
def Z2{α:Type}:List Nat->List (Nat × α)->List (Nat × α)
 | [],l=>l
 | k::r,l=>Z2 r (del l k)
def Fv(ls:List Oper):List Nat:=ls.filterMap (·.dst)
def mst(m d:Nat)(ls:List Oper)(s:S)(lv:LV):S:={ s with tmps:=put (Z2 (Fv (ls.take m)) s.tmps) d lv }
def Z3(rec:List Oper->S->Option S)(m d dj:Nat)(b:Bool)(ls:List Oper)(s:S):Option Bool:=
 match rec (ls.take m) { s with tmps:=put s.tmps dj (.v (.bool true)) },rec (ls.take m) { s with tmps:=put s.tmps dj (.v (.bool false)) } with
 | some s1,some s2=>match lk s1.tmps d,lk s2.tmps d with
  | some (.v (.bool x1)),some (.v (.bool x2))=>some (bif b then x1 else x2)
  | _,_=>none
 | _,_=>none
def Vh(P:Program)(md:Md)(n:Nat)(all:List Oper):Nat->List Nat->Nat->List Oper->S->Option S
 | 0,_,_,_,_=>none
 | _+1,_,_,[],s=>some s
 | f+1,KG,i,o::rest,s=>match und all KG o s with
  | none=>match Mq all o s with
   | some true=>match op1 P md n all o s with
    | some s'=>Vh P md n all f KG (i+1) rest s'
    | none=>none
   | some false=>Vh P md n all f KG (i+1) rest (s.skip o)
   | none=>none
  | some (j,dj,b)=>match ((o::rest)[J4 i j (o::rest)]?).bind (·.dst) with
   | some d=>match Z3 (Vh P md n all f (j::KG) i) (J4 i j (o::rest)+1) d dj b (o::rest) s with
    | some x=>Vh P md n all f KG (i+(J4 i j (o::rest)+1)) ((o::rest).drop (J4 i j (o::rest)+1)) (mst (J4 i j (o::rest)+1) d (o::rest) s (.v (.bool x)))
    | none=>none
   | none=>none
section
variable {P:Program} {cx:Cx} {s s' t:S} {Q:A4->S->Prop} {md:Md} {all:List Oper}
theorem Rd{α:Type}:∀ (ks:List Nat) (l:List (Nat × α)) (u:Nat) (v:α),lk (Z2 ks l) u=some v->¬u∈ks/\lk l u=some v
 | [],_,_,_,h=>⟨by simp,h⟩
 | k::r,l,u,v,h=>by
  obtain ⟨h1,h2⟩:=Rd r (del l k) u v h
  rw [TG] at h2
  split at h2
  ·cases h2
  ·rename_i hk
   exact ⟨by simp only [List.mem_cons,not_or]; exact ⟨fun e=>hk e.symm,h1⟩,h2⟩
theorem Vi{α:Type}:∀ (ks:List Nat) (l:List (Nat × α)) (u:Nat),¬u∈ks->lk (Z2 ks l) u=lk l u
 | [],_,_,_=>rfl
 | k::r,l,u,h=>by
  simp only [List.mem_cons,not_or] at h
  rw [Z2,Vi r (del l k) u h.2,TG,iN (fun e=>h.1 e.symm)]
def Kp(ks:List Nat)(s s':S):Prop:=s'.boxes=s.boxes/\s'.ext=s.ext/\∀k,¬k∈ks->lk s'.tmps k=lk s.tmps k
theorem Z4{o:Oper}(h:op1 P md cx.n all o s=some s'):Kp (Fv [o]) s s':=by
 unfold op1 at h
 split at h
 ·cases h
 ·split at h
  ·split at h
   ·rename_i d lv _ hd
    injection h with h; subst h
    exact ⟨rfl,rfl,fun k hk=>EW _ _ _ _ (fun e=>hk (by simp [Fv,hd,e]))⟩
   ·cases h
  ·cases h
theorem Vj{o:Oper}:Kp (Fv [o]) s (s.skip o):=by
 unfold S.skip
 split
 ·rename_i d hd; exact ⟨rfl,rfl,fun k hk=>EW _ _ _ _ (fun e=>hk (by simp [Fv,hd,e]))⟩
 ·exact ⟨rfl,rfl,fun _ _=>rfl⟩
theorem Z5{rec:List Oper->S->Option S}{m d dj:Nat}{b x:Bool}{ls:List Oper}(h:Z3 rec m d dj b ls s=some x) :
  ∃s1 s2 x1 x2,rec (ls.take m) { s with tmps:=put s.tmps dj (.v (.bool true)) }=some s1/\rec (ls.take m) { s with tmps:=put s.tmps dj (.v (.bool false)) }=some s2/\lk s1.tmps d=some (.v (.bool x1))/\lk s2.tmps d=some (.v (.bool x2)) /\
   x=(bif b then x1 else x2):=by
 unfold Z3 at h
 split at h
 ·rename_i s1 s2 h1 h2
  split at h
  ·rename_i x1 x2 h3 h4
   injection h with h
   exact ⟨s1,s2,x1,x2,h1,h2,h3,h4,h.symm⟩
  ·cases h
 ·cases h
theorem Od:∀ (f:Nat) (KG:List Nat) (i:Nat) (ls:List Oper) (s s':S),Vh P md cx.n all f KG i ls s=some s'->s'.boxes=s.boxes/\s'.ext=s.ext/\∀k v,¬k∈Fv ls->lk s'.tmps k=some v->lk s.tmps k=some v
 | 0,_,_,_,_,_,h=>by cases h
 | _+1,_,_,[],s,s',h=>by simp only [Vh] at h; injection h with h; subst h; exact ⟨rfl,rfl,fun _ _ _ h=>h⟩
 | f+1,KG,i,o::rest,s,s',h=>by
  have hd:∀x,x∈Fv [o]->x∈Fv (o::rest):=fun x hx=>by
   rw [show o::rest=[o]++rest by rfl,Fv,List.filterMap_append,List.mem_append]; exact .inl hx
  have hr:∀x,x∈Fv rest->x∈Fv (o::rest):=fun x hx=>by
   rw [show o::rest=[o]++rest by rfl,Fv,List.filterMap_append,List.mem_append]; exact .inr hx
  simp only [Vh] at h
  split at h
  ·split at h
   ·split at h
    ·rename_i s1 h1
     have k1:=Z4 h1
     obtain ⟨k2,k3,k4⟩:=Od f KG (i+1) rest s1 s' h
     exact ⟨k2.trans k1.1,k3.trans k1.2.1,fun k v hk hv=>by rw [<-k1.2.2 k (fun e=>hk (hd _ e))]; exact k4 k v (fun e=>hk (hr _ e)) hv⟩
    ·cases h
   ·have k1:=Vj (s:=s) (o:=o)
    obtain ⟨k2,k3,k4⟩:=Od f KG (i+1) rest _ s' h
    exact ⟨k2.trans k1.1,k3.trans k1.2.1,fun k v hk hv=>by rw [<-k1.2.2 k (fun e=>hk (hd _ e))]; exact k4 k v (fun e=>hk (hr _ e)) hv⟩
   ·cases h
  ·rename_i j dj b hu
   split at h
   ·rename_i d FZ
    split at h
    ·rename_i s1 h1
     obtain ⟨k2,k3,k4⟩:=Od f KG _ _ _ s' h
     refine ⟨k2,k3,fun k v hk hv=>?_⟩
     unfold mst at k4
     have Z6:¬k∈Fv ((o::rest).drop (J4 i j (o::rest)+1)):=fun e=>hk (by
      unfold Fv at e ⊢
      obtain ⟨x,hx,Am⟩:=List.mem_filterMap.1 e
      exact List.mem_filterMap.2 ⟨x,List.mem_of_mem_drop hx,Am⟩)
     have h5:=k4 k v Z6 hv
     simp only at h5
     have hkd:d≠k:=fun e=>hk (by
      subst e
      cases hg:(o::rest)[J4 i j (o::rest)]? with
      | none=>rw [hg] at FZ; cases FZ
      | some q=>rw [hg] at FZ; exact List.mem_filterMap.2 ⟨q,List.mem_of_getElem? hg,FZ⟩)
     rw [EW _ _ _ _ hkd] at h5
     exact (Rd _ _ _ _ h5).2
    ·cases h
   ·cases h
theorem Z7{ls:Array Oper}{l:List Oper}(hs:∀g l a w,B4 cx s g l a w->B4 cx t g l a w)(h:PL P cx ls l t Q):PL P cx ls l s Q:=fun g l a w k=>h g l a w (hs g l a w k)
theorem Z8{KG:List Nat}{o:Oper}{j dj:Nat}{b:Bool}(h:und all KG o s=some (j,dj,b)):lk s.tmps dj=some (.v (.bool b)):=by
 unfold und at h
 split at h
 ·cases h
 ·split at h
  ·cases h
  ·split at h
   ·split at h
    ·rename_i hb
     injection h with h
     injection h with h1 h2
     injection h2 with h2 h3
     subst h2 h3; exact hb
    ·cases h
   ·cases h
theorem Oe{rec:List Oper->S->Option S}{m d dj:Nat}{b x:Bool}{ls R:List Oper}(hb:lk s.tmps dj=some (.v (.bool b)))
  (yI:∀s s',rec (ls.take m) s=some s'->(∀Q,PL P cx all.toArray R s' Q->PL P cx all.toArray (ls.take m++R) s Q)/\s'.boxes=s.boxes/\s'.ext=s.ext/\∀k v,¬k∈Fv (ls.take m)->lk s'.tmps k=some v->lk s.tmps k=some v)
  (A74:∀s s',rec (ls.take m) s=some s'->∀k v,¬k∈Fv (ls.take m)->lk s.tmps k=some v->lk s'.tmps k=some v)
  (h:Z3 rec m d dj b ls s=some x) (hQ:PL P cx all.toArray R (mst m d ls s (.v (.bool x))) Q):PL P cx all.toArray (ls.take m++R) s Q:=by
 obtain ⟨s1,s2,x1,x2,h1,h2,h3,h4,rfl⟩:=Z5 h
 have pH:∀v,b=v->∀k,lk (put s.tmps dj (.v (.bool v))) k=lk s.tmps k:=fun v hv k=>by
  rw [B8]; split
  ·rename_i e; subst e; rw [hb,hv]
  ·rfl
 have go:∀v r x,b=v->rec (ls.take m) { s with tmps:=put s.tmps dj (.v (.bool v)) }=some r->lk r.tmps d=some (.v (.bool x))->(bif b then x1 else x2)=x->PL P cx all.toArray (ls.take m++R) s Q:=fun v r x hv hr hd hx=>by
  obtain ⟨k1,k2,k3,-⟩:=yI _ _ hr
  refine Z7 (t:={ s with tmps:=put s.tmps dj (.v (.bool v)) }) (fun g l a w sm=>sm.congr (pH v hv) (fun _=>rfl) (fun _=>rfl)) (k1 Q ?_)
  refine Z7 (fun g l a w sm=>sm.jN (fun k u hk => .inr ?_) (fun k u hk=>⟨u,by rw [k2]; exact hk,Fg.refl u⟩) (fun k u hk=>⟨u,by rw [k3]; exact hk,Fg.refl u⟩) (by rw [k3]; exact Nat.le_refl _)) hQ
  unfold mst at hk
  simp only at hk
  rw [B8] at hk
  split at hk
  ·rename_i e; subst e; injection hk with hk; subst hk; rw [hx]; exact ⟨_,hd,WL.refl _⟩
  ·obtain ⟨k4,k5⟩:=Rd _ _ _ _ hk
   exact ⟨u,A74 _ _ hr k u k4 (by rw [<-k5]; exact pH v hv k),WL.refl _⟩
 cases b with
 | true=>exact go true s1 x1 rfl h1 h3 rfl
 | false=>exact go false s2 x2 rfl h2 h4 rfl
theorem J5:∀ (f:Nat) (KG:List Nat) (i:Nat) (ls:List Oper) (s s':S),Vh P md cx.n all f KG i ls s=some s'->∀k v,¬k∈Fv ls->lk s.tmps k=some v->lk s'.tmps k=some v
 | 0,_,_,_,_,_,h=>by cases h
 | _+1,_,_,[],s,s',h=>by simp only [Vh] at h; injection h with h; subst h; exact fun _ _ _ h=>h
 | f+1,KG,i,o::rest,s,s',h=>by
  have hd:∀x,x∈Fv [o]->x∈Fv (o::rest):=fun x hx=>by
   rw [show o::rest=[o]++rest by rfl,Fv,List.filterMap_append,List.mem_append]; exact .inl hx
  have hr:∀x,x∈Fv rest->x∈Fv (o::rest):=fun x hx=>by
   rw [show o::rest=[o]++rest by rfl,Fv,List.filterMap_append,List.mem_append]; exact .inr hx
  simp only [Vh] at h
  split at h
  ·split at h
   ·split at h
    ·rename_i s1 h1
     have k1:=Z4 h1
     exact fun k v hk hv=>J5 f KG (i+1) rest s1 s' h k v (fun e=>hk (hr _ e)) (by rw [k1.2.2 k (fun e=>hk (hd _ e))]; exact hv)
    ·cases h
   ·have k1:=Vj (s:=s) (o:=o)
    exact fun k v hk hv=>J5 f KG (i+1) rest _ s' h k v (fun e=>hk (hr _ e)) (by rw [k1.2.2 k (fun e=>hk (hd _ e))]; exact hv)
   ·cases h
  ·rename_i j dj b hu
   split at h
   ·rename_i d FZ
    split at h
    ·rename_i s1 h1
     intro k v hk hv
     have Z6:¬k∈Fv ((o::rest).drop (J4 i j (o::rest)+1)):=fun e=>hk (by
      unfold Fv at e ⊢
      obtain ⟨x,hx,Am⟩:=List.mem_filterMap.1 e
      exact List.mem_filterMap.2 ⟨x,List.mem_of_mem_drop hx,Am⟩)
     have XS:¬k∈Fv ((o::rest).take (J4 i j (o::rest)+1)):=fun e=>hk (by
      unfold Fv at e ⊢
      obtain ⟨x,hx,Am⟩:=List.mem_filterMap.1 e
      exact List.mem_filterMap.2 ⟨x,List.mem_of_mem_take hx,Am⟩)
     refine J5 f KG _ _ _ s' h k v Z6 ?_
     have hkd:d≠k:=fun e=>hk (by
      subst e
      cases hg:(o::rest)[J4 i j (o::rest)]? with
      | none=>rw [hg] at FZ; cases FZ
      | some q=>rw [hg] at FZ; exact List.mem_filterMap.2 ⟨q,List.mem_of_getElem? hg,FZ⟩)
     unfold mst
     simp only
     rw [EW _ _ _ _ hkd,Vi _ _ _ XS]
     exact hv
    ·cases h
   ·cases h
theorem Hw(Bv:F0 cx.n all=true):∀ (f:Nat) (KG:List Nat) (i:Nat) (ls:List Oper) (s s':S),(∀o∈ls,o∈all)->Vh P md cx.n all f KG i ls s=some s'->∀ (R:List Oper) Q,PL P cx all.toArray R s' Q->PL P cx all.toArray (ls++R) s Q
 | 0,_,_,_,_,_,_,h=>by cases h
 | _+1,_,_,[],s,s',_,h=>by simp only [Vh] at h; injection h with h; subst h; exact fun _ _ h=>h
 | f+1,KG,i,o::rest,s,s',hm,h=>fun R Q hQ=>by
  have Fk:∀o∈rest,o∈all:=fun o ho=>hm o (List.mem_cons_of_mem _ ho)
  have hd:∀d,o.dst=some d->d<cx.n:=DA Bv (hm o sM)
  simp only [Vh] at h
  split at h
  ·split at h
   ·rename_i hw
    split at h
    ·rename_i s1 h1
     have ih:=Hw Bv f KG (i+1) rest s1 s' Fk h R Q hQ
     intro g l0 a w hs
     refine wpList_step fun K hK=>?_
     rw [iP (E4 Bv hw hs)]
     unfold op1 at h1
     split at h1
     ·cases h1
     ·split at h1
      ·rename_i d lv By
       split at h1
       ·injection h1 with h1
        refine CA ?_ (Gl (K:=fun x=>x=[.tmp d lv]) hs (RM.FT By rfl) (post cx Q))
        rintro a' w' ⟨wr,g',l',rfl,sm⟩
        subst h1
        exact hK _ _ (ih g' l' a' w' sm)
       ·cases h1
      ·cases h1
    ·cases h
   ·rename_i hw
    have ih:=Hw Bv f KG (i+1) rest _ s' Fk h R Q hQ
    intro g l0 a w hs
    refine wpList_step fun K hK=>?_
    rw [iN (by rw [E4 Bv hw hs]; simp)]
    refine hK _ _ (ih g l0 _ w ?_)
    cases FZ:o.dst with
    | none=>simp only [S.skip,FZ,Act.put]; exact hs
    | some d=>
     simp only [S.skip,FZ]
     exact hs.set (hd d FZ) (.Bf [] [] rfl fun j h=>by simp at h)
   ·cases h
  ·rename_i j dj b hu
   split at h
   ·rename_i d FZ
    split at h
    ·rename_i s1 h1
     have htd:∀ (l:List Oper) (m:Nat),l++R=l.take m++(l.drop m++R):=fun l m=>by rw [<-List.append_assoc,List.take_append_drop]
     rw [htd (o::rest) (J4 i j (o::rest)+1)]
     refine Oe (Z8 hu) (fun t t' ht=>⟨fun Q' hQ'=>Hw Bv f (j::KG) i _ t t' (fun q hq=>hm q (List.mem_of_mem_take hq)) ht _ Q' hQ',Od f (j::KG) i _ t t' ht⟩) (fun t t' ht=>J5 f (j::KG) i _ t t' ht) h1 ?_
     exact Hw Bv f KG _ _ _ s' (fun q hq=>hm q (List.mem_of_mem_drop hq)) h R Q hQ
    ·cases h
   ·cases h
end
def yT(P:Program)(md:Md)(n:Nat)(all ls:List Oper)(s:S):SM (Option (Nat × S))
 | .mrg::sc=>match ls with
  | [] => .ok none (.mrg::sc) []
  | o::_=>match und all [] o s with
   | some (j,dj,b)=>match (ls[J4 (all.length - ls.length) j ls]?).bind (·.dst) with
    | some d=>match Z3 (Vh P md n all 200 [j] (all.length - ls.length)) (J4 (all.length - ls.length) j ls+1) d dj b ls s with
     | some x=>((lT (.v (.bool x))).Fu fun lv => .ret (some (J4 (all.length - ls.length) j ls+1,mst (J4 (all.length - ls.length) j ls+1) d ls s lv))) sc
     | none => .no (.bad 32)
    | none => .no (.bad 33)
   | none => .ok none (.mrg::sc) []
 | sc => .ok none sc []
theorem m4{P:Program}{cx:Cx}{s:S}{Q:A4->S->Prop}{md:Md}{all ls:List Oper}{sc:List Du}{K':Option (Nat × S)->List Du->Prop}(Bv:F0 cx.n all=true)(hm:∀o∈ls,o∈all)(h:(yT P md cx.n all ls s).wp P sc K') :
  (∃C4,K' none C4)∨∃m s' C4,K' (some (m+1,s')) C4/\(PL P cx all.toArray (ls.drop (m+1)) s' Q->PL P cx all.toArray ls s Q):=by
 unfold SM.wp yT at h
 split at h
 ·split at h
  ·exact .inl ⟨_,h.2⟩
  ·rename_i o r
   split at h
   ·rename_i j dj b hu
    split at h
    ·rename_i d FZ
     split at h
     ·rename_i x h1
      obtain ⟨C4,h2⟩:=Vc (SM.B9 (show SM.wp _ (SM.Fu _ _) _ _ from h))
      refine .inr ⟨_,_,_,SM.wp_ret h2,fun hQ=>?_⟩
      rw [<-List.take_append_drop (J4 (all.length - (o::r).length) j (o::r)+1) (o::r)]
      exact Oe (Z8 hu) (fun t t' ht=>⟨fun Q' hQ'=>Hw Bv _ _ _ _ t t' (fun q hq=>hm q (List.mem_of_mem_take hq)) ht _ Q' hQ',Od _ _ _ _ t t' ht⟩) (fun t t' ht=>J5 _ _ _ _ t t' ht) h1 hQ
     ·exact h.elim
    ·exact h.elim
   ·exact .inl ⟨_,h.2⟩
 ·exact .inl ⟨_,h.2⟩
section
variable {P:Program} {cx:Cx} {s s':S} {Q:A4->S->Prop} {K:S->Prop} {o:Oper} {pe:A4} {md:Md} {all:List Oper} {sc C4:List Du}
def Z9(all:List Oper)(o:Oper)(s:S):SM Bool:=match o.guard with
 | none => .ret true
 | some (j,want)=>match (all[j]?).bind (·.dst) with
  | some dj=>match lk s.tmps dj with
   | some (.v (.bool b))=>(WT b).Fu fun v => .ret (v==want)
   | some (.v (.Bf _)) => .ret false
   | _ => .bad 20
  | none => .bad 21
theorem Za{K':Bool->List Du->Prop}(h:(Z9 all o s).wp P sc K'):∃b C4,Mq all o s=some b/\K' b C4:=by
 unfold Z9 at h
 unfold Mq
 split at h
 ·rename_i hg; rw [hg]; exact ⟨_,_,rfl,SM.wp_ret h⟩
 ·rename_i j want hg
  rw [hg]
  split at h
  ·rename_i dj U3
   simp only [U3]
   split at h
   ·rename_i b hb
    obtain ⟨C4,h1⟩:=Np (SM.B9 h)
    exact ⟨_,_,by rw [hb]; rfl,SM.wp_ret h1⟩
   ·rename_i vs hb
    exact ⟨_,_,by rw [hb]; rfl,SM.wp_ret h⟩
   ·exact h.elim
  ·exact h.elim
def St(P:Program)(md:Md)(n:Nat)(all:List Oper):List Oper->Nat->S->SM (A4 × S)
 | [],_,s => .ret (.normal,s)
 | _::rest,k+1,s=>St P md n all rest k s
 | o::rest,0,s=>(yT P md n all (o::rest) s).Fu fun m=>match m with
  | some (m,s')=>St P md n all rest (m - 1) s'
  | none=>(Z9 all o s).Fu fun b=>match b with
   | true=>(SM.tag o s (opX P md n all o s)).Fu fun r=>match r with
    | (.normal,s')=>St P md n all rest 0 s'
    | r => .ret r
   | false=>St P md n all rest 0 (s.skip o)
theorem FE{K':A4 × S->List Du->Prop}(Bv:F0 cx.n all=true)(hk:∀pe s' C4,K' (pe,s') C4->Q pe s'):∀ {ls:List Oper} {k:Nat} {s:S} {sc:List Du},(∀o∈ls,o∈all)->(St P md cx.n all ls k s).wp P sc K'->PL P cx all.toArray (ls.drop k) s Q
 | [],_,s,sc,_,h=>by rw [List.drop_nil]; exact NU (hk _ _ _ (SM.wp_ret h))
 | o::rest,k+1,s,sc,hm,h=>by
  rw [List.drop_succ_cons]
  exact FE Bv hk (fun o ho=>hm o (List.mem_cons_of_mem _ ho)) h
 | o::rest,0,s,sc,hm,h=>by
  have hd:∀d,o.dst=some d->d<cx.n:=DA Bv (hm o sM)
  have Fk:∀o∈rest,o∈all:=fun o ho=>hm o (List.mem_cons_of_mem _ ho)
  simp only [St] at h
  rw [List.drop_zero]
  rcases m4 (Q:=Q) Bv hm (SM.B9 h) with ⟨sc0,h0⟩ | ⟨m,s',C4,h0,h1⟩
  ·intro g l0 a w hs
   obtain ⟨b,Oa,hw,h1⟩:=Za (SM.B9 h0)
   have E3:=E4 Bv hw hs
   refine wpList_step fun K hK=>?_
   cases b with
   | true=>
    rw [iP E3]
    have h2:=SM.YZ (SM.B9 h1)
    refine CA ?_ (WW (Q:=Q) (K:=fun s'=>PL P cx all.toArray rest s' Q) hd h2 (fun pe s' C4 h3=>?_) g l0 a w hs)
    ·rintro a' w' ⟨s',g',l',hp,sm⟩
     exact hK _ _ (hp g' l' a' w' sm)
    ·cases pe with
     | normal=>exact FE (k:=0) Bv hk Fk h3
     | exit _=>exact hk _ _ _ (SM.wp_ret h3)
     | ret=>exact hk _ _ _ (SM.wp_ret h3)
     | panic _=>exact hk _ _ _ (SM.wp_ret h3)
   | false=>
    rw [iN (by rw [E3]; simp)]
    refine hK _ _ (FE (k:=0) Bv hk Fk h1 g l0 _ w ?_)
    cases FZ:o.dst with
    | none=>simp only [S.skip,FZ,Act.put]; exact hs
    | some d=>
     simp only [S.skip,FZ]
     exact hs.set (hd d FZ) (.Bf [] [] rfl fun j h=>by simp at h)
  ·refine h1 ?_
   have:=FE (ls:=rest) (k:=m) Bv hk Fk h0
   rw [List.drop_succ_cons]; exact this
theorem Ua{K':A4 × S->List Du->Prop}(Bv:F0 cx.n all=true)(hk:∀pe s' C4,K' (pe,s') C4->Q pe s'){ls:List Oper}{s:S}{sc:List Du}(hm:∀o∈ls,o∈all)(h:(St P md cx.n all ls 0 s).wp P sc K'):PL P cx all.toArray ls s Q:=FE (k:=0) Bv hk hm h
end
def A75:LV := .v (.sl 1 [[]])
def JL:Ext:=[(0,[A75])]
theorem LP{cx:Cx}{s:S}{g:Gh}{l:LG}{a:Act}{w:World}(h:B4 cx s g l a w)(he:s.ext=JL):False:=by
 obtain ⟨b,-,-,hE⟩:=h.ex 0 [A75] (by rw [he]; rfl)
 rcases hE with ⟨-,cur,t,-,-,k⟩ | ⟨es,hE,-⟩ | ⟨n,c,ps,-,hE,-⟩
 rotate_left
 ·exact hE
 ·injection hE with hE _; cases hE
 have:=(k 0 sM).2.2
 have h2:BN g w (.sl 1 [[]]) (cur.getD 0 undef):=this
 generalize cur.getD 0 undef=v at h2
 cases h2 with
 | sl _ _ _ _ _ _ _ Bk=>exact absurd (Bk 0 sM) sM
theorem B4.bare{cx:Cx}{s:S}{g:Gh}{l:LG}{a:Act}{w:World}(h:B4 cx s g l a w):B4 cx ⟨[],[],s.ext⟩ g l a w where
 AR:=h.AR
 size:=h.size
 defers:=h.defers
 tm t lv ht:=by simp [lk] at ht
 bx i cs hi:=by simp [lk] at hi
 ex:=h.ex
 own:=h.own
 uo:=h.uo
 fresh:=h.fresh
 GH:=h.GH
def Qx(cx:Cx)(Q:A4->S->Prop):A4->S->Prop
 | .panic p,s=>∃t,(∀g l a w,B4 cx s g l a w->B4 cx t g l a w)/\Q (.panic p) t
 | .normal,s=>s.ext=JL∨Q .normal s
 | pe,s=>Q pe s
theorem Su{P:Program}{cx:Cx}{c:Code}{s:S}{Q:A4->S->Prop}(h:PW P cx c s (Qx cx Q)):PW P cx c s Q:=fun g l a w hs=>by
 refine wp_mono (h g l a w hs) ?_
 rintro e a' w' ⟨pe,s',g',l',q,er,sm⟩
 cases pe with
 | normal=>
  rcases q with q | q
  ·exact (LP sm q).elim
  ·exact ⟨.normal,s',g',l',q,er,sm⟩
 | exit i=>exact ⟨.exit i,s',g',l',q,er,sm⟩
 | ret=>exact ⟨.ret,s',g',l',q,er,sm⟩
 | panic p=>
  obtain ⟨t,h1,h2⟩:=q
  exact ⟨.panic p,t,g',l',h2,er,h1 _ _ _ _ sm⟩
section
variable {P:Program} {cx:Cx} {s s':S} {Q:A4->S->Prop} {o:Oper} {md:Md} {all:List Oper} {sc C4:List Du}
theorem Sv{id:Nat}{ops:List Oper}{B2:List DS}{xs:List Ext}{t:S}(hm:P.follows .mixedOrders=true)(hch:J3 P cx ops.toArray Q ops B2 xs s t)(hc:Xw ops B2 s.tmps=true)(hq:Q .normal t):PW P cx (.region id ops.toArray true) s Q:=by
 obtain ⟨k1,k2,k3⟩:=hch.at_
 have hT:∀i,sT s B2 (fun k=>(s.ext::xs).getD k []) i=V6 s B2 xs i:=fun i=>by
  unfold sT V6
  have h1:=Ht B2 0 i
  have h2:=EM B2 0 i
  simp only [Nat.zero_add] at h1 h2
  rw [h1,h2]
 refine R7 (B2:=B2) (e:=fun k=>(s.ext::xs).getD k []) hm hc k1 rfl ?_ fun i o d ho hd=>?_
 ·have h1:=hT B2.length
  have h2:sD s B2 (fun k=>(s.ext::xs).getD k []) (fun _=>true)=sT s B2 (fun k=>(s.ext::xs).getD k []) B2.length:=by
   unfold sD sT
   rw [DK (D:=fun _=>true) (D':=fun j=>decide (j<B2.length)) (B2:=B2) (k:=0) fun j _ hj=>by simp at hj; simp [hj]]
   rw [EF (D:=fun _=>true) (D':=fun j=>decide (j<B2.length)) (B2:=B2) (k:=0) fun j d' hj _=>by
    have:=(List.getElem?_eq_some_iff.1 hj).1
    simp [this]]
  rw [h2,h1,<-k2]
  exact hq
 ·obtain ⟨e',h1,h2⟩:=k3 i o d ho hd
  rw [hT]
  have hk:DO (fun j=>decide (j<i)) 0 B2=(B2.take i).countP (·.Eh):=by
   have:=EM B2 0 i
   simpa using this
  rw [hk]
  intro s' k PT oV Ts IV
  obtain ⟨-,YD,-⟩:=Km hc hd
  have:=h1 YD s' PT (fun hx=>by rw [Ts,oV hx]; rfl) IV
  refine this.of (fun p hp=>?_) ?_
  ·cases p <;> first | rfl | cases hp
  ·simp only
   cases Xy:d.Eh with
   | true=>
    have LK:=oV (by simp [DS.xf,Xy])
    rw [LK,h2 Xy]
    rfl
   | false=>simp only [Bool.false_eq_true,if_false,Nat.add_zero]; exact Ts.symm
abbrev Pk:=Option (PV × Ext)
def Zb(P:Program)(ro:TypeId->Option Bool)(n:Nat)(all:List Oper)(o:Oper)(gr:List Loc)(s:S):SM (DS × Option Ext × S × Pk):=match callee P o with
 | some r=>(r.Gt s).Fu fun x=>(lU x.1.1 x.1.2 s.ext).Fu fun y=>match y with
  | (.ret p,e,true) => .ret (⟨gr++x.2,DC o (.v p),false⟩,none,s.DB (DC o (.v p)),none)
  | (.ret p,e,false) => .ret (⟨gr++x.2,DC o (.v p),true⟩,some e,{ s.DB (DC o (.v p)) with ext:=e },none)
  | (.own te z es,e,true) => .ret (⟨gr++x.2,DC o (.uniq te z es),false⟩,none,s.DB (DC o (.uniq te z es)),none)
  | (.own te z es,e,false) => .ret (⟨gr++x.2,DC o (.uniq te z es),true⟩,some e,{ s.DB (DC o (.uniq te z es)) with ext:=e },none)
  | (.panic p,e,_) => .ret (⟨gr++x.2,[],true⟩,some JL,{ s with ext:=JL },some (p,e))
 | none=>(lW P ro n all o s).Fu fun x=>if x.1.any R8=true then .ret (⟨gr++x.2,x.1.filter D9,true⟩,some (IQ s.ext x.1),{ s.DB (x.1.filter D9) with ext:=IQ s.ext x.1 },none)
   else .ret (⟨gr++x.2,x.1,false⟩,none,s.DB x.1,none)
theorem RM.JD{α:Type}:∀ {r:RM α} {K:α->List Loc->Prop},r.Ic s K->∃a rd,K a rd/\∀K':α->List Loc->Prop,K' a rd->r.Ic s K'
 | .ret a,K,h=>⟨a,[],h,fun _ h=>h⟩
 | .fail,_,h=>h.elim
 | .IN t k,K,h=>by
  simp only [RM.Ic] at h ⊢
  split at h
  ·obtain ⟨a,rd,h1,h2⟩:=RM.JD h
   exact ⟨a,_,h1,fun K' hk=>h2 _ hk⟩
  ·exact h.elim
 | .IP t k,K,h=>by
  simp only [RM.Ic] at h ⊢
  split at h
  ·obtain ⟨a,rd,h1,h2⟩:=RM.JD h
   exact ⟨a,_,h1,fun K' hk=>h2 _ hk⟩
  ·exact h.elim
 | .EB t k,K,h=>by
  simp only [RM.Ic] at h ⊢
  split at h
  ·obtain ⟨a,rd,h1,h2⟩:=RM.JD h
   exact ⟨a,_,h1,fun K' hk=>h2 _ hk⟩
  ·exact h.elim
 | .assume p k,K,h=>by
  obtain ⟨a,rd,h1,h2⟩:=RM.JD h.2
  exact ⟨a,rd,h1,fun K' hk=>⟨h.1,h2 _ hk⟩⟩
theorem Sw{gr:List Loc}{ro:TypeId->Option Bool}{K':DS × Option Ext × S × Pk->List Du->Prop}(hd:∀d,o.dst=some d->d<cx.n)
  (E3:∀s',(∀l∈gr,s'.get l=s.get l)->∀g l a w,B4 cx s' g l a w->Region.wanted o (yielded all.toArray a.tmps)=true) (h:(Zb P ro cx.n all o gr s).wp P sc K') :
  ∃d x s' pk C4,K' (d,x,s',pk) C4/\d.Eh=x.isSome/\s'={ s.DB d.ws with ext:=x.getD s.ext }/\(pk.isSome=true->x=some JL)/\((∀p e,pk=some (p,e)->Q (.panic p) ⟨[],[],e⟩)->U2 P cx all.toArray (Qx cx Q) o d s (x.getD s.ext)):=by
 have plain:(∃C4,Gs P ro cx.n all o gr s fun d x s'=>K' (d,x,s',none) C4)∨Gs P ro cx.n all o gr s (fun d x s'=>∃C4,K' (d,x,s',none) C4)->∃d x s' pk C4,K' (d,x,s',pk) C4/\d.Eh=x.isSome/\s'={ s.DB d.ws with ext:=x.getD s.ext }/\(pk.isSome=true->x=some JL)/\((∀p e,pk=some (p,e)->Q (.panic p) ⟨[],[],e⟩)->U2 P cx all.toArray (Qx cx Q) o d s (x.getD s.ext)):=by
  rintro (⟨C4,Cw⟩ | Cw)
  ·obtain ⟨d,x,s',hk,he,Tr,hl⟩:=FD (Q:=Qx cx Q) hd E3 Cw
   exact ⟨d,x,s',none,C4,hk,he,Tr,fun h=>by simp at h,fun _=>hl⟩
  ·obtain ⟨d,x,s',⟨C4,hk⟩,he,Tr,hl⟩:=FD (Q:=Qx cx Q) hd E3 Cw
   exact ⟨d,x,s',none,C4,hk,he,Tr,fun h=>by simp at h,fun _=>hl⟩
 unfold Zb at h
 split at h
 ·rename_i r hr
  obtain ⟨⟨f,args⟩,rd,⟨Oa,h1⟩,Ub⟩:=RM.JD (RM.Et (SM.B9 h))
  obtain ⟨res,e',pu,C4,hK,Ml,hC,hpu⟩:=Vd (SM.B9 h1)
  cases res with
  | panic p=>
   refine ⟨_,_,_,_,_,SM.wp_ret hK,rfl,rfl,fun _=>rfl,fun hQ=>?_⟩
   obtain ⟨_,_,⟨rfl,rfl⟩,KV⟩:=RM.Ft (Ub (fun a r=>a=(f,args)/\r=rd) ⟨rfl,rfl⟩)
   intro _ s1 PT Xx _ g l a w hs
   rw [iP (E3 s1 (fun l hl=>PT l (List.mem_append_left _ hl)) g l a w hs)]
   have hC':C7 P f args s1.ext fun r1 e1=>r1 = .panic p/\e1=e':=by rw [Xx (by simp [DS.xf])]; exact hC
   refine CA ?_ (Gc (Q:=Qx cx Q) (K:=fun _=>False) hr hd hs (RM.wp_mono (fun y hy=>?_) (KV s1 fun l hl=>PT l (List.mem_append_right _ hl))))
   ·rintro a' w' ⟨s',g',l',hf,sm⟩; exact hf.elim
   ·subst hy
    refine ⟨Ml,hC'.mono ?_⟩
    rintro _ _ ⟨rfl,rfl⟩
    exact ⟨⟨[],[],_⟩,fun g l a w sm=>sm.bare,hQ _ _ rfl⟩
  | ret p=>
   cases pu with
   | true=>exact plain (.inl ⟨C4,by unfold Gs; rw [hr]; exact Ub _ ⟨Ml,.inl ⟨.ret p,.v p,rfl,(hpu rfl).2,SM.wp_ret hK⟩⟩⟩)
   | false=>exact plain (.inl ⟨C4,by unfold Gs; rw [hr]; exact Ub _ ⟨Ml,.inr ⟨.ret p,.v p,e',rfl,hC,SM.wp_ret hK⟩⟩⟩)
  | own te z es=>
   cases pu with
   | true=>exact plain (.inl ⟨C4,by unfold Gs; rw [hr]; exact Ub _ ⟨Ml,.inl ⟨.own te z es,.uniq te z es,rfl,(hpu rfl).2,SM.wp_ret hK⟩⟩⟩)
   | false=>exact plain (.inl ⟨C4,by unfold Gs; rw [hr]; exact Ub _ ⟨Ml,.inr ⟨.own te z es,.uniq te z es,e',rfl,hC,SM.wp_ret hK⟩⟩⟩)
 ·rename_i hr
  refine plain (.inr ?_)
  unfold Gs
  rw [hr]
  refine RM.D1 (Ve (SM.B9 h)) ?_
  rintro wr rd ⟨XA,h2⟩
  simp only at h2
  split at h2
  ·rename_i hx; rw [iP hx]; exact ⟨XA,SM.wp_ret h2⟩
  ·rename_i hx; rw [iN hx]; exact ⟨XA,SM.wp_ret h2⟩
def Zc(all:List Oper)(o:Oper)(s:S):SM (Bool × List Loc):=match o.guard with
 | none => .ret (true,[])
 | some (j,want)=>match (all[j]?).bind (·.dst) with
  | some dj=>match lk s.tmps dj with
   | some (.v (.bool b))=>(WT b).Fu fun v => .ret (v==want,[.t dj])
   | some (.v (.Bf _)) => .ret (false,[.t dj])
   | _ => .bad 22
  | none => .bad 23
theorem Zd{K':Bool × List Loc->List Du->Prop}(Bv:F0 cx.n all=true)(h:(Zc all o s).wp P sc K'):∃b gr C4,K' (b,gr) C4/\∀s',(∀l∈gr,s'.get l=s.get l)->∀g l a w,B4 cx s' g l a w->Region.wanted o (yielded all.toArray a.tmps)=b:=by
 unfold Zc at h
 split at h
 ·rename_i hg
  exact ⟨_,_,_,SM.wp_ret h,fun s' _ g l a w _=>by simp [Region.wanted,hg]⟩
 ·rename_i j want hg
  split at h
  ·rename_i dj U3
   have YE:dj<cx.n:=by
    simp only [Option.bind_eq_some_iff] at U3
    obtain ⟨oj,h1,h2⟩:=U3
    exact DA Bv (List.mem_of_getElem? h1) dj h2
   have key:∀ {lv:LV} {b:Bool},lk s.tmps dj=some lv->NV want lv=some b->∀s',(∀l∈[Loc.t dj],s'.get l=s.get l)->∀g l a w,B4 cx s' g l a w->Region.wanted o (yielded all.toArray a.tmps)=b:=fun {lv b} GD hb s' Tr g l a w sm=>by
    have h1:lk s'.tmps dj=some lv:=by rw [Sg (Tr (.t dj) sM)]; exact GD
    simp only [Region.wanted,hg]
    exact Kj (by simpa using U3) YE sm h1 hb
   split at h
   ·rename_i b hb
    obtain ⟨C4,h1⟩:=Np (SM.B9 h)
    exact ⟨_,_,_,SM.wp_ret h1,key hb rfl⟩
   ·rename_i vs hb
    exact ⟨_,_,_,SM.wp_ret h,key hb rfl⟩
   ·exact h.elim
  ·exact h.elim
abbrev yU:=Option (Nat × PV × Ext)
def dead(an:List (List Nat))(k:Nat):yU->Bool
 | some (i,_)=>(an.getD k []).contains i
 | none=>false
def Vk(k:Nat)(pk:yU)(x:Option Ext)(pp:Pk):Option yU:=match pk with
 | none=>some (pp.map fun y=>(k,y))
 | some q=>if x.isSome=true then none else some (some q)
def WX(P:Program)(ro:TypeId->Option Bool)(n:Nat)(all:List Oper)(an:List (List Nat)):List Oper->Nat->yU->S->SM (List DS × S × yU × List Ext)
 | [],_,pk,s => .ret ([],s,pk,[])
 | o::rest,k,pk,s=>match dead an k pk with
  | true=>(WX P ro n all an rest (k+1) pk s).Fu fun x => .ret (⟨[],[],true⟩::x.1,x.2.1,x.2.2.1,JL::x.2.2.2)
  | false=>(Zc all o s).Fu fun b=>match b with
   | (true,gr)=>(SM.tag o s (Zb P ro n all o gr s)).Fu fun y=>match Vk k pk y.2.1 y.2.2.2 with
    | some XB=>(WX P ro n all an rest (k+1) XB y.2.2.1).Fu fun x => .ret (y.1::x.1,x.2.1,x.2.2.1,y.2.1.toList++x.2.2.2)
    | none => .bad 24
   | (false,gr)=>(WX P ro n all an rest (k+1) pk (s.DB (DC o (.v (.Bf []))))).Fu fun x => .ret (⟨gr,DC o (.v (.Bf [])),false⟩::x.1,x.2)
theorem Ih{ro:TypeId->Option Bool}{an:List (List Nat)}(Bv:F0 cx.n all=true):∀ {ls:List Oper} {k:Nat} {pk:yU} {s:S} {sc:List Du} {K':List DS × S × yU × List Ext->List Du->Prop},(∀o∈ls,o∈all)->(pk.isSome=true->s.ext=JL)->(WX P ro cx.n all an ls k pk s).wp P sc K' ->
  ∃B2 xs t XB C4,K' (B2,t,XB,xs) C4/\(pk.isSome=true->XB=pk)/\(XB.isSome=true->t.ext=JL)/\((∀i p e,XB=some (i,p,e)->Q (.panic p) ⟨[],[],e⟩)->J3 P cx all.toArray (Qx cx Q) ls B2 xs s t)
 | [],k,pk,s,sc,K',_,hpk,h=>⟨[],[],s,pk,sc,SM.wp_ret h,fun _=>rfl,hpk,fun _=>rfl⟩
 | o::rest,k,pk,s,sc,K',hm,hpk,h=>by
  have hd:∀d,o.dst=some d->d<cx.n:=DA Bv (hm o sM)
  have Fk:∀o∈rest,o∈all:=fun o ho=>hm o (List.mem_cons_of_mem _ ho)
  simp only [WX] at h
  split at h
  ·rename_i A76
   have TO:pk.isSome=true:=by cases pk <;> first | rfl | cases A76
   have Ts:=hpk TO
   obtain ⟨B2,xs,t,XB,C4,h1,h2,h3,h4⟩:=Ih Bv Fk hpk (SM.B9 h)
   refine ⟨_::B2,(some JL).toList++xs,t,XB,C4,SM.wp_ret h1,h2,h3,fun hQ=>⟨some JL,xs,rfl,rfl,?_,?_⟩⟩
   ·intro _ s1 _ Xx _ g l a w hs
    exact (LP hs ((Xx (by simp [DS.xf])).trans Ts)).elim
   ·have:({ s.DB [] with ext:=(some JL).getD s.ext }:S)=s:=by
     show ({ s with ext:=JL }:S)=s
     rw [<-Ts]
    rw [this]
    exact h4 hQ
  ·obtain ⟨b,gr,Oa,h1,E3⟩:=Zd (cx:=cx) Bv (SM.B9 h)
   cases b with
   | true=>
    obtain ⟨d,x,s',pp,XA,h2,he,rfl,hpp,hl⟩:=Sw (Q:=Q) hd E3 (SM.YZ (SM.B9 h1))
    simp only at h2
    split at h2
    ·rename_i XB hj
     have Afm:XB.isSome=true->({ s.DB d.ws with ext:=x.getD s.ext }:S).ext=JL:=fun hs=>by
      show x.getD s.ext=JL
      unfold Vk at hj
      split at hj
      ·injection hj with hj
       subst hj
       have:pp.isSome=true:=by cases pp <;> first | rfl | (simp at hs)
       rw [hpp this]; rfl
      ·split at hj
       ·cases hj
       ·rename_i hx
        have:x=none:=by cases x <;> first | rfl | simp at hx
        subst this
        exact hpk rfl
     obtain ⟨B2,xs,t,pk2,C4,h3,h4,h5,h6⟩:=Ih Bv Fk Afm (SM.B9 h2)
     refine ⟨d::B2,x.toList++xs,t,pk2,C4,SM.wp_ret h3,fun hs=>?_,h5,fun hQ=>⟨x,xs,rfl,he,hl fun p e hp=>?_,h6 hQ⟩⟩
     ·unfold Vk at hj
      split at hj
      ·simp at hs
      ·split at hj
       ·cases hj
       ·injection hj with hj
        subst hj
        exact h4 rfl
     ·unfold Vk at hj
      split at hj
      ·injection hj with hj
       subst hj
       rw [hp] at h4
       exact hQ k p e (h4 rfl)
      ·split at hj
       ·cases hj
       ·rename_i hx
        have:x=none:=by cases x <;> first | rfl | simp at hx
        subst this
        have:=hpp (by rw [hp]; rfl)
        cases this
    ·exact h2.elim
   | false=>
    have YB:=KT (DC o (.v (.Bf []))) s
    obtain ⟨B2,xs,t,XB,C4,h3,h4,h5,h6⟩:=Ih Bv Fk (s:=s.DB (DC o (.v (.Bf [])))) (fun hs=>by rw [YB]; exact hpk hs) (SM.B9 h1)
    refine ⟨_::B2,(none:Option Ext).toList++xs,t,XB,C4,SM.wp_ret h3,h4,h5,fun hQ=>⟨none,xs,rfl,rfl,?_,?_⟩⟩
    ·intro _ s' PT Xx _ g l a w sm
     rw [iN (by rw [E3 s' PT g l a w sm]; simp)]
     refine ⟨g,l,?_⟩
     show B4 cx { s'.DB (DC o (.v (.Bf []))) with ext:=s'.ext } g l (a.put o.dst undef) w
     unfold DC
     cases FZ:o.dst with
     | none=>exact sm
     | some d=>exact sm.set (hd d FZ) (.Bf [] [] rfl fun j h=>by simp at h)
    ·have e2:s.DB (DC o (.v (.Bf [])))={ s.DB (DC o (.v (.Bf []))) with ext:=s.ext }:=by rw [<-YB]
     have:=h6 hQ
     rw [e2] at this
     exact this
def Re(P:Program)(o:Oper)(d:DS):Bool:=!d.Eh&&d.rd.any R5&&(callee P o).isNone&&o.guard.isNone
def Rf(P:Program)(o:Oper)(d:DS):DS:=match Re P o d with
 | true=>⟨d.rd.filter (fun l=>!R5 l),d.ws,d.Eh⟩
 | false=>d
def Hx(P:Program):List Oper->List DS->List DS
 | o::ops,d::ds=>Rf P o d::Hx P ops ds
 | _,ds=>ds
theorem Vl(P:Program)(o:Oper)(d:DS):(Rf P o d).ws=d.ws/\(Rf P o d).Eh=d.Eh:=by unfold Rf; split <;> exact ⟨rfl,rfl⟩
theorem Sx(P:Program):∀ {ops:List Oper} {B2:List DS} {i:Nat} {o:Oper} {d':DS},ops[i]?=some o->(Hx P ops B2)[i]?=some d'->∃d,B2[i]?=some d/\d'=Rf P o d
 | [],_,_,_,_,h,_=>by simp at h
 | o::ops,[],i,_,_,_,h=>by simp [Hx] at h
 | o::ops,d::ds,0,_,_,h,h'=>by
  simp only [Hx,List.getElem?_cons_zero,Option.some.injEq] at h h' ⊢
  subst h
  exact ⟨d,rfl,h'.symm⟩
 | o::ops,d::ds,i+1,_,_,h,h'=>by
  simp only [Hx,List.getElem?_cons_succ] at h h' ⊢
  exact Sx P h h'
theorem KX(P:Program):∀ (ops:List Oper) (B2:List DS),(Hx P ops B2).length=B2.length
 | [],_=>rfl
 | _::_,[]=>rfl
 | o::ops,d::ds=>by simp [Hx,KX P ops ds]
theorem Q2(P:Program)(D:Nat->Bool):∀ (ops:List Oper) (B2:List DS) (k:Nat),D0 D k (Hx P ops B2)=D0 D k B2
 | [],_,_=>rfl
 | _::_,[],_=>rfl
 | o::ops,d::ds,k=>by simp only [Hx,D0,Q2 P D ops ds,(Vl P o d).1]
theorem LQ(P:Program)(D:Nat->Bool):∀ (ops:List Oper) (B2:List DS) (k:Nat),DO D k (Hx P ops B2)=DO D k B2
 | [],_,_=>rfl
 | _::_,[],_=>rfl
 | o::ops,d::ds,k=>by simp only [Hx,DO,LQ P D ops ds,(Vl P o d).2]
theorem J3.Eg{all:Array Oper}:∀ {ls:List Oper} {B2:List DS} {xs:List Ext} {s t:S},J3 P cx all Q ls B2 xs s t->xs.length=B2.countP (·.Eh)
 | [],[],[],_,_,_=>rfl
 | o::rest,d::ds,xs,s,t,h=>by
  obtain ⟨x,lB,rfl,hx,-,hr⟩:=h
  have ih:=J3.Eg hr
  cases x with
  | none=>simp only [Option.isSome_none] at hx; simp [hx,ih]
  | some e=>simp only [Option.isSome_some] at hx; simp [hx,ih]
 | [],_::_,_,_,_,h=>h.elim
 | _::_,[],_,_,_,h=>h.elim
 | [],[],_::_,_,_,h=>h.elim
def Mu:Ext->Bool
 | [(0,[lv])]=>match lv with
  | .v (.sl 1 [[]])=>true
  | _=>false
 | _=>false
theorem Ze{e:Ext}(h:Mu e=true):e=JL:=by
 unfold Mu at h
 split at h
 ·split at h
  ·rfl
  ·cases h
 ·cases h
def pJ(P:Program)(ro:TypeId->Option Bool)(n:Nat)(all:List Oper)(o:Oper)(d:DS)(s:S):SM Unit:=((act P ro n all o).Gt s).Fu fun x=>match x.1,d.ws with
 | [.tmp t lv],[.tmp t' jL]=>if t=t'/\(x.2.filter (fun l=>!R5 l)).all (fun l=>d.rd.contains l)=true then SM.p8 (.eqv lv jL) () else .bad 60
 | _,_ => .bad 61
def Sz(P:Program)(ro:TypeId->Option Bool)(n:Nat)(all:List Oper)(o:Oper)(d:DS)(s:S):List Ext->SM Unit
 | [] => .ret ()
 | e::r=>match Mu e with
  | true=>Sz P ro n all o d s r
  | false=>(pJ P ro n all o d { s with ext:=e }).Fu fun _=>Sz P ro n all o d s r
def Q3(P:Program)(ro:TypeId->Option Bool)(n:Nat)(all:List Oper)(es:List Ext):List Oper->List DS->S->SM Unit
 | o::ops,d::ds,s=>match Re P o d with
  | true=>(Sz P ro n all o d s es).Fu fun _=>Q3 P ro n all es ops ds (s.DB d.ws)
  | false=>Q3 P ro n all es ops ds (s.DB d.ws)
 | _,_,_ => .ret ()
def Zf(P:Program)(ro:TypeId->Option Bool)(n:Nat)(all:List Oper)(o:Oper)(d:DS)(s:S):Prop:=(act P ro n all o).Ic s fun wr rd=>wr=d.ws/\∀l∈rd,R5 l=false->l∈d.rd
theorem Zg{ro:TypeId->Option Bool}{n:Nat}{d:DS}{K':Unit->List Du->Prop}(h:(pJ P ro n all o d s).wp P sc K'):Zf P ro n all o d s/\∃C4,K' () C4:=by
 obtain ⟨wr,rd,⟨Oa,h1⟩,Ub⟩:=RM.JD (RM.Et (SM.B9 h))
 simp only at h1
 split at h1
 ·rename_i t lv t' jL hd
  split at h1
  ·rename_i hc
   obtain ⟨h2,h3⟩:=SM.Kr h1
   refine ⟨Ub _ ⟨?_,fun l hl hx=>?_⟩,Oa,h3⟩
   ·have h2':lv=jL:=h2
    rw [hd,hc.1,h2']
   ·have:=hc.2
    simp only [List.all_eq_true,List.mem_filter,Bool.not_eq_true',and_imp] at this
    simpa using this l hl hx
  ·exact h1.elim
 ·exact h1.elim
theorem Of{ro:TypeId->Option Bool}{n:Nat}{d:DS}:∀ {es:List Ext} {sc:List Du} {K':Unit->List Du->Prop},(Sz P ro n all o d s es).wp P sc K'->(∀e∈es,Mu e=false->Zf P ro n all o d { s with ext:=e })/\∃C4,K' () C4
 | [],sc,K',h=>⟨fun e he=>by simp at he,sc,SM.wp_ret h⟩
 | e::r,sc,K',h=>by
  simp only [Sz] at h
  split at h
  ·rename_i ha
   obtain ⟨h3,h4⟩:=Of h
   refine ⟨fun e' he hb=>?_,h4⟩
   rcases List.mem_cons.1 he with rfl | he
   ·rw [ha] at hb; cases hb
   ·exact h3 e' he hb
  ·obtain ⟨h1,Oa,h2⟩:=Zg (SM.B9 h)
   obtain ⟨h3,h4⟩:=Of h2
   refine ⟨fun e' he hb=>?_,h4⟩
   rcases List.mem_cons.1 he with rfl | he
   ·exact h1
   ·exact h3 e' he hb
theorem SA{ro:TypeId->Option Bool}{n:Nat}{es:List Ext}:∀ {ops:List Oper} {ds:List DS} {s:S} {sc:List Du} {K':Unit->List Du->Prop},(Q3 P ro n all es ops ds s).wp P sc K' ->
  (∀i o d,ops[i]?=some o->ds[i]?=some d->Re P o d=true->∀e∈es,Mu e=false->Zf P ro n all o d { s.DB ((ds.take i).flatMap (·.ws)) with ext:=e })/\∃C4,K' () C4
 | [],[],s,sc,K',h=>⟨fun i o d ho=>by simp at ho,sc,SM.wp_ret h⟩
 | [],_::_,s,sc,K',h=>⟨fun i o d ho=>by simp at ho,sc,SM.wp_ret h⟩
 | _::_,[],s,sc,K',h=>⟨fun i o d _ hd=>by simp at hd,sc,SM.wp_ret h⟩
 | o::ops,d::ds,s,sc,K',h=>by
  have key:(∀e∈es,Mu e=false->Re P o d=true->Zf P ro n all o d { s with ext:=e })/\∃Oa,(Q3 P ro n all es ops ds (s.DB d.ws)).wp P Oa K':=by
   simp only [Q3] at h
   split at h
   ·obtain ⟨h1,Oa,h2⟩:=Of (SM.B9 h)
    exact ⟨fun e he hb _=>h1 e he hb,Oa,h2⟩
   ·rename_i hr
    exact ⟨fun e _ _ hc=>absurd hc (by rw [hr]; simp),⟨sc,h⟩⟩
  obtain ⟨k1,Oa,k2⟩:=key
  obtain ⟨h3,h4⟩:=SA k2
  refine ⟨fun i o' d' ho hd hr e he hb=>?_,h4⟩
  cases i with
  | zero=>
   simp only [List.getElem?_cons_zero,Option.some.injEq] at ho hd
   subst ho hd
   exact k1 e he hb hr
  | succ i=>
   simp only [List.getElem?_cons_succ] at ho hd
   have:=h3 i o' d' ho hd hr e he hb
   simp only [List.take_succ_cons,List.flatMap_cons,Ko]
   exact this
theorem Q4{id:Nat}{ops:List Oper}{B2:List DS}{xs:List Ext}{t:S}{ro:TypeId->Option Bool}(hm:P.follows .mixedOrders=true)(Bv:F0 cx.n ops=true)(hch:J3 P cx ops.toArray Q ops B2 xs s t)(Cw:∀i o d,ops[i]?=some o->B2[i]?=some d->Re P o d=true->∀e∈s.ext::xs,Mu e=false->Zf P ro cx.n ops o d { s.DB ((B2.take i).flatMap (·.ws)) with ext:=e })
  (hc:Xw ops (Hx P ops B2) s.tmps=true) (hq:Q .normal t):PW P cx (.region id ops.toArray true) s Q:=by
 obtain ⟨k1,k2,k3⟩:=hch.at_
 have Afn:=hch.Eg
 let ef:Nat->Ext:=fun k=>(s.ext::xs).getD (min k xs.length) []
 have Xy:∀k,ef k∈s.ext::xs:=fun k=>by
  show (s.ext::xs).getD (min k xs.length) []∈s.ext::xs
  have:min k xs.length<(s.ext::xs).length:=by simp; omega
  rw [List.getD_eq_getElem?_getD,List.getElem?_eq_getElem this]
  exact List.getElem_mem this
 have hle:∀i,(B2.take i).countP (·.Eh)<=xs.length:=fun i=>by
  rw [Afn]
  have:=List.countP_append (p:=fun d:DS=>d.Eh) (l₁:=B2.take i) (l₂:=B2.drop i)
  rw [List.take_append_drop] at this
  omega
 have hfe:∀k,k<=xs.length->ef k=(s.ext::xs).getD k []:=fun k hk=>by show (s.ext::xs).getD (min k xs.length) []=_; rw [Nat.min_eq_left hk]
 have hT:∀i,sT s (Hx P ops B2) ef i=V6 s B2 xs i:=fun i=>by
  unfold sT V6
  have h1:=Ht B2 0 i
  have h2:=EM B2 0 i
  simp only [Nat.zero_add] at h1 h2
  rw [Q2,LQ,h1,h2,hfe _ (hle i)]
 have LF:∀i,DO (fun j=>decide (j<i)) 0 (Hx P ops B2)=(B2.take i).countP (·.Eh):=fun i=>by
  rw [LQ]
  have:=EM B2 0 i
  simpa using this
 refine R7 (B2:=Hx P ops B2) (e:=ef) hm hc (by rw [KX]; exact k1) (by rw [hfe 0 (Nat.zero_le _)]; rfl) ?_ fun i o d' ho jS=>?_
 ·have h1:=hT B2.length
  have h2:sD s (Hx P ops B2) ef (fun _=>true)=sT s (Hx P ops B2) ef B2.length:=by
   unfold sD sT
   rw [DK (D:=fun _=>true) (D':=fun j=>decide (j<B2.length)) (B2:=Hx P ops B2) (k:=0) fun j _ hj=>by rw [KX] at hj; simp at hj; simp [hj]]
   rw [EF (D:=fun _=>true) (D':=fun j=>decide (j<B2.length)) (B2:=Hx P ops B2) (k:=0) fun j d' hj _=>by
    have:=(List.getElem?_eq_some_iff.1 hj).1
    rw [KX] at this
    simp [this]]
  rw [h2,h1,<-k2]
  exact hq
 ·obtain ⟨d,hd,rfl⟩:=Sx P ho jS
  obtain ⟨yV,YD,-⟩:=Km hc jS
  rw [hT,LF]
  cases hrel:Re P o d with
  | false=>
   have hrx:Rf P o d=d:=by unfold Rf; rw [hrel]
   rw [hrx] at YD ⊢
   obtain ⟨e',h1,h2⟩:=k3 i o d ho hd
   intro s' k PT oV Ts IV
   have:=h1 YD s' PT (fun hx=>by
    rw [Ts,oV hx,hfe _ (hle i)]; rfl) IV
   refine this.of (fun p hp=>?_) ?_
   ·cases p <;> first | rfl | cases hp
   ·simp only
    cases yW:d.Eh with
    | true=>
     have LK:=oV (by simp [DS.xf,yW])
     have Ac:(B2.take i).countP (·.Eh)+1<=xs.length:=by
      have h5:=hle (i+1)
      rw [List.take_add_one,hd] at h5
      simp [yW] at h5
      exact h5
     rw [LK,h2 yW,hfe _ (by simpa using Ac)]
     rfl
    | false=>simp only [Bool.false_eq_true,if_false,Nat.add_zero]; exact Ts.symm
  | true=>
   have Afo:=Cw i o d ho hd hrel
   have hrx:Rf P o d=⟨d.rd.filter (fun l=>!R5 l),d.ws,d.Eh⟩:=by unfold Rf; rw [hrel]
   have WM:d.Eh=false:=by
    simp only [Re,Bool.and_eq_true,Bool.not_eq_true'] at hrel
    exact hrel.1.1.1
   have Afp:callee P o=none:=by
    simp only [Re,Bool.and_eq_true,Option.isNone_iff_eq_none] at hrel
    exact hrel.1.2
   have Afq:o.guard=none:=by
    simp only [Re,Bool.and_eq_true,Option.isNone_iff_eq_none] at hrel
    exact hrel.2
   rw [hrx] at YD yV ⊢
   simp only at YD yV
   intro s' k PT _ Ts IV
   cases jU:Mu (ef k) with
   | true=>exact fun g l a w sm=>(LP sm (Ts.trans (Ze jU))).elim
   | false=>
   have hS:=Afo (ef k) (Xy k) jU
   have kO:∀d0,o.dst=some d0->d0<cx.n:=DA Bv (List.mem_of_getElem? ho)
   have PN:Gs P ro cx.n ops o [] { s.DB ((B2.take i).flatMap (·.ws)) with ext:=ef k } fun d1 x _=>d1.ws=d.ws/\d1.Eh=false/\x=none/\∀l∈d1.rd,R5 l=false->l∈d.rd:=by
    unfold Gs
    rw [Afp]
    refine RM.D1 hS ?_
    rintro wr rd ⟨rfl,hrd⟩
    have Vm:d.ws.any R8=false:=by
     rw [Bool.eq_false_iff]
     intro Afr
     obtain ⟨x,hx,hxw⟩:=List.any_eq_true.1 Afr
     have:=List.all_eq_true.1 yV x hx
     cases x <;> first | (simp [R8] at hxw; done) | (simp [D9] at this; done)
    rw [iN (by rw [Vm]; simp)]
    exact ⟨rfl,rfl,rfl,by simpa using hrd⟩
   obtain ⟨d1,x,s1,⟨hws,Wn,Aa,Afs⟩,-,-,hL⟩:=FD (Q:=Q) kO (fun s'' _ g l a w _=>by simp [Region.wanted,Afq]) PN
   have:=hL (by rw [hws]; exact YD) s' (fun l hl=>by
    by_cases hx:R5 l=true
    ·cases l with
     | t _=>cases hx
     | b _=>cases hx
     | x n=>simp only [S.get]; rw [Ts]
    ·have hx':R5 l=false:=by simpa using hx
     have h6:=PT l (List.mem_filter.2 ⟨Afs l hl hx',by simp [hx']⟩)
     rw [h6]
     unfold V6
     cases l <;> first | rfl | exact absurd rfl hx) (fun hxf=>Ts) (by rw [hws]; exact IV)
   refine this.of (fun p hp=>?_) ?_
   ·rw [hws]
    cases p <;> first | rfl | cases hp
   ·simp only [WM,Wn,Bool.false_eq_true,if_false,Nat.add_zero]
    exact Ts.symm
def yX(P:Program)(md:Md)(n:Nat)(ops:List Oper)(draw:Bool)(s:S):SM (A4 × S):=match draw with
 | false=>St P md n ops ops 0 s
 | true=>(WX P md.ro n ops (WI ops []) ops 0 none s).Fu fun x=>match Xw ops x.1 s.tmps with
  | true=>match x.2.2.1 with
   | none => .ret (.normal,x.2.1)
   | some (_,p,e) => .ret (.panic p,⟨[],[],e⟩)
  | false=>match Xw ops (Hx P ops x.1) s.tmps with
   | true=>(Q3 P md.ro n ops (s.ext::x.2.2.2) ops x.1 s).Fu fun _=>match x.2.2.1 with
    | none => .ret (.normal,x.2.1)
    | some (_,p,e) => .ret (.panic p,⟨[],[],e⟩)
   | false => .bad 25
theorem Uc{id:Nat}{ops:Array Oper}{draw:Bool}{K':A4 × S->List Du->Prop}(hm:P.follows .mixedOrders=true)(Bv:F0 cx.n ops.toList=true)(h:(yX P md cx.n ops.toList draw s).wp P sc K')(hk:∀pe s' C4,K' (pe,s') C4->Q pe s'):PW P cx (.region id ops draw) s Q:=by
 obtain ⟨ops⟩:=ops
 cases draw with
 | false=>exact fun g l0 a w hs=>wp_region_lit (Ua Bv hk (fun _ h=>h) h g l0 a w hs)
 | true=>
  simp only [yX] at h
  obtain ⟨B2,xs,t,pk,C4,h1,-,h3,h4⟩:=Ih (Q:=Q) Bv (fun _ h=>h) (fun h=>by simp at h) (SM.B9 h)
  simp only at h1
  split at h1
  rotate_left
  ·split at h1
   ·rename_i hc
    refine Su ?_
    obtain ⟨Cw,XA,h5⟩:=SA (SM.B9 h1)
    cases pk with
    | none=>exact Q4 hm Bv (h4 fun i p e he=>by cases he) Cw hc (.inr (hk _ _ _ (SM.wp_ret h5)))
    | some v=>
     obtain ⟨i,p,e⟩:=v
     refine Q4 hm Bv (h4 fun i p e he=>?_) Cw hc (.inl (h3 rfl))
     injection he with he
     injection he with h5' h6
     injection h6 with h6 h7
     subst h6 h7
     exact hk _ _ _ (SM.wp_ret h5)
   ·exact h1.elim
  ·rename_i hc
   refine Su ?_
   cases pk with
   | none=>
    refine Sv hm (h4 fun i p e he=>?_) hc (.inr (hk _ _ _ (SM.wp_ret h1)))
    cases he
   | some v=>
    obtain ⟨i,p,e⟩:=v
    refine Sv hm (h4 fun i p e he=>?_) hc (.inl (h3 rfl))
    injection he with he
    injection he with h5 h6
    injection h6 with h6 h7
    subst h6 h7
    exact hk _ _ _ (SM.wp_ret h1)
end
def Vn(body:S->SM (A4 × S)):Nat->S->SM (A4 × S)
 | 0,_ => .bad 26
 | n+1,s=>(body s).Fu fun r=>match r with
  | (.normal,s')=>Vn body n s'
  | r => .ret r
def Q5{β:Type}:List (Nat × β)->List (Nat × β)->List (Nat × β)
 | [],_=>[]
 | (k,_)::r,s=>match lk s k with
  | some u=>(k,u)::Q5 r s
  | none=>Q5 r s
def Zh(t s:S):S:=⟨Q5 t.tmps s.tmps,Q5 t.boxes s.boxes,s.ext⟩
theorem KY{β:Type}{s:List (Nat × β)}{k:Nat}{u:β}:∀ {t:List (Nat × β)},lk (Q5 t s) k=some u->lk s k=some u
 | [],h=>by cases h
 | (k',v)::r,h=>by
  rw [Q5] at h
  split at h
  ·rename_i u' hu
   rw [lk] at h
   split at h
   ·rename_i e; rw [<-e,hu]; exact h
   ·exact KY h
  ·exact KY h
theorem TC.KZ{s s':List (Nat × LV)}(hs:∀k u,lk s' k=some u->lk s k=some u):∀ {t:List (Nat × LV)},TC t s'->TC t s
 | [],_=>trivial
 | (k,v)::r,h=>by
  refine ⟨?_,TC.KZ hs h.2⟩
  have h1:=h.1
  split at h1
  ·rename_i u hu; rw [hs k u hu]; exact h1
  ·exact h1.elim
theorem TD.KZ{s s':List (Nat × List LV)}(hs:∀k u,lk s' k=some u->lk s k=some u):∀ {t:List (Nat × List LV)},TD t s'->TD t s
 | [],_=>trivial
 | (k,v)::r,h=>by
  refine ⟨?_,TD.KZ hs h.2⟩
  have h1:=h.1
  split at h1
  ·rename_i u hu; rw [hs k u hu]; exact h1
  ·exact h1.elim
theorem No.rest{t s:S}(h:No t (Zh t s)):No t s:=⟨TC.KZ (fun _ _=>KY) h.1,TD.KZ (fun _ _=>KY) h.2.1,h.2.2⟩
def A77(n:Nat)(c:Code)(body:S->SM (A4 × S))(fl:Nat)(s:S):SM (A4 × S)
 | .loop s0 pe s1::sc => .ok (pe,s1) sc [.le s0 (Zh s0 s),.loop n c s0 pe s1]
 | .YY::sc=>Vn body fl s sc
 | _ => .no (.loop n c s)
def m5(n:Nat)(c:Code)(s:S):SM (A4 × S)
 | .loop s0 pe s1::sc => .ok (pe,s1) sc [.le s0 (Zh s0 s),.ES n c s0 pe s1]
 | _ => .no (.loop n c s)
def pK:Code->Option Nat
 | .region id _ _=>some id
 | .seq a _=>pK a
 | _=>none
def A78(md:Md)(c:Code):Bool:=match pK c with
 | some id=>md.row (2000000+id)
 | none=>false
def Ei(P:Program)(md:Md)(n fl:Nat):Code->S->SM (A4 × S)
 | .skip,s => .ret (.normal,s)
 | .region id ops draw,s=>match md.row (1000000+id) with
  | true=>m5 n (.region id ops draw) s
  | false=>yX P md n ops.toList draw s
 | .seq a b,s=>match A78 md a with
  | true=>m5 n (.seq a b) s
  | false=>(Ei P md n fl a s).Fu fun r=>match r with
   | (.normal,s')=>Ei P md n fl b s'
   | r => .ret r
 | .cond (.tmp t) x y,s=>match lk s.tmps t with
  | some (.v (.bool b))=>(WT b).Fu fun v=>match v with
   | true=>Ei P md n fl x s
   | false=>Ei P md n fl y s
  | _ => .bad 27
 | .cond (.const v) x y,s=>match v with
  | .bool true=>Ei P md n fl x s
  | .bool false=>Ei P md n fl y s
  | _ => .bad 29
 | .block id c,s=>(Ei P md n fl c s).Fu fun r=>match r with
  | (.exit RR,s')=>if RR=id then .ret (.normal,s') else .ret (.exit RR,s')
  | r => .ret r
 | .loop c,s=>A77 n c (Ei P md n fl c) fl s
 | .exit id,s => .ret (.exit id,s)
 | .ret,s => .ret (.ret,s)
 | _,_ => .bad 28
section
variable {P:Program} {cx:Cx} {md:Md} {fl:Nat}
theorem SB{c:Code}{body:S->SM (A4 × S)}{Q:A4->S->Prop}{K':A4 × S->List Du->Prop}(Va:∀ {s:S} {sc:List Du} {K':A4 × S->List Du->Prop} {Q:A4->S->Prop},(body s).wp P sc K'->(∀pe s' C4,K' (pe,s') C4->Q pe s')->PW P cx c s Q)
  {n:Nat} {s:S} {sc:List Du} (h:(Vn body n s).wp P sc K') (hk:∀pe s' C4,K' (pe,s') C4->Q pe s'):PW P cx (.loop c) s Q:=by
 refine O6 (α:={ x:Nat × S × List Du // (Vn body x.1 x.2.1).wp P x.2.2 K' }) (fun x=>x.1.2.1) (fun x=>x.1.1) ⟨(n,s,sc),h⟩ rfl ?_
 rintro ⟨⟨n,s,sc⟩,h⟩
 cases n with
 | zero=>exact h.elim
 | succ n=>
  refine Va (SM.B9 h) fun pe s' C4 h1=>?_
  cases pe with
  | normal=>exact ⟨⟨(n,s',C4),h1⟩,Nat.lt_succ_self _,rfl⟩
  | exit i=>exact hk _ _ _ (SM.wp_ret h1)
  | ret=>exact hk _ _ _ (SM.wp_ret h1)
  | panic p=>exact hk _ _ _ (SM.wp_ret h1)
theorem CP(hm:P.follows .mixedOrders=true):∀ (c:Code) {s:S} {sc:List Du} {K':A4 × S->List Du->Prop} {Q:A4->S->Prop},BU cx.n c=true->(Ei P md cx.n fl c s).wp P sc K'->(∀pe s' C4,K' (pe,s') C4->Q pe s')->PW P cx c s Q
 | .skip,s,sc,K',Q,_,h,hk=>QE (hk _ _ _ (SM.wp_ret h))
 | .region id ops draw,s,sc,K',Q,hc,h,hk=>by
  simp only [Ei] at h
  split at h
  ·unfold SM.wp m5 at h
   split at h
   ·obtain ⟨⟨h1,h2,-⟩,h3⟩:=h
    refine PW.Xz (No.rest h1) ((h2 cx rfl).mono ?_)
    rintro _ _ ⟨rfl,rfl⟩
    exact hk _ _ _ h3
   ·exact h.elim
  ·exact Uc hm hc h hk
 | .seq a b,s,sc,K',Q,hc,h,hk=>by
  simp only [BU,Bool.and_eq_true] at hc
  simp only [Ei] at h
  split at h
  ·unfold SM.wp m5 at h
   split at h
   ·obtain ⟨⟨h1,h2,-⟩,h3⟩:=h
    refine PW.Xz (No.rest h1) ((h2 cx rfl).mono ?_)
    rintro _ _ ⟨rfl,rfl⟩
    exact hk _ _ _ h3
   ·exact h.elim
  ·refine I8 (CP hm a hc.1 (SM.B9 h) fun pe s' C4 h1=>?_)
   cases pe with
   | normal=>exact CP hm b hc.2 h1 hk
   | exit i=>exact hk _ _ _ (SM.wp_ret h1)
   | ret=>exact hk _ _ _ (SM.wp_ret h1)
   | panic p=>exact hk _ _ _ (SM.wp_ret h1)
 | .cond x a b,s,sc,K',Q,hc,h,hk=>by
  simp only [BU,Bool.and_eq_true] at hc
  cases x with
  | tmp t=>
   simp only [Ei] at h
   split at h
   ·rename_i v ht
    obtain ⟨C4,h1⟩:=Np (SM.B9 h)
    refine KK ht (fun e=>?_) (fun e=>?_)
    ·subst e; exact CP hm a hc.1 h1 hk
    ·subst e; exact CP hm b hc.2 h1 hk
   ·exact h.elim
  | const v=>
   simp only [Ei] at h
   split at h
   ·exact fun g l a' w hs=>wp_cond_split (show a'.eval (.const (.bool true)) = .bool true from rfl) (fun _=>CP hm a hc.1 h hk g l a' w hs) (fun e=>Bool.noConfusion e)
   ·exact fun g l a' w hs=>wp_cond_split (show a'.eval (.const (.bool false)) = .bool false from rfl) (fun e=>Bool.noConfusion e) (fun _=>CP hm b hc.2 h hk g l a' w hs)
   ·exact h.elim
  | global _=>simp only [Ei] at h; exact h.elim
  | func _=>simp only [Ei] at h; exact h.elim
 | .block id c,s,sc,K',Q,hc,h,hk=>by
  simp only [BU] at hc
  simp only [Ei] at h
  refine Ny (CP hm c hc (SM.B9 h) fun pe s' C4 h1=>?_)
  cases pe with
  | normal=>exact hk _ _ _ (SM.wp_ret h1)
  | exit i=>
   simp only [Nx]
   simp only at h1
   split at h1
   ·rename_i e; rw [iP e]; exact hk _ _ _ (SM.wp_ret h1)
   ·rename_i e; rw [iN e]; exact hk _ _ _ (SM.wp_ret h1)
  | ret=>exact hk _ _ _ (SM.wp_ret h1)
  | panic p=>exact hk _ _ _ (SM.wp_ret h1)
 | .loop c,s,sc,K',Q,hc,h,hk=>by
  simp only [BU] at hc
  simp only [Ei] at h
  unfold SM.wp A77 at h
  split at h
  ·obtain ⟨⟨h1,h2,-⟩,h3⟩:=h
   refine PW.Xz (No.rest h1) ((h2 cx rfl).mono ?_)
   rintro _ _ ⟨rfl,rfl⟩
   exact hk _ _ _ h3
  ·exact SB (fun h hk=>CP hm c hc h hk) h hk
  ·exact h.elim
 | .exit id,s,sc,K',Q,_,h,hk=>QF (hk _ _ _ (SM.wp_ret h))
 | .ret,s,sc,K',Q,_,h,hk=>TF (hk _ _ _ (SM.wp_ret h))
 | .rangeFunc _ _ _ _,_,_,_,_,_,h,_=>by simp only [Ei] at h; exact h.elim
 | .scope _,_,_,_,_,_,h,_=>by simp only [Ei] at h; exact h.elim
 | .label _,_,_,_,_,_,h,_=>by simp only [Ei] at h; exact h.elim
 | .goto _,_,_,_,_,_,h,_=>by simp only [Ei] at h; exact h.elim
 | .refuse _,_,_,_,_,_,h,_=>by simp only [Ei] at h; exact h.elim
theorem yY(md:Md)(n fl:Nat)(sc:List Du){c:Code}{s s':S}{pe:A4}{C4:List Du}{l:List Ob}{Q:A4->S->Prop}(hm:P.follows .mixedOrders=true)(hn:cx.n=n)(hc:BU n c=true)(h:Ei P md n fl c s sc = .ok (pe,s') C4 l)(hl:RI P l)(hq:Q pe s'):PW P cx c s Q:=by
 subst hn
 refine CP (K':=fun r _=>r=(pe,s')) hm c hc (show SM.wp P _ sc _ from by unfold SM.wp; rw [h]; exact ⟨hl,rfl⟩) ?_
 rintro _ _ _ ⟨rfl,rfl⟩
 exact hq
theorem PW.Rg{c:Code}{s:S}{Q:A4->S->Prop}(h:PW P cx c s fun pe s'=>∃t,No t s'/\Q pe t):PW P cx c s Q:=fun g l a w hs=>by
 refine wp_mono (h g l a w hs) ?_
 rintro e a' w' ⟨pe,s',g',l',⟨t,h1,h2⟩,er,sm⟩
 exact ⟨pe,t,g',l',h2,er,sm.Xz h1⟩
def IZ{α:Type}(l:List (Nat × α)):List Nat->List (Nat × α)
 | []=>[]
 | k::r=>match lk l k with
  | some v=>(k,v)::IZ l r
  | none=>IZ l r
def pL(ks bs:List Nat)(s:S):S:=⟨IZ s.tmps ks,IZ s.boxes bs,s.ext⟩
theorem LR(l:List (Nat × LV)):∀ks,TC (IZ l ks) l
 | []=>trivial
 | k::r=>by
  simp only [IZ]
  split
  ·rename_i v hv
   refine ⟨?_,LR l r⟩
   rw [hv]
   exact WL.refl v
  ·exact LR l r
theorem LS(l:List (Nat × List LV)):∀ks,TD (IZ l ks) l
 | []=>trivial
 | k::r=>by
  simp only [IZ]
  split
  ·rename_i v hv
   refine ⟨?_,LS l r⟩
   rw [hv]
   exact Fg.refl v
  ·exact LS l r
def SR.BR(ks bs:List Nat):SR (A4 × S)->SR (A4 × S)
 | .ok (pe,s) sc l => .ok (pe,pL ks bs s) sc l
 | .no n => .no n
theorem Eb(md:Md)(n fl:Nat)(sc:List Du)(ks bs:List Nat){c:Code}{s s':S}{pe:A4}{C4:List Du}{l:List Ob}{Q:A4->S->Prop}(hm:P.follows .mixedOrders=true)(hn:cx.n=n)(hc:BU n c=true)(h:(Ei P md n fl c s sc).BR ks bs = .ok (pe,s') C4 l)(hl:RI P l)(hq:Q pe s'):PW P cx c s Q:=by
 cases he:Ei P md n fl c s sc with
 | no _=>rw [he] at h; cases h
 | ok a Oa l1=>
  obtain ⟨pe1,s1⟩:=a
  rw [he] at h
  simp only [SR.BR,SR.ok.injEq,Prod.mk.injEq] at h
  obtain ⟨⟨rfl,rfl⟩,rfl,rfl⟩:=h
  exact PW.Rg (yY md n fl sc hm hn hc he hl ⟨pL ks bs s1,⟨LR _ _,LS _ _,rfl⟩,hq⟩)
theorem Ob.Nq{α:Type}{n:Nat}{c:Code}(I:α->S)(μ:α->Nat)(res:α->A4 × S)
  (round:∀x (cx:Cx),cx.n=n->PW P cx c (I x) fun pe s'=>(pe = .normal/\∃y,μ y<μ x/\No (I y) s'/\res y=res x)∨(pe ≠ .normal/\pe=(res x).1/\No (res x).2 s')) (x:α):(Ob.loop n c (I x) (res x).1 (res x).2).ok P:=by
 intro cx Aw
 refine PW.Rg ?_
 refine O6 (α:={ y:α × S // res y.1=res x/\(y.2=I y.1∨No (I y.1) y.2) }) (fun y=>y.1.2) (fun y=>μ y.1.1) ⟨(x,I x),rfl,.inl rfl⟩ rfl ?_
 ·rintro ⟨⟨y,s⟩,hy,hle⟩
  have go:∀ {Q:A4->S->Prop},PW P cx c (I y) Q->PW P cx c s Q:=fun hp=>by
   rcases hle with h0 | hle
   ·have h0':s=I y:=h0
    rw [h0']; exact hp
   ·exact PW.Xz hle hp
  refine go ((round y cx Aw).mono ?_)
  rintro pe s' (⟨rfl,z,h1,h2,h3⟩ | ⟨h1,h2,h3⟩)
  ·exact ⟨⟨(z,s'),h3.trans hy,.inr h2⟩,h1,rfl⟩
  ·rw [hy] at h2 h3
   cases pe with
   | normal=>exact absurd rfl h1
   | _=>exact ⟨_,h3,h2,rfl⟩
end
def Ks:Code->List Code
 | .seq a b=>Ks a++Ks b
 | .cond _ a b=>Ks a++Ks b
 | .block _ c=>Ks c
 | .loop c=>c::Ks c
 | _=>[]
def Og(id:Nat):Code->Option Code
 | .region i ops d=>if i=id then some (.region i ops d) else none
 | .seq a b=>match Og id a with
  | some c=>some c
  | none=>Og id b
 | .cond _ a b=>match Og id a with
  | some c=>some c
  | none=>Og id b
 | .block _ c=>Og id c
 | .loop c=>Og id c
 | _=>none
def AS(fn:Func)(id:Nat):Code:=match fn.body with
 | some c=>(Og id c).getD .skip
 | none => .skip
def Au(fn:Func)(k:Nat):Code:=match fn.body with
 | some c=>(Ks c).getD k .skip
 | none => .skip
def A79(P:Program)(res:List ResultVar)(pe:A4)(s:S):SM (Ct × Ext):=match U5 P res pe s with
 | some x => .ret x
 | none => .bad 30
def m6(P:Program)(res:List ResultVar)(s:S)(e:Ext):SM (Ct × Ext):=match FC P { s with ext:=e } res with
 | some q => .ret (.ret q,e)
 | none => .bad 31
def Rh:Code->Option (List Code × Oper × Oper × Nat × Code)
 | .seq (.region i ⟨[mk,df]⟩ false) y=>match df.op with
  | .defer ⟨.value (.tmp t),⟨[]⟩,_⟩=>some ([],mk,df,t,y)
  | _=>(Rh y).map fun x=>(.region i ⟨[mk,df]⟩ false::x.1,x.2)
 | .seq a b=>(Rh b).map fun x=>(a::x.1,x.2)
 | _=>none
theorem Zi:∀ {c:Code} {xs:List Code} {mk df:Oper} {t:Nat} {y:Code},Rh c=some (xs,mk,df,t,y)->∃id ts,c=WO xs (.seq (.region id #[mk,df] false) y)/\df.op = .defer ⟨.value (.tmp t),#[],ts⟩:=by
 intro c
 induction c using Rh.induct with
 | case1 i mk df y t ts JA=>
  intro xs mk' df' t' y' h
  simp only [Rh,JA,Option.some.injEq,Prod.mk.injEq] at h
  obtain ⟨rfl,rfl,rfl,rfl,rfl⟩:=h
  exact ⟨i,ts,rfl,JA⟩
 | case2 i mk df y De ih=>
  intro xs mk' df' t' y' h
  unfold Rh at h
  split at h
  ·rename_i t ts JA
   exact absurd JA (De t ts)
  ·simp only [Option.map_eq_some_iff] at h
   obtain ⟨⟨xs1,mk1,Ar,t1,y1⟩,h1,h2⟩:=h
   simp only [Prod.mk.injEq] at h2
   obtain ⟨rfl,rfl,rfl,rfl,rfl⟩:=h2
   obtain ⟨id,ts,h3,h4⟩:=ih h1
   exact ⟨id,ts,by rw [h3]; rfl,h4⟩
 | case3 a b De ih=>
  intro xs mk' df' t' y' h
  rw [Rh] at h
  ·simp only [Option.map_eq_some_iff] at h
   obtain ⟨⟨xs1,mk1,Ar,t1,y1⟩,h1,h2⟩:=h
   simp only [Prod.mk.injEq] at h2
   obtain ⟨rfl,rfl,rfl,rfl,rfl⟩:=h2
   obtain ⟨id,ts,h3,h4⟩:=ih h1
   exact ⟨id,ts,by rw [h3]; rfl,h4⟩
  ·exact De
 | case4 c h1 h2=>
  intro xs mk' df' t' y' h
  unfold Rh at h
  split at h
  ·exact absurd rfl (h1 _ _ _ _)
  ·exact absurd rfl (h2 _ _)
  ·cases h
def yZ(P:Program)(md:Md)(n fl:Nat):List Code->S->SM S
 | [],s => .ret s
 | c::r,s=>(Ei P md n fl c s).Fu fun x=>match x with
  | (.normal,s')=>yZ P md n fl r s'
  | _ => .bad 37
theorem Oh{P:Program}{cx:Cx}{md:Md}{fl:Nat}(hm:P.follows .mixedOrders=true){K:S->Prop}:∀ {xs:List Code} {s:S} {sc:List Du} {K':S->List Du->Prop},(∀c∈xs,BU cx.n c=true)->(yZ P md cx.n fl xs s).wp P sc K'->(∀s' C4,K' s' C4->K s')->PWs P cx xs s K
 | [],s,sc,K',_,h,hk=>hk _ _ (SM.wp_ret h)
 | c::r,s,sc,K',hc,h,hk=>by
  refine CP hm c (hc c List.mem_cons_self) (SM.B9 h) fun pe s' C4 h1=>?_
  cases pe with
  | normal=>exact ⟨rfl,Oh hm (fun c RH=>hc c (List.mem_cons_of_mem _ RH)) h1 hk⟩
  | exit i=>exact h1.elim
  | ret=>exact h1.elim
  | panic p=>exact h1.elim
theorem Mv{n:Nat}:∀ {xs:List Code} {c:Code},BU n (WO xs c)=true->(∀x∈xs,BU n x=true)/\BU n c=true
 | [],c,h=>⟨fun x hx=>by simp at hx,h⟩
 | x::r,c,h=>by
  simp only [WO,BU,Bool.and_eq_true] at h
  obtain ⟨h1,h2⟩:=Mv h.2
  refine ⟨fun y hy=>?_,h2⟩
  rcases List.mem_cons.1 hy with rfl | hy
  ·exact h.1
  ·exact h1 y hy
def Ud(P:Program)(md:Md)(fl:Nat)(fn:Func)(args:List PV)(e:Ext):SM (Ct × Ext):=match fn.body with
 | none => .bad 32
 | some c=>if args.length<=fn.ntmps then (match Rh c with
  | none=>(Ei P md fn.ntmps fl c (FR args e)).Fu fun r=>A79 P fn.results.toList r.1 r.2
  | some (r0,mk,df,t,y)=>if mk.guard.isNone&&df.guard.isNone&&df.dst.isNone then ((yZ P md fn.ntmps fl r0 (FR args e)).Fu fun s=>((act P md.ro fn.ntmps [mk,df] mk).runM s).Fu fun wr=>match lk (s.I9 wr).tmps t with
    | some (.v (.fn (.func Fi) first cap))=>if FQ P Fi=true then (Ei P md fn.ntmps fl y (s.I9 wr)).Fu fun r2=>match r2 with
     | (.panic p,s2)=>(lV Fi (first++cap) s2.ext (.pan p)).Fu fun d=>match d with
      | (.lF,e')=>m6 P fn.results.toList s2 e'
      | _ => .bad 33
     | (.exit _,_) => .bad 34
     | (_,s2)=>(lV Fi (first++cap) s2.ext .ret).Fu fun d=>match d with
      | (.ret,e')=>m6 P fn.results.toList s2 e'
      | _ => .bad 35 else .bad 41
    | _ => .bad 36) else .bad 38) else .bad 39
section
variable {P:Program} {md:Md} {fl:Nat} {f:FuncId} {fn:Func} {args:List PV} {e:Ext}
theorem Oi{sc:List Du}{R:Ct->Ext->Prop}(hm:P.follows .mixedOrders=true)(hf:P.funcs[f]?=some fn)(EA:KW fn=true)(h:(Ud P md fl fn args e).wp P sc fun r _=>R r.1 r.2):C7 P f args e R:=by
 unfold Ud at h
 unfold KW at EA
 split at h
 ·exact h.elim
 ·rename_i c hb
  rw [hb] at EA
  simp only at EA
  split at h
  ·rename_i hn
   split at h
   ·refine C7.enter hf hb hn fun cx Aw NM=>?_
    rw [<-Aw] at EA h
    refine CP hm c EA (SM.B9 h) fun pe s' C4 h1=>?_
    unfold A79 at h1
    split at h1
    ·rename_i x hx
     have:=Kq (r:=x.1) (e:=x.2) hx
     have h2:=SM.wp_ret h1
     cases pe with
     | panic p=>obtain ⟨h3,h4⟩:=this; show R _ _; rw [h3,h4]; exact h2
     | exit i=>exact this
     | normal=>obtain ⟨q,h3,h4,h5⟩:=this; refine ⟨q,h3,?_⟩; rw [h4,h5]; exact h2
     | ret=>
      rcases this with ⟨q,h3,h4,h5⟩ | ⟨t,e0,z,es,h3,h4,h7,h5,h6⟩
      ·refine .inl ⟨q,h3,?_⟩; rw [h4,h5]; exact h2
      ·refine .inr ⟨t,e0,z,es,h3,h4,h7,?_⟩; rw [h5,h6]; exact h2
    ·exact h1.elim
   ·rename_i r0 mk df t y KF
    obtain ⟨id,ts,rfl,yH⟩:=Zi KF
    obtain ⟨A7a,A7b⟩:=Mv EA
    simp only [BU,Bool.and_eq_true] at A7b
    split at h
    ·rename_i hg
     simp only [Bool.and_eq_true,Option.isNone_iff_eq_none] at hg
     refine C7.lH md.ro hf hb hn yH hg.1.1 hg.1.2 hg.2 fun cx Aw NM=>?_
     have h0:=SM.B9 h
     rw [<-Aw] at h0 A7a
     refine Oh hm A7a h0 fun s Oa h1=>?_
     have UR:=h1
     try rw [Aw] at UR
     refine RM.wp_mono ?_ (RM.Ea (SM.B9 UR))
     rintro wr ⟨XA,h2⟩
     ·skip
      split at h2
      ·rename_i Fi first cap l7
       split at h2
       ·rename_i Aft
        refine ⟨Fi,first,cap,l7,Aft,fun YL YW=>?_⟩
        have A7c:=A7b.2
        have h3:=SM.B9 h2
        rw [<-YW] at A7c h3
        refine CP hm y A7c h3 fun pe s2 sc3 h4=>?_
        have Be:∀ {s2:S} {e1:Ext} {sc:List Du},(m6 P fn.results.toList s2 e1).wp P sc (fun r _=>R r.1 r.2)->∃q,FC P { s2 with ext:=e1 } fn.results.toList=some q/\R (.ret q) e1:=by
         intro s2 e1 sc h
         unfold m6 at h
         split at h
         ·rename_i q hq; exact ⟨q,hq,SM.wp_ret h⟩
         ·exact h.elim
        have fin:∀ {m m':PM} {e1:Ext},EG P Fi (first++cap) s2.ext m (fun m1 yN=>m1=m'/\yN=e1)->(∃q,FC P { s2 with ext:=e1 } fn.results.toList=some q/\R (.ret q) e1)->EG P Fi (first++cap) s2.ext m fun m1 yN=>m1=m'/\∃q,FC P { s2 with ext:=yN } fn.results.toList=some q/\R (.ret q) yN:=by
         intro m m' e1 k2 hq vs g l w u ha he hu
         refine (k2 vs g l w u ha he hu).mono ?_
         rintro en u' w' ⟨v,m2,e2,g',l',k3,⟨k4,k5⟩,k6⟩
         exact ⟨v,m2,e2,g',l',k3,⟨k4,by rw [k5]; exact hq⟩,k6⟩
        cases pe with
        | panic p=>
         obtain ⟨m',e1,sc4,h5,-,h6⟩:=Rc (SM.B9 h4)
         split at h5
         ·rename_i e2 heq
          injection heq with e3 e4
          subst e3 e4
          exact fin h6 (Be h5)
         ·exact h5.elim
        | exit i=>exact h4.elim
        | normal=>
         obtain ⟨m',e1,sc4,h5,-,h6⟩:=Rc (SM.B9 h4)
         split at h5
         ·rename_i e2 heq
          injection heq with e3 e4
          subst e3 e4
          exact fin h6 (Be h5)
         ·exact h5.elim
        | ret=>
         obtain ⟨m',e1,sc4,h5,-,h6⟩:=Rc (SM.B9 h4)
         split at h5
         ·rename_i e2 heq
          injection heq with e3 e4
          subst e3 e4
          exact fin h6 (Be h5)
         ·exact h5.elim
       ·exact h2.elim
      ·exact h2.elim
    ·exact h.elim
  ·exact h.elim
theorem Ob.z0(md:Md)(fl:Nat)(sc:Ext->List Du){r:Ct}{C4:Ext->List Du}{l:Ext->List Ob}(hm:P.follows .mixedOrders=true)(hf:P.funcs[f]?=some fn)(EA:(FQ P f&&KW fn)=true)(h:∀e,Ud P md fl fn args e (sc e) = .ok (r,e) (C4 e) (l e))(hl:∀e,RI P (l e)):(Ob.Rb f args r).ok P:=by
 simp only [Bool.and_eq_true] at EA
 refine ⟨EA.1,fun e=>Oi hm hf EA.2 (sc:=sc e) (md:=md) (fl:=fl) ?_⟩
 unfold SM.wp
 rw [h e]
 exact ⟨hl e,rfl,rfl⟩
theorem Ob.z4(md:Md)(fl:Nat)(sc:List Du){r:Ct}{e':Ext}{C4:List Du}{l:List Ob}(hm:P.follows .mixedOrders=true)(hf:P.funcs[f]?=some fn)(EA:(FQ P f&&KW fn)=true)(h:Ud P md fl fn args e sc = .ok (r,e') C4 l)(hl:RI P l):(Ob.Eh f args e r e').ok P:=by
 simp only [Bool.and_eq_true] at EA
 refine ⟨EA.1,Oi hm hf EA.2 (sc:=sc) (md:=md) (fl:=fl) ?_⟩
 unfold SM.wp
 rw [h]
 exact ⟨hl,rfl,rfl⟩
end
theorem B0{x:Bool}(h:x=false):(!x)=true:=by rw [h]; rfl
theorem AI{x:Bool}(h:x=true):(!x)=false:=by rw [h]; rfl
theorem dT{p:Prop} [Decidable p] (h:p):decide p=true:=decide_eq_true h
theorem dF{p:Prop} [Decidable p] (h:¬p):decide p=false:=decide_eq_false h
theorem WY{x:Int}(h1 : -9223372036854775808<=x)(h2:x<=9223372036854775807):IntKind.i64.wrap x=x:=by
 simp only [IntKind.wrap,IntKind.bits,IntKind.signed]
 simp
 omega
theorem wrap64{x:Int}(h1 : -9223372036854775808<=x)(h2:x<=9223372036854775807):LV.v (.int .i64 (IntKind.i64.wrap x))=LV.v (.int .i64 x):=by rw [WY h1 h2]
theorem Zj{a b:ByteArray}(h:a.toList=b.toList):a=b:=by
 rw [ByteArray.toList_eq,ByteArray.toList_eq] at h
 cases a; cases b
 congr
 exact Array.toList_inj.1 h
theorem BI{a b:ByteArray}(h:a=b):(a.toList==b.toList)=true:=by rw [h]; simp
theorem Bp{a b:ByteArray}(h:¬a=b):(a.toList==b.toList)=false:=by
 simp only [beq_eq_false_iff_ne,ne_eq]
 exact fun e=>h (Zj e)
theorem C7.forget{P:Program}{f:FuncId}{args:List PV}{res:Ct}{e1:Ext}(ha:EH args=true)(hr:res.I4=true)(h:C7 P f args [] fun r e=>r=res/\e=e1)(e:Ext):C7 P f args e fun r e'=>r=res/\e'=e:=by
 intro vs g l w J1 EE
 let g2:Gh:=⟨g.M,fun _=>none,fun _ _=>none⟩
 let l2:LG:=⟨fun _=>none,fun _=>none,fun _=>none⟩
 have h1:AG g2 w args vs:=⟨J1.1,fun j hj Cu=>BN.names (g:=g) rfl (F3 ha j hj) (J1.2 j hj Cu)⟩
 have h2:Tq [] g2 l2 w:={ ex:=fun x cs hx=>(by simp [lk] at hx),R2:=fun b o ho=>(by cases ho),uo:=fun p b hb=>(by cases hb),fresh:=⟨EE.fresh.1,fun _ _=>rfl,fun _ _ _=>rfl⟩,GH:=fun n b hb=>(by cases hb),only:=fun b o ho=>(by cases ho),Kf:=EE.Kf.names rfl }
 refine (h vs g2 l2 w h1 h2).mono ?_
 rintro en w' ⟨r,e2,g',l',⟨rfl,rfl⟩,Be,Sj,PX,Bk,WG,R3,os,tape,output⟩
 have PF:∀b o,l'.O b=some o->w.heap.size<=b:=fun b o ho=>by
  rcases R3 b o ho with h | h
  ·exact h
  ·cases h
 let g3:Gh:=⟨g'.M,g.X,g.Y⟩
 have Hq:∀b,b<w.heap.size->w'.heap[b]?=w.heap[b]?/\g'.M b=g.M b:=fun b hb=>WG b hb rfl
 have YT:C3 g w g3 w':=⟨fun n b hb=>hb,fun b o v hc hf=>by
   obtain ⟨k1,k2⟩:=PX.cell b o v hc (fun k hk=>hf k hk)
   exact ⟨k1,fun k hk=>k2 k hk⟩,fun b cur t hb=>PX.len b cur t hb,fun _ _ _ h=>h⟩
 refine ⟨r,e,g3,l,⟨rfl,rfl⟩,?_,?_,YT,Bk,fun b hb _=>Hq b hb,fun b o ho => .inr (by rw [ho]; rfl),os,tape,output⟩
 ·cases r with
  | ret p=>
   cases en <;> first | exact Be.elim | skip
   exact BN.names (g:=g') rfl hr Be
  | own te z es=>
   cases en <;> first | exact Be.elim | skip
   obtain ⟨Lv,Be⟩:=Be
   refine ⟨Lv,?_⟩
   rcases Be with (h | ⟨a,h,h'⟩) | ⟨b,cap,cur,k1,k2,k3,k4,k5,k6,k7,k8⟩
   ·exact .inl (.inl h)
   ·exact .inl (.inr ⟨a,h,BN.names (g:=g') rfl (by simpa [PV.I4,Ct.I4] using hr) h'⟩)
   ·have hb:w.heap.size<=b:=by
     rcases k2 with h | h
     ·exact h
     ·cases h
    refine .inr ⟨b,cap,cur,k1,.inl hb,k3,?_,k5,k6,k7,BN.names (g:=g') rfl (by simpa [PV.I4,Ct.I4] using hr) k8⟩
    cases GZ:l.O b with
    | none=>rfl
    | some o=>exact absurd (EE.R2 b o GZ) oM
  | panic p=>
   cases en <;> first | exact Be.elim | skip
   obtain ⟨v,hv,xU⟩:=Be
   exact ⟨v,hv,BN.names (g:=g') rfl hr xU⟩
 ·refine ⟨fun x cs hx=>?_,fun b o ho=>Nat.lt_of_lt_of_le (EE.R2 b o ho) Bk,EE.uo,⟨Sj.fresh.1,EE.fresh.2⟩,fun n b hb=>Nat.lt_of_lt_of_le (EE.GH n b hb) Bk,EE.only,EE.Kf.mono YT⟩
  obtain ⟨b,k1,k2,hE⟩:=EE.ex x cs hx
  have hb:=Hq b (EE.R2 b _ k2)
  refine ⟨b,k1.mono YT,k2,?_⟩
  rcases hE with ⟨k3,cur,t,k4,k5,k6⟩ | hE
  rotate_left
  ·exact .inr (hE.BR YT (fun _ _ _ h=>h) hb.2 hb.1)
  refine .inl ⟨hb.2.trans k3,cur,t,hb.1.trans k4,k5,fun j hj=>⟨(k6 j hj).1,(k6 j hj).2.1,?_⟩⟩
  refine (k6 j hj).2.2.BR YT (fun _ _ _=>rfl) fun b' GZ=>?_
  have Ac:=EE.R2 b' _ (EE.uo _ _ GZ)
  exact ⟨GZ,(Hq b' Ac).2,(Hq b' Ac).1⟩
theorem Ob.Dr{P:Program}{f:FuncId}{args:List PV}{r:Ct}{e':Ext}(ha:EH args=true)(hr:r.I4=true)(h:(Ob.Eh f args [] r e').ok P):(Ob.Rb f args r).ok P:=⟨h.1,fun e=>C7.forget ha hr h.2 e⟩
theorem Ob.GM{P:Program}(md:FuncId->Md)(fl d:Nat){f:FuncId}{args:List PV}{r:Ct}(hm:P.follows .mixedOrders=true)(h:((Ue P md fl d).1 f args []).map Prod.fst=some r)(ha:EH args=true)(hr:r.I4=true):(Ob.Rb f args r).ok P:=by
 have:=(Oj (P:=P) (md:=md) (fl:=fl) hm d).1
 cases he:(Ue P md fl d).1 f args [] with
 | none=>rw [he] at h; cases h
 | some x=>
  obtain ⟨r1,e1⟩:=x
  rw [he] at h
  injection h with h
  subst h
  obtain ⟨h1,h2⟩:=this f args [] _ _ he
  exact Ob.Dr ha hr ⟨h1,h2⟩
theorem Afu{P:Program}{x y:LV}(h:x=y):(Ob.eqv x y).ok P:=h
theorem Ok{P:Program}{x y:Bool}(h:x=y):(Ob.bit x y).ok P:=h
theorem JQ{b:Bool}(h:¬b=false):b=true:=by cases b <;> simp_all
theorem Db{b:Bool}(h:¬b=true):b=false:=by cases b <;> simp_all
theorem beT{a b:Int}(h:a=b):(a==b)=true:=by simp [h]
theorem beF{a b:Int}(h:¬a=b):(a==b)=false:=by simp [h]
theorem Afv{a b:Int}(h:¬a=b):(a != b)=true:=by simp [h]
theorem Afw{a b:Int}(h:a=b):(a != b)=false:=by simp [h]
theorem WL.r{v:LV}:WL v v := .inl rfl
inductive Wk:PV->PV->Prop
 | r (p:PV):Wk p p
 | n (z:Nat):Wk .A2 (.sl z [])
 | op (p:PV):Wk (.Tx p) p
 | qo (p:PV) (h:p.one=true):Wk p (.Tx p)
 | im (t:TypeId) (f:Nat) (p:PV):Wk (.iface t p) (.Wi t f p)
 | agg {a b:List PV} (h1:a.length=b.length) (h:∀j (h:j<a.length) (h':j<b.length),Wk a[j] b[j]):Wk (.agg a) (.agg b)
 | Bf {a b:List PV} (h1:a.length=b.length) (h:∀j (h:j<a.length) (h':j<b.length),Wk a[j] b[j]):Wk (.Bf a) (.Bf b)
 | ro {a b:List PV} {o:Nat} (h1:a.length=b.length) (h:∀j (h:j<a.length) (h':j<b.length),Wk a[j] b[j]):Wk (.ro a o) (.ro b o)
 | sl {z:Nat} {a b:List (List PV)} (h1:a.length=b.length) (h2:∀i (h:i<a.length) (h':i<b.length),a[i].length=b[i].length)
   (h:∀i (h:i<a.length) (h':i<b.length) j (k:j<a[i].length) (k':j<b[i].length),Wk a[i][j] b[i][j]):Wk (.sl z a) (.sl z b)
theorem Wk.rep{p q:PV}(h:Wk p q){g:Gh}{w:World}:∀ {v:Value},BN g w p v->BN g w q v:=by
 induction h with
 | r p=>exact fun h=>h
 | n z=>intro v h; cases h; exact .slnil z
 | op p=>
  intro v h
  cases h with
  | Tx _ _ _ h=>exact h
 | qo p h1=>exact fun h => .Tx _ _ (h.one h1) h
 | im t f p=>
  intro v h
  cases h with
  | iface _ _ v h=>exact .Wi _ _ _ v h
 | agg h1 h ih=>
  intro v hr
  cases hr with
  | agg _ vs k1 ko k=>exact .agg _ vs (h1 ▸ k1) ko fun j hj Cu=>ih j (by rw [h1]; exact hj) hj (k j (by rw [h1]; exact hj) Cu)
 | Bf h1 h ih=>
  intro v hr
  cases hr with
  | Bf _ vs k1 k=>exact .Bf _ vs (h1 ▸ k1) fun j hj Cu=>ih j (by rw [h1]; exact hj) hj (k j (by rw [h1]; exact hj) Cu)
 | ro h1 h ih=>
  intro v hr
  cases hr with
  | ro _ off b o vs hc hf ho k=>exact .ro _ _ b o vs (fun j hj=>hc j (by rw [h1]; exact hj)) (fun j hj=>hf j (by rw [h1]; exact hj)) (fun j hj=>ho j (by rw [h1]; exact hj)) fun j hj=>ih j (by rw [h1]; exact hj) hj (k j (by rw [h1]; exact hj))
 | @sl z a b h1 h2 h ih=>
  intro v hr
  cases hr with
  | slnil _=>
   have:b=[]:=List.eq_nil_of_length_eq_zero h1.symm
   subst this
   exact .slnil z
  | sl _ _ ad cap vs hle Dv Bk hc hf ho k=>
   rw [h1] at hle ⊢
   exact .sl z b ad cap vs hle Dv (fun i hi=>by rw [<-h2 i (by rw [h1]; exact hi) hi]; exact Bk i (by rw [h1]; exact hi)) (fun i j hi hj=>hc i j (by rw [h1]; exact hi) hj) (fun i j hi hj=>hf i j (by rw [h1]; exact hi) hj) (fun i j hi hj=>ho i j (by rw [h1]; exact hi) hj)
    fun i j hi hj=>ih i (by rw [h1]; exact hi) hi j (by rw [h2 i (by rw [h1]; exact hi) hi]; exact hj) hj (k i j (by rw [h1]; exact hi) (by rw [h2 i (by rw [h1]; exact hi) hi]; exact hj))
def Co(a b:List PV):Prop:=a.length=b.length/\∀j (h:j<a.length) (h':j<b.length),Wk a[j] b[j]
theorem Co.r(a:List PV):Co a a:=⟨rfl,fun _ _ _ => .r _⟩
theorem Co.c{x y:PV}{a b:List PV}(h:Wk x y)(hs:Co a b):Co (x::a) (y::b):=by
 refine ⟨by simp [hs.1],fun j hj Cu=>?_⟩
 cases j with
 | zero=>exact h
 | succ j=>exact hs.2 j (by simpa using hj) (by simpa using Cu)
theorem Wk.a{a b:List PV}(h:Co a b):Wk (.agg a) (.agg b) := .agg h.1 h.2
theorem Wk.t{a b:List PV}(h:Co a b):Wk (.Bf a) (.Bf b) := .Bf h.1 h.2
def LU(a b:List (List PV)):Prop:=a.length=b.length/\∀i (h:i<a.length) (h':i<b.length),Co a[i] b[i]
theorem LU.r(a:List (List PV)):LU a a:=⟨rfl,fun _ _ _ => .r _⟩
theorem LU.c{x y:List PV}{a b:List (List PV)}(h:Co x y)(hs:LU a b):LU (x::a) (y::b):=by
 refine ⟨by simp [hs.1],fun j hj Cu=>?_⟩
 cases j with
 | zero=>exact h
 | succ j=>exact hs.2 j (by simpa using hj) (by simpa using Cu)
theorem Wk.s{z:Nat}{a b:List (List PV)}(h:LU a b):Wk (.sl z a) (.sl z b) := .sl h.1 (fun i hi PB=>(h.2 i hi PB).1) fun i hi PB=>(h.2 i hi PB).2
theorem C7.wk{P:Program}{f:FuncId}{args:List PV}{e e':Ext}{p q:PV}(hw:Wk p q)(h:C7 P f args e fun r1 e1=>r1 = .ret p/\e1=e'):C7 P f args e fun r1 e1=>r1 = .ret q/\e1=e':=fun vs g l w ha he=>
 (h vs g l w ha he).mono fun en w' ⟨res,e2,g',l',⟨h1,h2⟩,h3,h4⟩=>by
  subst h1 h2
  refine ⟨.ret q,e2,g',l',⟨rfl,rfl⟩,?_,h4⟩
  cases en <;> first | exact h3.elim | exact hw.rep h3
theorem Ob.Ej{P:Program}{f:FuncId}{args:List PV}{p q:PV}(hw:Wk p q)(h:(Ob.Rb f args (.ret p)).ok P):(Ob.Rb f args (.ret q)).ok P:=⟨h.1,fun e=>(h.2 e).wk hw⟩
theorem Co.z5{a b:List PV}(h:Co a b){g:Gh}{w:World}{vs:List Value}(hr:AG g w a vs):AG g w b vs:=⟨h.1 ▸ hr.1,fun j hj Cu=>(h.2 j (by rw [h.1]; exact hj) hj).rep (hr.2 j (by rw [h.1]; exact hj) Cu)⟩
theorem Ob.JE{P:Program}{f:FuncId}{a b:List PV}{r:Ct}(hw:Co a b)(h:(Ob.Rb f b r).ok P):(Ob.Rb f a r).ok P:=⟨h.1,fun e vs g l w ha he=>h.2 e vs g l w (hw.z5 ha) he⟩
abbrev aT:Du := .bit true
abbrev aF:Du := .bit false
abbrev aI(x:Int):Du := .p7 (.v (.int .i64 x))
abbrev aR(cs:List PV):Du := .p7 (.v (.ro cs 0))
abbrev oT(p:Prop) [Decidable p]:Ob := .bit (decide p) true
abbrev oF(p:Prop) [Decidable p]:Ob := .bit (decide p) false
abbrev oE(x y:Int):Ob := .eqv (.v (.int .i64 x)) (.v (.int .i64 y))
abbrev oR(x y:List PV):Ob := .eqv (.v (.ro x 0)) (.v (.ro y 0))
abbrev oB(x:Bool):Ob := .bit x true
abbrev oC(x:Bool):Ob := .bit x false
theorem pT{P:Program}{p:Prop} [Decidable p] (h:p):(oT p).ok P:=Ok (dT h)
theorem pF{P:Program}{p:Prop} [Decidable p] (h:¬p):(oF p).ok P:=Ok (dF h)
abbrev pI(x:Int):PV := .int .i64 x
abbrev A6(x:Int):LV := .v (.int .i64 x)
abbrev vS(x:ByteArray):LV := .v (.str x)
abbrev vL(n:Nat)(x:List (List PV)):LV := .v (.sl n x)
abbrev rA(x:List PV):Ct := .ret (.agg x)
abbrev rI(x:Int):Ct := .ret (.int .i64 x)
abbrev rB(x:Bool):Ct := .ret (.bool x)
theorem W{v:LV}:WL v v:=WL.r
theorem Ws{l:List LV}:Fg l l:=Fg.refl l
abbrev jk:LV := .DN
structure Ds (P:Program) where
 a:List Du
 o:List Ob
 h:RI P o
section
variable {P:Program}
def Tt:List (Ds P)->List Du
 | []=>[]
 | s::r=>s.a++Tt r
def jV:List (Ds P)->List Ob
 | []=>[]
 | s::r=>s.o++jV r
theorem Ri:∀ {a b:List Ob},RI P a->RI P b->RI P (a++b)
 | [],_,_,hb=>hb
 | _::_,_,ha,hb=>⟨ha.1,Ri ha.2 hb⟩
theorem pM:∀L:List (Ds P),RI P (jV L)
 | []=>trivial
 | s::r=>Ri s.h (pM r)
def s1(a:List Du){o:Ob}(h:o.ok P):Ds P:=⟨a,[o],⟨h,B7⟩⟩
def bt(b:Bool)(h:b=true:=by rfl):Ds P:=s1 [.bit true] (o := .bit b true) h
def bf(b:Bool)(h:b=false:=by rfl):Ds P:=s1 [.bit false] (o := .bit b false) h
def dt(p:Prop) [Decidable p] (h:p:=by omega):Ds P:=s1 [.bit true] (o := .bit (decide p) true) (decide_eq_true h)
def df(p:Prop) [Decidable p] (h:¬p:=by omega):Ds P:=s1 [.bit false] (o := .bit (decide p) false) (decide_eq_false h)
def et(x y:Int)(h:x=y:=by omega):Ds P:=s1 [.bit true] (o := .bit (x==y) true) (beT h)
def en(x y:Int)(h:¬x=y:=by omega):Ds P:=s1 [.bit false] (o := .bit (x==y) false) (beF h)
def nt(x y:Int)(h:¬x=y:=by omega):Ds P:=s1 [.bit true] (o := .bit (x != y) true) (Afv h)
def nn(x y:Int)(h:x=y:=by omega):Ds P:=s1 [.bit false] (o := .bit (x != y) false) (Afw h)
def am(p:Prop) [Decidable p] (h:p:=by omega):Ds P:=s1 [] (o := .bit (decide p) true) (decide_eq_true h)
def ab(b:Bool)(h:b=true:=by rfl):Ds P:=s1 [] (o := .bit b true) h
def av(x y:LV)(h:x=y:=by rfl):Ds P:=s1 [.p7 y] (o := .eqv x y) h
def ai(x y:Int)(h:LV.v (.int .i64 x)=LV.v (.int .i64 y):=by rfl):Ds P:=s1 [.p7 (.v (.int .i64 y))] (o := .eqv (.v (.int .i64 x)) (.v (.int .i64 y))) h
def ar(x y:List PV)(h:LV.v (.ro x 0)=LV.v (.ro y 0):=by rfl):Ds P:=s1 [.p7 (.v (.ro y 0))] (o := .eqv (.v (.ro x 0)) (.v (.ro y 0))) h
def wr(x:Int)(h1 : -9223372036854775808<=x:=by omega)(h2:x<=9223372036854775807:=by omega):Ds P:=s1 [.p7 (.v (.int .i64 x))] (o := .eqv (.v (.int .i64 (IntKind.i64.wrap x))) (.v (.int .i64 x))) (wrap64 h1 h2)
def sl{c:List (List PV)}{n:Nat}(h:c.length=n):Ds P:=s1 [.p7 (.v (.int .i64 n))] (o := .eqv (.v (.int .i64 c.length)) (.v (.int .i64 n))) (by rw [h]; rfl)
def kp:Ds P:=⟨[.BR],[],B7⟩
def rp:Nat->Ds P->Ds P
 | 0,_=>⟨[],[],B7⟩
 | n+1,s=>⟨s.a++(rp n s).a,s.o++(rp n s).o,Ri s.h (rp n s).h⟩
def ur:Ds P:=⟨[.YY],[],B7⟩
def cl{f:FuncId}{args:List PV}{r:Ct}(h:(Ob.Rb f args r).ok P):Ds P:=s1 [.Rb r] h
def ce{f:FuncId}{args:List PV}{e:Ext}{r:Ct}{e':Ext}(h:(Ob.Eh f args e r e').ok P):Ds P:=s1 [.Eh r e'] h
def cd{f:FuncId}{args:List PV}{e:Ext}{m m':PM}{e':Ext}(h:(Ob.P1 f args e m m' e').ok P):Ds P:=s1 [.P1 m' e'] h
def mg:Ds P:=⟨[.mrg],[],B7⟩
def lf{n:Nat}{c:Code}{s0:S}{pe:A4}{t:S}(s:S)(h:(Ob.ES n c s0 pe t).ok P)(hle:No s0 s):Ds P:=⟨[.loop s0 pe t],[.le s0 s,.ES n c s0 pe t],⟨hle,h,B7⟩⟩
def lp{n:Nat}{c:Code}{s0:S}{pe:A4}{t:S}(s:S)(h:(Ob.loop n c s0 pe t).ok P)(hle:No s0 s):Ds P:=⟨[.loop s0 pe t],[.le s0 s,.loop n c s0 pe t],⟨hle,h,B7⟩⟩
abbrev BA:Type:=ByteArray
def AV{b:Bool}(h:b=true):Ds P:=bt b h
def AM{b:Bool}(h:b=false):Ds P:=bf b h
def BL{p:Prop} [Decidable p] (h:p):Ds P:=dt p h
def Ar{p:Prop} [Decidable p] (h:¬p):Ds P:=df p h
def Bb{x y:Int}(h:x=y):Ds P:=et x y h
def Ay{x y:Int}(h:¬x=y):Ds P:=en x y h
def Bi{x y:Int}(h:¬x=y):Ds P:=nt x y h
def B1{x y:Int}(h:x=y):Ds P:=nn x y h
def am1{p:Prop} [Decidable p] (h:p):Ds P:=am p h
def ab1{b:Bool}(h:b=true):Ds P:=ab b h
theorem xr{A B:S}(h:No A B:=by (refine ⟨?_,?_,rfl⟩ <;> repeat' first | exact trivial | exact WL.r | exact Fg.refl _ | constructor)):No A B:=h
def WZ{β:Type}:List (Nat × β)->List Nat->Bool
 | [],_=>true
 | x::r,q=>!q.contains x.1&&WZ r (x.1::q)
theorem Uf{β:Type}{k:Nat}{v:β}:∀ (p r:List (Nat × β)),(∀x,x∈p->¬x.1=k)->lk (p++(k,v)::r) k=some v
 | [],r,_=>by simp [lk]
 | (a,b)::p,r,h=>by
  have h1:=h (a,b) List.mem_cons_self
  simp only at h1
  rw [List.cons_append,lk,iN h1]
  exact Uf p r fun x hx=>h x (List.mem_cons_of_mem _ hx)
theorem TC.sf:∀ (r p:List (Nat × LV)) (q:List Nat),(∀x,x∈p->x.1∈q)->WZ r q=true->TC r (p++r)
 | [],_,_,_,_=>trivial
 | (k,v)::r,p,q,hp,h=>by
  simp only [WZ,Bool.and_eq_true,Bool.not_eq_true',List.contains_eq_mem,decide_eq_false_iff_not] at h
  refine ⟨?_,?_⟩
  ·rw [Uf p r fun x hx e=>h.1 (by rw [<-e]; exact hp x hx)]
   exact WL.r
  ·have:=TC.sf r (p++[(k,v)]) (k::q) (fun x hx=>by
    rcases List.mem_append.1 hx with hx | hx
    ·exact List.mem_cons_of_mem _ (hp x hx)
    ·rw [List.mem_singleton.1 hx]; exact List.mem_cons_self) h.2
   rwa [List.append_assoc] at this
theorem TD.sf:∀ (r p:List (Nat × List LV)) (q:List Nat),(∀x,x∈p->x.1∈q)->WZ r q=true->TD r (p++r)
 | [],_,_,_,_=>trivial
 | (k,v)::r,p,q,hp,h=>by
  simp only [WZ,Bool.and_eq_true,Bool.not_eq_true',List.contains_eq_mem,decide_eq_false_iff_not] at h
  refine ⟨?_,?_⟩
  ·rw [Uf p r fun x hx e=>h.1 (by rw [<-e]; exact hp x hx)]
   exact Fg.refl _
  ·have:=TD.sf r (p++[(k,v)]) (k::q) (fun x hx=>by
    rcases List.mem_append.1 hx with hx | hx
    ·exact List.mem_cons_of_mem _ (hp x hx)
    ·rw [List.mem_singleton.1 hx]; exact List.mem_cons_self) h.2
   rwa [List.append_assoc] at this
theorem xq{s:S}(h:(WZ s.tmps []&&WZ s.boxes [])=true):No s s:=by
 rw [Bool.and_eq_true] at h
 exact ⟨TC.sf _ [] [] (fun _ h=>by cases h) h.1,TD.sf _ [] [] (fun _ h=>by cases h) h.2,rfl⟩
def lg{n:Nat}{c:Code}{s0:S}{pe:A4}{t:S}(h:(Ob.ES n c s0 pe t).ok P)(hk:(WZ s0.tmps []&&WZ s0.boxes [])=true:=by rfl):Ds P:=lf s0 h (xq hk)
def lq{n:Nat}{c:Code}{s0:S}{pe:A4}{t:S}(h:(Ob.loop n c s0 pe t).ok P)(hk:(WZ s0.tmps []&&WZ s0.boxes [])=true:=by rfl):Ds P:=lp s0 h (xq hk)
theorem kR{p:Prop}(h:p:=by kernel_rfl):p:=h
structure C5 where (a b c d e:PV)
theorem oq{P:Program}{x y:Int}(h:¬x=y:=by omega):(Ob.bit (x==y) false).ok P:=Ok (beF h)
end
end Go.Pv
