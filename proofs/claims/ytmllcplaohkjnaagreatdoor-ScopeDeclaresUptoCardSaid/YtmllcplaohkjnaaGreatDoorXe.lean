/- Values of Go as plain data, an evaluator over them, and what the functions of the program return; part Xe. -/
import Derived.Test.YtmllcplaohkjnaaGreatDoorXd
import Derived.Test.YtmllcplaohkjnaaGreatDoorXf
import Derived.Laws.Strings
set_option linter.unusedVariables false
set_option linter.unusedSimpArgs false
set_option linter.unusedSectionVars false
namespace Go.Pv
open Go.RowKit
def Ol(t s:S):Prop:=eP t.tmps s.tmps/\eR t.boxes s.boxes/\t.ext=s.ext
theorem Bc.eZ{cx:Cx}{s t:S}{g:Gh}{l:LG}{a:Act}{w:World}(h:Bc cx s g l a w)(hl:Ol t s):Bc cx t g l a w where
 AM:=h.AM
 size:=h.size
 defers:=h.defers
 tm k v hk:=let ⟨_,hu,hw⟩:=hl.1.at_ hk; hw.rep (h.tm k _ hu)
 bx k v hk:=by
  obtain ⟨u,hu,hw⟩:=hl.2.1.at_ hk
  obtain ⟨b,h1,h2,h3⟩:=h.bx k u hu
  exact ⟨b,h1,h2,h3.le hw⟩
 ex k v hk:=h.ex k v (by rw [<-hl.2.2]; exact hk)
 own:=h.own
 uo:=h.uo
 fresh:=⟨h.fresh.1,fun n hn=>h.fresh.2.1 n (by rw [<-hl.2.2]; exact hn),fun n c hn=>h.fresh.2.2 n c (by rw [<-hl.2.2]; exact hn)⟩
 Gg:=h.Gg
theorem PW.eZ{P:Program}{cx:Cx}{s:S}{Q:A7->S->Prop}{c:Code}{t:S}(hl:Ol t s)(h:PW P cx c t Q):PW P cx c s Q:=fun g l a w hs=>h g l a w (hs.eZ hl)
inductive Ca where
 | Jt (r:Cd)
 | DT (r:Cd) (e:Ext)
 | bit (v:Bool)
 | BK
 | RL (lv:LV)
 | loop (s0:S) (pe:A7) (s1:S)
 | Yw
 | O4 (m:PM) (e:Ext)
 | mrg
inductive Ob where
 | Jt (f:FuncId) (args:List PV) (r:Cd)
 | DT (f:FuncId) (args:List PV) (e:Ext) (r:Cd) (e':Ext)
 | O4 (f:FuncId) (args:List PV) (e:Ext) (m m':PM) (e':Ext)
 | bit (b v:Bool)
 | eqv (x y:LV)
 | loop (n:Nat) (c:Code) (s0:S) (pe:A7) (s1:S)
 | le (s0 s:S)
 | F9 (n:Nat) (c:Code) (s0:S) (pe:A7) (s1:S)
def Ob.ok(P:Program):Ob->Prop
 | .Jt f args r=>Fl P f=true/\∀e,BX P f args e fun r1 e1=>r1=r/\e1=e
 | .DT f args e r e'=>Fl P f=true/\BX P f args e fun r1 e1=>r1=r/\e1=e'
 | .O4 f args e m m' e'=>Fl P f=true/\EB P f args e m fun m1 e1=>m1=m'/\e1=e'
 | .bit b v=>b=v
 | .eqv x y=>x=y
 | .loop n c s0 pe s1=>∀cx:Cx,cx.n=n->PW P cx (.loop c) s0 fun Yx s'=>Yx=pe/\s'=s1
 | .le s0 s=>Ol s0 s
 | .F9 n c s0 pe s1=>∀cx:Cx,cx.n=n->PW P cx c s0 fun Yx s'=>Yx=pe/\s'=s1
def QZ(P:Program):List Ob->Prop
 | []=>True
 | o::r=>o.ok P/\QZ P r
theorem QZ.app{P:Program}:∀ {l m:List Ob},QZ P (l++m)->QZ P l/\QZ P m
 | [],_,h=>⟨trivial,h⟩
 | _::_,_,h=>⟨⟨h.1,(QZ.app h.2).1⟩,(QZ.app h.2).2⟩
inductive A7a where
 | bad (k:Nat)
 | call (f:FuncId) (args:List PV) (e:Ext)
 | test (b:Bool)
 | val (lv:LV)
 | loop (n:Nat) (c:Code) (s:S)
 | O4 (f:FuncId) (args:List PV) (e:Ext) (m:PM)
 | at_ (k:Nat) (o:Oper) (s:S)
inductive SR (α:Type) where
 | ok (a:α) (sc:List Ca) (l:List Ob)
 | no (n:A7a)
abbrev SM(α:Type):=List Ca->SR α
section
variable {α β:Type} {P:Program}
def SM.ret(a:α):SM α:=fun sc => .ok a sc []
def SM.bad(k:Nat):SM α:=fun _ => .no (.bad k)
def SM.Fw(m:SM α)(f:α->SM β):SM β:=fun sc=>match m sc with
 | .ok a C6 l=>match f a C6 with
  | .ok b Xi l2 => .ok b Xi (l++l2)
  | .no n => .no n
 | .no n => .no n
def SR.wp(P:Program)(K:α->List Ca->Prop):SR α->Prop
 | .ok a C6 l=>QZ P l/\K a C6
 | .no _=>False
def SM.wp(P:Program)(m:SM α)(sc:List Ca)(K:α->List Ca->Prop):Prop:=(m sc).wp P K
theorem SM.wp_ret{a:α}{sc:List Ca}{K:α->List Ca->Prop}(h:(SM.ret a).wp P sc K):K a sc:=h.2
theorem SM.Bf{m:SM α}{f:α->SM β}{sc:List Ca}{K:β->List Ca->Prop}(h:(m.Fw f).wp P sc K):m.wp P sc fun a C6=>(f a).wp P C6 K:=by
 unfold SM.wp SM.Fw at *
 cases hm:m sc with
 | no n=>rw [hm] at h; exact h
 | ok a C6 l=>
  rw [hm] at h
  simp only at h
  cases hf:f a C6 with
  | no n=>rw [hf] at h; exact h.elim
  | ok b Xi l2=>
   rw [hf] at h
   have:=QZ.app h.1
   exact ⟨this.1,by show SR.wp P K (f a C6); rw [hf]; exact ⟨this.2,h.2⟩⟩
def SM.tag(o:Oper)(s:S)(m:SM α):SM α:=fun sc=>match m sc with
 | .ok a C6 l => .ok a C6 l
 | .no (.bad k) => .no (.at_ k o s)
 | .no n => .no n
theorem SM.Yy{o:Oper}{s:S}{m:SM α}{sc:List Ca}{K:α->List Ca->Prop}(h:(SM.tag o s m).wp P sc K):m.wp P sc K:=by
 unfold SM.wp SM.tag at *
 cases hm:m sc with
 | ok a C6 l=>rw [hm] at h; exact h
 | no n=>rw [hm] at h; cases n <;> exact h.elim
def SM.lH(o:Ob)(a:α):SM α:=fun sc => .ok a sc [o]
theorem SM.JS{o:Ob}{a:α}{sc:List Ca}{K:α->List Ca->Prop}(h:(SM.lH o a).wp P sc K):o.ok P/\K a sc:=⟨h.1.1,h.2⟩
def Wt(b:Bool):SM Bool
 | .bit v::sc => .ok v sc [.bit b v]
 | _ => .no (.test b)
theorem Mi{b:Bool}{sc:List Ca}{K:Bool->List Ca->Prop}(h:(Wt b).wp P sc K):∃C6,K b C6:=by
 unfold SM.wp Wt at h
 split at h
 ·rename_i v C6
  have:b=v:=h.1.1
  subst this
  exact ⟨C6,h.2⟩
 ·exact h.elim
def gW(lv:LV):SM LV
 | .BK::sc => .ok lv sc []
 | .RL Xa::sc => .ok Xa sc [.eqv lv Xa]
 | _ => .no (.val lv)
theorem Uz{lv:LV}{sc:List Ca}{K:LV->List Ca->Prop}(h:(gW lv).wp P sc K):∃C6,K lv C6:=by
 unfold SM.wp gW at h
 split at h
 ·exact ⟨_,h.2⟩
 ·have:lv=_:=h.1.1
  subst this
  exact ⟨_,h.2⟩
 ·exact h.elim
def gY(f:FuncId)(args:List PV)(e:Ext):SM (Cd × Ext × Bool)
 | .Jt r::sc => .ok (r,e,true) sc [.Jt f args r]
 | .DT r e'::sc => .ok (r,e',false) sc [.DT f args e r e']
 | _ => .no (.call f args e)
theorem UA{f:FuncId}{args:List PV}{e:Ext}{sc:List Ca}{K:Cd × Ext × Bool->List Ca->Prop}(h:(gY f args e).wp P sc K) :
  ∃r e' pu C6,K (r,e',pu) C6/\Fl P f=true/\BX P f args e (fun r1 e1=>r1=r/\e1=e')/\(pu=true->e'=e/\∀e,BX P f args e fun r1 e1=>r1=r/\e1=e):=by
 unfold SM.wp gY at h
 split at h
 ·obtain ⟨⟨⟨h1,h2⟩,-⟩,h3⟩:=h
  exact ⟨_,_,_,_,h3,h1,h2 e,fun _=>⟨rfl,h2⟩⟩
 ·obtain ⟨⟨⟨h1,h2⟩,-⟩,h3⟩:=h
  exact ⟨_,_,_,_,h3,h1,h2,fun e0=>by cases e0⟩
 ·exact h.elim
def gZ(f:FuncId)(args:List PV)(e:Ext)(m:PM):SM (PM × Ext)
 | .O4 m' e'::sc => .ok (m',e') sc [.O4 f args e m m' e']
 | _ => .no (.O4 f args e m)
theorem Qb{f:FuncId}{args:List PV}{e:Ext}{m:PM}{sc:List Ca}{K:PM × Ext->List Ca->Prop}(h:(gZ f args e m).wp P sc K) :
  ∃m' e' C6,K (m',e') C6/\Fl P f=true/\EB P f args e m fun m1 e1=>m1=m'/\e1=e':=by
 unfold SM.wp gZ at h
 split at h
 ·obtain ⟨⟨⟨h1,h2⟩,-⟩,h3⟩:=h
  exact ⟨_,_,_,h3,h1,h2⟩
 ·exact h.elim
def RM.runM:RM α->S->SM α
 | .ret a,_ => .ret a
 | .fail,_ => .bad 1
 | .Il t k,s=>match lk s.tmps t with
  | some v=>(k v).runM s
  | none => .bad 2
 | .Im i k,s=>match lk s.boxes i with
  | some v=>(k v).runM s
  | none => .bad 3
 | .G3 n k,s=>match lk s.ext n with
  | some v=>(k v).runM s
  | none => .bad 4
 | .assume p k,s=>(SM.lH (.bit p true) ()).Fw fun _=>k.runM s
theorem RM.Ev{s:S}:∀ {r:RM α} {sc:List Ca} {K:α->List Ca->Prop},(r.runM s).wp P sc K->r.wp s fun a=>∃C6,K a C6
 | .ret a,sc,K,h=>⟨sc,h.2⟩
 | .fail,_,_,h=>h.elim
 | .Il t f,sc,K,h=>by
  simp only [RM.runM] at h
  simp only [RM.wp]
  split at h
  ·rename_i v hv; rw [hv]; exact RM.Ev h
  ·exact h.elim
 | .Im t f,sc,K,h=>by
  simp only [RM.runM] at h
  simp only [RM.wp]
  split at h
  ·rename_i v hv; rw [hv]; exact RM.Ev h
  ·exact h.elim
 | .G3 t f,sc,K,h=>by
  simp only [RM.runM] at h
  simp only [RM.wp]
  split at h
  ·rename_i v hv; rw [hv]; exact RM.Ev h
  ·exact h.elim
 | .assume p f,sc,K,h=>by
  simp only [RM.runM] at h
  obtain ⟨h1,h2⟩:=SM.JS (SM.Bf h)
  exact ⟨h1,RM.Ev h2⟩
theorem RM.D7{s:S}:∀ {r:RM α} {K K':α->List Loc->Prop},r.HP s K->(∀x rd,K x rd->K' x rd)->r.HP s K'
 | .ret _,_,_,h,hk=>hk _ _ h
 | .fail,_,_,h,_=>h
 | .Il t k,K,K',h,hk=>by
  simp only [RM.HP] at h ⊢
  split at h
  ·exact RM.D7 h fun x rd hx=>hk _ _ hx
  ·exact h.elim
 | .Im t k,K,K',h,hk=>by
  simp only [RM.HP] at h ⊢
  split at h
  ·exact RM.D7 h fun x rd hx=>hk _ _ hx
  ·exact h.elim
 | .G3 t k,K,K',h,hk=>by
  simp only [RM.HP] at h ⊢
  split at h
  ·exact RM.D7 h fun x rd hx=>hk _ _ hx
  ·exact h.elim
 | .assume p k,K,K',h,hk=>⟨h.1,RM.D7 h.2 hk⟩
def RM.Gn:RM α->S->SM (α × List Loc)
 | .ret a,_ => .ret (a,[])
 | .fail,_ => .bad 5
 | .Il t k,s=>match lk s.tmps t with
  | some v=>((k v).Gn s).Fw fun x => .ret (x.1,.t t::x.2)
  | none => .bad 6
 | .Im i k,s=>match lk s.boxes i with
  | some v=>((k v).Gn s).Fw fun x => .ret (x.1,.b i::x.2)
  | none => .bad 7
 | .G3 n k,s=>match lk s.ext n with
  | some v=>((k v).Gn s).Fw fun x => .ret (x.1,.x n::x.2)
  | none => .bad 8
 | .assume p k,s=>(SM.lH (.bit p true) ()).Fw fun _=>k.Gn s
theorem RM.Eo{s:S}:∀ {r:RM α} {sc:List Ca} {K:α × List Loc->List Ca->Prop},(r.Gn s).wp P sc K->r.HP s fun a rd=>∃C6,K (a,rd) C6
 | .ret a,sc,K,h=>⟨sc,h.2⟩
 | .fail,_,_,h=>h.elim
 | .Il t f,sc,K,h=>by
  simp only [RM.Gn] at h
  simp only [RM.HP]
  split at h
  ·rename_i v hv
   rw [hv]
   exact RM.D7 (RM.Eo (SM.Bf h)) fun a rd ⟨C6,hk⟩=>⟨C6,SM.wp_ret hk⟩
  ·exact h.elim
 | .Im t f,sc,K,h=>by
  simp only [RM.Gn] at h
  simp only [RM.HP]
  split at h
  ·rename_i v hv
   rw [hv]
   exact RM.D7 (RM.Eo (SM.Bf h)) fun a rd ⟨C6,hk⟩=>⟨C6,SM.wp_ret hk⟩
  ·exact h.elim
 | .G3 t f,sc,K,h=>by
  simp only [RM.Gn] at h
  simp only [RM.HP]
  split at h
  ·rename_i v hv
   rw [hv]
   exact RM.D7 (RM.Eo (SM.Bf h)) fun a rd ⟨C6,hk⟩=>⟨C6,SM.wp_ret hk⟩
  ·exact h.elim
 | .assume p f,sc,K,h=>by
  simp only [RM.Gn] at h
  obtain ⟨h1,h2⟩:=SM.JS (SM.Bf h)
  exact ⟨h1,RM.Eo h2⟩
end
def A7b(o:Oper):Bool:=match o.op with
 | .indexAddr _ _ _=>true
 | .binOp .add _ _ _ _=>true
 | .binOp .sub _ _ _ _=>true
 | .binOp .mul _ _ _ _=>true
 | .binOp .quo _ _ _ _=>true
 | .binOp .rem _ _ _ _=>true
 | .unOp .neg _ _=>true
 | .convert _ _ _=>true
 | .call ⟨.builtin .len,_,_⟩=>true
 | .lookup _ _ _ _=>true
 | .index _ _ _=>true
 | .slice _ _ _ _ _=>true
 | _=>false
def reW(o:Oper)(wr:List Wr):SM (List Wr):=if A7b o=true then (match wr with
 | [.tmp d lv]=>(gW lv).Fw fun Xa => .ret [.tmp d Xa]
 | _ => .ret wr) else .ret wr
theorem qM{P:Program}{o:Oper}{wr:List Wr}{sc:List Ca}{K:List Wr->List Ca->Prop}(h:(reW o wr).wp P sc K):∃C6,K wr C6:=by
 unfold reW at h
 split at h
 ·split at h
  ·obtain ⟨C6,h1⟩:=Uz (SM.Bf h)
   exact ⟨C6,SM.wp_ret h1⟩
  ·exact ⟨_,SM.wp_ret h⟩
 ·exact ⟨_,SM.wp_ret h⟩
def lI(n:Nat)(o:Oper)(c x y:Operand)(s:S):SM (List Wr × List Loc):=((Hj c fun p=>RM.ret p).Gn s).Fw fun pr=>match pr.1 with
 | .bool b=>(Wt b).Fw fun v=>match v with
  | true=>((Hj x fun q=>wv n o (.v q)).Gn s).Fw fun w => .ret (w.1,pr.2++w.2)
  | false=>((Hj y fun q=>wv n o (.v q)).Gn s).Fw fun w => .ret (w.1,pr.2++w.2)
 | _ => .bad 9
theorem Wu{α:Type}{c:Operand}{s:S}{k:PV->RM α}{K:α->List Loc->Prop}(h:(Hj c fun p=>RM.ret p).HP s fun p rd1=>(k p).HP s fun a rd2=>K a (rd1++rd2)):(Hj c k).HP s K:=by
 unfold Hj ev at *
 cases c with
 | tmp t=>
  simp only [RM.HP] at h ⊢
  split at h
  ·split at h
   ·exact h
   ·exact h.elim
  ·exact h.elim
 | const c=>
  simp only at h ⊢
  split at h
  ·split at h
   ·exact h
   ·exact h.elim
  ·exact h.elim
 | func f=>
  simp only at h ⊢
  split at h
  ·exact h
  ·exact h.elim
 | global n=>
  simp only at h ⊢
  cases hg:lk yG n with
  | none=>rw [hg] at h; exact h.elim
  | some cs=>rw [hg] at h; exact h
theorem Yz{P:Program}{n:Nat}{o:Oper}{c x y:Operand}{s:S}{sc:List Ca}{K:List Wr × List Loc->List Ca->Prop}(h:(lI n o c x y s).wp P sc K):(Mf n o c x y).HP s fun wr rd=>∃C6,K (wr,rd) C6:=by
 unfold Mf
 refine Wu (RM.D7 (RM.Eo (SM.Bf h)) ?_)
 rintro p rd ⟨Mj,h1⟩
 simp only at h1
 split at h1
 ·rename_i b
  obtain ⟨Xi,h2⟩:=Mi (SM.Bf h1)
  cases b with
  | true=>exact RM.D7 (RM.Eo (SM.Bf h2)) fun a rd2 ⟨sc3,h3⟩=>⟨sc3,SM.wp_ret h3⟩
  | false=>exact RM.D7 (RM.Eo (SM.Bf h2)) fun a rd2 ⟨sc3,h3⟩=>⟨sc3,SM.wp_ret h3⟩
 ·exact h1.elim
def iA(P:Program)(ro:TypeId->Option Bool)(n:Nat)(all:List Oper)(o:Oper)(s:S):SM (List Wr × List Loc):=match o.op with
 | .pick c x y=>lI n o c x y s
 | _=>((act P ro n all o).Gn s).Fw fun x=>(reW o x.1).Fw fun wr => .ret (wr,x.2)
theorem UB{P:Program}{ro:TypeId->Option Bool}{n:Nat}{all:List Oper}{o:Oper}{s:S}{sc:List Ca}{K:List Wr × List Loc->List Ca->Prop}(h:(iA P ro n all o s).wp P sc K):(act P ro n all o).HP s fun wr rd=>∃C6,K (wr,rd) C6:=by
 unfold iA at h
 split at h
 ·rename_i c x y ho
  have:=Yz h
  unfold act
  rw [ho]
  exact this
 ·refine RM.D7 (RM.Eo (SM.Bf h)) ?_
  rintro wr rd ⟨Mj,h1⟩
  obtain ⟨Xi,h2⟩:=qM (SM.Bf h1)
  exact ⟨Xi,SM.wp_ret h2⟩
theorem RM.N7{α:Type}{s:S}:∀ {r:RM α} {K:α->List Loc->Prop},r.HP s K->r.wp s fun a=>∃rd,K a rd
 | .ret _,_,h=>⟨[],h⟩
 | .fail,_,h=>h
 | .Il t k,K,h=>by
  simp only [RM.HP] at h
  simp only [RM.wp]
  split at h
  ·rename_i v hv; rw [hv]; exact RM.wp_mono (fun a ⟨rd,h⟩=>⟨_,h⟩) (RM.N7 h)
  ·exact h.elim
 | .Im t k,K,h=>by
  simp only [RM.HP] at h
  simp only [RM.wp]
  split at h
  ·rename_i v hv; rw [hv]; exact RM.wp_mono (fun a ⟨rd,h⟩=>⟨_,h⟩) (RM.N7 h)
  ·exact h.elim
 | .G3 t k,K,h=>by
  simp only [RM.HP] at h
  simp only [RM.wp]
  split at h
  ·rename_i v hv; rw [hv]; exact RM.wp_mono (fun a ⟨rd,h⟩=>⟨_,h⟩) (RM.N7 h)
  ·exact h.elim
 | .assume p k,K,h=>⟨h.1,RM.N7 h.2⟩
def Wv(P:Program)(ro:TypeId->Option Bool)(n:Nat)(all:List Oper)(o:Oper)(s:S):SM (A7 × S):=(iA P ro n all o s).Fw fun x => .ret (.normal,s.Io x.1)
def lJ(o:Oper)(r:RM (FuncId × List PV))(s:S):SM (A7 × S):=(r.runM s).Fw fun x=>(gY x.1 x.2 s.ext).Fw fun y=>match y with
 | (.ret p,e,_) => .ret (.normal,s.M5 o.dst (.v p) e)
 | (.own te z es,e,_) => .ret (.normal,s.M5 o.dst (.uniq te z es) e)
 | (.panic p,e,_) => .ret (.panic p,{ s with ext:=e })
def iB(n:Nat)(o:Oper)(cs:List PV)(s:S):SM (A7 × S):=match Wm n o cs s with
 | some r => .ret r
 | none => .bad 10
def lK(s:S):Operand->Bool
 | .tmp t=>match lk s.tmps t with
  | some (.v (.M0 _ _ _))=>true
  | _=>false
 | _=>false
def qN(P:Program)(n:Nat)(o:Oper)(ty:TypeId)(x y:Operand)(s:S):SM (A7 × S):=match GC P ty,o.dst with
 | some e,some d=>match KV P e,FP P e,Uh P e with
  | some (m+1),some (B+1),some zs=>if d<n/\zs.length=m+1 then (match m,lK s x,lK s y with
   | 0,true,_=>((A05 x y).runM s).Fw fun r=>SM.lH (.bit (decide ((r.1.2.2.length+r.2.length) * (B+1)<=140737488355328)) true) (.normal,{ s with tmps:=put s.tmps d (.v (.M0 r.1.1 (r.1.2.1+1) (r.1.2.2.length+r.2.length))),ext:=put s.ext r.1.1 [.row (r.1.2.1+1) (r.1.2.2++r.2)] })
   | 0,false,true=>((A07 x y).runM s).Fw fun r=>SM.lH (.bit (decide (r.2.2.length * (B+1)<=140737488355328)) true) (.normal,{ s with tmps:=put s.tmps d (.v (.M0 r.1 (r.2.1+1) r.2.2.length)),ext:=put s.ext r.1 [.row (r.2.1+1) r.2.2] })
   | 0,false,false=>((A08 x y).runM s).Fw fun ks=>SM.lH (.bit (decide (ks.length * (B+1)<=140737488355328)) true) (.normal,{ s with tmps:=put s.tmps d (.v (.M0 (El s.ext) 0 ks.length)),ext:=put s.ext (El s.ext) [.row 0 ks] })
   | m+1,_,_=>((qF e (m+2) x y).runM s).Fw fun ys=>SM.lH (.bit (decide (ys.length * (B+1)<=140737488355328)) true) (.normal,{ s with tmps:=put s.tmps d (.v (.Ue (El s.ext) (m+2) ys.length)),ext:=put s.ext (El s.ext) (ys.flatten.map .v) })) else .bad 11
  | _,_,_ => .bad 12
 | _,_ => .bad 13
def mapM(n:Nat)(o:Oper)(s:S):SM (A7 × S):=match o.dst with
 | some d=>if d<n then .ret (.normal,{ s with tmps:=put s.tmps d (.v (.mp (El s.ext))),ext:=put s.ext (El s.ext) [.mm []] }) else .bad 15
 | none => .bad 16
def iC:LV->Option PV
 | .v q=>some q
 | .uniq e z es=>if e<1000000 then some (.sl z es) else none
 | .full z es=>some (.sl z es)
 | _=>none
def RN:List LV->Option (List PV)
 | []=>some []
 | x::r=>match iC x,RN r with
  | some q,some qs=>some (q::qs)
  | _,_=>none
def RO(i:Nat)(qs:List PV):List (Nat × LV)->List (Nat × LV)
 | []=>[]
 | (k,.lp j off)::r=>(k,if j=i then .v (.ro qs off) else .lp j off)::RO i qs r
 | x::r=>x::RO i qs r
def qO(s:S):Operand->S
 | .tmp t=>match lk s.tmps t with
  | some (.lp i _)=>match lk s.boxes i with
   | some cs=>match RN cs with
    | some qs=>⟨RO i qs s.tmps,del s.boxes i,s.ext⟩
    | none=>s
   | none=>s
  | _=>s
 | _=>s
def qP(s:S):List Operand->S
 | []=>s
 | o::r=>qP (qO s o) r
theorem UC(i:Nat)(qs:List PV):∀ (l:List (Nat × LV)) (t:Nat) (lv:LV),lk (RO i qs l) t=some lv->lk l t=some lv∨∃off,lk l t=some (.lp i off)/\lv = .v (.ro qs off)
 | [],_,_,h=>by cases h
 | (k,x)::r,t,lv,h=>by
  by_cases hk:k=t
  ·cases x
   case lp j off=>
    simp only [RO,lk,iP hk] at h ⊢
    injection h with h
    by_cases hj:j=i
    ·subst hj; rw [iP rfl] at h; exact .inr ⟨off,rfl,h.symm⟩
    ·rw [iN hj] at h; exact .inl (by rw [<-h])
   all_goals (simp only [RO,lk,iP hk] at h ⊢; exact .inl h)
  ·have ih:=UC i qs r t lv
   cases x <;> (simp only [RO,lk,iN hk] at h ⊢; exact ih h)
theorem RP:∀ {cs:List LV} {qs:List PV},RN cs=some qs->qs.length=cs.length
 | [],qs,h=>by simp only [RN] at h; injection h with h; subst h; rfl
 | x::r,qs,h=>by
  simp only [RN] at h
  split at h
  ·rename_i q qs' h1 h2
   injection h with h; subst h
   simp [RP h2]
  ·cases h
theorem UD:∀ {cs:List LV} {qs:List PV},RN cs=some qs->∀j (h:j<cs.length) (h':j<qs.length),iC cs[j]=some qs[j]
 | [],_,_,j,h,_=>absurd h sM
 | x::r,qs,hq,j,h,h'=>by
  simp only [RN] at hq
  split at hq
  ·rename_i q qs' h1 h2
   injection hq with hq; subst hq
   cases j with
   | zero=>exact h1
   | succ j=>exact UD h2 j (by simpa using h) (by simpa using h')
  ·cases hq
theorem YA{g:Gh}{l:LG}{w:World}{p:UL}{x:LV}{q:PV}{v:Value}(h:iC x=some q)(hr:Cm g l w p x v):BO g w q v:=by
 cases x <;> simp only [iC] at h <;> first | (cases h; done) | (injection h with h; subst h) | (split at h; rename_i Ad; injection h with h; subst h; rotate_left; cases h)
 ·exact hr
 ·rename_i e z es; exact WL.rep (p:=p) (l:=l) (t := .v (.sl z es)) (s := .uniq e z es) (.inr ⟨rfl,p9 (by assumption)⟩) hr
 ·rename_i z es; exact WL.rep (p:=p) (l:=l) (t := .v (.sl z es)) (s := .full z es) (.inr ⟨rfl,rfl⟩) hr
theorem Bc.frz{cx:Cx}{s:S}{g:Gh}{l:LG}{a:Act}{w:World}(h:Bc cx s g l a w){i:Nat}{cs:List LV}{qs:List PV}(hb:lk s.boxes i=some cs)(hq:RN cs=some qs) :
  ∃g' l',Bc cx ⟨RO i qs s.tmps,del s.boxes i,s.ext⟩ g' l' a w:=by
 obtain ⟨b,h1,h2,h3,cur,e,h4,h5,h6⟩:=h.bx i cs hb
 let g':Gh:=⟨fun x=>if x=b then none else g.M x,g.X,g.Y⟩
 let l':LG:=⟨l.L,l.U,fun x=>if x=b then none else l.O x⟩
 have hm:Ch g w g' w:=⟨fun _ _ e=>e,fun b' o v hc hf=>⟨hc,fun k hk=>by
  simp only [g'] at hk
  split at hk
  ·cases hk
  ·exact hf k hk⟩,fun _ cur _ h=>⟨cur,h,rfl⟩,fun _ _ _ h=>h⟩
 have hO:∀ {b' o},l.O b'=some o->o ≠ .l i->b'≠b:=fun {b' o} ho Ct e0=>by
  subst e0; rw [h2] at ho; injection ho with ho; exact Ct ho.symm
 have hM:∀ {b'},b'≠b->g'.M b'=g.M b':=fun Ct=>by simp only [g',iN Ct]
 have qQ:∀ {b' o},l.O b'=some o->o ≠ .l i->l'.O b'=some o:=fun ho Ct=>by simp only [l',iN (hO ho Ct)]; exact ho
 have hL:∀ {p lv v},Cm g l w p lv v->Cm g' l' w p lv v:=fun hr=>hr.BK hm (fun _ _ _=>rfl) fun b2 hu=>⟨hu,hM (hO (h.uo _ _ hu) (by intro e0; cases e0)),rfl⟩
 refine ⟨g',l',⟨⟨h.AM.mono.trans hm,h.AM.size,fun b' Ad ho=>?_,h.AM.os,h.AM.tape,h.AM.output,h.AM.Jj.mono hm⟩,h.size,h.defers,fun t lv ht=>?_,fun j Jk hj=>?_,fun x Jk hx=>?_,fun b' o ho=>?_,fun p b' hu=>?_,⟨fun b' Ga=>?_,h.fresh.2⟩,h.Gg⟩⟩
 ·obtain ⟨k1,k2⟩:=h.AM.frame b' Ad ho
  refine ⟨k1,?_⟩
  rw [hM]
  ·exact k2
  ·intro e0; subst e0
   rcases (h.own b' _ h2).2 with h7 | h7
   ·omega
   ·exact ho h7
 ·rcases UC i qs s.tmps t lv ht with ht2 | ⟨off,ht2,rfl⟩
  ·exact hL (h.tm t lv ht2)
  ·obtain ⟨b',k1,k2⟩:=h.tm t (.lp i off) ht2
   rw [h1] at k1; injection k1 with k1; subst k1
   show BO g' w (.ro qs off) _
   have hlen:=RP hq
   have e9:(Value.pointer (some ⟨b,off,none⟩):Value) = .pointer (some ⟨b,0+off,none⟩):=by rw [Nat.zero_add]
   rw [k2,e9]
   refine .ro qs off b 0 (fun j=>cur.getD j undef) (fun j hj=>?_) (fun j hj k hk=>?_) (fun j hj=>(h6 j oM).2.1) fun j hj=>?_
   ·have Cj:j<cur.size:=by omega
    simp only [World.cell?,h4]
    simp [Cj]
   ·simp only [g'] at hk
    simp at hk
   ·exact (YA (UD hq j oM hj) (h6 j oM).2.2).mono hm
 ·rw [T9] at hj
  split at hj
  ·cases hj
  ·rename_i Ct
   obtain ⟨b',k1,k2,k3,cur',e',k4,k5,k6⟩:=h.bx j Jk hj
   have hnj:(Own.l j) ≠ .l i:=by intro e0; injection e0 with e0; exact Ct e0.symm
   exact ⟨b',k1,qQ k2 hnj,(hM (hO k2 hnj)).trans k3,cur',e',k4,k5,fun j' Cj=>⟨(k6 j' Cj).1,(k6 j' Cj).2.1,hL (k6 j' Cj).2.2⟩⟩
 ·obtain ⟨b',k1,k2,hE⟩:=h.ex x Jk hx
  have zG:(Own.x x) ≠ .l i:=by intro e0; cases e0
  refine ⟨b',k1.mono hm,qQ k2 zG,?_⟩
  rcases hE with ⟨k3,cur',e',k4,k5,k6⟩ | hE
  ·exact .inl ⟨(hM (hO k2 zG)).trans k3,cur',e',k4,k5,fun j' Cj=>⟨(k6 j' Cj).1,(k6 j' Cj).2.1,hL (k6 j' Cj).2.2⟩⟩
  ·exact .inr (hE.BK hm (fun _ _ _ k=>k) (hM (hO k2 zG)) rfl)
 ·simp only [l'] at ho
  split at ho
  ·cases ho
  ·exact h.own b' o ho
 ·exact qQ (h.uo p b' hu) (by intro e0; cases e0)
 ·simp only [g']
  split
  ·rfl
  ·exact h.fresh.1 b' Ga
theorem Oj.A7c{P:Program}{cx:Cx}{s:S}{o:Oper}{K:S->Prop}{Q:A7->S->Prop}{x:Operand}(h:Oj P cx (qO s x) o K Q):Oj P cx s o K Q:=fun g l a w hs=>by
 unfold qO at h
 split at h
 ·split at h
  ·split at h
   ·split at h
    ·rename_i hb _ _ hq
     obtain ⟨g',l',Yc⟩:=hs.frz hb hq
     exact h g' l' a w Yc
    ·exact h g l a w hs
   ·exact h g l a w hs
  ·exact h g l a w hs
 ·exact h g l a w hs
theorem Oj.frz{P:Program}{cx:Cx}{o:Oper}{K:S->Prop}{Q:A7->S->Prop}:∀ {l:List Operand} {s:S},Oj P cx (qP s l) o K Q->Oj P cx s o K Q
 | [],_,h=>h
 | _::_,_,h=>Oj.A7c (Oj.frz h)
def opX(P:Program)(md:Md)(n:Nat)(all:List Oper)(o:Oper)(s:S):SM (A7 × S):=match callee P o with
 | some r=>lJ o r s
 | none=>match o.op with
  | .alloc ty=>if (md.ro ty).isNone=true then (match Uh P ty with | some zs=>iB n o zs s | none => .bad 14) else Wv P md.ro n all o s
  | .box ty x=>if (md.ro ty).isNone=true then ((A01 x).runM s).Fw fun cs=>iB n o cs s else Wv P md.ro n all o s
  | .panic x=>((A00 x).runM s).Fw fun p => .ret (.panic p,s)
  | .makeMap _ none=>mapM n o s
  | .makeFunc _ _ captured=>Wv P md.ro n all o (qP s captured.toList)
  | .call ⟨.builtin .append,⟨[x,y]⟩,⟨[ty,gD]⟩⟩=>if md.row ty=true/\ty=gD then qN P n o ty x y s else Wv P md.ro n all o s
  | _=>Wv P md.ro n all o s
section
variable {P:Program} {cx:Cx} {s s':S} {Q:A7->S->Prop} {K:S->Prop} {o:Oper} {pe:A7} {md:Md} {all:List Oper} {sc C6:List Ca}
theorem Gp{ro:TypeId->Option Bool}{K':A7 × S->List Ca->Prop}(h:(Wv P ro cx.n all o s).wp P sc K')(hk:∀pe s' C6,K' (pe,s') C6->I3 K Q pe s'):Oj P cx s o K Q:=fun g l a w hs=>by
 have h1:=RM.N7 (UB (SM.Bf h))
 refine CO ?_ (Gd hs h1 (post cx Q))
 rintro a' w' ⟨wr,g',l',⟨rd,Mj,h2⟩,sm⟩
 exact ⟨_,g',l',hk _ _ _ (SM.wp_ret h2),sm⟩
theorem RQ{r:RM (FuncId × List PV)}{K':A7 × S->List Ca->Prop}(ho:callee P o=some r)(hd:∀d,o.dst=some d->d<cx.n)(h:(lJ o r s).wp P sc K')(hk:∀pe s' C6,K' (pe,s') C6->I3 K Q pe s'):Oj P cx s o K Q:=fun g l a w hs=>by
 have h1:=RM.Ev (SM.Bf h)
 refine G6 ho hd hs (RM.wp_mono ?_ h1)
 rintro ⟨f,args⟩ ⟨Mj,h2⟩
 obtain ⟨res,e',pu,Xi,h3,h4,h5,-⟩:=UA (SM.Bf h2)
 refine ⟨h4,h5.mono ?_⟩
 rintro A7d e1 ⟨h6,h7⟩
 subst h6 h7
 cases A7d with
 | ret p=>exact hk _ _ _ (SM.wp_ret h3)
 | own te z es=>exact hk _ _ _ (SM.wp_ret h3)
 | panic p=>exact hk _ _ _ (SM.wp_ret h3)
theorem RR{n:Nat}{cs:List PV}{K':A7 × S->List Ca->Prop}(h:(iB n o cs s).wp P sc K'):∃pe s',Wm n o cs s=some (pe,s')/\K' (pe,s') sc:=by
 unfold iB at h
 split at h
 ·rename_i r hr; exact ⟨r.1,r.2,hr,SM.wp_ret h⟩
 ·exact h.elim
theorem TF{ty:TypeId}{x y:Operand}{K':A7 × S->List Ca->Prop}(ho:o.op = .call ⟨.builtin .append,#[x,y],#[ty,ty]⟩)(h:(qN P cx.n o ty x y s).wp P sc K')(hk:∀pe s' C6,K' (pe,s') C6->I3 K Q pe s'):Oj P cx s o K Q:=fun g l0 a w hs=>by
 unfold qN at h
 split at h
 ·rename_i e d he hd
  split at h
  ·rename_i m B zs hm hB hz
   split at h
   ·rename_i hc
    obtain ⟨hn,Rx⟩:=hc
    split at h
    ·refine gS ho hd hn he hm hB hz Rx hs (RM.wp_mono ?_ (RM.Ev (SM.Bf h)))
     rintro ys ⟨Mj,h2⟩
     obtain ⟨h3,h4⟩:=SM.JS h2
     exact ⟨of_decide_eq_true h3,hk _ _ _ h4⟩
    ·refine gU ho hd hn he hm hB hz Rx hs (RM.wp_mono ?_ (RM.Ev (SM.Bf h)))
     rintro ys ⟨Mj,h2⟩
     obtain ⟨h3,h4⟩:=SM.JS h2
     exact ⟨of_decide_eq_true h3,hk _ _ _ h4⟩
    ·refine gV ho hd hn he hm hB hz Rx hs (RM.wp_mono ?_ (RM.Ev (SM.Bf h)))
     rintro ys ⟨Mj,h2⟩
     obtain ⟨h3,h4⟩:=SM.JS h2
     exact ⟨of_decide_eq_true h3,hk _ _ _ h4⟩
    ·refine Uv ho hd hn he hm hB hz Rx hs (RM.wp_mono ?_ (RM.Ev (SM.Bf h)))
     rintro ys ⟨Mj,h2⟩
     obtain ⟨h3,h4⟩:=SM.JS h2
     exact ⟨of_decide_eq_true h3,hk _ _ _ h4⟩
   ·exact h.elim
  ·exact h.elim
 ·exact h.elim
theorem Ww{K':A7 × S->List Ca->Prop}(hd:∀d,o.dst=some d->d<cx.n)(h:(opX P md cx.n all o s).wp P sc K')(hk:∀pe s' C6,K' (pe,s') C6->I3 K Q pe s'):Oj P cx s o K Q:=by
 unfold opX at h
 split at h
 ·rename_i r hr; exact RQ hr hd h hk
 ·split at h
  ·rename_i ty K8
   split at h
   ·split at h
    ·rename_i zs hz
     obtain ⟨pe,s',hx,hK⟩:=RR h
     intro g l a w hs
     obtain ⟨i,z,h1,h2,h3⟩:=Fv hz
     obtain ⟨hr,Ck,-⟩:=EX (g:=g) (w:=w) h3
     exact HR (ty:=ty) hs hr Ck (by simp [execOp,K8,Instr.alloc,zeroValue,typeInfo,h1,h2,newVar,newRow]) hx (hk _ _ _ hK)
    ·exact h.elim
   ·exact Gp h hk
  ·rename_i ty x K8
   split at h
   ·intro g l0 a w hs
    obtain ⟨p,h1,r1⟩:=AZ hs (RM.Ev (SM.Bf h))
    split at h1
    ·rename_i cs hc
     obtain ⟨Mj,h2⟩:=h1
     obtain ⟨pe,s',hx,hK⟩:=RR h2
     obtain ⟨hr,Ck⟩:=J4 hc r1
     exact HR (ty:=ty) hs hr Ck (by simp [execOp,K8,Instr.box,newVar,newRow]) hx (hk _ _ _ hK)
    ·exact h1.elim
   ·exact Gp h hk
  ·rename_i x K8
   intro g l0 a w hs
   obtain ⟨p',h1,r1⟩:=AZ hs (RM.Ev (SM.Bf h))
   split at h1
   ·rename_i t q
    obtain ⟨Mj,h2⟩:=h1
    have h3:=hk _ _ _ (SM.wp_ret h2)
    have BW:∀v,a.eval x = .iface t v->(execOp a.eval o).run P w = .halt (.panic (.iface t v)) w:=fun v hv=>by
     simp [execOp,K8,hv,Instr.panic,goPanic]
    generalize a.eval x=vx at r1 BW
    cases r1 with
    | iface _ _ v hv=>
     unfold Oper.wp
     rw [BW v rfl,Oper.upon_panic]
     exact ⟨.panic (.iface t q),s,g,l0,h3,⟨_,rfl,.iface _ _ _ hv⟩,hs⟩
   ·exact h1.elim
  ·rename_i ty K8
   unfold mapM at h
   intro g l0 a w hs
   split at h
   ·rename_i d x8
    split at h
    ·rename_i hn
     unfold Oper.wp
     rw [show (execOp a.eval o).run P w = .ok (.value (.map (some w.heap.size))) (w.alloc (.map #[] 0)) by simp [execOp,K8,Instr.makeMap,Result.andThen],Oper.upon_value,x8]
     obtain ⟨k1,-⟩:=hs.Yi
     exact ⟨_,_,_,hk _ _ _ (SM.wp_ret h),k1.set hn (.mp _ _ (BJ _ _ _))⟩
    ·exact h.elim
   ·exact h.elim
  ·exact Oj.frz (Gp h hk)
  ·rename_i x y ty gD K8
   split at h
   ·rename_i hc
    obtain ⟨-,rfl⟩:=hc
    exact TF K8 h hk
   ·exact Gp h hk
  ·exact Gp h hk
end
def op1(P:Program)(md:Md)(n:Nat)(all:List Oper)(o:Oper)(s:S):Option S:=match callee P o with
 | some _=>none
 | none=>match (act P md.ro n all o).run s with
  | some [.tmp d lv]=>if o.dst=some d then some { s with tmps:=put s.tmps d lv } else none
  | _=>none
def und(all:List Oper)(K9:List Nat)(o:Oper)(s:S):Option (Nat × Nat × Bool):=match o.guard with
 | none=>none
 | some (j,_)=>match K9.contains j with
  | true=>none
  | false=>match (all[j]?).bind (·.dst) with
   | some dj=>match lk s.tmps dj with
    | some (.v (.bool b))=>some (j,dj,b)
    | _=>none
   | none=>none
def IJ(i0 j:Nat):List Oper->Nat
 | []=>0
 | o::r=>match o.guard with
  | some (g,_)=>if g=j∨i0<=g then IJ i0 j r+1 else 0
  | none=>0
def YB{α:Type}:List Nat->List (Nat × α)->List (Nat × α)
 | [],l=>l
 | k::r,l=>YB r (del l k)
def Fo(ls:List Oper):List Nat:=ls.filterMap (·.dst)
def xJ(m d:Nat)(ls:List Oper)(s:S)(lv:LV):S:={ s with tmps:=put (YB (Fo (ls.take m)) s.tmps) d lv }
def YC(rec:List Oper->S->Option S)(m d dj:Nat)(b:Bool)(ls:List Oper)(s:S):Option Bool:=
 match rec (ls.take m) { s with tmps:=put s.tmps dj (.v (.bool true)) },rec (ls.take m) { s with tmps:=put s.tmps dj (.v (.bool false)) } with
 | some s1,some s2=>match lk s1.tmps d,lk s2.tmps d with
  | some (.v (.bool x1)),some (.v (.bool x2))=>some (bif b then x1 else x2)
  | _,_=>none
 | _,_=>none
def UE(P:Program)(md:Md)(n:Nat)(all:List Oper):Nat->List Nat->Nat->List Oper->S->Option S
 | 0,_,_,_,_=>none
 | _+1,_,_,[],s=>some s
 | f+1,K9,i,o::rest,s=>match und all K9 o s with
  | none=>match LF all o s with
   | some true=>match op1 P md n all o s with
    | some s'=>UE P md n all f K9 (i+1) rest s'
    | none=>none
   | some false=>UE P md n all f K9 (i+1) rest (s.skip o)
   | none=>none
  | some (j,dj,b)=>match ((o::rest)[IJ i j (o::rest)]?).bind (·.dst) with
   | some d=>match YC (UE P md n all f (j::K9) i) (IJ i j (o::rest)+1) d dj b (o::rest) s with
    | some x=>UE P md n all f K9 (i+(IJ i j (o::rest)+1)) ((o::rest).drop (IJ i j (o::rest)+1)) (xJ (IJ i j (o::rest)+1) d (o::rest) s (.v (.bool x)))
    | none=>none
   | none=>none
section
variable {P:Program} {cx:Cx} {s s' t:S} {Q:A7->S->Prop} {md:Md} {all:List Oper}
theorem Qd{α:Type}:∀ (ks:List Nat) (l:List (Nat × α)) (u:Nat) (v:α),lk (YB ks l) u=some v->¬u∈ks/\lk l u=some v
 | [],_,_,_,h=>⟨by simp,h⟩
 | k::r,l,u,v,h=>by
  obtain ⟨h1,h2⟩:=Qd r (del l k) u v h
  rw [T9] at h2
  split at h2
  ·cases h2
  ·rename_i hk
   exact ⟨by simp only [List.mem_cons,not_or]; exact ⟨fun e=>hk e.symm,h1⟩,h2⟩
theorem UF{α:Type}:∀ (ks:List Nat) (l:List (Nat × α)) (u:Nat),¬u∈ks->lk (YB ks l) u=lk l u
 | [],_,_,_=>rfl
 | k::r,l,u,h=>by
  simp only [List.mem_cons,not_or] at h
  rw [YB,UF r (del l k) u h.2,T9,iN (fun e=>h.1 e.symm)]
def Kp(ks:List Nat)(s s':S):Prop:=s'.boxes=s.boxes/\s'.ext=s.ext/\∀k,¬k∈ks->lk s'.tmps k=lk s.tmps k
theorem YD{o:Oper}(h:op1 P md cx.n all o s=some s'):Kp (Fo [o]) s s':=by
 unfold op1 at h
 split at h
 ·cases h
 ·split at h
  ·split at h
   ·rename_i d lv _ hd
    injection h with h; subst h
    exact ⟨rfl,rfl,fun k hk=>EW _ _ _ _ (fun e=>hk (by simp [Fo,hd,e]))⟩
   ·cases h
  ·cases h
theorem UG{o:Oper}:Kp (Fo [o]) s (s.skip o):=by
 unfold S.skip
 split
 ·rename_i d hd; exact ⟨rfl,rfl,fun k hk=>EW _ _ _ _ (fun e=>hk (by simp [Fo,hd,e]))⟩
 ·exact ⟨rfl,rfl,fun _ _=>rfl⟩
theorem YE{rec:List Oper->S->Option S}{m d dj:Nat}{b x:Bool}{ls:List Oper}(h:YC rec m d dj b ls s=some x) :
  ∃s1 s2 x1 x2,rec (ls.take m) { s with tmps:=put s.tmps dj (.v (.bool true)) }=some s1/\rec (ls.take m) { s with tmps:=put s.tmps dj (.v (.bool false)) }=some s2/\lk s1.tmps d=some (.v (.bool x1))/\lk s2.tmps d=some (.v (.bool x2)) /\
   x=(bif b then x1 else x2):=by
 unfold YC at h
 split at h
 ·rename_i s1 s2 h1 h2
  split at h
  ·rename_i x1 x2 h3 h4
   injection h with h
   exact ⟨s1,s2,x1,x2,h1,h2,h3,h4,h.symm⟩
  ·cases h
 ·cases h
theorem N8:∀ (f:Nat) (K9:List Nat) (i:Nat) (ls:List Oper) (s s':S),UE P md cx.n all f K9 i ls s=some s'->s'.boxes=s.boxes/\s'.ext=s.ext/\∀k v,¬k∈Fo ls->lk s'.tmps k=some v->lk s.tmps k=some v
 | 0,_,_,_,_,_,h=>by cases h
 | _+1,_,_,[],s,s',h=>by simp only [UE] at h; injection h with h; subst h; exact ⟨rfl,rfl,fun _ _ _ h=>h⟩
 | f+1,K9,i,o::rest,s,s',h=>by
  have hd:∀x,x∈Fo [o]->x∈Fo (o::rest):=fun x hx=>by
   rw [show o::rest=[o]++rest by rfl,Fo,List.filterMap_append,List.mem_append]; exact .inl hx
  have hr:∀x,x∈Fo rest->x∈Fo (o::rest):=fun x hx=>by
   rw [show o::rest=[o]++rest by rfl,Fo,List.filterMap_append,List.mem_append]; exact .inr hx
  simp only [UE] at h
  split at h
  ·split at h
   ·split at h
    ·rename_i s1 h1
     have k1:=YD h1
     obtain ⟨k2,k3,k4⟩:=N8 f K9 (i+1) rest s1 s' h
     exact ⟨k2.trans k1.1,k3.trans k1.2.1,fun k v hk hv=>by rw [<-k1.2.2 k (fun e=>hk (hd _ e))]; exact k4 k v (fun e=>hk (hr _ e)) hv⟩
    ·cases h
   ·have k1:=UG (s:=s) (o:=o)
    obtain ⟨k2,k3,k4⟩:=N8 f K9 (i+1) rest _ s' h
    exact ⟨k2.trans k1.1,k3.trans k1.2.1,fun k v hk hv=>by rw [<-k1.2.2 k (fun e=>hk (hd _ e))]; exact k4 k v (fun e=>hk (hr _ e)) hv⟩
   ·cases h
  ·rename_i j dj b hu
   split at h
   ·rename_i d Eh
    split at h
    ·rename_i s1 h1
     obtain ⟨k2,k3,k4⟩:=N8 f K9 _ _ _ s' h
     refine ⟨k2,k3,fun k v hk hv=>?_⟩
     unfold xJ at k4
     have YF:¬k∈Fo ((o::rest).drop (IJ i j (o::rest)+1)):=fun e=>hk (by
      unfold Fo at e ⊢
      obtain ⟨x,hx,AW⟩:=List.mem_filterMap.1 e
      exact List.mem_filterMap.2 ⟨x,List.mem_of_mem_drop hx,AW⟩)
     have h5:=k4 k v YF hv
     simp only at h5
     have hkd:d≠k:=fun e=>hk (by
      subst e
      cases hg:(o::rest)[IJ i j (o::rest)]? with
      | none=>rw [hg] at Eh; cases Eh
      | some q=>rw [hg] at Eh; exact List.mem_filterMap.2 ⟨q,List.mem_of_getElem? hg,Eh⟩)
     rw [EW _ _ _ _ hkd] at h5
     exact (Qd _ _ _ _ h5).2
    ·cases h
   ·cases h
theorem YG{ls:Array Oper}{l:List Oper}(hs:∀g l a w,Bc cx s g l a w->Bc cx t g l a w)(h:PL P cx ls l t Q):PL P cx ls l s Q:=fun g l a w k=>h g l a w (hs g l a w k)
theorem YH{K9:List Nat}{o:Oper}{j dj:Nat}{b:Bool}(h:und all K9 o s=some (j,dj,b)):lk s.tmps dj=some (.v (.bool b)):=by
 unfold und at h
 split at h
 ·cases h
 ·split at h
  ·cases h
  ·split at h
   ·split at h
    ·rename_i hb
     injection h with h
     injection h with h1 h2
     injection h2 with h2 h3
     subst h2 h3; exact hb
    ·cases h
   ·cases h
theorem N9{rec:List Oper->S->Option S}{m d dj:Nat}{b x:Bool}{ls R:List Oper}(hb:lk s.tmps dj=some (.v (.bool b)))
  (qD:∀s s',rec (ls.take m) s=some s'->(∀Q,PL P cx all.toArray R s' Q->PL P cx all.toArray (ls.take m++R) s Q)/\s'.boxes=s.boxes/\s'.ext=s.ext/\∀k v,¬k∈Fo (ls.take m)->lk s'.tmps k=some v->lk s.tmps k=some v)
  (A09:∀s s',rec (ls.take m) s=some s'->∀k v,¬k∈Fo (ls.take m)->lk s.tmps k=some v->lk s'.tmps k=some v)
  (h:YC rec m d dj b ls s=some x) (hQ:PL P cx all.toArray R (xJ m d ls s (.v (.bool x))) Q):PL P cx all.toArray (ls.take m++R) s Q:=by
 obtain ⟨s1,s2,x1,x2,h1,h2,h3,h4,rfl⟩:=YE h
 have Ju:∀v,b=v->∀k,lk (put s.tmps dj (.v (.bool v))) k=lk s.tmps k:=fun v hv k=>by
  rw [B8]; split
  ·rename_i e; subst e; rw [hb,hv]
  ·rfl
 have go:∀v r x,b=v->rec (ls.take m) { s with tmps:=put s.tmps dj (.v (.bool v)) }=some r->lk r.tmps d=some (.v (.bool x))->(bif b then x1 else x2)=x->PL P cx all.toArray (ls.take m++R) s Q:=fun v r x hv hr hd hx=>by
  obtain ⟨k1,k2,k3,-⟩:=qD _ _ hr
  refine YG (t:={ s with tmps:=put s.tmps dj (.v (.bool v)) }) (fun g l a w sm=>sm.congr (Ju v hv) (fun _=>rfl) (fun _=>rfl)) (k1 Q ?_)
  refine YG (fun g l a w sm=>sm.eU (fun k u hk => .inr ?_) (fun k u hk=>⟨u,by rw [k2]; exact hk,ES.refl u⟩) (fun k u hk=>⟨u,by rw [k3]; exact hk,ES.refl u⟩) (by rw [k3]; exact Nat.le_refl _)) hQ
  unfold xJ at hk
  simp only at hk
  rw [B8] at hk
  split at hk
  ·rename_i e; subst e; injection hk with hk; subst hk; rw [hx]; exact ⟨_,hd,WL.refl _⟩
  ·obtain ⟨k4,k5⟩:=Qd _ _ _ _ hk
   exact ⟨u,A09 _ _ hr k u k4 (by rw [<-k5]; exact Ju v hv k),WL.refl _⟩
 cases b with
 | true=>exact go true s1 x1 rfl h1 h3 rfl
 | false=>exact go false s2 x2 rfl h2 h4 rfl
theorem IK:∀ (f:Nat) (K9:List Nat) (i:Nat) (ls:List Oper) (s s':S),UE P md cx.n all f K9 i ls s=some s'->∀k v,¬k∈Fo ls->lk s.tmps k=some v->lk s'.tmps k=some v
 | 0,_,_,_,_,_,h=>by cases h
 | _+1,_,_,[],s,s',h=>by simp only [UE] at h; injection h with h; subst h; exact fun _ _ _ h=>h
 | f+1,K9,i,o::rest,s,s',h=>by
  have hd:∀x,x∈Fo [o]->x∈Fo (o::rest):=fun x hx=>by
   rw [show o::rest=[o]++rest by rfl,Fo,List.filterMap_append,List.mem_append]; exact .inl hx
  have hr:∀x,x∈Fo rest->x∈Fo (o::rest):=fun x hx=>by
   rw [show o::rest=[o]++rest by rfl,Fo,List.filterMap_append,List.mem_append]; exact .inr hx
  simp only [UE] at h
  split at h
  ·split at h
   ·split at h
    ·rename_i s1 h1
     have k1:=YD h1
     exact fun k v hk hv=>IK f K9 (i+1) rest s1 s' h k v (fun e=>hk (hr _ e)) (by rw [k1.2.2 k (fun e=>hk (hd _ e))]; exact hv)
    ·cases h
   ·have k1:=UG (s:=s) (o:=o)
    exact fun k v hk hv=>IK f K9 (i+1) rest _ s' h k v (fun e=>hk (hr _ e)) (by rw [k1.2.2 k (fun e=>hk (hd _ e))]; exact hv)
   ·cases h
  ·rename_i j dj b hu
   split at h
   ·rename_i d Eh
    split at h
    ·rename_i s1 h1
     intro k v hk hv
     have YF:¬k∈Fo ((o::rest).drop (IJ i j (o::rest)+1)):=fun e=>hk (by
      unfold Fo at e ⊢
      obtain ⟨x,hx,AW⟩:=List.mem_filterMap.1 e
      exact List.mem_filterMap.2 ⟨x,List.mem_of_mem_drop hx,AW⟩)
     have Xx:¬k∈Fo ((o::rest).take (IJ i j (o::rest)+1)):=fun e=>hk (by
      unfold Fo at e ⊢
      obtain ⟨x,hx,AW⟩:=List.mem_filterMap.1 e
      exact List.mem_filterMap.2 ⟨x,List.mem_of_mem_take hx,AW⟩)
     refine IK f K9 _ _ _ s' h k v YF ?_
     have hkd:d≠k:=fun e=>hk (by
      subst e
      cases hg:(o::rest)[IJ i j (o::rest)]? with
      | none=>rw [hg] at Eh; cases Eh
      | some q=>rw [hg] at Eh; exact List.mem_filterMap.2 ⟨q,List.mem_of_getElem? hg,Eh⟩)
     unfold xJ
     simp only
     rw [EW _ _ _ _ hkd,UF _ _ _ Xx]
     exact hv
    ·cases h
   ·cases h
theorem Hw(BE:F0 cx.n all=true):∀ (f:Nat) (K9:List Nat) (i:Nat) (ls:List Oper) (s s':S),(∀o∈ls,o∈all)->UE P md cx.n all f K9 i ls s=some s'->∀ (R:List Oper) Q,PL P cx all.toArray R s' Q->PL P cx all.toArray (ls++R) s Q
 | 0,_,_,_,_,_,_,h=>by cases h
 | _+1,_,_,[],s,s',_,h=>by simp only [UE] at h; injection h with h; subst h; exact fun _ _ h=>h
 | f+1,K9,i,o::rest,s,s',hm,h=>fun R Q hQ=>by
  have FN:∀o∈rest,o∈all:=fun o ho=>hm o (List.mem_cons_of_mem _ ho)
  have hd:∀d,o.dst=some d->d<cx.n:=DF BE (hm o sM)
  simp only [UE] at h
  split at h
  ·split at h
   ·rename_i hw
    split at h
    ·rename_i s1 h1
     have ih:=Hw BE f K9 (i+1) rest s1 s' FN h R Q hQ
     intro g l0 a w hs
     refine wpList_step fun K hK=>?_
     rw [iP (E6 BE hw hs)]
     unfold op1 at h1
     split at h1
     ·cases h1
     ·split at h1
      ·rename_i d lv BW
       split at h1
       ·injection h1 with h1
        refine CO ?_ (Gd (K:=fun x=>x=[.tmp d lv]) hs (RM.Gl BW rfl) (post cx Q))
        rintro a' w' ⟨wr,g',l',rfl,sm⟩
        subst h1
        exact hK _ _ (ih g' l' a' w' sm)
       ·cases h1
      ·cases h1
    ·cases h
   ·rename_i hw
    have ih:=Hw BE f K9 (i+1) rest _ s' FN h R Q hQ
    intro g l0 a w hs
    refine wpList_step fun K hK=>?_
    rw [iN (by rw [E6 BE hw hs]; simp)]
    refine hK _ _ (ih g l0 _ w ?_)
    cases Eh:o.dst with
    | none=>simp only [S.skip,Eh,Act.put]; exact hs
    | some d=>
     simp only [S.skip,Eh]
     exact hs.set (hd d Eh) (.B6 [] [] rfl fun j h=>by simp at h)
   ·cases h
  ·rename_i j dj b hu
   split at h
   ·rename_i d Eh
    split at h
    ·rename_i s1 h1
     have htd:∀ (l:List Oper) (m:Nat),l++R=l.take m++(l.drop m++R):=fun l m=>by rw [<-List.append_assoc,List.take_append_drop]
     rw [htd (o::rest) (IJ i j (o::rest)+1)]
     refine N9 (YH hu) (fun t t' ht=>⟨fun Q' hQ'=>Hw BE f (j::K9) i _ t t' (fun q hq=>hm q (List.mem_of_mem_take hq)) ht _ Q' hQ',N8 f (j::K9) i _ t t' ht⟩) (fun t t' ht=>IK f (j::K9) i _ t t' ht) h1 ?_
     exact Hw BE f K9 _ _ _ s' (fun q hq=>hm q (List.mem_of_mem_drop hq)) h R Q hQ
    ·cases h
   ·cases h
end
def qR(P:Program)(md:Md)(n:Nat)(all ls:List Oper)(s:S):SM (Option (Nat × S))
 | .mrg::sc=>match ls with
  | [] => .ok none (.mrg::sc) []
  | o::_=>match und all [] o s with
   | some (j,dj,b)=>match (ls[IJ (all.length - ls.length) j ls]?).bind (·.dst) with
    | some d=>match YC (UE P md n all 200 [j] (all.length - ls.length)) (IJ (all.length - ls.length) j ls+1) d dj b ls s with
     | some x=>((gW (.v (.bool x))).Fw fun lv => .ret (some (IJ (all.length - ls.length) j ls+1,xJ (IJ (all.length - ls.length) j ls+1) d ls s lv))) sc
     | none => .no (.bad 32)
    | none => .no (.bad 33)
   | none => .ok none (.mrg::sc) []
 | sc => .ok none sc []
theorem iD{P:Program}{cx:Cx}{s:S}{Q:A7->S->Prop}{md:Md}{all ls:List Oper}{sc:List Ca}{K':Option (Nat × S)->List Ca->Prop}(BE:F0 cx.n all=true)(hm:∀o∈ls,o∈all)(h:(qR P md cx.n all ls s).wp P sc K') :
  (∃C6,K' none C6)∨∃m s' C6,K' (some (m+1,s')) C6/\(PL P cx all.toArray (ls.drop (m+1)) s' Q->PL P cx all.toArray ls s Q):=by
 unfold SM.wp qR at h
 split at h
 ·split at h
  ·exact .inl ⟨_,h.2⟩
  ·rename_i o r
   split at h
   ·rename_i j dj b hu
    split at h
    ·rename_i d Eh
     split at h
     ·rename_i x h1
      obtain ⟨C6,h2⟩:=Uz (SM.Bf (show SM.wp _ (SM.Fw _ _) _ _ from h))
      refine .inr ⟨_,_,_,SM.wp_ret h2,fun hQ=>?_⟩
      rw [<-List.take_append_drop (IJ (all.length - (o::r).length) j (o::r)+1) (o::r)]
      exact N9 (YH hu) (fun t t' ht=>⟨fun Q' hQ'=>Hw BE _ _ _ _ t t' (fun q hq=>hm q (List.mem_of_mem_take hq)) ht _ Q' hQ',N8 _ _ _ _ t t' ht⟩) (fun t t' ht=>IK _ _ _ _ t t' ht) h1 hQ
     ·exact h.elim
    ·exact h.elim
   ·exact .inl ⟨_,h.2⟩
 ·exact .inl ⟨_,h.2⟩
section
variable {P:Program} {cx:Cx} {s s':S} {Q:A7->S->Prop} {K:S->Prop} {o:Oper} {pe:A7} {md:Md} {all:List Oper} {sc C6:List Ca}
def YI(all:List Oper)(o:Oper)(s:S):SM Bool:=match o.guard with
 | none => .ret true
 | some (j,want)=>match (all[j]?).bind (·.dst) with
  | some dj=>match lk s.tmps dj with
   | some (.v (.bool b))=>(Wt b).Fw fun v => .ret (v==want)
   | some (.v (.B6 _)) => .ret false
   | _ => .bad 20
  | none => .bad 21
theorem YJ{K':Bool->List Ca->Prop}(h:(YI all o s).wp P sc K'):∃b C6,LF all o s=some b/\K' b C6:=by
 unfold YI at h
 unfold LF
 split at h
 ·rename_i hg; rw [hg]; exact ⟨_,_,rfl,SM.wp_ret h⟩
 ·rename_i j want hg
  rw [hg]
  split at h
  ·rename_i dj Tz
   simp only [Tz]
   split at h
   ·rename_i b hb
    obtain ⟨C6,h1⟩:=Mi (SM.Bf h)
    exact ⟨_,_,by rw [hb]; rfl,SM.wp_ret h1⟩
   ·rename_i vs hb
    exact ⟨_,_,by rw [hb]; rfl,SM.wp_ret h⟩
   ·exact h.elim
  ·exact h.elim
def RS(P:Program)(md:Md)(n:Nat)(all:List Oper):List Oper->Nat->S->SM (A7 × S)
 | [],_,s => .ret (.normal,s)
 | _::rest,k+1,s=>RS P md n all rest k s
 | o::rest,0,s=>(qR P md n all (o::rest) s).Fw fun m=>match m with
  | some (m,s')=>RS P md n all rest (m - 1) s'
  | none=>(YI all o s).Fw fun b=>match b with
   | true=>(SM.tag o s (opX P md n all o s)).Fw fun r=>match r with
    | (.normal,s')=>RS P md n all rest 0 s'
    | r => .ret r
   | false=>RS P md n all rest 0 (s.skip o)
theorem FB{K':A7 × S->List Ca->Prop}(BE:F0 cx.n all=true)(hk:∀pe s' C6,K' (pe,s') C6->Q pe s'):∀ {ls:List Oper} {k:Nat} {s:S} {sc:List Ca},(∀o∈ls,o∈all)->(RS P md cx.n all ls k s).wp P sc K'->PL P cx all.toArray (ls.drop k) s Q
 | [],_,s,sc,_,h=>by rw [List.drop_nil]; exact MS (hk _ _ _ (SM.wp_ret h))
 | o::rest,k+1,s,sc,hm,h=>by
  rw [List.drop_succ_cons]
  exact FB BE hk (fun o ho=>hm o (List.mem_cons_of_mem _ ho)) h
 | o::rest,0,s,sc,hm,h=>by
  have hd:∀d,o.dst=some d->d<cx.n:=DF BE (hm o sM)
  have FN:∀o∈rest,o∈all:=fun o ho=>hm o (List.mem_cons_of_mem _ ho)
  simp only [RS] at h
  rw [List.drop_zero]
  rcases iD (Q:=Q) BE hm (SM.Bf h) with ⟨sc0,h0⟩ | ⟨m,s',C6,h0,h1⟩
  ·intro g l0 a w hs
   obtain ⟨b,Mj,hw,h1⟩:=YJ (SM.Bf h0)
   have E5:=E6 BE hw hs
   refine wpList_step fun K hK=>?_
   cases b with
   | true=>
    rw [iP E5]
    have h2:=SM.Yy (SM.Bf h1)
    refine CO ?_ (Ww (Q:=Q) (K:=fun s'=>PL P cx all.toArray rest s' Q) hd h2 (fun pe s' C6 h3=>?_) g l0 a w hs)
    ·rintro a' w' ⟨s',g',l',hp,sm⟩
     exact hK _ _ (hp g' l' a' w' sm)
    ·cases pe with
     | normal=>exact FB (k:=0) BE hk FN h3
     | exit _=>exact hk _ _ _ (SM.wp_ret h3)
     | ret=>exact hk _ _ _ (SM.wp_ret h3)
     | panic _=>exact hk _ _ _ (SM.wp_ret h3)
   | false=>
    rw [iN (by rw [E5]; simp)]
    refine hK _ _ (FB (k:=0) BE hk FN h1 g l0 _ w ?_)
    cases Eh:o.dst with
    | none=>simp only [S.skip,Eh,Act.put]; exact hs
    | some d=>
     simp only [S.skip,Eh]
     exact hs.set (hd d Eh) (.B6 [] [] rfl fun j h=>by simp at h)
  ·refine h1 ?_
   have:=FB (ls:=rest) (k:=m) BE hk FN h0
   rw [List.drop_succ_cons]; exact this
theorem TG{K':A7 × S->List Ca->Prop}(BE:F0 cx.n all=true)(hk:∀pe s' C6,K' (pe,s') C6->Q pe s'){ls:List Oper}{s:S}{sc:List Ca}(hm:∀o∈ls,o∈all)(h:(RS P md cx.n all ls 0 s).wp P sc K'):PL P cx all.toArray ls s Q:=FB (k:=0) BE hk hm h
end
def A0a:LV := .v (.sl 1 [[]])
def Jl:Ext:=[(0,[A0a])]
theorem Le{cx:Cx}{s:S}{g:Gh}{l:LG}{a:Act}{w:World}(h:Bc cx s g l a w)(he:s.ext=Jl):False:=by
 obtain ⟨b,-,-,hE⟩:=h.ex 0 [A0a] (by rw [he]; rfl)
 rcases hE with ⟨-,cur,t,-,-,k⟩ | ⟨es,hE,-⟩ | ⟨n,c,ps,-,hE,-⟩
 rotate_left
 ·exact hE
 ·injection hE with hE _; cases hE
 have:=(k 0 sM).2.2
 have h2:BO g w (.sl 1 [[]]) (cur.getD 0 undef):=this
 generalize cur.getD 0 undef=v at h2
 cases h2 with
 | sl _ _ _ _ _ _ _ Cb=>exact absurd (Cb 0 sM) sM
theorem Bc.bare{cx:Cx}{s:S}{g:Gh}{l:LG}{a:Act}{w:World}(h:Bc cx s g l a w):Bc cx ⟨[],[],s.ext⟩ g l a w where
 AM:=h.AM
 size:=h.size
 defers:=h.defers
 tm t lv ht:=by simp [lk] at ht
 bx i cs hi:=by simp [lk] at hi
 ex:=h.ex
 own:=h.own
 uo:=h.uo
 fresh:=h.fresh
 Gg:=h.Gg
def Qx(cx:Cx)(Q:A7->S->Prop):A7->S->Prop
 | .panic p,s=>∃t,(∀g l a w,Bc cx s g l a w->Bc cx t g l a w)/\Q (.panic p) t
 | .normal,s=>s.ext=Jl∨Q .normal s
 | pe,s=>Q pe s
theorem RT{P:Program}{cx:Cx}{c:Code}{s:S}{Q:A7->S->Prop}(h:PW P cx c s (Qx cx Q)):PW P cx c s Q:=fun g l a w hs=>by
 refine wp_mono (h g l a w hs) ?_
 rintro e a' w' ⟨pe,s',g',l',q,er,sm⟩
 cases pe with
 | normal=>
  rcases q with q | q
  ·exact (Le sm q).elim
  ·exact ⟨.normal,s',g',l',q,er,sm⟩
 | exit i=>exact ⟨.exit i,s',g',l',q,er,sm⟩
 | ret=>exact ⟨.ret,s',g',l',q,er,sm⟩
 | panic p=>
  obtain ⟨t,h1,h2⟩:=q
  exact ⟨.panic p,t,g',l',h2,er,h1 _ _ _ _ sm⟩
section
variable {P:Program} {cx:Cx} {s s':S} {Q:A7->S->Prop} {o:Oper} {md:Md} {all:List Oper} {sc C6:List Ca}
theorem RU{id:Nat}{ops:List Oper}{B5:List DS}{xs:List Ext}{t:S}(hm:P.follows .mixedOrders=true)(x5:IF P cx ops.toArray Q ops B5 xs s t)(hc:Ur ops B5 s.tmps=true)(hq:Q .normal t):PW P cx (.region id ops.toArray true) s Q:=by
 obtain ⟨k1,k2,k3⟩:=x5.at_
 have hT:∀i,sT s B5 (fun k=>(s.ext::xs).getD k []) i=Uu s B5 xs i:=fun i=>by
  unfold sT Uu
  have h1:=Ht B5 0 i
  have h2:=EJ B5 0 i
  simp only [Nat.zero_add] at h1 h2
  rw [h1,h2]
 refine Q7 (B5:=B5) (e:=fun k=>(s.ext::xs).getD k []) hm hc k1 rfl ?_ fun i o d ho hd=>?_
 ·have h1:=hT B5.length
  have h2:sD s B5 (fun k=>(s.ext::xs).getD k []) (fun _=>true)=sT s B5 (fun k=>(s.ext::xs).getD k []) B5.length:=by
   unfold sD sT
   rw [DN (D:=fun _=>true) (D':=fun j=>decide (j<B5.length)) (B5:=B5) (k:=0) fun j _ hj=>by simp at hj; simp [hj]]
   rw [EA (D:=fun _=>true) (D':=fun j=>decide (j<B5.length)) (B5:=B5) (k:=0) fun j d' hj _=>by
    have:=(List.getElem?_eq_some_iff.1 hj).1
    simp [this]]
  rw [h2,h1,<-k2]
  exact hq
 ·obtain ⟨e',h1,h2⟩:=k3 i o d ho hd
  rw [hT]
  have hk:DR (fun j=>decide (j<i)) 0 B5=(B5.take i).countP (·.DT):=by
   have:=EJ B5 0 i
   simpa using this
  rw [hk]
  intro s' k OT lB SX Iz
  obtain ⟨-,Ye,-⟩:=JN hc hd
  have:=h1 Ye s' OT (fun hx=>by rw [SX,lB hx]; rfl) Iz
  refine this.of (fun p hp=>?_) ?_
  ·cases p <;> first | rfl | cases hp
  ·simp only
   cases Xh:d.DT with
   | true=>
    have zS:=lB (by simp [DS.xf,Xh])
    rw [zS,h2 Xh]
    rfl
   | false=>simp only [Bool.false_eq_true,if_false,Nat.add_zero]; exact SX.symm
abbrev Pk:=Option (PV × Ext)
def YK(P:Program)(ro:TypeId->Option Bool)(n:Nat)(all:List Oper)(o:Oper)(gr:List Loc)(s:S):SM (DS × Option Ext × S × Pk):=match callee P o with
 | some r=>(r.Gn s).Fw fun x=>(gY x.1.1 x.1.2 s.ext).Fw fun y=>match y with
  | (.ret p,e,true) => .ret (⟨gr++x.2,DH o (.v p),false⟩,none,s.DG (DH o (.v p)),none)
  | (.ret p,e,false) => .ret (⟨gr++x.2,DH o (.v p),true⟩,some e,{ s.DG (DH o (.v p)) with ext:=e },none)
  | (.own te z es,e,true) => .ret (⟨gr++x.2,DH o (.uniq te z es),false⟩,none,s.DG (DH o (.uniq te z es)),none)
  | (.own te z es,e,false) => .ret (⟨gr++x.2,DH o (.uniq te z es),true⟩,some e,{ s.DG (DH o (.uniq te z es)) with ext:=e },none)
  | (.panic p,e,_) => .ret (⟨gr++x.2,[],true⟩,some Jl,{ s with ext:=Jl },some (p,e))
 | none=>(iA P ro n all o s).Fw fun x=>if x.1.any Q8=true then .ret (⟨gr++x.2,x.1.filter Dk,true⟩,some (Ip s.ext x.1),{ s.DG (x.1.filter Dk) with ext:=Ip s.ext x.1 },none)
   else .ret (⟨gr++x.2,x.1,false⟩,none,s.DG x.1,none)
theorem RM.J7{α:Type}:∀ {r:RM α} {K:α->List Loc->Prop},r.HP s K->∃a rd,K a rd/\∀K':α->List Loc->Prop,K' a rd->r.HP s K'
 | .ret a,K,h=>⟨a,[],h,fun _ h=>h⟩
 | .fail,_,h=>h.elim
 | .Il t k,K,h=>by
  simp only [RM.HP] at h ⊢
  split at h
  ·obtain ⟨a,rd,h1,h2⟩:=RM.J7 h
   exact ⟨a,_,h1,fun K' hk=>h2 _ hk⟩
  ·exact h.elim
 | .Im t k,K,h=>by
  simp only [RM.HP] at h ⊢
  split at h
  ·obtain ⟨a,rd,h1,h2⟩:=RM.J7 h
   exact ⟨a,_,h1,fun K' hk=>h2 _ hk⟩
  ·exact h.elim
 | .G3 t k,K,h=>by
  simp only [RM.HP] at h ⊢
  split at h
  ·obtain ⟨a,rd,h1,h2⟩:=RM.J7 h
   exact ⟨a,_,h1,fun K' hk=>h2 _ hk⟩
  ·exact h.elim
 | .assume p k,K,h=>by
  obtain ⟨a,rd,h1,h2⟩:=RM.J7 h.2
  exact ⟨a,rd,h1,fun K' hk=>⟨h.1,h2 _ hk⟩⟩
theorem RV{gr:List Loc}{ro:TypeId->Option Bool}{K':DS × Option Ext × S × Pk->List Ca->Prop}(hd:∀d,o.dst=some d->d<cx.n)
  (E5:∀s',(∀l∈gr,s'.get l=s.get l)->∀g l a w,Bc cx s' g l a w->Region.wanted o (yielded all.toArray a.tmps)=true) (h:(YK P ro cx.n all o gr s).wp P sc K') :
  ∃d x s' pk C6,K' (d,x,s',pk) C6/\d.DT=x.isSome/\s'={ s.DG d.ws with ext:=x.getD s.ext }/\(pk.isSome=true->x=some Jl)/\((∀p e,pk=some (p,e)->Q (.panic p) ⟨[],[],e⟩)->Tx P cx all.toArray (Qx cx Q) o d s (x.getD s.ext)):=by
 have plain:(∃C6,Gk P ro cx.n all o gr s fun d x s'=>K' (d,x,s',none) C6)∨Gk P ro cx.n all o gr s (fun d x s'=>∃C6,K' (d,x,s',none) C6)->∃d x s' pk C6,K' (d,x,s',pk) C6/\d.DT=x.isSome/\s'={ s.DG d.ws with ext:=x.getD s.ext }/\(pk.isSome=true->x=some Jl)/\((∀p e,pk=some (p,e)->Q (.panic p) ⟨[],[],e⟩)->Tx P cx all.toArray (Qx cx Q) o d s (x.getD s.ext)):=by
  rintro (⟨C6,JH⟩ | JH)
  ·obtain ⟨d,x,s',hk,he,Yc,hl⟩:=FA (Q:=Qx cx Q) hd E5 JH
   exact ⟨d,x,s',none,C6,hk,he,Yc,fun h=>by simp at h,fun _=>hl⟩
  ·obtain ⟨d,x,s',⟨C6,hk⟩,he,Yc,hl⟩:=FA (Q:=Qx cx Q) hd E5 JH
   exact ⟨d,x,s',none,C6,hk,he,Yc,fun h=>by simp at h,fun _=>hl⟩
 unfold YK at h
 split at h
 ·rename_i r hr
  obtain ⟨⟨f,args⟩,rd,⟨Mj,h1⟩,TH⟩:=RM.J7 (RM.Eo (SM.Bf h))
  obtain ⟨res,e',pu,C6,hK,Lz,hC,hpu⟩:=UA (SM.Bf h1)
  cases res with
  | panic p=>
   refine ⟨_,_,_,_,_,SM.wp_ret hK,rfl,rfl,fun _=>rfl,fun hQ=>?_⟩
   obtain ⟨_,_,⟨rfl,rfl⟩,Kr⟩:=RM.Fm (TH (fun a r=>a=(f,args)/\r=rd) ⟨rfl,rfl⟩)
   intro _ s1 OT Xg _ g l a w hs
   rw [iP (E5 s1 (fun l hl=>OT l (List.mem_append_left _ hl)) g l a w hs)]
   have hC':BX P f args s1.ext fun r1 e1=>r1 = .panic p/\e1=e':=by rw [Xg (by simp [DS.xf])]; exact hC
   refine CO ?_ (G6 (Q:=Qx cx Q) (K:=fun _=>False) hr hd hs (RM.wp_mono (fun y hy=>?_) (Kr s1 fun l hl=>OT l (List.mem_append_right _ hl))))
   ·rintro a' w' ⟨s',g',l',hf,sm⟩; exact hf.elim
   ·subst hy
    refine ⟨Lz,hC'.mono ?_⟩
    rintro _ _ ⟨rfl,rfl⟩
    exact ⟨⟨[],[],_⟩,fun g l a w sm=>sm.bare,hQ _ _ rfl⟩
  | ret p=>
   cases pu with
   | true=>exact plain (.inl ⟨C6,by unfold Gk; rw [hr]; exact TH _ ⟨Lz,.inl ⟨.ret p,.v p,rfl,(hpu rfl).2,SM.wp_ret hK⟩⟩⟩)
   | false=>exact plain (.inl ⟨C6,by unfold Gk; rw [hr]; exact TH _ ⟨Lz,.inr ⟨.ret p,.v p,e',rfl,hC,SM.wp_ret hK⟩⟩⟩)
  | own te z es=>
   cases pu with
   | true=>exact plain (.inl ⟨C6,by unfold Gk; rw [hr]; exact TH _ ⟨Lz,.inl ⟨.own te z es,.uniq te z es,rfl,(hpu rfl).2,SM.wp_ret hK⟩⟩⟩)
   | false=>exact plain (.inl ⟨C6,by unfold Gk; rw [hr]; exact TH _ ⟨Lz,.inr ⟨.own te z es,.uniq te z es,e',rfl,hC,SM.wp_ret hK⟩⟩⟩)
 ·rename_i hr
  refine plain (.inr ?_)
  unfold Gk
  rw [hr]
  refine RM.D7 (UB (SM.Bf h)) ?_
  rintro wr rd ⟨Xi,h2⟩
  simp only at h2
  split at h2
  ·rename_i hx; rw [iP hx]; exact ⟨Xi,SM.wp_ret h2⟩
  ·rename_i hx; rw [iN hx]; exact ⟨Xi,SM.wp_ret h2⟩
def YL(all:List Oper)(o:Oper)(s:S):SM (Bool × List Loc):=match o.guard with
 | none => .ret (true,[])
 | some (j,want)=>match (all[j]?).bind (·.dst) with
  | some dj=>match lk s.tmps dj with
   | some (.v (.bool b))=>(Wt b).Fw fun v => .ret (v==want,[.t dj])
   | some (.v (.B6 _)) => .ret (false,[.t dj])
   | _ => .bad 22
  | none => .bad 23
theorem YM{K':Bool × List Loc->List Ca->Prop}(BE:F0 cx.n all=true)(h:(YL all o s).wp P sc K'):∃b gr C6,K' (b,gr) C6/\∀s',(∀l∈gr,s'.get l=s.get l)->∀g l a w,Bc cx s' g l a w->Region.wanted o (yielded all.toArray a.tmps)=b:=by
 unfold YL at h
 split at h
 ·rename_i hg
  exact ⟨_,_,_,SM.wp_ret h,fun s' _ g l a w _=>by simp [Region.wanted,hg]⟩
 ·rename_i j want hg
  split at h
  ·rename_i dj Tz
   have Yf:dj<cx.n:=by
    simp only [Option.bind_eq_some_iff] at Tz
    obtain ⟨oj,h1,h2⟩:=Tz
    exact DF BE (List.mem_of_getElem? h1) dj h2
   have key:∀ {lv:LV} {b:Bool},lk s.tmps dj=some lv->MT want lv=some b->∀s',(∀l∈[Loc.t dj],s'.get l=s.get l)->∀g l a w,Bc cx s' g l a w->Region.wanted o (yielded all.toArray a.tmps)=b:=fun {lv b} Gx hb s' Yc g l a w sm=>by
    have h1:lk s'.tmps dj=some lv:=by rw [RF (Yc (.t dj) sM)]; exact Gx
    simp only [Region.wanted,hg]
    exact JK (by simpa using Tz) Yf sm h1 hb
   split at h
   ·rename_i b hb
    obtain ⟨C6,h1⟩:=Mi (SM.Bf h)
    exact ⟨_,_,_,SM.wp_ret h1,key hb rfl⟩
   ·rename_i vs hb
    exact ⟨_,_,_,SM.wp_ret h,key hb rfl⟩
   ·exact h.elim
  ·exact h.elim
abbrev qS:=Option (Nat × PV × Ext)
def dead(an:List (List Nat))(k:Nat):qS->Bool
 | some (i,_)=>(an.getD k []).contains i
 | none=>false
def UH(k:Nat)(pk:qS)(x:Option Ext)(pp:Pk):Option qS:=match pk with
 | none=>some (pp.map fun y=>(k,y))
 | some q=>if x.isSome=true then none else some (some q)
def Wx(P:Program)(ro:TypeId->Option Bool)(n:Nat)(all:List Oper)(an:List (List Nat)):List Oper->Nat->qS->S->SM (List DS × S × qS × List Ext)
 | [],_,pk,s => .ret ([],s,pk,[])
 | o::rest,k,pk,s=>match dead an k pk with
  | true=>(Wx P ro n all an rest (k+1) pk s).Fw fun x => .ret (⟨[],[],true⟩::x.1,x.2.1,x.2.2.1,Jl::x.2.2.2)
  | false=>(YL all o s).Fw fun b=>match b with
   | (true,gr)=>(SM.tag o s (YK P ro n all o gr s)).Fw fun y=>match UH k pk y.2.1 y.2.2.2 with
    | some Xj=>(Wx P ro n all an rest (k+1) Xj y.2.2.1).Fw fun x => .ret (y.1::x.1,x.2.1,x.2.2.1,y.2.1.toList++x.2.2.2)
    | none => .bad 24
   | (false,gr)=>(Wx P ro n all an rest (k+1) pk (s.DG (DH o (.v (.B6 []))))).Fw fun x => .ret (⟨gr,DH o (.v (.B6 [])),false⟩::x.1,x.2)
theorem HS{ro:TypeId->Option Bool}{an:List (List Nat)}(BE:F0 cx.n all=true):∀ {ls:List Oper} {k:Nat} {pk:qS} {s:S} {sc:List Ca} {K':List DS × S × qS × List Ext->List Ca->Prop},(∀o∈ls,o∈all)->(pk.isSome=true->s.ext=Jl)->(Wx P ro cx.n all an ls k pk s).wp P sc K' ->
  ∃B5 xs t Xj C6,K' (B5,t,Xj,xs) C6/\(pk.isSome=true->Xj=pk)/\(Xj.isSome=true->t.ext=Jl)/\((∀i p e,Xj=some (i,p,e)->Q (.panic p) ⟨[],[],e⟩)->IF P cx all.toArray (Qx cx Q) ls B5 xs s t)
 | [],k,pk,s,sc,K',_,RW,h=>⟨[],[],s,pk,sc,SM.wp_ret h,fun _=>rfl,RW,fun _=>rfl⟩
 | o::rest,k,pk,s,sc,K',hm,RW,h=>by
  have hd:∀d,o.dst=some d->d<cx.n:=DF BE (hm o sM)
  have FN:∀o∈rest,o∈all:=fun o ho=>hm o (List.mem_cons_of_mem _ ho)
  simp only [Wx] at h
  split at h
  ·rename_i A0b
   have Tg:pk.isSome=true:=by cases pk <;> first | rfl | cases A0b
   have SX:=RW Tg
   obtain ⟨B5,xs,t,Xj,C6,h1,h2,h3,h4⟩:=HS BE FN RW (SM.Bf h)
   refine ⟨_::B5,(some Jl).toList++xs,t,Xj,C6,SM.wp_ret h1,h2,h3,fun hQ=>⟨some Jl,xs,rfl,rfl,?_,?_⟩⟩
   ·intro _ s1 _ Xg _ g l a w hs
    exact (Le hs ((Xg (by simp [DS.xf])).trans SX)).elim
   ·have:({ s.DG [] with ext:=(some Jl).getD s.ext }:S)=s:=by
     show ({ s with ext:=Jl }:S)=s
     rw [<-SX]
    rw [this]
    exact h4 hQ
  ·obtain ⟨b,gr,Mj,h1,E5⟩:=YM (cx:=cx) BE (SM.Bf h)
   cases b with
   | true=>
    obtain ⟨d,x,s',pp,Xi,h2,he,rfl,xL,hl⟩:=RV (Q:=Q) hd E5 (SM.Yy (SM.Bf h1))
    simp only at h2
    split at h2
    ·rename_i Xj hj
     have A7e:Xj.isSome=true->({ s.DG d.ws with ext:=x.getD s.ext }:S).ext=Jl:=fun hs=>by
      show x.getD s.ext=Jl
      unfold UH at hj
      split at hj
      ·injection hj with hj
       subst hj
       have:pp.isSome=true:=by cases pp <;> first | rfl | (simp at hs)
       rw [xL this]; rfl
      ·split at hj
       ·cases hj
       ·rename_i hx
        have:x=none:=by cases x <;> first | rfl | simp at hx
        subst this
        exact RW rfl
     obtain ⟨B5,xs,t,pk2,C6,h3,h4,h5,h6⟩:=HS BE FN A7e (SM.Bf h2)
     refine ⟨d::B5,x.toList++xs,t,pk2,C6,SM.wp_ret h3,fun hs=>?_,h5,fun hQ=>⟨x,xs,rfl,he,hl fun p e hp=>?_,h6 hQ⟩⟩
     ·unfold UH at hj
      split at hj
      ·simp at hs
      ·split at hj
       ·cases hj
       ·injection hj with hj
        subst hj
        exact h4 rfl
     ·unfold UH at hj
      split at hj
      ·injection hj with hj
       subst hj
       rw [hp] at h4
       exact hQ k p e (h4 rfl)
      ·split at hj
       ·cases hj
       ·rename_i hx
        have:x=none:=by cases x <;> first | rfl | simp at hx
        subst this
        have:=xL (by rw [hp]; rfl)
        cases this
    ·exact h2.elim
   | false=>
    have Yb:=Ko (DH o (.v (.B6 []))) s
    obtain ⟨B5,xs,t,Xj,C6,h3,h4,h5,h6⟩:=HS BE FN (s:=s.DG (DH o (.v (.B6 [])))) (fun hs=>by rw [Yb]; exact RW hs) (SM.Bf h1)
    refine ⟨_::B5,(none:Option Ext).toList++xs,t,Xj,C6,SM.wp_ret h3,h4,h5,fun hQ=>⟨none,xs,rfl,rfl,?_,?_⟩⟩
    ·intro _ s' OT Xg _ g l a w sm
     rw [iN (by rw [E5 s' OT g l a w sm]; simp)]
     refine ⟨g,l,?_⟩
     show Bc cx { s'.DG (DH o (.v (.B6 []))) with ext:=s'.ext } g l (a.put o.dst undef) w
     unfold DH
     cases Eh:o.dst with
     | none=>exact sm
     | some d=>exact sm.set (hd d Eh) (.B6 [] [] rfl fun j h=>by simp at h)
    ·have e2:s.DG (DH o (.v (.B6 [])))={ s.DG (DH o (.v (.B6 []))) with ext:=s.ext }:=by rw [<-Yb]
     have:=h6 hQ
     rw [e2] at this
     exact this
def Qf(P:Program)(o:Oper)(d:DS):Bool:=!d.DT&&d.rd.any Q5&&(callee P o).isNone&&o.guard.isNone
def Qg(P:Program)(o:Oper)(d:DS):DS:=match Qf P o d with
 | true=>⟨d.rd.filter (fun l=>!Q5 l),d.ws,d.DT⟩
 | false=>d
def Hx(P:Program):List Oper->List DS->List DS
 | o::ops,d::ds=>Qg P o d::Hx P ops ds
 | _,ds=>ds
theorem UI(P:Program)(o:Oper)(d:DS):(Qg P o d).ws=d.ws/\(Qg P o d).DT=d.DT:=by unfold Qg; split <;> exact ⟨rfl,rfl⟩
theorem RX(P:Program):∀ {ops:List Oper} {B5:List DS} {i:Nat} {o:Oper} {d':DS},ops[i]?=some o->(Hx P ops B5)[i]?=some d'->∃d,B5[i]?=some d/\d'=Qg P o d
 | [],_,_,_,_,h,_=>by simp at h
 | o::ops,[],i,_,_,_,h=>by simp [Hx] at h
 | o::ops,d::ds,0,_,_,h,h'=>by
  simp only [Hx,List.getElem?_cons_zero,Option.some.injEq] at h h' ⊢
  subst h
  exact ⟨d,rfl,h'.symm⟩
 | o::ops,d::ds,i+1,_,_,h,h'=>by
  simp only [Hx,List.getElem?_cons_succ] at h h' ⊢
  exact RX P h h'
theorem Ks(P:Program):∀ (ops:List Oper) (B5:List DS),(Hx P ops B5).length=B5.length
 | [],_=>rfl
 | _::_,[]=>rfl
 | o::ops,d::ds=>by simp [Hx,Ks P ops ds]
theorem OY(P:Program)(D:Nat->Bool):∀ (ops:List Oper) (B5:List DS) (k:Nat),D6 D k (Hx P ops B5)=D6 D k B5
 | [],_,_=>rfl
 | _::_,[],_=>rfl
 | o::ops,d::ds,k=>by simp only [Hx,D6,OY P D ops ds,(UI P o d).1]
theorem Lf(P:Program)(D:Nat->Bool):∀ (ops:List Oper) (B5:List DS) (k:Nat),DR D k (Hx P ops B5)=DR D k B5
 | [],_,_=>rfl
 | _::_,[],_=>rfl
 | o::ops,d::ds,k=>by simp only [Hx,DR,Lf P D ops ds,(UI P o d).2]
theorem IF.El{all:Array Oper}:∀ {ls:List Oper} {B5:List DS} {xs:List Ext} {s t:S},IF P cx all Q ls B5 xs s t->xs.length=B5.countP (·.DT)
 | [],[],[],_,_,_=>rfl
 | o::rest,d::ds,xs,s,t,h=>by
  obtain ⟨x,gJ,rfl,hx,-,hr⟩:=h
  have ih:=IF.El hr
  cases x with
  | none=>simp only [Option.isSome_none] at hx; simp [hx,ih]
  | some e=>simp only [Option.isSome_some] at hx; simp [hx,ih]
 | [],_::_,_,_,_,h=>h.elim
 | _::_,[],_,_,_,h=>h.elim
 | [],[],_::_,_,_,h=>h.elim
def LK:Ext->Bool
 | [(0,[lv])]=>match lv with
  | .v (.sl 1 [[]])=>true
  | _=>false
 | _=>false
theorem YN{e:Ext}(h:LK e=true):e=Jl:=by
 unfold LK at h
 split at h
 ·split at h
  ·rfl
  ·cases h
 ·cases h
def lM(P:Program)(ro:TypeId->Option Bool)(n:Nat)(all:List Oper)(o:Oper)(d:DS)(s:S):SM Unit:=((act P ro n all o).Gn s).Fw fun x=>match x.1,d.ws with
 | [.tmp t lv],[.tmp t' Xa]=>if t=t'/\(x.2.filter (fun l=>!Q5 l)).all (fun l=>d.rd.contains l)=true then SM.lH (.eqv lv Xa) () else .bad 60
 | _,_ => .bad 61
def RY(P:Program)(ro:TypeId->Option Bool)(n:Nat)(all:List Oper)(o:Oper)(d:DS)(s:S):List Ext->SM Unit
 | [] => .ret ()
 | e::r=>match LK e with
  | true=>RY P ro n all o d s r
  | false=>(lM P ro n all o d { s with ext:=e }).Fw fun _=>RY P ro n all o d s r
def OZ(P:Program)(ro:TypeId->Option Bool)(n:Nat)(all:List Oper)(es:List Ext):List Oper->List DS->S->SM Unit
 | o::ops,d::ds,s=>match Qf P o d with
  | true=>(RY P ro n all o d s es).Fw fun _=>OZ P ro n all es ops ds (s.DG d.ws)
  | false=>OZ P ro n all es ops ds (s.DG d.ws)
 | _,_,_ => .ret ()
def YO(P:Program)(ro:TypeId->Option Bool)(n:Nat)(all:List Oper)(o:Oper)(d:DS)(s:S):Prop:=(act P ro n all o).HP s fun wr rd=>wr=d.ws/\∀l∈rd,Q5 l=false->l∈d.rd
theorem YP{ro:TypeId->Option Bool}{n:Nat}{d:DS}{K':Unit->List Ca->Prop}(h:(lM P ro n all o d s).wp P sc K'):YO P ro n all o d s/\∃C6,K' () C6:=by
 obtain ⟨wr,rd,⟨Mj,h1⟩,TH⟩:=RM.J7 (RM.Eo (SM.Bf h))
 simp only at h1
 split at h1
 ·rename_i t lv t' Xa hd
  split at h1
  ·rename_i hc
   obtain ⟨h2,h3⟩:=SM.JS h1
   refine ⟨TH _ ⟨?_,fun l hl hx=>?_⟩,Mj,h3⟩
   ·have h2':lv=Xa:=h2
    rw [hd,hc.1,h2']
   ·have:=hc.2
    simp only [List.all_eq_true,List.mem_filter,Bool.not_eq_true',and_imp] at this
    simpa using this l hl hx
  ·exact h1.elim
 ·exact h1.elim
theorem Na{ro:TypeId->Option Bool}{n:Nat}{d:DS}:∀ {es:List Ext} {sc:List Ca} {K':Unit->List Ca->Prop},(RY P ro n all o d s es).wp P sc K'->(∀e∈es,LK e=false->YO P ro n all o d { s with ext:=e })/\∃C6,K' () C6
 | [],sc,K',h=>⟨fun e he=>by simp at he,sc,SM.wp_ret h⟩
 | e::r,sc,K',h=>by
  simp only [RY] at h
  split at h
  ·rename_i ha
   obtain ⟨h3,h4⟩:=Na h
   refine ⟨fun e' he hb=>?_,h4⟩
   rcases List.mem_cons.1 he with rfl | he
   ·rw [ha] at hb; cases hb
   ·exact h3 e' he hb
  ·obtain ⟨h1,Mj,h2⟩:=YP (SM.Bf h)
   obtain ⟨h3,h4⟩:=Na h2
   refine ⟨fun e' he hb=>?_,h4⟩
   rcases List.mem_cons.1 he with rfl | he
   ·exact h1
   ·exact h3 e' he hb
theorem RZ{ro:TypeId->Option Bool}{n:Nat}{es:List Ext}:∀ {ops:List Oper} {ds:List DS} {s:S} {sc:List Ca} {K':Unit->List Ca->Prop},(OZ P ro n all es ops ds s).wp P sc K' ->
  (∀i o d,ops[i]?=some o->ds[i]?=some d->Qf P o d=true->∀e∈es,LK e=false->YO P ro n all o d { s.DG ((ds.take i).flatMap (·.ws)) with ext:=e })/\∃C6,K' () C6
 | [],[],s,sc,K',h=>⟨fun i o d ho=>by simp at ho,sc,SM.wp_ret h⟩
 | [],_::_,s,sc,K',h=>⟨fun i o d ho=>by simp at ho,sc,SM.wp_ret h⟩
 | _::_,[],s,sc,K',h=>⟨fun i o d _ hd=>by simp at hd,sc,SM.wp_ret h⟩
 | o::ops,d::ds,s,sc,K',h=>by
  have key:(∀e∈es,LK e=false->Qf P o d=true->YO P ro n all o d { s with ext:=e })/\∃Mj,(OZ P ro n all es ops ds (s.DG d.ws)).wp P Mj K':=by
   simp only [OZ] at h
   split at h
   ·obtain ⟨h1,Mj,h2⟩:=Na (SM.Bf h)
    exact ⟨fun e he hb _=>h1 e he hb,Mj,h2⟩
   ·rename_i hr
    exact ⟨fun e _ _ hc=>absurd hc (by rw [hr]; simp),⟨sc,h⟩⟩
  obtain ⟨k1,Mj,k2⟩:=key
  obtain ⟨h3,h4⟩:=RZ k2
  refine ⟨fun i o' d' ho hd hr e he hb=>?_,h4⟩
  cases i with
  | zero=>
   simp only [List.getElem?_cons_zero,Option.some.injEq] at ho hd
   subst ho hd
   exact k1 e he hb hr
  | succ i=>
   simp only [List.getElem?_cons_succ] at ho hd
   have:=h3 i o' d' ho hd hr e he hb
   simp only [List.take_succ_cons,List.flatMap_cons,JP]
   exact this
theorem P0{id:Nat}{ops:List Oper}{B5:List DS}{xs:List Ext}{t:S}{ro:TypeId->Option Bool}(hm:P.follows .mixedOrders=true)(BE:F0 cx.n ops=true)(x5:IF P cx ops.toArray Q ops B5 xs s t)(JH:∀i o d,ops[i]?=some o->B5[i]?=some d->Qf P o d=true->∀e∈s.ext::xs,LK e=false->YO P ro cx.n ops o d { s.DG ((B5.take i).flatMap (·.ws)) with ext:=e })
  (hc:Ur ops (Hx P ops B5) s.tmps=true) (hq:Q .normal t):PW P cx (.region id ops.toArray true) s Q:=by
 obtain ⟨k1,k2,k3⟩:=x5.at_
 have A7f:=x5.El
 let ef:Nat->Ext:=fun k=>(s.ext::xs).getD (min k xs.length) []
 have Xh:∀k,ef k∈s.ext::xs:=fun k=>by
  show (s.ext::xs).getD (min k xs.length) []∈s.ext::xs
  have:min k xs.length<(s.ext::xs).length:=by simp; omega
  rw [List.getD_eq_getElem?_getD,List.getElem?_eq_getElem this]
  exact List.getElem_mem this
 have hle:∀i,(B5.take i).countP (·.DT)<=xs.length:=fun i=>by
  rw [A7f]
  have:=List.countP_append (p:=fun d:DS=>d.DT) (l₁:=B5.take i) (l₂:=B5.drop i)
  rw [List.take_append_drop] at this
  omega
 have hfe:∀k,k<=xs.length->ef k=(s.ext::xs).getD k []:=fun k hk=>by show (s.ext::xs).getD (min k xs.length) []=_; rw [Nat.min_eq_left hk]
 have hT:∀i,sT s (Hx P ops B5) ef i=Uu s B5 xs i:=fun i=>by
  unfold sT Uu
  have h1:=Ht B5 0 i
  have h2:=EJ B5 0 i
  simp only [Nat.zero_add] at h1 h2
  rw [OY,Lf,h1,h2,hfe _ (hle i)]
 have SU:∀i,DR (fun j=>decide (j<i)) 0 (Hx P ops B5)=(B5.take i).countP (·.DT):=fun i=>by
  rw [Lf]
  have:=EJ B5 0 i
  simpa using this
 refine Q7 (B5:=Hx P ops B5) (e:=ef) hm hc (by rw [Ks]; exact k1) (by rw [hfe 0 (Nat.zero_le _)]; rfl) ?_ fun i o d' ho x8=>?_
 ·have h1:=hT B5.length
  have h2:sD s (Hx P ops B5) ef (fun _=>true)=sT s (Hx P ops B5) ef B5.length:=by
   unfold sD sT
   rw [DN (D:=fun _=>true) (D':=fun j=>decide (j<B5.length)) (B5:=Hx P ops B5) (k:=0) fun j _ hj=>by rw [Ks] at hj; simp at hj; simp [hj]]
   rw [EA (D:=fun _=>true) (D':=fun j=>decide (j<B5.length)) (B5:=Hx P ops B5) (k:=0) fun j d' hj _=>by
    have:=(List.getElem?_eq_some_iff.1 hj).1
    rw [Ks] at this
    simp [this]]
  rw [h2,h1,<-k2]
  exact hq
 ·obtain ⟨d,hd,rfl⟩:=RX P ho x8
  obtain ⟨qT,Ye,-⟩:=JN hc x8
  rw [hT,SU]
  cases hrel:Qf P o d with
  | false=>
   have hrx:Qg P o d=d:=by unfold Qg; rw [hrel]
   rw [hrx] at Ye ⊢
   obtain ⟨e',h1,h2⟩:=k3 i o d ho hd
   intro s' k OT lB SX Iz
   have:=h1 Ye s' OT (fun hx=>by
    rw [SX,lB hx,hfe _ (hle i)]; rfl) Iz
   refine this.of (fun p hp=>?_) ?_
   ·cases p <;> first | rfl | cases hp
   ·simp only
    cases qU:d.DT with
    | true=>
     have zS:=lB (by simp [DS.xf,qU])
     have Ad:(B5.take i).countP (·.DT)+1<=xs.length:=by
      have h5:=hle (i+1)
      rw [List.take_add_one,hd] at h5
      simp [qU] at h5
      exact h5
     rw [zS,h2 qU,hfe _ (by simpa using Ad)]
     rfl
    | false=>simp only [Bool.false_eq_true,if_false,Nat.add_zero]; exact SX.symm
  | true=>
   have A7g:=JH i o d ho hd hrel
   have hrx:Qg P o d=⟨d.rd.filter (fun l=>!Q5 l),d.ws,d.DT⟩:=by unfold Qg; rw [hrel]
   have Wh:d.DT=false:=by
    simp only [Qf,Bool.and_eq_true,Bool.not_eq_true'] at hrel
    exact hrel.1.1.1
   have A7h:callee P o=none:=by
    simp only [Qf,Bool.and_eq_true,Option.isNone_iff_eq_none] at hrel
    exact hrel.1.2
   have A7i:o.guard=none:=by
    simp only [Qf,Bool.and_eq_true,Option.isNone_iff_eq_none] at hrel
    exact hrel.2
   rw [hrx] at Ye qT ⊢
   simp only at Ye qT
   intro s' k OT _ SX Iz
   cases qV:LK (ef k) with
   | true=>exact fun g l a w sm=>(Le sm (SX.trans (YN qV))).elim
   | false=>
   have hS:=A7g (ef k) (Xh k) qV
   have fV:∀d0,o.dst=some d0->d0<cx.n:=DF BE (List.mem_of_getElem? ho)
   have Ya:Gk P ro cx.n ops o [] { s.DG ((B5.take i).flatMap (·.ws)) with ext:=ef k } fun d1 x _=>d1.ws=d.ws/\d1.DT=false/\x=none/\∀l∈d1.rd,Q5 l=false->l∈d.rd:=by
    unfold Gk
    rw [A7h]
    refine RM.D7 hS ?_
    rintro wr rd ⟨rfl,hrd⟩
    have hno:d.ws.any Q8=false:=by
     rw [Bool.eq_false_iff]
     intro A7j
     obtain ⟨x,hx,hxw⟩:=List.any_eq_true.1 A7j
     have:=List.all_eq_true.1 qT x hx
     cases x <;> first | (simp [Q8] at hxw; done) | (simp [Dk] at this; done)
    rw [iN (by rw [hno]; simp)]
    exact ⟨rfl,rfl,rfl,by simpa using hrd⟩
   obtain ⟨d1,x,s1,⟨hws,VV,Au,A7k⟩,-,-,hL⟩:=FA (Q:=Q) fV (fun s'' _ g l a w _=>by simp [Region.wanted,A7i]) Ya
   have:=hL (by rw [hws]; exact Ye) s' (fun l hl=>by
    by_cases hx:Q5 l=true
    ·cases l with
     | t _=>cases hx
     | b _=>cases hx
     | x n=>simp only [S.get]; rw [SX]
    ·have x4:Q5 l=false:=by simpa using hx
     have h6:=OT l (List.mem_filter.2 ⟨A7k l hl x4,by simp [x4]⟩)
     rw [h6]
     unfold Uu
     cases l <;> first | rfl | exact absurd rfl hx) (fun zM=>SX) (by rw [hws]; exact Iz)
   refine this.of (fun p hp=>?_) ?_
   ·rw [hws]
    cases p <;> first | rfl | cases hp
   ·simp only [Wh,VV,Bool.false_eq_true,if_false,Nat.add_zero]
    exact SX.symm
def qW(P:Program)(md:Md)(n:Nat)(ops:List Oper)(draw:Bool)(s:S):SM (A7 × S):=match draw with
 | false=>RS P md n ops ops 0 s
 | true=>(Wx P md.ro n ops (Wf ops []) ops 0 none s).Fw fun x=>match Ur ops x.1 s.tmps with
  | true=>match x.2.2.1 with
   | none => .ret (.normal,x.2.1)
   | some (_,p,e) => .ret (.panic p,⟨[],[],e⟩)
  | false=>match Ur ops (Hx P ops x.1) s.tmps with
   | true=>(OZ P md.ro n ops (s.ext::x.2.2.2) ops x.1 s).Fw fun _=>match x.2.2.1 with
    | none => .ret (.normal,x.2.1)
    | some (_,p,e) => .ret (.panic p,⟨[],[],e⟩)
   | false => .bad 25
theorem TI{id:Nat}{ops:Array Oper}{draw:Bool}{K':A7 × S->List Ca->Prop}(hm:P.follows .mixedOrders=true)(BE:F0 cx.n ops.toList=true)(h:(qW P md cx.n ops.toList draw s).wp P sc K')(hk:∀pe s' C6,K' (pe,s') C6->Q pe s'):PW P cx (.region id ops draw) s Q:=by
 obtain ⟨ops⟩:=ops
 cases draw with
 | false=>exact fun g l0 a w hs=>wp_region_lit (TG BE hk (fun _ h=>h) h g l0 a w hs)
 | true=>
  simp only [qW] at h
  obtain ⟨B5,xs,t,pk,C6,h1,-,h3,h4⟩:=HS (Q:=Q) BE (fun _ h=>h) (fun h=>by simp at h) (SM.Bf h)
  simp only at h1
  split at h1
  rotate_left
  ·split at h1
   ·rename_i hc
    refine RT ?_
    obtain ⟨JH,Xi,h5⟩:=RZ (SM.Bf h1)
    cases pk with
    | none=>exact P0 hm BE (h4 fun i p e he=>by cases he) JH hc (.inr (hk _ _ _ (SM.wp_ret h5)))
    | some v=>
     obtain ⟨i,p,e⟩:=v
     refine P0 hm BE (h4 fun i p e he=>?_) JH hc (.inl (h3 rfl))
     injection he with he
     injection he with h5' h6
     injection h6 with h6 h7
     subst h6 h7
     exact hk _ _ _ (SM.wp_ret h5)
   ·exact h1.elim
  ·rename_i hc
   refine RT ?_
   cases pk with
   | none=>
    refine RU hm (h4 fun i p e he=>?_) hc (.inr (hk _ _ _ (SM.wp_ret h1)))
    cases he
   | some v=>
    obtain ⟨i,p,e⟩:=v
    refine RU hm (h4 fun i p e he=>?_) hc (.inl (h3 rfl))
    injection he with he
    injection he with h5 h6
    injection h6 with h6 h7
    subst h6 h7
    exact hk _ _ _ (SM.wp_ret h1)
end
def UJ(body:S->SM (A7 × S)):Nat->S->SM (A7 × S)
 | 0,_ => .bad 26
 | n+1,s=>(body s).Fw fun r=>match r with
  | (.normal,s')=>UJ body n s'
  | r => .ret r
def A0c(n:Nat)(c:Code)(body:S->SM (A7 × S))(fl:Nat)(s:S):SM (A7 × S)
 | .loop s0 pe s1::sc => .ok (pe,s1) sc [.le s0 s,.loop n c s0 pe s1]
 | .Yw::sc=>UJ body fl s sc
 | _ => .no (.loop n c s)
def iE(n:Nat)(c:Code)(s:S):SM (A7 × S)
 | .loop s0 pe s1::sc => .ok (pe,s1) sc [.le s0 s,.F9 n c s0 pe s1]
 | _ => .no (.loop n c s)
def YQ:Code->Option Nat
 | .region id _ _=>some id
 | .seq a _=>YQ a
 | _=>none
def A0d(md:Md)(c:Code):Bool:=match YQ c with
 | some id=>md.row (2000000+id)
 | none=>false
def DW(P:Program)(md:Md)(n fl:Nat):Code->S->SM (A7 × S)
 | .skip,s => .ret (.normal,s)
 | .region id ops draw,s=>match md.row (1000000+id) with
  | true=>iE n (.region id ops draw) s
  | false=>qW P md n ops.toList draw s
 | .seq a b,s=>match A0d md a with
  | true=>iE n (.seq a b) s
  | false=>(DW P md n fl a s).Fw fun r=>match r with
   | (.normal,s')=>DW P md n fl b s'
   | r => .ret r
 | .cond (.tmp t) x y,s=>match lk s.tmps t with
  | some (.v (.bool b))=>(Wt b).Fw fun v=>match v with
   | true=>DW P md n fl x s
   | false=>DW P md n fl y s
  | _ => .bad 27
 | .cond (.const v) x y,s=>match v with
  | .bool true=>DW P md n fl x s
  | .bool false=>DW P md n fl y s
  | _ => .bad 29
 | .block id c,s=>(DW P md n fl c s).Fw fun r=>match r with
  | (.exit Rf,s')=>if Rf=id then .ret (.normal,s') else .ret (.exit Rf,s')
  | r => .ret r
 | .loop c,s=>A0c n c (DW P md n fl c) fl s
 | .exit id,s => .ret (.exit id,s)
 | .ret,s => .ret (.ret,s)
 | _,_ => .bad 28
section
variable {P:Program} {cx:Cx} {md:Md} {fl:Nat}
theorem S0{c:Code}{body:S->SM (A7 × S)}{Q:A7->S->Prop}{K':A7 × S->List Ca->Prop}(Uy:∀ {s:S} {sc:List Ca} {K':A7 × S->List Ca->Prop} {Q:A7->S->Prop},(body s).wp P sc K'->(∀pe s' C6,K' (pe,s') C6->Q pe s')->PW P cx c s Q)
  {n:Nat} {s:S} {sc:List Ca} (h:(UJ body n s).wp P sc K') (hk:∀pe s' C6,K' (pe,s') C6->Q pe s'):PW P cx (.loop c) s Q:=by
 refine N4 (α:={ x:Nat × S × List Ca // (UJ body x.1 x.2.1).wp P x.2.2 K' }) (fun x=>x.1.2.1) (fun x=>x.1.1) ⟨(n,s,sc),h⟩ rfl ?_
 rintro ⟨⟨n,s,sc⟩,h⟩
 cases n with
 | zero=>exact h.elim
 | succ n=>
  refine Uy (SM.Bf h) fun pe s' C6 h1=>?_
  cases pe with
  | normal=>exact ⟨⟨(n,s',C6),h1⟩,Nat.lt_succ_self _,rfl⟩
  | exit i=>exact hk _ _ _ (SM.wp_ret h1)
  | ret=>exact hk _ _ _ (SM.wp_ret h1)
  | panic p=>exact hk _ _ _ (SM.wp_ret h1)
theorem D1(hm:P.follows .mixedOrders=true):∀ (c:Code) {s:S} {sc:List Ca} {K':A7 × S->List Ca->Prop} {Q:A7->S->Prop},BZ cx.n c=true->(DW P md cx.n fl c s).wp P sc K'->(∀pe s' C6,K' (pe,s') C6->Q pe s')->PW P cx c s Q
 | .skip,s,sc,K',Q,_,h,hk=>PG (hk _ _ _ (SM.wp_ret h))
 | .region id ops draw,s,sc,K',Q,hc,h,hk=>by
  simp only [DW] at h
  split at h
  ·unfold SM.wp iE at h
   split at h
   ·obtain ⟨⟨h1,h2,-⟩,h3⟩:=h
    refine PW.eZ h1 ((h2 cx rfl).mono ?_)
    rintro _ _ ⟨rfl,rfl⟩
    exact hk _ _ _ h3
   ·exact h.elim
  ·exact TI hm hc h hk
 | .seq a b,s,sc,K',Q,hc,h,hk=>by
  simp only [BZ,Bool.and_eq_true] at hc
  simp only [DW] at h
  split at h
  ·unfold SM.wp iE at h
   split at h
   ·obtain ⟨⟨h1,h2,-⟩,h3⟩:=h
    refine PW.eZ h1 ((h2 cx rfl).mono ?_)
    rintro _ _ ⟨rfl,rfl⟩
    exact hk _ _ _ h3
   ·exact h.elim
  ·refine L5 (D1 hm a hc.1 (SM.Bf h) fun pe s' C6 h1=>?_)
   cases pe with
   | normal=>exact D1 hm b hc.2 h1 hk
   | exit i=>exact hk _ _ _ (SM.wp_ret h1)
   | ret=>exact hk _ _ _ (SM.wp_ret h1)
   | panic p=>exact hk _ _ _ (SM.wp_ret h1)
 | .cond x a b,s,sc,K',Q,hc,h,hk=>by
  simp only [BZ,Bool.and_eq_true] at hc
  cases x with
  | tmp t=>
   simp only [DW] at h
   split at h
   ·rename_i v ht
    obtain ⟨C6,h1⟩:=Mi (SM.Bf h)
    refine Kf ht (fun e=>?_) (fun e=>?_)
    ·subst e; exact D1 hm a hc.1 h1 hk
    ·subst e; exact D1 hm b hc.2 h1 hk
   ·exact h.elim
  | const v=>
   simp only [DW] at h
   split at h
   ·exact fun g l a' w hs=>wp_cond_split (show a'.eval (.const (.bool true)) = .bool true from rfl) (fun _=>D1 hm a hc.1 h hk g l a' w hs) (fun e=>Bool.noConfusion e)
   ·exact fun g l a' w hs=>wp_cond_split (show a'.eval (.const (.bool false)) = .bool false from rfl) (fun e=>Bool.noConfusion e) (fun _=>D1 hm b hc.2 h hk g l a' w hs)
   ·exact h.elim
  | global _=>simp only [DW] at h; exact h.elim
  | func _=>simp only [DW] at h; exact h.elim
 | .block id c,s,sc,K',Q,hc,h,hk=>by
  simp only [BZ] at hc
  simp only [DW] at h
  refine MB (D1 hm c hc (SM.Bf h) fun pe s' C6 h1=>?_)
  cases pe with
  | normal=>exact hk _ _ _ (SM.wp_ret h1)
  | exit i=>
   simp only [MA]
   simp only at h1
   split at h1
   ·rename_i e; rw [iP e]; exact hk _ _ _ (SM.wp_ret h1)
   ·rename_i e; rw [iN e]; exact hk _ _ _ (SM.wp_ret h1)
  | ret=>exact hk _ _ _ (SM.wp_ret h1)
  | panic p=>exact hk _ _ _ (SM.wp_ret h1)
 | .loop c,s,sc,K',Q,hc,h,hk=>by
  simp only [BZ] at hc
  simp only [DW] at h
  unfold SM.wp A0c at h
  split at h
  ·obtain ⟨⟨h1,h2,-⟩,h3⟩:=h
   refine PW.eZ h1 ((h2 cx rfl).mono ?_)
   rintro _ _ ⟨rfl,rfl⟩
   exact hk _ _ _ h3
  ·exact S0 (fun h hk=>D1 hm c hc h hk) h hk
  ·exact h.elim
 | .exit id,s,sc,K',Q,_,h,hk=>PI (hk _ _ _ (SM.wp_ret h))
 | .ret,s,sc,K',Q,_,h,hk=>T8 (hk _ _ _ (SM.wp_ret h))
 | .rangeFunc _ _ _ _,_,_,_,_,_,h,_=>by simp only [DW] at h; exact h.elim
 | .scope _,_,_,_,_,_,h,_=>by simp only [DW] at h; exact h.elim
 | .label _,_,_,_,_,_,h,_=>by simp only [DW] at h; exact h.elim
 | .goto _,_,_,_,_,_,h,_=>by simp only [DW] at h; exact h.elim
 | .refuse _,_,_,_,_,_,h,_=>by simp only [DW] at h; exact h.elim
theorem qX(md:Md)(n fl:Nat)(sc:List Ca){c:Code}{s s':S}{pe:A7}{C6:List Ca}{l:List Ob}{Q:A7->S->Prop}(hm:P.follows .mixedOrders=true)(hn:cx.n=n)(hc:BZ n c=true)(h:DW P md n fl c s sc = .ok (pe,s') C6 l)(hl:QZ P l)(hq:Q pe s'):PW P cx c s Q:=by
 subst hn
 refine D1 (K':=fun r _=>r=(pe,s')) hm c hc (show SM.wp P _ sc _ from by unfold SM.wp; rw [h]; exact ⟨hl,rfl⟩) ?_
 rintro _ _ _ ⟨rfl,rfl⟩
 exact hq
theorem PW.TJ{c:Code}{s:S}{Q:A7->S->Prop}(h:PW P cx c s fun pe s'=>∃t,Ol t s'/\Q pe t):PW P cx c s Q:=fun g l a w hs=>by
 refine wp_mono (h g l a w hs) ?_
 rintro e a' w' ⟨pe,s',g',l',⟨t,h1,h2⟩,er,sm⟩
 exact ⟨pe,t,g',l',h2,er,sm.eZ h1⟩
def IC{α:Type}(l:List (Nat × α)):List Nat->List (Nat × α)
 | []=>[]
 | k::r=>match lk l k with
  | some v=>(k,v)::IC l r
  | none=>IC l r
def lP(ks bs:List Nat)(s:S):S:=⟨IC s.tmps ks,IC s.boxes bs,s.ext⟩
theorem Lg(l:List (Nat × LV)):∀ks,eP (IC l ks) l
 | []=>trivial
 | k::r=>by
  simp only [IC]
  split
  ·rename_i v hv
   refine ⟨?_,Lg l r⟩
   rw [hv]
   exact WL.refl v
  ·exact Lg l r
theorem Lh(l:List (Nat × List LV)):∀ks,eR (IC l ks) l
 | []=>trivial
 | k::r=>by
  simp only [IC]
  split
  ·rename_i v hv
   refine ⟨?_,Lh l r⟩
   rw [hv]
   exact ES.refl v
  ·exact Lh l r
def SR.BK(ks bs:List Nat):SR (A7 × S)->SR (A7 × S)
 | .ok (pe,s) sc l => .ok (pe,lP ks bs s) sc l
 | .no n => .no n
theorem G8(md:Md)(n fl:Nat)(sc:List Ca)(ks bs:List Nat){c:Code}{s s':S}{pe:A7}{C6:List Ca}{l:List Ob}{Q:A7->S->Prop}(hm:P.follows .mixedOrders=true)(hn:cx.n=n)(hc:BZ n c=true)(h:(DW P md n fl c s sc).BK ks bs = .ok (pe,s') C6 l)(hl:QZ P l)(hq:Q pe s'):PW P cx c s Q:=by
 cases he:DW P md n fl c s sc with
 | no _=>rw [he] at h; cases h
 | ok a Mj l1=>
  obtain ⟨pe1,s1⟩:=a
  rw [he] at h
  simp only [SR.BK,SR.ok.injEq,Prod.mk.injEq] at h
  obtain ⟨⟨rfl,rfl⟩,rfl,rfl⟩:=h
  exact PW.TJ (qX md n fl sc hm hn hc he hl ⟨lP ks bs s1,⟨Lg _ _,Lh _ _,rfl⟩,hq⟩)
theorem Ob.G9{α:Type}{n:Nat}{c:Code}(I:α->S)(μ:α->Nat)(res:α->A7 × S)
  (round:∀x (cx:Cx),cx.n=n->PW P cx c (I x) fun pe s'=>(pe = .normal/\∃y,μ y<μ x/\Ol (I y) s'/\res y=res x)∨(pe ≠ .normal/\pe=(res x).1/\Ol (res x).2 s')) (x:α):(Ob.loop n c (I x) (res x).1 (res x).2).ok P:=by
 intro cx AH
 refine PW.TJ ?_
 refine N4 (α:={ y:α × S // res y.1=res x/\(y.2=I y.1∨Ol (I y.1) y.2) }) (fun y=>y.1.2) (fun y=>μ y.1.1) ⟨(x,I x),rfl,.inl rfl⟩ rfl ?_
 ·rintro ⟨⟨y,s⟩,hy,hle⟩
  have go:∀ {Q:A7->S->Prop},PW P cx c (I y) Q->PW P cx c s Q:=fun hp=>by
   rcases hle with h0 | hle
   ·have h0':s=I y:=h0
    rw [h0']; exact hp
   ·exact PW.eZ hle hp
  refine go ((round y cx AH).mono ?_)
  rintro pe s' (⟨rfl,z,h1,h2,h3⟩ | ⟨h1,h2,h3⟩)
  ·exact ⟨⟨(z,s'),h3.trans hy,.inr h2⟩,h1,rfl⟩
  ·rw [hy] at h2 h3
   cases pe with
   | normal=>exact absurd rfl h1
   | _=>exact ⟨_,h3,h2,rfl⟩
end
def JT:Code->List Code
 | .seq a b=>JT a++JT b
 | .cond _ a b=>JT a++JT b
 | .block _ c=>JT c
 | .loop c=>c::JT c
 | _=>[]
def Nc(id:Nat):Code->Option Code
 | .region i ops d=>if i=id then some (.region i ops d) else none
 | .seq a b=>match Nc id a with
  | some c=>some c
  | none=>Nc id b
 | .cond _ a b=>match Nc id a with
  | some c=>some c
  | none=>Nc id b
 | .block _ c=>Nc id c
 | .loop c=>Nc id c
 | _=>none
def BC(fn:Func)(id:Nat):Code:=match fn.body with
 | some c=>(Nc id c).getD .skip
 | none => .skip
def YS(id:Nat):Code->Option Code
 | .seq a b=>match YQ a with
  | some i=>if i=id then some (.seq a b) else YS id b
  | none=>YS id b
 | _=>none
def UK(fn:Func)(id:Nat):Code:=match fn.body with
 | some c=>(YS id c).getD .skip
 | none => .skip
def Am(fn:Func)(k:Nat):Code:=match fn.body with
 | some c=>(JT c).getD k .skip
 | none => .skip
def A0e(P:Program)(res:List ResultVar)(pe:A7)(s:S):SM (Cd × Ext):=match TB P res pe s with
 | some x => .ret x
 | none => .bad 30
def iF(P:Program)(res:List ResultVar)(s:S)(e:Ext):SM (Cd × Ext):=match Fz P { s with ext:=e } res with
 | some q => .ret (.ret q,e)
 | none => .bad 31
def Qh:Code->Option (List Code × Oper × Oper × Nat × Code)
 | .seq (.region i ⟨[mk,df]⟩ false) y=>match df.op with
  | .defer ⟨.value (.tmp t),⟨[]⟩,_⟩=>some ([],mk,df,t,y)
  | _=>(Qh y).map fun x=>(.region i ⟨[mk,df]⟩ false::x.1,x.2)
 | .seq a b=>(Qh b).map fun x=>(a::x.1,x.2)
 | _=>none
theorem YT:∀ {c:Code} {xs:List Code} {mk df:Oper} {t:Nat} {y:Code},Qh c=some (xs,mk,df,t,y)->∃id ts,c=Wj xs (.seq (.region id #[mk,df] false) y)/\df.op = .defer ⟨.value (.tmp t),#[],ts⟩:=by
 intro c
 induction c using Qh.induct with
 | case1 i mk df y t ts K8=>
  intro xs mk' df' t' y' h
  simp only [Qh,K8,Option.some.injEq,Prod.mk.injEq] at h
  obtain ⟨rfl,rfl,rfl,rfl,rfl⟩:=h
  exact ⟨i,ts,rfl,K8⟩
 | case2 i mk df y Ct ih=>
  intro xs mk' df' t' y' h
  unfold Qh at h
  split at h
  ·rename_i t ts K8
   exact absurd K8 (Ct t ts)
  ·simp only [Option.map_eq_some_iff] at h
   obtain ⟨⟨xs1,mk1,Br,t1,y1⟩,h1,h2⟩:=h
   simp only [Prod.mk.injEq] at h2
   obtain ⟨rfl,rfl,rfl,rfl,rfl⟩:=h2
   obtain ⟨id,ts,h3,h4⟩:=ih h1
   exact ⟨id,ts,by rw [h3]; rfl,h4⟩
 | case3 a b Ct ih=>
  intro xs mk' df' t' y' h
  rw [Qh] at h
  ·simp only [Option.map_eq_some_iff] at h
   obtain ⟨⟨xs1,mk1,Br,t1,y1⟩,h1,h2⟩:=h
   simp only [Prod.mk.injEq] at h2
   obtain ⟨rfl,rfl,rfl,rfl,rfl⟩:=h2
   obtain ⟨id,ts,h3,h4⟩:=ih h1
   exact ⟨id,ts,by rw [h3]; rfl,h4⟩
  ·exact Ct
 | case4 c h1 h2=>
  intro xs mk' df' t' y' h
  unfold Qh at h
  split at h
  ·exact absurd rfl (h1 _ _ _ _)
  ·exact absurd rfl (h2 _ _)
  ·cases h
def qY(P:Program)(md:Md)(n fl:Nat):List Code->S->SM S
 | [],s => .ret s
 | c::r,s=>(DW P md n fl c s).Fw fun x=>match x with
  | (.normal,s')=>qY P md n fl r s'
  | _ => .bad 37
theorem Nf{P:Program}{cx:Cx}{md:Md}{fl:Nat}(hm:P.follows .mixedOrders=true){K:S->Prop}:∀ {xs:List Code} {s:S} {sc:List Ca} {K':S->List Ca->Prop},(∀c∈xs,BZ cx.n c=true)->(qY P md cx.n fl xs s).wp P sc K'->(∀s' C6,K' s' C6->K s')->PWs P cx xs s K
 | [],s,sc,K',_,h,hk=>hk _ _ (SM.wp_ret h)
 | c::r,s,sc,K',hc,h,hk=>by
  refine D1 hm c (hc c List.mem_cons_self) (SM.Bf h) fun pe s' C6 h1=>?_
  cases pe with
  | normal=>exact ⟨rfl,Nf hm (fun c QX=>hc c (List.mem_cons_of_mem _ QX)) h1 hk⟩
  | exit i=>exact h1.elim
  | ret=>exact h1.elim
  | panic p=>exact h1.elim
theorem LL{n:Nat}:∀ {xs:List Code} {c:Code},BZ n (Wj xs c)=true->(∀x∈xs,BZ n x=true)/\BZ n c=true
 | [],c,h=>⟨fun x hx=>by simp at hx,h⟩
 | x::r,c,h=>by
  simp only [Wj,BZ,Bool.and_eq_true] at h
  obtain ⟨h1,h2⟩:=LL h.2
  refine ⟨fun y hy=>?_,h2⟩
  rcases List.mem_cons.1 hy with rfl | hy
  ·exact h.1
  ·exact h1 y hy
def Qi(P:Program)(md:Md)(fl:Nat)(fn:Func)(args:List PV)(e:Ext):SM (Cd × Ext):=match fn.body with
 | none => .bad 32
 | some c=>if args.length<=fn.ntmps then (match Qh c with
  | none=>(DW P md fn.ntmps fl c (FR args e)).Fw fun r=>A0e P fn.results.toList r.1 r.2
  | some (r0,mk,df,t,y)=>if mk.guard.isNone&&df.guard.isNone&&df.dst.isNone then ((qY P md fn.ntmps fl r0 (FR args e)).Fw fun s=>((act P md.ro fn.ntmps [mk,df] mk).runM s).Fw fun wr=>match lk (s.Io wr).tmps t with
    | some (.v (.fn (.func F8) first cap))=>if Fl P F8=true then (DW P md fn.ntmps fl y (s.Io wr)).Fw fun r2=>match r2 with
     | (.panic p,s2)=>(gZ F8 (first++cap) s2.ext (.x6 p)).Fw fun d=>match d with
      | (.gL,e')=>iF P fn.results.toList s2 e'
      | _ => .bad 33
     | (.exit _,_) => .bad 34
     | (_,s2)=>(gZ F8 (first++cap) s2.ext .ret).Fw fun d=>match d with
      | (.ret,e')=>iF P fn.results.toList s2 e'
      | _ => .bad 35 else .bad 41
    | _ => .bad 36) else .bad 38) else .bad 39
section
variable {P:Program} {md:Md} {fl:Nat} {f:FuncId} {fn:Func} {args:List PV} {e:Ext}
theorem Ng{sc:List Ca}{R:Cd->Ext->Prop}(hm:P.follows .mixedOrders=true)(hf:P.funcs[f]?=some fn)(Eu:JR fn=true)(h:(Qi P md fl fn args e).wp P sc fun r _=>R r.1 r.2):BX P f args e R:=by
 unfold Qi at h
 unfold JR at Eu
 split at h
 ·exact h.elim
 ·rename_i c hb
  rw [hb] at Eu
  simp only at Eu
  split at h
  ·rename_i hn
   split at h
   ·refine BX.enter hf hb hn fun cx AH PX=>?_
    rw [<-AH] at Eu h
    refine D1 hm c Eu (SM.Bf h) fun pe s' C6 h1=>?_
    unfold A0e at h1
    split at h1
    ·rename_i x hx
     have:=JQ (r:=x.1) (e:=x.2) hx
     have h2:=SM.wp_ret h1
     cases pe with
     | panic p=>obtain ⟨h3,h4⟩:=this; show R _ _; rw [h3,h4]; exact h2
     | exit i=>exact this
     | normal=>obtain ⟨q,h3,h4,h5⟩:=this; refine ⟨q,h3,?_⟩; rw [h4,h5]; exact h2
     | ret=>
      rcases this with ⟨q,h3,h4,h5⟩ | ⟨t,e0,z,es,h3,h4,h7,h5,h6⟩
      ·refine .inl ⟨q,h3,?_⟩; rw [h4,h5]; exact h2
      ·refine .inr ⟨t,e0,z,es,h3,h4,h7,?_⟩; rw [h5,h6]; exact h2
    ·exact h1.elim
   ·rename_i r0 mk df t y K6
    obtain ⟨id,ts,rfl,qC⟩:=YT K6
    obtain ⟨A0f,A0g⟩:=LL Eu
    simp only [BZ,Bool.and_eq_true] at A0g
    split at h
    ·rename_i hg
     simp only [Bool.and_eq_true,Option.isNone_iff_eq_none] at hg
     refine BX.gN md.ro hf hb hn qC hg.1.1 hg.1.2 hg.2 fun cx AH PX=>?_
     have h0:=SM.Bf h
     rw [<-AH] at h0 A0f
     refine Nf hm A0f h0 fun s Mj h1=>?_
     have Xd:=h1
     try rw [AH] at Xd
     refine RM.wp_mono ?_ (RM.Ev (SM.Bf Xd))
     rintro wr ⟨Xi,h2⟩
     ·skip
      split at h2
      ·rename_i F8 first cap gG
       split at h2
       ·rename_i A7l
        refine ⟨F8,first,cap,gG,A7l,fun Yl Yu=>?_⟩
        have A0h:=A0g.2
        have h3:=SM.Bf h2
        rw [<-Yu] at A0h h3
        refine D1 hm y A0h h3 fun pe s2 sc3 h4=>?_
        have AF:∀ {s2:S} {e1:Ext} {sc:List Ca},(iF P fn.results.toList s2 e1).wp P sc (fun r _=>R r.1 r.2)->∃q,Fz P { s2 with ext:=e1 } fn.results.toList=some q/\R (.ret q) e1:=by
         intro s2 e1 sc h
         unfold iF at h
         split at h
         ·rename_i q hq; exact ⟨q,hq,SM.wp_ret h⟩
         ·exact h.elim
        have fin:∀ {m m':PM} {e1:Ext},EB P F8 (first++cap) s2.ext m (fun m1 qK=>m1=m'/\qK=e1)->(∃q,Fz P { s2 with ext:=e1 } fn.results.toList=some q/\R (.ret q) e1)->EB P F8 (first++cap) s2.ext m fun m1 qK=>m1=m'/\∃q,Fz P { s2 with ext:=qK } fn.results.toList=some q/\R (.ret q) qK:=by
         intro m m' e1 k2 hq vs g l w u ha he hu
         refine (k2 vs g l w u ha he hu).mono ?_
         rintro en u' w' ⟨v,m2,e2,g',l',k3,⟨k4,k5⟩,k6⟩
         exact ⟨v,m2,e2,g',l',k3,⟨k4,by rw [k5]; exact hq⟩,k6⟩
        cases pe with
        | panic p=>
         obtain ⟨m',e1,sc4,h5,-,h6⟩:=Qb (SM.Bf h4)
         split at h5
         ·rename_i e2 heq
          injection heq with e3 e4
          subst e3 e4
          exact fin h6 (AF h5)
         ·exact h5.elim
        | exit i=>exact h4.elim
        | normal=>
         obtain ⟨m',e1,sc4,h5,-,h6⟩:=Qb (SM.Bf h4)
         split at h5
         ·rename_i e2 heq
          injection heq with e3 e4
          subst e3 e4
          exact fin h6 (AF h5)
         ·exact h5.elim
        | ret=>
         obtain ⟨m',e1,sc4,h5,-,h6⟩:=Qb (SM.Bf h4)
         split at h5
         ·rename_i e2 heq
          injection heq with e3 e4
          subst e3 e4
          exact fin h6 (AF h5)
         ·exact h5.elim
       ·exact h2.elim
      ·exact h2.elim
    ·exact h.elim
  ·exact h.elim
theorem Ob.Qj(md:Md)(fl:Nat)(sc:Ext->List Ca){r:Cd}{C6:Ext->List Ca}{l:Ext->List Ob}(hm:P.follows .mixedOrders=true)(hf:P.funcs[f]?=some fn)(Eu:(Fl P f&&JR fn)=true)(h:∀e,Qi P md fl fn args e (sc e) = .ok (r,e) (C6 e) (l e))(hl:∀e,QZ P (l e)):(Ob.Jt f args r).ok P:=by
 simp only [Bool.and_eq_true] at Eu
 refine ⟨Eu.1,fun e=>Ng hm hf Eu.2 (sc:=sc e) (md:=md) (fl:=fl) ?_⟩
 unfold SM.wp
 rw [h e]
 exact ⟨hl e,rfl,rfl⟩
theorem Ob.JU(md:Md)(fl:Nat)(sc:List Ca){r:Cd}{e':Ext}{C6:List Ca}{l:List Ob}(hm:P.follows .mixedOrders=true)(hf:P.funcs[f]?=some fn)(Eu:(Fl P f&&JR fn)=true)(h:Qi P md fl fn args e sc = .ok (r,e') C6 l)(hl:QZ P l):(Ob.DT f args e r e').ok P:=by
 simp only [Bool.and_eq_true] at Eu
 refine ⟨Eu.1,Ng hm hf Eu.2 (sc:=sc) (md:=md) (fl:=fl) ?_⟩
 unfold SM.wp
 rw [h]
 exact ⟨hl,rfl,rfl⟩
end
theorem BH{x:Bool}(h:x=false):(!x)=true:=by rw [h]; rfl
theorem B3{x:Bool}(h:x=true):(!x)=false:=by rw [h]; rfl
theorem dT{p:Prop} [Decidable p] (h:p):decide p=true:=decide_eq_true h
theorem dF{p:Prop} [Decidable p] (h:¬p):decide p=false:=decide_eq_false h
theorem P3{x:Int}(h1 : -9223372036854775808<=x)(h2:x<=9223372036854775807):IntKind.i64.wrap x=x:=by
 simp only [IntKind.wrap,IntKind.bits,IntKind.signed]
 simp
 omega
theorem wrap64{x:Int}(h1 : -9223372036854775808<=x)(h2:x<=9223372036854775807):LV.v (.int .i64 (IntKind.i64.wrap x))=LV.v (.int .i64 x):=by rw [P3 h1 h2]
theorem YU{a b:ByteArray}(h:a.toList=b.toList):a=b:=by
 rw [ByteArray.toList_eq,ByteArray.toList_eq] at h
 cases a; cases b
 congr
 exact Array.toList_inj.1 h
theorem DZ{a b:ByteArray}(h:a=b):(a.toList==b.toList)=true:=by rw [h]; simp
theorem HT{a b:ByteArray}(h:¬a=b):(a.toList==b.toList)=false:=by
 simp only [beq_eq_false_iff_ne,ne_eq]
 exact fun e=>h (YU e)
theorem BX.forget{P:Program}{f:FuncId}{args:List PV}{res:Cd}{e1:Ext}(ha:Ci args=true)(hr:res.EN=true)(h:BX P f args [] fun r e=>r=res/\e=e1)(e:Ext):BX P f args e fun r e'=>r=res/\e'=e:=by
 intro vs g l w Hq E4
 let g2:Gh:=⟨g.M,fun _=>none,fun _ _=>none⟩
 let l2:LG:=⟨fun _=>none,fun _=>none,fun _=>none⟩
 have h1:AE g2 w args vs:=⟨Hq.1,fun j hj Cj=>BO.names (g:=g) rfl (F1 ha j hj) (Hq.2 j hj Cj)⟩
 have h2:SV [] g2 l2 w:={ ex:=fun x cs hx=>(by simp [lk] at hx),OK:=fun b o ho=>(by cases ho),uo:=fun p b hb=>(by cases hb),fresh:=⟨E4.fresh.1,fun _ _=>rfl,fun _ _ _=>rfl⟩,Gg:=fun n b hb=>(by cases hb),only:=fun b o ho=>(by cases ho),Jj:=E4.Jj.names rfl }
 refine (h vs g2 l2 w h1 h2).mono ?_
 rintro en w' ⟨r,e2,g',l',⟨rfl,rfl⟩,AF,IG,II,Cb,Tq,MU,os,tape,output⟩
 have Tr:∀b o,l'.O b=some o->w.heap.size<=b:=fun b o ho=>by
  rcases MU b o ho with h | h
  ·exact h
  ·cases h
 let g3:Gh:=⟨g'.M,g.X,g.Y⟩
 have Hp:∀b,b<w.heap.size->w'.heap[b]?=w.heap[b]?/\g'.M b=g.M b:=fun b hb=>Tq b hb rfl
 have Wl:Ch g w g3 w':=⟨fun n b hb=>hb,fun b o v hc hf=>by
   obtain ⟨k1,k2⟩:=II.cell b o v hc (fun k hk=>hf k hk)
   exact ⟨k1,fun k hk=>k2 k hk⟩,fun b cur t hb=>II.len b cur t hb,fun _ _ _ h=>h⟩
 refine ⟨r,e,g3,l,⟨rfl,rfl⟩,?_,?_,Wl,Cb,fun b hb _=>Hp b hb,fun b o ho => .inr (by rw [ho]; rfl),os,tape,output⟩
 ·cases r with
  | ret p=>
   cases en <;> first | exact AF.elim | skip
   exact BO.names (g:=g') rfl hr AF
  | own te z es=>
   cases en <;> first | exact AF.elim | skip
   obtain ⟨K7,AF⟩:=AF
   refine ⟨K7,?_⟩
   rcases AF with (h | ⟨a,h,h'⟩) | ⟨b,cap,cur,k1,k2,k3,k4,k5,k6,k7,k8⟩
   ·exact .inl (.inl h)
   ·exact .inl (.inr ⟨a,h,BO.names (g:=g') rfl (by simpa [PV.EN,Cd.EN] using hr) h'⟩)
   ·have hb:w.heap.size<=b:=by
     rcases k2 with h | h
     ·exact h
     ·cases h
    refine .inr ⟨b,cap,cur,k1,.inl hb,k3,?_,k5,k6,k7,BO.names (g:=g') rfl (by simpa [PV.EN,Cd.EN] using hr) k8⟩
    cases Ga:l.O b with
    | none=>rfl
    | some o=>exact absurd (E4.OK b o Ga) oM
  | panic p=>
   cases en <;> first | exact AF.elim | skip
   obtain ⟨v,hv,fW⟩:=AF
   exact ⟨v,hv,BO.names (g:=g') rfl hr fW⟩
 ·refine ⟨fun x cs hx=>?_,fun b o ho=>Nat.lt_of_lt_of_le (E4.OK b o ho) Cb,E4.uo,⟨IG.fresh.1,E4.fresh.2⟩,fun n b hb=>Nat.lt_of_lt_of_le (E4.Gg n b hb) Cb,E4.only,E4.Jj.mono Wl⟩
  obtain ⟨b,k1,k2,hE⟩:=E4.ex x cs hx
  have hb:=Hp b (E4.OK b _ k2)
  refine ⟨b,k1.mono Wl,k2,?_⟩
  rcases hE with ⟨k3,cur,t,k4,k5,k6⟩ | hE
  rotate_left
  ·exact .inr (hE.BK Wl (fun _ _ _ h=>h) hb.2 hb.1)
  refine .inl ⟨hb.2.trans k3,cur,t,hb.1.trans k4,k5,fun j hj=>⟨(k6 j hj).1,(k6 j hj).2.1,?_⟩⟩
  refine (k6 j hj).2.2.BK Wl (fun _ _ _=>rfl) fun b' Ga=>?_
  have Ad:=E4.OK b' _ (E4.uo _ _ Ga)
  exact ⟨Ga,(Hp b' Ad).2,(Hp b' Ad).1⟩
theorem Ob.Bn{P:Program}{f:FuncId}{args:List PV}{r:Cd}{e':Ext}(ha:Ci args=true)(hr:r.EN=true)(h:(Ob.DT f args [] r e').ok P):(Ob.Jt f args r).ok P:=⟨h.1,fun e=>BX.forget ha hr h.2 e⟩
theorem Ob.S1{P:Program}(md:FuncId->Md)(fl d:Nat){f:FuncId}{args:List PV}{r:Cd}(hm:P.follows .mixedOrders=true)(h:((TK P md fl d).1 f args []).map Prod.fst=some r)(ha:Ci args=true)(hr:r.EN=true):(Ob.Jt f args r).ok P:=by
 have:=(Nh (P:=P) (md:=md) (fl:=fl) hm d).1
 cases he:(TK P md fl d).1 f args [] with
 | none=>rw [he] at h; cases h
 | some x=>
  obtain ⟨r1,e1⟩:=x
  rw [he] at h
  injection h with h
  subst h
  obtain ⟨h1,h2⟩:=this f args [] _ _ he
  exact Ob.Bn ha hr ⟨h1,h2⟩
theorem HU{P:Program}{x y:LV}(h:x=y):(Ob.eqv x y).ok P:=h
theorem Bu{P:Program}{x y:Bool}(h:x=y):(Ob.bit x y).ok P:=h
theorem Qk{b:Bool}(h:¬b=false):b=true:=by cases b <;> simp_all
theorem DC{b:Bool}(h:¬b=true):b=false:=by cases b <;> simp_all
theorem beT{a b:Int}(h:a=b):(a==b)=true:=by simp [h]
theorem beF{a b:Int}(h:¬a=b):(a==b)=false:=by simp [h]
theorem Jm{a b:Int}(h:¬a=b):(a != b)=true:=by simp [h]
theorem A7m{a b:Int}(h:a=b):(a != b)=false:=by simp [h]
theorem WL.r{v:LV}:WL v v := .inl rfl
inductive Wk:PV->PV->Prop
 | r (p:PV):Wk p p
 | n (z:Nat):Wk .Ab (.sl z [])
 | op (p:PV):Wk (.T3 p) p
 | qo (p:PV) (h:p.one=true):Wk p (.T3 p)
 | im (t:TypeId) (f:Nat) (p:PV):Wk (.iface t p) (.VQ t f p)
 | agg {a b:List PV} (h1:a.length=b.length) (h:∀j (h:j<a.length) (h':j<b.length),Wk a[j] b[j]):Wk (.agg a) (.agg b)
 | B6 {a b:List PV} (h1:a.length=b.length) (h:∀j (h:j<a.length) (h':j<b.length),Wk a[j] b[j]):Wk (.B6 a) (.B6 b)
 | ro {a b:List PV} {o:Nat} (h1:a.length=b.length) (h:∀j (h:j<a.length) (h':j<b.length),Wk a[j] b[j]):Wk (.ro a o) (.ro b o)
 | sl {z:Nat} {a b:List (List PV)} (h1:a.length=b.length) (h2:∀i (h:i<a.length) (h':i<b.length),a[i].length=b[i].length)
   (h:∀i (h:i<a.length) (h':i<b.length) j (k:j<a[i].length) (k':j<b[i].length),Wk a[i][j] b[i][j]):Wk (.sl z a) (.sl z b)
theorem Wk.rep{p q:PV}(h:Wk p q){g:Gh}{w:World}:∀ {v:Value},BO g w p v->BO g w q v:=by
 induction h with
 | r p=>exact fun h=>h
 | n z=>intro v h; cases h; exact .slnil z
 | op p=>
  intro v h
  cases h with
  | T3 _ _ _ h=>exact h
 | qo p h1=>exact fun h => .T3 _ _ (h.one h1) h
 | im t f p=>
  intro v h
  cases h with
  | iface _ _ v h=>exact .VQ _ _ _ v h
 | agg h1 h ih=>
  intro v hr
  cases hr with
  | agg _ vs k1 ko k=>exact .agg _ vs (h1 ▸ k1) ko fun j hj Cj=>ih j (by rw [h1]; exact hj) hj (k j (by rw [h1]; exact hj) Cj)
 | B6 h1 h ih=>
  intro v hr
  cases hr with
  | B6 _ vs k1 k=>exact .B6 _ vs (h1 ▸ k1) fun j hj Cj=>ih j (by rw [h1]; exact hj) hj (k j (by rw [h1]; exact hj) Cj)
 | ro h1 h ih=>
  intro v hr
  cases hr with
  | ro _ off b o vs hc hf ho k=>exact .ro _ _ b o vs (fun j hj=>hc j (by rw [h1]; exact hj)) (fun j hj=>hf j (by rw [h1]; exact hj)) (fun j hj=>ho j (by rw [h1]; exact hj)) fun j hj=>ih j (by rw [h1]; exact hj) hj (k j (by rw [h1]; exact hj))
 | @sl z a b h1 h2 h ih=>
  intro v hr
  cases hr with
  | slnil _=>
   have:b=[]:=List.eq_nil_of_length_eq_zero h1.symm
   subst this
   exact .slnil z
  | sl _ _ ad cap vs hle D5 Cb hc hf ho k=>
   rw [h1] at hle ⊢
   exact .sl z b ad cap vs hle D5 (fun i hi=>by rw [<-h2 i (by rw [h1]; exact hi) hi]; exact Cb i (by rw [h1]; exact hi)) (fun i j hi hj=>hc i j (by rw [h1]; exact hi) hj) (fun i j hi hj=>hf i j (by rw [h1]; exact hi) hj) (fun i j hi hj=>ho i j (by rw [h1]; exact hi) hj)
    fun i j hi hj=>ih i (by rw [h1]; exact hi) hi j (by rw [h2 i (by rw [h1]; exact hi) hi]; exact hj) hj (k i j (by rw [h1]; exact hi) (by rw [h2 i (by rw [h1]; exact hi) hi]; exact hj))
def Jv(a b:List PV):Prop:=a.length=b.length/\∀j (h:j<a.length) (h':j<b.length),Wk a[j] b[j]
theorem Jv.r(a:List PV):Jv a a:=⟨rfl,fun _ _ _ => .r _⟩
theorem Jv.c{x y:PV}{a b:List PV}(h:Wk x y)(hs:Jv a b):Jv (x::a) (y::b):=by
 refine ⟨by simp [hs.1],fun j hj Cj=>?_⟩
 cases j with
 | zero=>exact h
 | succ j=>exact hs.2 j (by simpa using hj) (by simpa using Cj)
theorem Wk.a{a b:List PV}(h:Jv a b):Wk (.agg a) (.agg b) := .agg h.1 h.2
theorem Wk.t{a b:List PV}(h:Jv a b):Wk (.B6 a) (.B6 b) := .B6 h.1 h.2
theorem BX.wk{P:Program}{f:FuncId}{args:List PV}{e e':Ext}{p q:PV}(hw:Wk p q)(h:BX P f args e fun r1 e1=>r1 = .ret p/\e1=e'):BX P f args e fun r1 e1=>r1 = .ret q/\e1=e':=fun vs g l w ha he=>
 (h vs g l w ha he).mono fun en w' ⟨res,e2,g',l',⟨h1,h2⟩,h3,h4⟩=>by
  subst h1 h2
  refine ⟨.ret q,e2,g',l',⟨rfl,rfl⟩,?_,h4⟩
  cases en <;> first | exact h3.elim | exact hw.rep h3
theorem Ob.Ql{P:Program}{f:FuncId}{args:List PV}{p q:PV}(hw:Wk p q)(h:(Ob.Jt f args (.ret p)).ok P):(Ob.Jt f args (.ret q)).ok P:=⟨h.1,fun e=>(h.2 e).wk hw⟩
theorem BX.A0i{P:Program}{f:FuncId}{args:List PV}{e e':Ext}{te:TypeId}{z:Nat}{es:List (List PV)}(h:BX P f args e fun r1 e1=>r1 = .own te z es/\e1=e'):BX P f args e fun r1 e1=>r1 = .ret (.sl z es)/\e1=e':=fun vs g l w ha he=>
 (h vs g l w ha he).mono fun en w' ⟨res,e2,g',l',⟨h1,h2⟩,h3,h4⟩=>by
  subst h1 h2
  refine ⟨.ret (.sl z es),e2,g',l',⟨rfl,rfl⟩,?_,h4⟩
  cases en with
  | returned v=>
   obtain ⟨-,h3⟩:=h3
   rcases h3 with (⟨rfl,rfl⟩ | ⟨a,-,h⟩) | ⟨b,cap,cur,-,-,-,-,-,-,-,h⟩
   ·exact .slnil z
   ·exact h
   ·exact h
  | panicked _=>exact h3.elim
  | _=>exact h3.elim
theorem Ob.Ge{P:Program}{f:FuncId}{args:List PV}{te:TypeId}{z:Nat}{es:List (List PV)}(h:(Ob.Jt f args (.own te z es)).ok P):(Ob.Jt f args (.ret (.sl z es))).ok P:=⟨h.1,fun e=>(h.2 e).A0i⟩
theorem Jv.YV{a b:List PV}(h:Jv a b){g:Gh}{w:World}{vs:List Value}(hr:AE g w a vs):AE g w b vs:=⟨h.1 ▸ hr.1,fun j hj Cj=>(h.2 j (by rw [h.1]; exact hj) hj).rep (hr.2 j (by rw [h.1]; exact hj) Cj)⟩
theorem Ob.iG{P:Program}{f:FuncId}{a b:List PV}{r:Cd}(hw:Jv a b)(h:(Ob.Jt f b r).ok P):(Ob.Jt f a r).ok P:=⟨h.1,fun e vs g l w ha he=>h.2 e vs g l w (hw.YV ha) he⟩
theorem Ob.iH{P:Program}{f:FuncId}{a b:List PV}{e e':Ext}{r:Cd}(hw:Jv a b)(h:(Ob.DT f b e r e').ok P):(Ob.DT f a e r e').ok P:=⟨h.1,fun vs g l w ha he=>h.2 vs g l w (hw.YV ha) he⟩
abbrev aT:Ca := .bit true
abbrev aF:Ca := .bit false
abbrev aI(x:Int):Ca := .RL (.v (.int .i64 x))
abbrev aR(cs:List PV):Ca := .RL (.v (.ro cs 0))
abbrev oT(p:Prop) [Decidable p]:Ob := .bit (decide p) true
abbrev oF(p:Prop) [Decidable p]:Ob := .bit (decide p) false
abbrev oE(x y:Int):Ob := .eqv (.v (.int .i64 x)) (.v (.int .i64 y))
abbrev oR(x y:List PV):Ob := .eqv (.v (.ro x 0)) (.v (.ro y 0))
abbrev oB(x:Bool):Ob := .bit x true
abbrev oC(x:Bool):Ob := .bit x false
theorem pT{P:Program}{p:Prop} [Decidable p] (h:p):(oT p).ok P:=Bu (dT h)
theorem pF{P:Program}{p:Prop} [Decidable p] (h:¬p):(oF p).ok P:=Bu (dF h)
abbrev pI(x:Int):PV := .int .i64 x
abbrev A2(x:Int):LV := .v (.int .i64 x)
abbrev vS(x:ByteArray):LV := .v (.str x)
abbrev vL(n:Nat)(x:List (List PV)):LV := .v (.sl n x)
abbrev rA(x:List PV):Cd := .ret (.agg x)
abbrev rI(x:Int):Cd := .ret (.int .i64 x)
abbrev rB(x:Bool):Cd := .ret (.bool x)
theorem W{v:LV}:WL v v:=WL.r
theorem Ws{l:List LV}:ES l l:=ES.refl l
abbrev jk:LV := .D8
structure Ew (P:Program) where
 a:List Ca
 o:List Ob
 h:QZ P o
section
variable {P:Program}
def Om:List (Ew P)->List Ca
 | []=>[]
 | s::r=>s.a++Om r
def TL:List (Ew P)->List Ob
 | []=>[]
 | s::r=>s.o++TL r
theorem Qm:∀ {a b:List Ob},QZ P a->QZ P b->QZ P (a++b)
 | [],_,_,hb=>hb
 | _::_,_,ha,hb=>⟨ha.1,Qm ha.2 hb⟩
theorem lQ:∀L:List (Ew P),QZ P (TL L)
 | []=>trivial
 | s::r=>Qm s.h (lQ r)
def s1(a:List Ca){o:Ob}(h:o.ok P):Ew P:=⟨a,[o],⟨h,Ar⟩⟩
def bt(b:Bool)(h:b=true:=by rfl):Ew P:=s1 [.bit true] (o := .bit b true) h
def bf(b:Bool)(h:b=false:=by rfl):Ew P:=s1 [.bit false] (o := .bit b false) h
def dt(p:Prop) [Decidable p] (h:p:=by omega):Ew P:=s1 [.bit true] (o := .bit (decide p) true) (decide_eq_true h)
def df(p:Prop) [Decidable p] (h:¬p:=by omega):Ew P:=s1 [.bit false] (o := .bit (decide p) false) (decide_eq_false h)
def et(x y:Int)(h:x=y:=by omega):Ew P:=s1 [.bit true] (o := .bit (x==y) true) (beT h)
def en(x y:Int)(h:¬x=y:=by omega):Ew P:=s1 [.bit false] (o := .bit (x==y) false) (beF h)
def nt(x y:Int)(h:¬x=y:=by omega):Ew P:=s1 [.bit true] (o := .bit (x != y) true) (Jm h)
def nn(x y:Int)(h:x=y:=by omega):Ew P:=s1 [.bit false] (o := .bit (x != y) false) (A7m h)
def am(p:Prop) [Decidable p] (h:p:=by omega):Ew P:=s1 [] (o := .bit (decide p) true) (decide_eq_true h)
def ab(b:Bool)(h:b=true:=by rfl):Ew P:=s1 [] (o := .bit b true) h
def av(x y:LV)(h:x=y:=by rfl):Ew P:=s1 [.RL y] (o := .eqv x y) h
def ai(x y:Int)(h:LV.v (.int .i64 x)=LV.v (.int .i64 y):=by rfl):Ew P:=s1 [.RL (.v (.int .i64 y))] (o := .eqv (.v (.int .i64 x)) (.v (.int .i64 y))) h
def ar(x y:List PV)(h:LV.v (.ro x 0)=LV.v (.ro y 0):=by rfl):Ew P:=s1 [.RL (.v (.ro y 0))] (o := .eqv (.v (.ro x 0)) (.v (.ro y 0))) h
def wr(x:Int)(h1 : -9223372036854775808<=x:=by omega)(h2:x<=9223372036854775807:=by omega):Ew P:=s1 [.RL (.v (.int .i64 x))] (o := .eqv (.v (.int .i64 (IntKind.i64.wrap x))) (.v (.int .i64 x))) (wrap64 h1 h2)
def sl{c:List (List PV)}{n:Nat}(h:c.length=n):Ew P:=s1 [.RL (.v (.int .i64 n))] (o := .eqv (.v (.int .i64 c.length)) (.v (.int .i64 n))) (by rw [h]; rfl)
def kp:Ew P:=⟨[.BK],[],Ar⟩
def rp:Nat->Ew P->Ew P
 | 0,_=>⟨[],[],Ar⟩
 | n+1,s=>⟨s.a++(rp n s).a,s.o++(rp n s).o,Qm s.h (rp n s).h⟩
def ur:Ew P:=⟨[.Yw],[],Ar⟩
def cl{f:FuncId}{args:List PV}{r:Cd}(h:(Ob.Jt f args r).ok P):Ew P:=s1 [.Jt r] h
def ce{f:FuncId}{args:List PV}{e:Ext}{r:Cd}{e':Ext}(h:(Ob.DT f args e r e').ok P):Ew P:=s1 [.DT r e'] h
def cd{f:FuncId}{args:List PV}{e:Ext}{m m':PM}{e':Ext}(h:(Ob.O4 f args e m m' e').ok P):Ew P:=s1 [.O4 m' e'] h
def mg:Ew P:=⟨[.mrg],[],Ar⟩
def lf{n:Nat}{c:Code}{s0:S}{pe:A7}{t:S}(s:S)(h:(Ob.F9 n c s0 pe t).ok P)(hle:Ol s0 s):Ew P:=⟨[.loop s0 pe t],[.le s0 s,.F9 n c s0 pe t],⟨hle,h,Ar⟩⟩
def lp{n:Nat}{c:Code}{s0:S}{pe:A7}{t:S}(s:S)(h:(Ob.loop n c s0 pe t).ok P)(hle:Ol s0 s):Ew P:=⟨[.loop s0 pe t],[.le s0 s,.loop n c s0 pe t],⟨hle,h,Ar⟩⟩
abbrev BA:Type:=ByteArray
def B7{b:Bool}(h:b=true):Ew P:=bt b h
def B1{b:Bool}(h:b=false):Ew P:=bf b h
def E9{p:Prop} [Decidable p] (h:p):Ew P:=dt p h
def Br{p:Prop} [Decidable p] (h:¬p):Ew P:=df p h
def CT{x y:Int}(h:x=y):Ew P:=et x y h
def As{x y:Int}(h:¬x=y):Ew P:=en x y h
def D3{x y:Int}(h:¬x=y):Ew P:=nt x y h
def Bp{x y:Int}(h:x=y):Ew P:=nn x y h
def am1{p:Prop} [Decidable p] (h:p):Ew P:=am p h
def ab1{b:Bool}(h:b=true):Ew P:=ab b h
theorem xr{A B:S}(h:Ol A B:=by (refine ⟨?_,?_,rfl⟩ <;> repeat' first | exact trivial | exact WL.r | exact ES.refl _ | constructor)):Ol A B:=h
def YW{β:Type}:List (Nat × β)->List Nat->Bool
 | [],_=>true
 | x::r,q=>!q.contains x.1&&YW r (x.1::q)
theorem TM{β:Type}{k:Nat}{v:β}:∀ (p r:List (Nat × β)),(∀x,x∈p->¬x.1=k)->lk (p++(k,v)::r) k=some v
 | [],r,_=>by simp [lk]
 | (a,b)::p,r,h=>by
  have h1:=h (a,b) List.mem_cons_self
  simp only at h1
  rw [List.cons_append,lk,iN h1]
  exact TM p r fun x hx=>h x (List.mem_cons_of_mem _ hx)
theorem eP.sf:∀ (r p:List (Nat × LV)) (q:List Nat),(∀x,x∈p->x.1∈q)->YW r q=true->eP r (p++r)
 | [],_,_,_,_=>trivial
 | (k,v)::r,p,q,hp,h=>by
  simp only [YW,Bool.and_eq_true,Bool.not_eq_true',List.contains_eq_mem,decide_eq_false_iff_not] at h
  refine ⟨?_,?_⟩
  ·rw [TM p r fun x hx e=>h.1 (by rw [<-e]; exact hp x hx)]
   exact WL.r
  ·have:=eP.sf r (p++[(k,v)]) (k::q) (fun x hx=>by
    rcases List.mem_append.1 hx with hx | hx
    ·exact List.mem_cons_of_mem _ (hp x hx)
    ·rw [List.mem_singleton.1 hx]; exact List.mem_cons_self) h.2
   rwa [List.append_assoc] at this
theorem eR.sf:∀ (r p:List (Nat × List LV)) (q:List Nat),(∀x,x∈p->x.1∈q)->YW r q=true->eR r (p++r)
 | [],_,_,_,_=>trivial
 | (k,v)::r,p,q,hp,h=>by
  simp only [YW,Bool.and_eq_true,Bool.not_eq_true',List.contains_eq_mem,decide_eq_false_iff_not] at h
  refine ⟨?_,?_⟩
  ·rw [TM p r fun x hx e=>h.1 (by rw [<-e]; exact hp x hx)]
   exact ES.refl _
  ·have:=eR.sf r (p++[(k,v)]) (k::q) (fun x hx=>by
    rcases List.mem_append.1 hx with hx | hx
    ·exact List.mem_cons_of_mem _ (hp x hx)
    ·rw [List.mem_singleton.1 hx]; exact List.mem_cons_self) h.2
   rwa [List.append_assoc] at this
theorem xq{s:S}(h:(YW s.tmps []&&YW s.boxes [])=true):Ol s s:=by
 rw [Bool.and_eq_true] at h
 exact ⟨eP.sf _ [] [] (fun _ h=>by cases h) h.1,eR.sf _ [] [] (fun _ h=>by cases h) h.2,rfl⟩
def lq{n:Nat}{c:Code}{s0:S}{pe:A7}{t:S}(h:(Ob.loop n c s0 pe t).ok P)(hk:(YW s0.tmps []&&YW s0.boxes [])=true:=by rfl):Ew P:=lp s0 h (xq hk)
theorem kR{p:Prop}(h:p:=by kernel_rfl):p:=h
structure C5 where (a b c d e:PV)
theorem oq{P:Program}{x y:Int}(h:¬x=y:=by omega):(Ob.bit (x==y) false).ok P:=Bu (beF h)
end
end Go.Pv
