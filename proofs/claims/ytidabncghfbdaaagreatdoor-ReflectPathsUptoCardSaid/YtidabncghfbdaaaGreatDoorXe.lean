/- Values of Go as plain data, an evaluator over them, and what the functions of the program return; part Xe. -/
import Derived.Test.YtidabncghfbdaaaGreatDoorXd
import Derived.Test.YtidabncghfbdaaaGreatDoorXf
import Derived.Laws.Strings
set_option linter.unusedVariables false
set_option linter.unusedSimpArgs false
set_option linter.unusedSectionVars false
namespace Go.Pv
open Go.RowKit
def LeX(t s:S):Prop:=LeT t.tmps s.tmps/\LeB t.boxes s.boxes/\t.ext=s.ext
theorem Sim.leX{cx:Cx}{s t:S}{g:Gh}{l:LG}{a:Act}{w:World}(h:Sim cx s g l a w)(hl:LeX t s):Sim cx t g l a w where
 hist:=h.hist
 size:=h.size
 defers:=h.defers
 tm k v hk:=let ⟨_,hu,hw⟩:=hl.1.at_ hk; hw.rep (h.tm k _ hu)
 bx k v hk:=by
  obtain ⟨u,hu,hw⟩:=hl.2.1.at_ hk
  obtain ⟨b,h1,h2,h3⟩:=h.bx k u hu
  exact ⟨b,h1,h2,h3.le hw⟩
 ex k v hk:=h.ex k v (by rw [<-hl.2.2]; exact hk)
 own:=h.own
 uo:=h.uo
 fresh:=⟨h.fresh.1,fun n hn=>h.fresh.2.1 n (by rw [<-hl.2.2]; exact hn),fun n c hn=>h.fresh.2.2 n c (by rw [<-hl.2.2]; exact hn)⟩
 xlt:=h.xlt
theorem PW.leX{P:Program}{cx:Cx}{s:S}{Q:PExit->S->Prop}{c:Code}{t:S}(hl:LeX t s)(h:PW P cx c t Q):PW P cx c s Q:=fun g l a w hs=>h g l a w (hs.leX hl)
inductive Ans where
 | pur (r:CRes)
 | eff (r:CRes) (e:Ext)
 | bit (v:Bool)
 | keep
 | as_ (lv:LV)
 | loop (s0:S) (pe:PExit) (s1:S)
 | unroll
 | dfr (m:PM) (e:Ext)
 | mrg
inductive Ob where
 | pur (f:FuncId) (args:List PV) (r:CRes)
 | eff (f:FuncId) (args:List PV) (e:Ext) (r:CRes) (e':Ext)
 | dfr (f:FuncId) (args:List PV) (e:Ext) (m m':PM) (e':Ext)
 | bit (b v:Bool)
 | eqv (x y:LV)
 | loop (n:Nat) (c:Code) (s0:S) (pe:PExit) (s1:S)
 | le (s0 s:S)
 | frag (n:Nat) (c:Code) (s0:S) (pe:PExit) (s1:S)
 | own (f:FuncId) (args:List PV) (k:Nat) (te:TypeId) (z:Nat) (es:List (List PV)) (e:Ext) (r:CRes) (e':Ext)
def Ob.ok(P:Program):Ob->Prop
 | .pur f args r=>isFn P f=true/\∀e,CallC P f args e fun r1 e1=>r1=r/\e1=e
 | .eff f args e r e'=>isFn P f=true/\CallC P f args e fun r1 e1=>r1=r/\e1=e'
 | .dfr f args e m m' e'=>isFn P f=true/\CallCD P f args e m fun m1 e1=>m1=m'/\e1=e'
 | .bit b v=>b=v
 | .eqv x y=>x=y
 | .loop n c s0 pe s1=>∀cx:Cx,cx.n=n->PW P cx (.loop c) s0 fun pe' s'=>pe'=pe/\s'=s1
 | .le s0 s=>LeX s0 s
 | .frag n c s0 pe s1=>∀cx:Cx,cx.n=n->PW P cx c s0 fun pe' s'=>pe'=pe/\s'=s1
 | .own f args k te z es e r e'=>isFn P f=true/\CallO P f args k te z es e fun r1 e1=>r1=r/\e1=e'
def Obs(P:Program):List Ob->Prop
 | []=>True
 | o::r=>o.ok P/\Obs P r
theorem Obs.app{P:Program}:∀ {l m:List Ob},Obs P (l++m)->Obs P l/\Obs P m
 | [],_,h=>⟨trivial,h⟩
 | _::_,_,h=>⟨⟨h.1,(Obs.app h.2).1⟩,(Obs.app h.2).2⟩
inductive Need where
 | bad (k:Nat)
 | call (f:FuncId) (args:List PV) (e:Ext)
 | test (b:Bool)
 | val (lv:LV)
 | loop (n:Nat) (c:Code) (s:S)
 | dfr (f:FuncId) (args:List PV) (e:Ext) (m:PM)
 | at_ (k:Nat) (o:Oper) (s:S)
 | own (f:FuncId) (args:List PV) (k:Nat) (te:TypeId) (z:Nat) (es:List (List PV)) (e:Ext)
inductive SR (α:Type) where
 | ok (a:α) (sc:List Ans) (l:List Ob)
 | no (n:Need)
abbrev SM(α:Type):=List Ans->SR α
section
variable {α β:Type} {P:Program}
def SM.ret(a:α):SM α:=fun sc => .ok a sc []
def SM.bad(k:Nat):SM α:=fun _ => .no (.bad k)
def SM.bnd(m:SM α)(f:α->SM β):SM β:=fun sc=>match m sc with
 | .ok a sc' l=>match f a sc' with
  | .ok b sc2 l2 => .ok b sc2 (l++l2)
  | .no n => .no n
 | .no n => .no n
def SR.wp(P:Program)(K:α->List Ans->Prop):SR α->Prop
 | .ok a sc' l=>Obs P l/\K a sc'
 | .no _=>False
def SM.wp(P:Program)(m:SM α)(sc:List Ans)(K:α->List Ans->Prop):Prop:=(m sc).wp P K
theorem SM.wp_ret{a:α}{sc:List Ans}{K:α->List Ans->Prop}(h:(SM.ret a).wp P sc K):K a sc:=h.2
theorem SM.wp_bnd{m:SM α}{f:α->SM β}{sc:List Ans}{K:β->List Ans->Prop}(h:(m.bnd f).wp P sc K):m.wp P sc fun a sc'=>(f a).wp P sc' K:=by
 unfold SM.wp SM.bnd at *
 cases hm:m sc with
 | no n=>rw [hm] at h; exact h
 | ok a sc' l=>
  rw [hm] at h
  simp only at h
  cases hf:f a sc' with
  | no n=>rw [hf] at h; exact h.elim
  | ok b sc2 l2=>
   rw [hf] at h
   have:=Obs.app h.1
   exact ⟨this.1,by show SR.wp P K (f a sc'); rw [hf]; exact ⟨this.2,h.2⟩⟩
def SM.tag(o:Oper)(s:S)(m:SM α):SM α:=fun sc=>match m sc with
 | .ok a sc' l => .ok a sc' l
 | .no (.bad k) => .no (.at_ k o s)
 | .no n => .no n
theorem SM.wp_tag{o:Oper}{s:S}{m:SM α}{sc:List Ans}{K:α->List Ans->Prop}(h:(SM.tag o s m).wp P sc K):m.wp P sc K:=by
 unfold SM.wp SM.tag at *
 cases hm:m sc with
 | ok a sc' l=>rw [hm] at h; exact h
 | no n=>rw [hm] at h; cases n <;> exact h.elim
def SM.owe(o:Ob)(a:α):SM α:=fun sc => .ok a sc [o]
theorem SM.wp_owe{o:Ob}{a:α}{sc:List Ans}{K:α->List Ans->Prop}(h:(SM.owe o a).wp P sc K):o.ok P/\K a sc:=⟨h.1.1,h.2⟩
def askB(b:Bool):SM Bool
 | .bit v::sc => .ok v sc [.bit b v]
 | _ => .no (.test b)
theorem askB_wp{b:Bool}{sc:List Ans}{K:Bool->List Ans->Prop}(h:(askB b).wp P sc K):∃sc',K b sc':=by
 unfold SM.wp askB at h
 split at h
 ·rename_i v sc'
  have:b=v:=h.1.1
  subst this
  exact ⟨sc',h.2⟩
 ·exact h.elim
def askV(lv:LV):SM LV
 | .keep::sc => .ok lv sc []
 | .as_ lv'::sc => .ok lv' sc [.eqv lv lv']
 | _ => .no (.val lv)
theorem askV_wp{lv:LV}{sc:List Ans}{K:LV->List Ans->Prop}(h:(askV lv).wp P sc K):∃sc',K lv sc':=by
 unfold SM.wp askV at h
 split at h
 ·exact ⟨_,h.2⟩
 ·have:lv=_:=h.1.1
  subst this
  exact ⟨_,h.2⟩
 ·exact h.elim
def askC(f:FuncId)(args:List PV)(e:Ext):SM (CRes × Ext × Bool)
 | .pur r::sc => .ok (r,e,true) sc [.pur f args r]
 | .eff r e'::sc => .ok (r,e',false) sc [.eff f args e r e']
 | _ => .no (.call f args e)
theorem askC_wp{f:FuncId}{args:List PV}{e:Ext}{sc:List Ans}{K:CRes × Ext × Bool->List Ans->Prop}(h:(askC f args e).wp P sc K) :
  ∃r e' pu sc',K (r,e',pu) sc'/\isFn P f=true/\CallC P f args e (fun r1 e1=>r1=r/\e1=e')/\(pu=true->e'=e/\∀e,CallC P f args e fun r1 e1=>r1=r/\e1=e):=by
 unfold SM.wp askC at h
 split at h
 ·obtain ⟨⟨⟨h1,h2⟩,-⟩,h3⟩:=h
  exact ⟨_,_,_,_,h3,h1,h2 e,fun _=>⟨rfl,h2⟩⟩
 ·obtain ⟨⟨⟨h1,h2⟩,-⟩,h3⟩:=h
  exact ⟨_,_,_,_,h3,h1,h2,fun e0=>by cases e0⟩
 ·exact h.elim
def askD(f:FuncId)(args:List PV)(e:Ext)(m:PM):SM (PM × Ext)
 | .dfr m' e'::sc => .ok (m',e') sc [.dfr f args e m m' e']
 | _ => .no (.dfr f args e m)
theorem askD_wp{f:FuncId}{args:List PV}{e:Ext}{m:PM}{sc:List Ans}{K:PM × Ext->List Ans->Prop}(h:(askD f args e m).wp P sc K) :
  ∃m' e' sc',K (m',e') sc'/\isFn P f=true/\CallCD P f args e m fun m1 e1=>m1=m'/\e1=e':=by
 unfold SM.wp askD at h
 split at h
 ·obtain ⟨⟨⟨h1,h2⟩,-⟩,h3⟩:=h
  exact ⟨_,_,_,h3,h1,h2⟩
 ·exact h.elim
def RM.runM:RM α->S->SM α
 | .ret a,_ => .ret a
 | .fail,_ => .bad 1
 | .getT t k,s=>match lk s.tmps t with
  | some v=>(k v).runM s
  | none => .bad 2
 | .getB i k,s=>match lk s.boxes i with
  | some v=>(k v).runM s
  | none => .bad 3
 | .getX n k,s=>match lk s.ext n with
  | some v=>(k v).runM s
  | none => .bad 4
 | .assume p k,s=>(SM.owe (.bit p true) ()).bnd fun _=>k.runM s
theorem RM.runM_wp{s:S}:∀ {r:RM α} {sc:List Ans} {K:α->List Ans->Prop},(r.runM s).wp P sc K->r.wp s fun a=>∃sc',K a sc'
 | .ret a,sc,K,h=>⟨sc,h.2⟩
 | .fail,_,_,h=>h.elim
 | .getT t f,sc,K,h=>by
  simp only [RM.runM] at h
  simp only [RM.wp]
  split at h
  ·rename_i v hv; rw [hv]; exact RM.runM_wp h
  ·exact h.elim
 | .getB t f,sc,K,h=>by
  simp only [RM.runM] at h
  simp only [RM.wp]
  split at h
  ·rename_i v hv; rw [hv]; exact RM.runM_wp h
  ·exact h.elim
 | .getX t f,sc,K,h=>by
  simp only [RM.runM] at h
  simp only [RM.wp]
  split at h
  ·rename_i v hv; rw [hv]; exact RM.runM_wp h
  ·exact h.elim
 | .assume p f,sc,K,h=>by
  simp only [RM.runM] at h
  obtain ⟨h1,h2⟩:=SM.wp_owe (SM.wp_bnd h)
  exact ⟨h1,RM.runM_wp h2⟩
theorem RM.wpR_mono'{s:S}:∀ {r:RM α} {K K':α->List Loc->Prop},r.wpR s K->(∀x rd,K x rd->K' x rd)->r.wpR s K'
 | .ret _,_,_,h,hk=>hk _ _ h
 | .fail,_,_,h,_=>h
 | .getT t k,K,K',h,hk=>by
  simp only [RM.wpR] at h ⊢
  split at h
  ·exact RM.wpR_mono' h fun x rd hx=>hk _ _ hx
  ·exact h.elim
 | .getB t k,K,K',h,hk=>by
  simp only [RM.wpR] at h ⊢
  split at h
  ·exact RM.wpR_mono' h fun x rd hx=>hk _ _ hx
  ·exact h.elim
 | .getX t k,K,K',h,hk=>by
  simp only [RM.wpR] at h ⊢
  split at h
  ·exact RM.wpR_mono' h fun x rd hx=>hk _ _ hx
  ·exact h.elim
 | .assume p k,K,K',h,hk=>⟨h.1,RM.wpR_mono' h.2 hk⟩
def RM.runMR:RM α->S->SM (α × List Loc)
 | .ret a,_ => .ret (a,[])
 | .fail,_ => .bad 5
 | .getT t k,s=>match lk s.tmps t with
  | some v=>((k v).runMR s).bnd fun x => .ret (x.1,.t t::x.2)
  | none => .bad 6
 | .getB i k,s=>match lk s.boxes i with
  | some v=>((k v).runMR s).bnd fun x => .ret (x.1,.b i::x.2)
  | none => .bad 7
 | .getX n k,s=>match lk s.ext n with
  | some v=>((k v).runMR s).bnd fun x => .ret (x.1,.x n::x.2)
  | none => .bad 8
 | .assume p k,s=>(SM.owe (.bit p true) ()).bnd fun _=>k.runMR s
theorem RM.runMR_wp{s:S}:∀ {r:RM α} {sc:List Ans} {K:α × List Loc->List Ans->Prop},(r.runMR s).wp P sc K->r.wpR s fun a rd=>∃sc',K (a,rd) sc'
 | .ret a,sc,K,h=>⟨sc,h.2⟩
 | .fail,_,_,h=>h.elim
 | .getT t f,sc,K,h=>by
  simp only [RM.runMR] at h
  simp only [RM.wpR]
  split at h
  ·rename_i v hv
   rw [hv]
   exact RM.wpR_mono' (RM.runMR_wp (SM.wp_bnd h)) fun a rd ⟨sc',hk⟩=>⟨sc',SM.wp_ret hk⟩
  ·exact h.elim
 | .getB t f,sc,K,h=>by
  simp only [RM.runMR] at h
  simp only [RM.wpR]
  split at h
  ·rename_i v hv
   rw [hv]
   exact RM.wpR_mono' (RM.runMR_wp (SM.wp_bnd h)) fun a rd ⟨sc',hk⟩=>⟨sc',SM.wp_ret hk⟩
  ·exact h.elim
 | .getX t f,sc,K,h=>by
  simp only [RM.runMR] at h
  simp only [RM.wpR]
  split at h
  ·rename_i v hv
   rw [hv]
   exact RM.wpR_mono' (RM.runMR_wp (SM.wp_bnd h)) fun a rd ⟨sc',hk⟩=>⟨sc',SM.wp_ret hk⟩
  ·exact h.elim
 | .assume p f,sc,K,h=>by
  simp only [RM.runMR] at h
  obtain ⟨h1,h2⟩:=SM.wp_owe (SM.wp_bnd h)
  exact ⟨h1,RM.runMR_wp h2⟩
end
def isRe(o:Oper):Bool:=match o.op with
 | .indexAddr _ _ _=>true
 | .binOp .add _ _ _ _=>true
 | .binOp .sub _ _ _ _=>true
 | .binOp .mul _ _ _ _=>true
 | .binOp .quo _ _ _ _=>true
 | .binOp .rem _ _ _ _=>true
 | .unOp .neg _ _=>true
 | .convert _ _ _=>true
 | .call ⟨.builtin .len,_,_⟩=>true
 | .lookup _ _ _ _=>true
 | .index _ _ _=>true
 | .slice _ _ _ _ _=>true
 | _=>false
def reW(o:Oper)(wr:List Wr):SM (List Wr):=if isRe o=true then (match wr with
 | [.tmp d lv]=>(askV lv).bnd fun lv' => .ret [.tmp d lv']
 | _ => .ret wr) else .ret wr
theorem reW_wp{P:Program}{o:Oper}{wr:List Wr}{sc:List Ans}{K:List Wr->List Ans->Prop}(h:(reW o wr).wp P sc K):∃sc',K wr sc':=by
 unfold reW at h
 split at h
 ·split at h
  ·obtain ⟨sc',h1⟩:=askV_wp (SM.wp_bnd h)
   exact ⟨sc',SM.wp_ret h1⟩
  ·exact ⟨_,SM.wp_ret h⟩
 ·exact ⟨_,SM.wp_ret h⟩
def pickM(n:Nat)(o:Oper)(c x y:Operand)(s:S):SM (List Wr × List Loc):=((evP c fun p=>RM.ret p).runMR s).bnd fun pr=>match pr.1 with
 | .bool b=>(askB b).bnd fun v=>match v with
  | true=>((evP x fun q=>wv n o (.v q)).runMR s).bnd fun w => .ret (w.1,pr.2++w.2)
  | false=>((evP y fun q=>wv n o (.v q)).runMR s).bnd fun w => .ret (w.1,pr.2++w.2)
 | _ => .bad 9
theorem evP_bindR{α:Type}{c:Operand}{s:S}{k:PV->RM α}{K:α->List Loc->Prop}(h:(evP c fun p=>RM.ret p).wpR s fun p rd1=>(k p).wpR s fun a rd2=>K a (rd1++rd2)):(evP c k).wpR s K:=by
 unfold evP ev at *
 cases c with
 | tmp t=>
  simp only [RM.wpR] at h ⊢
  split at h
  ·split at h
   ·exact h
   ·exact h.elim
  ·exact h.elim
 | const c=>
  simp only at h ⊢
  split at h
  ·split at h
   ·exact h
   ·exact h.elim
  ·exact h.elim
 | func f=>
  simp only at h ⊢
  split at h
  ·exact h
  ·exact h.elim
 | global n=>
  simp only at h ⊢
  cases hg:lk GLB n with
  | none=>rw [hg] at h; exact h.elim
  | some cs=>rw [hg] at h; exact h
theorem pickM_wp{P:Program}{n:Nat}{o:Oper}{c x y:Operand}{s:S}{sc:List Ans}{K:List Wr × List Loc->List Ans->Prop}(h:(pickM n o c x y s).wp P sc K):(actPick n o c x y).wpR s fun wr rd=>∃sc',K (wr,rd) sc':=by
 unfold actPick
 refine evP_bindR (RM.wpR_mono' (RM.runMR_wp (SM.wp_bnd h)) ?_)
 rintro p rd ⟨sc1,h1⟩
 simp only at h1
 split at h1
 ·rename_i b
  obtain ⟨sc2,h2⟩:=askB_wp (SM.wp_bnd h1)
  cases b with
  | true=>exact RM.wpR_mono' (RM.runMR_wp (SM.wp_bnd h2)) fun a rd2 ⟨sc3,h3⟩=>⟨sc3,SM.wp_ret h3⟩
  | false=>exact RM.wpR_mono' (RM.runMR_wp (SM.wp_bnd h2)) fun a rd2 ⟨sc3,h3⟩=>⟨sc3,SM.wp_ret h3⟩
 ·exact h1.elim
def actM(P:Program)(ro:TypeId->Option Bool)(n:Nat)(all:List Oper)(o:Oper)(s:S):SM (List Wr × List Loc):=match o.op with
 | .pick c x y=>pickM n o c x y s
 | _=>((act P ro n all o).runMR s).bnd fun x=>(reW o x.1).bnd fun wr => .ret (wr,x.2)
theorem actM_wp{P:Program}{ro:TypeId->Option Bool}{n:Nat}{all:List Oper}{o:Oper}{s:S}{sc:List Ans}{K:List Wr × List Loc->List Ans->Prop}(h:(actM P ro n all o s).wp P sc K):(act P ro n all o).wpR s fun wr rd=>∃sc',K (wr,rd) sc':=by
 unfold actM at h
 split at h
 ·rename_i c x y ho
  have:=pickM_wp h
  unfold act
  rw [ho]
  exact this
 ·refine RM.wpR_mono' (RM.runMR_wp (SM.wp_bnd h)) ?_
  rintro wr rd ⟨sc1,h1⟩
  obtain ⟨sc2,h2⟩:=reW_wp (SM.wp_bnd h1)
  exact ⟨sc2,SM.wp_ret h2⟩
theorem RM.wpR_wp{α:Type}{s:S}:∀ {r:RM α} {K:α->List Loc->Prop},r.wpR s K->r.wp s fun a=>∃rd,K a rd
 | .ret _,_,h=>⟨[],h⟩
 | .fail,_,h=>h
 | .getT t k,K,h=>by
  simp only [RM.wpR] at h
  simp only [RM.wp]
  split at h
  ·rename_i v hv; rw [hv]; exact RM.wp_mono (fun a ⟨rd,h⟩=>⟨_,h⟩) (RM.wpR_wp h)
  ·exact h.elim
 | .getB t k,K,h=>by
  simp only [RM.wpR] at h
  simp only [RM.wp]
  split at h
  ·rename_i v hv; rw [hv]; exact RM.wp_mono (fun a ⟨rd,h⟩=>⟨_,h⟩) (RM.wpR_wp h)
  ·exact h.elim
 | .getX t k,K,h=>by
  simp only [RM.wpR] at h
  simp only [RM.wp]
  split at h
  ·rename_i v hv; rw [hv]; exact RM.wp_mono (fun a ⟨rd,h⟩=>⟨_,h⟩) (RM.wpR_wp h)
  ·exact h.elim
 | .assume p k,K,h=>⟨h.1,RM.wpR_wp h.2⟩
def actX(P:Program)(ro:TypeId->Option Bool)(n:Nat)(all:List Oper)(o:Oper)(s:S):SM (PExit × S):=(actM P ro n all o s).bnd fun x => .ret (.normal,s.wrs x.1)
def callX(o:Oper)(r:RM (FuncId × List PV))(s:S):SM (PExit × S):=(r.runM s).bnd fun x=>(askC x.1 x.2 s.ext).bnd fun y=>match y with
 | (.ret p,e,_) => .ret (.normal,s.setD o.dst (.v p) e)
 | (.own te z es,e,_) => .ret (.normal,s.setD o.dst (.uniq te z es) e)
 | (.panic p,e,_) => .ret (.panic p,{ s with ext:=e })
def askO(f:FuncId)(args:List PV)(k:Nat)(te:TypeId)(z:Nat)(es:List (List PV))(e:Ext):SM (CRes × Ext)
 | .eff r e'::sc => .ok (r,e') sc [.own f args k te z es e r e']
 | _ => .no (.own f args k te z es e)
theorem askO_wp{P:Program}{f:FuncId}{args:List PV}{k:Nat}{te:TypeId}{z:Nat}{es:List (List PV)}{e:Ext}{sc:List Ans}{K:CRes × Ext->List Ans->Prop}(h:(askO f args k te z es e).wp P sc K) :
  ∃r e' sc',K (r,e') sc'/\isFn P f=true/\CallO P f args k te z es e (fun r1 e1=>r1=r/\e1=e'):=by
 unfold SM.wp askO at h
 split at h
 ·obtain ⟨⟨⟨h1,h2⟩,-⟩,h3⟩:=h
  exact ⟨_,_,_,h3,h1,h2⟩
 ·exact h.elim
def ownAt(s:S):List Operand->Nat->Option (Nat × Nat)
 | [],_=>none
 | .tmp i::r,k=>match lk s.tmps i with
  | some (.uniq _ _ _)=>some (k,i)
  | _=>ownAt s r (k+1)
 | _::r,k=>ownAt s r (k+1)
def takO(md:Md)(o:Oper):Option (FuncId × List Operand):=match o.op with
 | .call ⟨.value (.func f),args,_⟩=>if md.row (3000000+f)=true then some (f,args.toList) else none
 | _=>none
def feedO(md:Md)(d:Nat):List Oper->Bool
 | []=>false
 | o::r=>(match takO md o with
  | some (_,l)=>l.any fun x=>match x with | .tmp t=>t==d | _=>false
  | none=>false)||feedO md d r
def feedD(md:Md)(all:List Oper)(o:Oper):Bool:=match o.dst with
 | some d=>feedO md d all
 | none=>false
def ownX(o:Oper)(f:FuncId)(args:List Operand)(s:S):SM (PExit × S):=match ownAt s args 0 with
 | some (k,i)=>match args[k]?,lk s.tmps i with
  | some (.tmp i'),some (.uniq te z es)=>if i'=i then ((evO args k RM.ret).runM s).bnd fun ps=>(askO f ps k te z es s.ext).bnd fun y=>match y with
   | (.ret p,e) => .ret (.normal,S.setD { s with tmps:=put s.tmps i (lfO te z es) } o.dst (.v p) e)
   | (.own te' z' es',e) => .ret (.normal,S.setD { s with tmps:=put s.tmps i (lfO te z es) } o.dst (.uniq te' z' es') e)
   | (.panic p,e) => .ret (.panic p,{ s with tmps:=put s.tmps i (lfO te z es),ext:=e }) else .bad 19
  | _,_ => .bad 20
 | none=>callX o (actCall (.func f) args) s
def newM(n:Nat)(o:Oper)(cs:List PV)(s:S):SM (PExit × S):=match newX n o cs s with
 | some r => .ret r
 | none => .bad 10
def isYsl(s:S):Operand->Bool
 | .tmp t=>match lk s.tmps t with
  | some (.v (.ysl _ _ _))=>true
  | _=>false
 | _=>false
def appM(P:Program)(n:Nat)(o:Oper)(ty:TypeId)(x y:Operand)(s:S):SM (PExit × S):=match elemT P ty,o.dst with
 | some e,some d=>match csz P e,cbytes P e,zro P e with
  | some (m+1),some (B+1),some zs=>if d<n/\zs.length=m+1 then (match m,isYsl s x,isYsl s y with
   | 0,true,_=>((appY x y).runM s).bnd fun r=>SM.owe (.bit (decide ((r.1.2.2.length+r.2.length) * (B+1)<=140737488355328)) true) (.normal,{ s with tmps:=put s.tmps d (.v (.ysl r.1.1 (r.1.2.1+1) (r.1.2.2.length+r.2.length))),ext:=put s.ext r.1.1 [.row (r.1.2.1+1) (r.1.2.2++r.2)] })
   | 0,false,true=>((appZ x y).runM s).bnd fun r=>SM.owe (.bit (decide (r.2.2.length * (B+1)<=140737488355328)) true) (.normal,{ s with tmps:=put s.tmps d (.v (.ysl r.1 (r.2.1+1) r.2.2.length)),ext:=put s.ext r.1 [.row (r.2.1+1) r.2.2] })
   | 0,false,false=>((appN x y).runM s).bnd fun ks=>SM.owe (.bit (decide (ks.length * (B+1)<=140737488355328)) true) (.normal,{ s with tmps:=put s.tmps d (.v (.ysl (cnt s.ext) 0 ks.length)),ext:=put s.ext (cnt s.ext) [.row 0 ks] })
   | m+1,_,_=>((appR e (m+2) x y).runM s).bnd fun ys=>SM.owe (.bit (decide (ys.length * (B+1)<=140737488355328)) true) (.normal,{ s with tmps:=put s.tmps d (.v (.xsl (cnt s.ext) (m+2) ys.length)),ext:=put s.ext (cnt s.ext) (ys.flatten.map .v) })) else .bad 11
  | _,_,_ => .bad 12
 | _,_ => .bad 13
def mapM(P:Program)(ty:TypeId)(n:Nat)(o:Oper)(s:S):SM (PExit × S):=match o.dst with
 | some d=>if d<n then .ret (.normal,{ s with tmps:=put s.tmps d (.v (.mp (cnt s.ext))),ext:=put s.ext (cnt s.ext) [.mm (newS (strK P ty))] }) else .bad 15
 | none => .bad 16
def mapF(n:Nat)(o:Oper)(s:S):SM (PExit × S):=match o.dst with
 | some d=>if d<n then .ret (.normal,{ s with tmps:=put s.tmps d (.v (.fm [] [])) }) else .bad 15
 | none => .bad 16
def rngM(P:Program)(ty:TypeId)(n:Nat)(o:Oper)(m:Operand)(s:S):SM (PExit × S):=match (mapT P ty).isSome,o.dst with
 | true,some d=>if d<n then ((rngF m).runM s).bnd fun r=>match r with
  | some q => .ret (.normal,{ s with tmps:=put s.tmps d (.v (.xp (cnt s.ext) 0)),ext:=put s.ext (cnt s.ext) [.mm (.fit q.1 q.2 [])] })
  | none=>((rngR m).runM s).bnd fun i => .ret (.normal,{ s with tmps:=put s.tmps d (.v (.xp (cnt s.ext) 0)),ext:=put s.ext (cnt s.ext) [.mm (.it i)] }) else .bad 17
 | _,_ => .bad 18
def opX(P:Program)(md:Md)(n:Nat)(all:List Oper)(o:Oper)(s:S):SM (PExit × S):=match callee P o with
 | some r=>match takO md o with
  | some (f,args)=>ownX o f args s
  | none=>callX o r s
 | none=>match o.op with
  | .move x=>if feedD md all o=true then ((mv n all o true x).runM s).bnd fun wr => .ret (.normal,s.wrs wr) else actX P md.ro n all o s
  | .alloc ty=>if (md.ro ty).isNone=true then (match zro P ty with | some zs=>newM n o zs s | none => .bad 14) else actX P md.ro n all o s
  | .box ty x=>if (md.ro ty).isNone=true then ((boxR x).runM s).bnd fun cs=>newM n o cs s else actX P md.ro n all o s
  | .panic x=>((panR x).runM s).bnd fun p => .ret (.panic p,s)
  | .makeMap ty none=>if md.row (4000000+ty)=true then mapF n o s else mapM P ty n o s
  | .range ty m=>rngM P ty n o m s
  | .makeFunc _ _ captured=>actX P md.ro n all o (frzA s captured.toList)
  | .call ⟨.builtin .append,⟨[x,y]⟩,⟨[ty,ty']⟩⟩=>if md.row ty=true/\ty=ty' then appM P n o ty x y s else actX P md.ro n all o s
  | _=>actX P md.ro n all o s
section
variable {P:Program} {cx:Cx} {s s':S} {Q:PExit->S->Prop} {K:S->Prop} {o:Oper} {pe:PExit} {md:Md} {all:List Oper} {sc sc':List Ans}
theorem actX_sound{ro:TypeId->Option Bool}{K':PExit × S->List Ans->Prop}(h:(actX P ro cx.n all o s).wp P sc K')(hk:∀pe s' sc',K' (pe,s') sc'->thenQ K Q pe s'):OpK P cx s o K Q:=fun g l a w hs=>by
 have h1:=RM.wpR_wp (actM_wp (SM.wp_bnd h))
 refine upon_mono ?_ (act_sound hs h1 (post cx Q))
 rintro a' w' ⟨wr,g',l',⟨rd,sc1,h2⟩,sm⟩
 exact ⟨_,g',l',hk _ _ _ (SM.wp_ret h2),sm⟩
theorem callX_sound{r:RM (FuncId × List PV)}{K':PExit × S->List Ans->Prop}(ho:callee P o=some r)(hd:∀d,o.dst=some d->d<cx.n)(h:(callX o r s).wp P sc K')(hk:∀pe s' sc',K' (pe,s') sc'->thenQ K Q pe s'):OpK P cx s o K Q:=fun g l a w hs=>by
 have h1:=RM.runM_wp (SM.wp_bnd h)
 refine callee_sound ho hd hs (RM.wp_mono ?_ h1)
 rintro ⟨f,args⟩ ⟨sc1,h2⟩
 obtain ⟨res,e',pu,sc2,h3,h4,h5,-⟩:=askC_wp (SM.wp_bnd h2)
 refine ⟨h4,h5.mono ?_⟩
 rintro res1 e1 ⟨h6,h7⟩
 subst h6 h7
 cases res1 with
 | ret p=>exact hk _ _ _ (SM.wp_ret h3)
 | own te z es=>exact hk _ _ _ (SM.wp_ret h3)
 | panic p=>exact hk _ _ _ (SM.wp_ret h3)
theorem takO_inv{f:FuncId}{l:List Operand}(h:takO md o=some (f,l)):∃args ts,o.op = .call ⟨.value (.func f),args,ts⟩/\l=args.toList:=by
 unfold takO at h
 split at h
 ·rename_i f1 args ts ho
  split at h
  ·injection h with h
   injection h with h1 h2
   subst h1 h2
   exact ⟨_,_,ho,rfl⟩
  ·cases h
 ·cases h
theorem ownX_sound{f:FuncId}{l:List Operand}{K':PExit × S->List Ans->Prop}(ho:takO md o=some (f,l))(hd:∀d,o.dst=some d->d<cx.n)(h:(ownX o f l s).wp P sc K')(hk:∀pe s' sc',K' (pe,s') sc'->thenQ K Q pe s'):OpK P cx s o K Q:=by
 obtain ⟨args,ts,hop,rfl⟩:=takO_inv ho
 unfold ownX at h
 split at h
 ·rename_i k i hat
  split at h
  ·rename_i i' te z es hk2 ht
   split at h
   ·rename_i hc
    subst hc
    intro g l a w hs
    have h1:=RM.runM_wp (SM.wp_bnd h)
    refine own_sound hop hd hs hk2 ht (RM.wp_mono ?_ h1)
    rintro ps ⟨sc1,h2⟩
    obtain ⟨res,e',sc2,h3,h4,h5⟩:=askO_wp (SM.wp_bnd h2)
    refine ⟨h4,h5.mono ?_⟩
    rintro res1 e1 ⟨h6,h7⟩
    subst h6 h7
    cases res1 with
    | ret p=>exact hk _ _ _ (SM.wp_ret h3)
    | own te z es=>exact hk _ _ _ (SM.wp_ret h3)
    | panic p=>exact hk _ _ _ (SM.wp_ret h3)
   ·exact h.elim
  ·exact h.elim
 ·exact callX_sound (by unfold callee; rw [hop]) hd h hk
theorem newM_inv{n:Nat}{cs:List PV}{K':PExit × S->List Ans->Prop}(h:(newM n o cs s).wp P sc K'):∃pe s',newX n o cs s=some (pe,s')/\K' (pe,s') sc:=by
 unfold newM at h
 split at h
 ·rename_i r hr; exact ⟨r.1,r.2,hr,SM.wp_ret h⟩
 ·exact h.elim
theorem appM_sound{ty:TypeId}{x y:Operand}{K':PExit × S->List Ans->Prop}(ho:o.op = .call ⟨.builtin .append,#[x,y],#[ty,ty]⟩)(h:(appM P cx.n o ty x y s).wp P sc K')(hk:∀pe s' sc',K' (pe,s') sc'->thenQ K Q pe s'):OpK P cx s o K Q:=fun g l0 a w hs=>by
 unfold appM at h
 split at h
 ·rename_i e d he hd
  split at h
  ·rename_i m B zs hm hB hz
   split at h
   ·rename_i hc
    obtain ⟨hn,hzl⟩:=hc
    split at h
    ·refine appY_go ho hd hn he hm hB hz hzl hs (RM.wp_mono ?_ (RM.runM_wp (SM.wp_bnd h)))
     rintro ys ⟨sc1,h2⟩
     obtain ⟨h3,h4⟩:=SM.wp_owe h2
     exact ⟨of_decide_eq_true h3,hk _ _ _ h4⟩
    ·refine appZ_go ho hd hn he hm hB hz hzl hs (RM.wp_mono ?_ (RM.runM_wp (SM.wp_bnd h)))
     rintro ys ⟨sc1,h2⟩
     obtain ⟨h3,h4⟩:=SM.wp_owe h2
     exact ⟨of_decide_eq_true h3,hk _ _ _ h4⟩
    ·refine appN_go ho hd hn he hm hB hz hzl hs (RM.wp_mono ?_ (RM.runM_wp (SM.wp_bnd h)))
     rintro ys ⟨sc1,h2⟩
     obtain ⟨h3,h4⟩:=SM.wp_owe h2
     exact ⟨of_decide_eq_true h3,hk _ _ _ h4⟩
    ·refine appX_go ho hd hn he hm hB hz hzl hs (RM.wp_mono ?_ (RM.runM_wp (SM.wp_bnd h)))
     rintro ys ⟨sc1,h2⟩
     obtain ⟨h3,h4⟩:=SM.wp_owe h2
     exact ⟨of_decide_eq_true h3,hk _ _ _ h4⟩
   ·exact h.elim
  ·exact h.elim
 ·exact h.elim
theorem opX_sound{K':PExit × S->List Ans->Prop}(hd:∀d,o.dst=some d->d<cx.n)(h:(opX P md cx.n all o s).wp P sc K')(hk:∀pe s' sc',K' (pe,s') sc'->thenQ K Q pe s'):OpK P cx s o K Q:=by
 unfold opX at h
 split at h
 ·rename_i r hr
  split at h
  ·rename_i f args ht; exact ownX_sound ht hd h hk
  ·exact callX_sound hr hd h hk
 ·split at h
  ·rename_i x hop
   split at h
   ·intro g l0 a w hs
    have h1:=RM.runM_wp (SM.wp_bnd h)
    refine upon_mono ?_ (mv_sound hs h1 (by simp [execOp,hop]) (post cx Q))
    rintro a' w' ⟨wr,g',l',⟨sc1,h2⟩,sm⟩
    exact ⟨_,g',l',hk _ _ _ (SM.wp_ret h2),sm⟩
   ·exact actX_sound h hk
  ·rename_i ty hop
   split at h
   ·split at h
    ·rename_i zs hz
     obtain ⟨pe,s',hx,hK⟩:=newM_inv h
     intro g l a w hs
     obtain ⟨i,z,h1,h2,h3⟩:=zro_inv hz
     obtain ⟨hr,hone,-⟩:=cvs_rep (g:=g) (w:=w) h3
     exact newX_sound (ty:=ty) hs hr hone (by simp [execOp,hop,Instr.alloc,zeroValue,typeInfo,h1,h2,newVar,newRow]) hx (hk _ _ _ hK)
    ·exact h.elim
   ·exact actX_sound h hk
  ·rename_i ty x hop
   split at h
   ·intro g l0 a w hs
    obtain ⟨p,h1,r1⟩:=evP_sound hs (RM.runM_wp (SM.wp_bnd h))
    split at h1
    ·rename_i cs hc
     obtain ⟨sc1,h2⟩:=h1
     obtain ⟨pe,s',hx,hK⟩:=newM_inv h2
     obtain ⟨hr,hone⟩:=cel_rep hc r1
     exact newX_sound (ty:=ty) hs hr hone (by simp [execOp,hop,Instr.box,newVar,newRow]) hx (hk _ _ _ hK)
    ·exact h1.elim
   ·exact actX_sound h hk
  ·rename_i x hop
   intro g l0 a w hs
   obtain ⟨p',h1,r1⟩:=evP_sound hs (RM.runM_wp (SM.wp_bnd h))
   split at h1
   ·rename_i t q
    obtain ⟨sc1,h2⟩:=h1
    have h3:=hk _ _ _ (SM.wp_ret h2)
    have hrun:∀v,a.eval x = .iface t v->(execOp a.eval o).run P w = .halt (.panic (.iface t v)) w:=fun v hv=>by
     simp [execOp,hop,hv,Instr.panic,goPanic]
    generalize a.eval x=vx at r1 hrun
    cases r1 with
    | iface _ _ v hv=>
     unfold Oper.wp
     rw [hrun v rfl,Oper.upon_panic]
     exact ⟨.panic (.iface t q),s,g,l0,h3,⟨_,rfl,.iface _ _ _ hv⟩,hs⟩
   ·exact h1.elim
  ·rename_i ty hop
   intro g l0 a w hs
   split at h
   ·unfold mapF at h
    split at h
    ·rename_i d hd'
     split at h
     ·rename_i hn
      unfold Oper.wp
      rw [show (execOp a.eval o).run P w = .ok (.value (.map (some w.heap.size))) (w.alloc (.map #[] 0)) by simp [execOp,hop,Instr.makeMap,Result.andThen],Oper.upon_value,hd']
      obtain ⟨k1,-⟩:=hs.alloc (.map #[] 0)
      exact ⟨_,_,_,hk _ _ _ (SM.wp_ret h),k1.set hn (.fm [] [] [] _ #[] 0 (List.Perm.refl _) rfl (hs.fresh.1 _ (Nat.le_refl _)) (heap_alloc_new w _) (MapKept.stamped_empty 0) rfl (fun j hj=>by simp at hj) (fun j hj=>by simp at hj))⟩
     ·exact h.elim
    ·exact h.elim
   ·unfold mapM at h
    split at h
    ·rename_i d hd'
     split at h
     ·rename_i hn
      unfold Oper.wp
      rw [show (execOp a.eval o).run P w = .ok (.value (.map (some w.heap.size))) (w.alloc (.map #[] 0)) by simp [execOp,hop,Instr.makeMap,Result.andThen],Oper.upon_value,hd']
      obtain ⟨k1,-⟩:=hs.newmap (strK P ty)
      exact ⟨_,_,_,hk _ _ _ (SM.wp_ret h),k1.set hn (.mp _ _ (upd_same _ _ _))⟩
     ·exact h.elim
    ·exact h.elim
  ·rename_i ty m hop
   unfold rngM at h
   intro g l0 a w hs
   split at h
   ·rename_i d hT hd'
    split at h
    ·rename_i hn
     obtain ⟨r,⟨sc0,h0⟩,hr⟩:=rngF_wp hs (RM.runM_wp (SM.wp_bnd h))
     split at h0
     ·rename_i q
      obtain ⟨bm,arr,clk,es,e1,hh,hM,hR,hp,-⟩:=(hr q.1 q.2 rfl).frozen
      have hrun:(execOp a.eval o).run P w = .ok (.value (.pointer (some ⟨w.heap.size,0,none⟩))) (w.alloc (.mapIter (some bm) clk #[] clk)):=by
       cases hq:mapT P ty with
       | none=>rw [hq] at hT; cases hT
       | some qe=>
        obtain ⟨q',e⟩:=qe
        obtain ⟨kt,hu,-⟩:=mapT_inv hq
        simp [execOp,hop,e1,Instr.range,run_underlying hu,MapKept.run_getObj_map hh,Result.andThen,newObj]
        rfl
      unfold Oper.wp
      rw [hrun,Oper.upon_value,hd']
      obtain ⟨k1,-⟩:=hs.newfit hh hM hR hp
      exact ⟨_,_,_,hk _ _ _ (SM.wp_ret h0),k1.set hn (.xp _ _ _ (upd_same _ _ _))⟩
     ·obtain ⟨i,bm,clock,⟨sc1,h2⟩,hX,hlt,hrun⟩:=rngR_wp hop hT hs (RM.runM_wp (SM.wp_bnd h0))
      unfold Oper.wp
      rw [hrun,Oper.upon_value,hd']
      obtain ⟨k1,-⟩:=hs.newit hX hlt
      exact ⟨_,_,_,hk _ _ _ (SM.wp_ret h2),k1.set hn (.xp _ _ _ (upd_same _ _ _))⟩
    ·exact h.elim
   ·exact h.elim
  ·exact OpK.frz (actX_sound h hk)
  ·rename_i x y ty ty' hop
   split at h
   ·rename_i hc
    obtain ⟨-,rfl⟩:=hc
    exact appM_sound hop h hk
   ·exact actX_sound h hk
  ·exact actX_sound h hk
end
def op1(P:Program)(md:Md)(n:Nat)(all:List Oper)(o:Oper)(s:S):Option S:=match callee P o with
 | some _=>none
 | none=>match (act P md.ro n all o).run s with
  | some [.tmp d lv]=>if o.dst=some d then some { s with tmps:=put s.tmps d lv } else none
  | _=>none
def und(all:List Oper)(asm:List Nat)(o:Oper)(s:S):Option (Nat × Nat × Bool):=match o.guard with
 | none=>none
 | some (j,_)=>match asm.contains j with
  | true=>none
  | false=>match (all[j]?).bind (·.dst) with
   | some dj=>match lk s.tmps dj with
    | some (.v (.bool b))=>some (j,dj,b)
    | _=>none
   | none=>none
def blkN(i0 j:Nat):List Oper->Nat
 | []=>0
 | o::r=>match o.guard with
  | some (g,_)=>if g=j∨i0<=g then blkN i0 j r+1 else 0
  | none=>0
def dels{α:Type}:List Nat->List (Nat × α)->List (Nat × α)
 | [],l=>l
 | k::r,l=>dels r (del l k)
def dsts(ls:List Oper):List Nat:=ls.filterMap (·.dst)
def mst(m d:Nat)(ls:List Oper)(s:S)(lv:LV):S:={ s with tmps:=put (dels (dsts (ls.take m)) s.tmps) d lv }
def mrg1(rec:List Oper->S->Option S)(m d dj:Nat)(b:Bool)(ls:List Oper)(s:S):Option Bool:=
 match rec (ls.take m) { s with tmps:=put s.tmps dj (.v (.bool true)) },rec (ls.take m) { s with tmps:=put s.tmps dj (.v (.bool false)) } with
 | some s1,some s2=>match lk s1.tmps d,lk s2.tmps d with
  | some (.v (.bool x1)),some (.v (.bool x2))=>some (bif b then x1 else x2)
  | _,_=>none
 | _,_=>none
def evM(P:Program)(md:Md)(n:Nat)(all:List Oper):Nat->List Nat->Nat->List Oper->S->Option S
 | 0,_,_,_,_=>none
 | _+1,_,_,[],s=>some s
 | f+1,asm,i,o::rest,s=>match und all asm o s with
  | none=>match wantS all o s with
   | some true=>match op1 P md n all o s with
    | some s'=>evM P md n all f asm (i+1) rest s'
    | none=>none
   | some false=>evM P md n all f asm (i+1) rest (s.skip o)
   | none=>none
  | some (j,dj,b)=>match ((o::rest)[blkN i j (o::rest)]?).bind (·.dst) with
   | some d=>match mrg1 (evM P md n all f (j::asm) i) (blkN i j (o::rest)+1) d dj b (o::rest) s with
    | some x=>evM P md n all f asm (i+(blkN i j (o::rest)+1)) ((o::rest).drop (blkN i j (o::rest)+1)) (mst (blkN i j (o::rest)+1) d (o::rest) s (.v (.bool x)))
    | none=>none
   | none=>none
section
variable {P:Program} {cx:Cx} {s s' t:S} {Q:PExit->S->Prop} {md:Md} {all:List Oper}
theorem lk_dels{α:Type}:∀ (ks:List Nat) (l:List (Nat × α)) (u:Nat) (v:α),lk (dels ks l) u=some v->¬u∈ks/\lk l u=some v
 | [],_,_,_,h=>⟨by simp,h⟩
 | k::r,l,u,v,h=>by
  obtain ⟨h1,h2⟩:=lk_dels r (del l k) u v h
  rw [lk_del] at h2
  split at h2
  ·cases h2
  ·rename_i hk
   exact ⟨by simp only [List.mem_cons,not_or]; exact ⟨fun e=>hk e.symm,h1⟩,h2⟩
theorem dels_lk{α:Type}:∀ (ks:List Nat) (l:List (Nat × α)) (u:Nat),¬u∈ks->lk (dels ks l) u=lk l u
 | [],_,_,_=>rfl
 | k::r,l,u,h=>by
  simp only [List.mem_cons,not_or] at h
  rw [dels,dels_lk r (del l k) u h.2,lk_del,iN (fun e=>h.1 e.symm)]
def Kp(ks:List Nat)(s s':S):Prop:=s'.boxes=s.boxes/\s'.ext=s.ext/\∀k,¬k∈ks->lk s'.tmps k=lk s.tmps k
theorem op1_kp{o:Oper}(h:op1 P md cx.n all o s=some s'):Kp (dsts [o]) s s':=by
 unfold op1 at h
 split at h
 ·cases h
 ·split at h
  ·split at h
   ·rename_i d lv _ hd
    injection h with h; subst h
    exact ⟨rfl,rfl,fun k hk=>lk_put_other _ _ _ _ (fun e=>hk (by simp [dsts,hd,e]))⟩
   ·cases h
  ·cases h
theorem skip_kp{o:Oper}:Kp (dsts [o]) s (s.skip o):=by
 unfold S.skip
 split
 ·rename_i d hd; exact ⟨rfl,rfl,fun k hk=>lk_put_other _ _ _ _ (fun e=>hk (by simp [dsts,hd,e]))⟩
 ·exact ⟨rfl,rfl,fun _ _=>rfl⟩
theorem mrg1_inv{rec:List Oper->S->Option S}{m d dj:Nat}{b x:Bool}{ls:List Oper}(h:mrg1 rec m d dj b ls s=some x) :
  ∃s1 s2 x1 x2,rec (ls.take m) { s with tmps:=put s.tmps dj (.v (.bool true)) }=some s1/\rec (ls.take m) { s with tmps:=put s.tmps dj (.v (.bool false)) }=some s2/\lk s1.tmps d=some (.v (.bool x1))/\lk s2.tmps d=some (.v (.bool x2)) /\
   x=(bif b then x1 else x2):=by
 unfold mrg1 at h
 split at h
 ·rename_i s1 s2 h1 h2
  split at h
  ·rename_i x1 x2 h3 h4
   injection h with h
   exact ⟨s1,s2,x1,x2,h1,h2,h3,h4,h.symm⟩
  ·cases h
 ·cases h
theorem evM_kp:∀ (f:Nat) (asm:List Nat) (i:Nat) (ls:List Oper) (s s':S),evM P md cx.n all f asm i ls s=some s'->s'.boxes=s.boxes/\s'.ext=s.ext/\∀k v,¬k∈dsts ls->lk s'.tmps k=some v->lk s.tmps k=some v
 | 0,_,_,_,_,_,h=>by cases h
 | _+1,_,_,[],s,s',h=>by simp only [evM] at h; injection h with h; subst h; exact ⟨rfl,rfl,fun _ _ _ h=>h⟩
 | f+1,asm,i,o::rest,s,s',h=>by
  have hd:∀x,x∈dsts [o]->x∈dsts (o::rest):=fun x hx=>by
   rw [show o::rest=[o]++rest by rfl,dsts,List.filterMap_append,List.mem_append]; exact .inl hx
  have hr:∀x,x∈dsts rest->x∈dsts (o::rest):=fun x hx=>by
   rw [show o::rest=[o]++rest by rfl,dsts,List.filterMap_append,List.mem_append]; exact .inr hx
  simp only [evM] at h
  split at h
  ·split at h
   ·split at h
    ·rename_i s1 h1
     have k1:=op1_kp h1
     obtain ⟨k2,k3,k4⟩:=evM_kp f asm (i+1) rest s1 s' h
     exact ⟨k2.trans k1.1,k3.trans k1.2.1,fun k v hk hv=>by rw [<-k1.2.2 k (fun e=>hk (hd _ e))]; exact k4 k v (fun e=>hk (hr _ e)) hv⟩
    ·cases h
   ·have k1:=skip_kp (s:=s) (o:=o)
    obtain ⟨k2,k3,k4⟩:=evM_kp f asm (i+1) rest _ s' h
    exact ⟨k2.trans k1.1,k3.trans k1.2.1,fun k v hk hv=>by rw [<-k1.2.2 k (fun e=>hk (hd _ e))]; exact k4 k v (fun e=>hk (hr _ e)) hv⟩
   ·cases h
  ·rename_i j dj b hu
   split at h
   ·rename_i d hdd
    split at h
    ·rename_i s1 h1
     obtain ⟨k2,k3,k4⟩:=evM_kp f asm _ _ _ s' h
     refine ⟨k2,k3,fun k v hk hv=>?_⟩
     unfold mst at k4
     have hdrop:¬k∈dsts ((o::rest).drop (blkN i j (o::rest)+1)):=fun e=>hk (by
      unfold dsts at e ⊢
      obtain ⟨x,hx,hx2⟩:=List.mem_filterMap.1 e
      exact List.mem_filterMap.2 ⟨x,List.mem_of_mem_drop hx,hx2⟩)
     have h5:=k4 k v hdrop hv
     simp only at h5
     have hkd:d≠k:=fun e=>hk (by
      subst e
      cases hg:(o::rest)[blkN i j (o::rest)]? with
      | none=>rw [hg] at hdd; cases hdd
      | some q=>rw [hg] at hdd; exact List.mem_filterMap.2 ⟨q,List.mem_of_getElem? hg,hdd⟩)
     rw [lk_put_other _ _ _ _ hkd] at h5
     exact (lk_dels _ _ _ _ h5).2
    ·cases h
   ·cases h
theorem PL_sim{ls:Array Oper}{l:List Oper}(hs:∀g l a w,Sim cx s g l a w->Sim cx t g l a w)(h:PL P cx ls l t Q):PL P cx ls l s Q:=fun g l a w k=>h g l a w (hs g l a w k)
theorem und_lk{asm:List Nat}{o:Oper}{j dj:Nat}{b:Bool}(h:und all asm o s=some (j,dj,b)):lk s.tmps dj=some (.v (.bool b)):=by
 unfold und at h
 split at h
 ·cases h
 ·split at h
  ·cases h
  ·split at h
   ·split at h
    ·rename_i hb
     injection h with h
     injection h with h1 h2
     injection h2 with h2 h3
     subst h2 h3; exact hb
    ·cases h
   ·cases h
theorem mrg1_sound{rec:List Oper->S->Option S}{m d dj:Nat}{b x:Bool}{ls R:List Oper}(hb:lk s.tmps dj=some (.v (.bool b)))
  (hrec:∀s s',rec (ls.take m) s=some s'->(∀Q,PL P cx all.toArray R s' Q->PL P cx all.toArray (ls.take m++R) s Q)/\s'.boxes=s.boxes/\s'.ext=s.ext/\∀k v,¬k∈dsts (ls.take m)->lk s'.tmps k=some v->lk s.tmps k=some v)
  (hrec2:∀s s',rec (ls.take m) s=some s'->∀k v,¬k∈dsts (ls.take m)->lk s.tmps k=some v->lk s'.tmps k=some v)
  (h:mrg1 rec m d dj b ls s=some x) (hQ:PL P cx all.toArray R (mst m d ls s (.v (.bool x))) Q):PL P cx all.toArray (ls.take m++R) s Q:=by
 obtain ⟨s1,s2,x1,x2,h1,h2,h3,h4,rfl⟩:=mrg1_inv h
 have hsame:∀v,b=v->∀k,lk (put s.tmps dj (.v (.bool v))) k=lk s.tmps k:=fun v hv k=>by
  rw [lk_put]; split
  ·rename_i e; subst e; rw [hb,hv]
  ·rfl
 have go:∀v r x,b=v->rec (ls.take m) { s with tmps:=put s.tmps dj (.v (.bool v)) }=some r->lk r.tmps d=some (.v (.bool x))->(bif b then x1 else x2)=x->PL P cx all.toArray (ls.take m++R) s Q:=fun v r x hv hr hd hx=>by
  obtain ⟨k1,k2,k3,-⟩:=hrec _ _ hr
  refine PL_sim (t:={ s with tmps:=put s.tmps dj (.v (.bool v)) }) (fun g l a w sm=>sm.congr (hsame v hv) (fun _=>rfl) (fun _=>rfl)) (k1 Q ?_)
  refine PL_sim (fun g l a w sm=>sm.leF (fun k u hk => .inr ?_) (fun k u hk=>⟨u,by rw [k2]; exact hk,WLs.refl u⟩) (fun k u hk=>⟨u,by rw [k3]; exact hk,WLs.refl u⟩) (by rw [k3]; exact Nat.le_refl _)) hQ
  unfold mst at hk
  simp only at hk
  rw [lk_put] at hk
  split at hk
  ·rename_i e; subst e; injection hk with hk; subst hk; rw [hx]; exact ⟨_,hd,WL.refl _⟩
  ·obtain ⟨k4,k5⟩:=lk_dels _ _ _ _ hk
   exact ⟨u,hrec2 _ _ hr k u k4 (by rw [<-k5]; exact hsame v hv k),WL.refl _⟩
 cases b with
 | true=>exact go true s1 x1 rfl h1 h3 rfl
 | false=>exact go false s2 x2 rfl h2 h4 rfl
theorem evM_keep:∀ (f:Nat) (asm:List Nat) (i:Nat) (ls:List Oper) (s s':S),evM P md cx.n all f asm i ls s=some s'->∀k v,¬k∈dsts ls->lk s.tmps k=some v->lk s'.tmps k=some v
 | 0,_,_,_,_,_,h=>by cases h
 | _+1,_,_,[],s,s',h=>by simp only [evM] at h; injection h with h; subst h; exact fun _ _ _ h=>h
 | f+1,asm,i,o::rest,s,s',h=>by
  have hd:∀x,x∈dsts [o]->x∈dsts (o::rest):=fun x hx=>by
   rw [show o::rest=[o]++rest by rfl,dsts,List.filterMap_append,List.mem_append]; exact .inl hx
  have hr:∀x,x∈dsts rest->x∈dsts (o::rest):=fun x hx=>by
   rw [show o::rest=[o]++rest by rfl,dsts,List.filterMap_append,List.mem_append]; exact .inr hx
  simp only [evM] at h
  split at h
  ·split at h
   ·split at h
    ·rename_i s1 h1
     have k1:=op1_kp h1
     exact fun k v hk hv=>evM_keep f asm (i+1) rest s1 s' h k v (fun e=>hk (hr _ e)) (by rw [k1.2.2 k (fun e=>hk (hd _ e))]; exact hv)
    ·cases h
   ·have k1:=skip_kp (s:=s) (o:=o)
    exact fun k v hk hv=>evM_keep f asm (i+1) rest _ s' h k v (fun e=>hk (hr _ e)) (by rw [k1.2.2 k (fun e=>hk (hd _ e))]; exact hv)
   ·cases h
  ·rename_i j dj b hu
   split at h
   ·rename_i d hdd
    split at h
    ·rename_i s1 h1
     intro k v hk hv
     have hdrop:¬k∈dsts ((o::rest).drop (blkN i j (o::rest)+1)):=fun e=>hk (by
      unfold dsts at e ⊢
      obtain ⟨x,hx,hx2⟩:=List.mem_filterMap.1 e
      exact List.mem_filterMap.2 ⟨x,List.mem_of_mem_drop hx,hx2⟩)
     have htake:¬k∈dsts ((o::rest).take (blkN i j (o::rest)+1)):=fun e=>hk (by
      unfold dsts at e ⊢
      obtain ⟨x,hx,hx2⟩:=List.mem_filterMap.1 e
      exact List.mem_filterMap.2 ⟨x,List.mem_of_mem_take hx,hx2⟩)
     refine evM_keep f asm _ _ _ s' h k v hdrop ?_
     have hkd:d≠k:=fun e=>hk (by
      subst e
      cases hg:(o::rest)[blkN i j (o::rest)]? with
      | none=>rw [hg] at hdd; cases hdd
      | some q=>rw [hg] at hdd; exact List.mem_filterMap.2 ⟨q,List.mem_of_getElem? hg,hdd⟩)
     unfold mst
     simp only
     rw [lk_put_other _ _ _ _ hkd,dels_lk _ _ _ htake]
     exact hv
    ·cases h
   ·cases h
theorem evM_sound(hall:dstOK cx.n all=true):∀ (f:Nat) (asm:List Nat) (i:Nat) (ls:List Oper) (s s':S),(∀o∈ls,o∈all)->evM P md cx.n all f asm i ls s=some s'->∀ (R:List Oper) Q,PL P cx all.toArray R s' Q->PL P cx all.toArray (ls++R) s Q
 | 0,_,_,_,_,_,_,h=>by cases h
 | _+1,_,_,[],s,s',_,h=>by simp only [evM] at h; injection h with h; subst h; exact fun _ _ h=>h
 | f+1,asm,i,o::rest,s,s',hm,h=>fun R Q hQ=>by
  have hm':∀o∈rest,o∈all:=fun o ho=>hm o (List.mem_cons_of_mem _ ho)
  have hd:∀d,o.dst=some d->d<cx.n:=dstOK_mem hall (hm o sM)
  simp only [evM] at h
  split at h
  ·split at h
   ·rename_i hw
    split at h
    ·rename_i s1 h1
     have ih:=evM_sound hall f asm (i+1) rest s1 s' hm' h R Q hQ
     intro g l0 a w hs
     refine wpList_step fun K hK=>?_
     rw [iP (wantS_sound hall hw hs)]
     unfold op1 at h1
     split at h1
     ·cases h1
     ·split at h1
      ·rename_i d lv hrun
       split at h1
       ·injection h1 with h1
        refine upon_mono ?_ (act_sound (K:=fun x=>x=[.tmp d lv]) hs (RM.run_wp hrun rfl) (post cx Q))
        rintro a' w' ⟨wr,g',l',rfl,sm⟩
        subst h1
        exact hK _ _ (ih g' l' a' w' sm)
       ·cases h1
      ·cases h1
    ·cases h
   ·rename_i hw
    have ih:=evM_sound hall f asm (i+1) rest _ s' hm' h R Q hQ
    intro g l0 a w hs
    refine wpList_step fun K hK=>?_
    rw [iN (by rw [wantS_sound hall hw hs]; simp)]
    refine hK _ _ (ih g l0 _ w ?_)
    cases hdd:o.dst with
    | none=>simp only [S.skip,hdd,Act.put]; exact hs
    | some d=>
     simp only [S.skip,hdd]
     exact hs.set (hd d hdd) (.tup [] [] rfl fun j h=>by simp at h)
   ·cases h
  ·rename_i j dj b hu
   split at h
   ·rename_i d hdd
    split at h
    ·rename_i s1 h1
     have htd:∀ (l:List Oper) (m:Nat),l++R=l.take m++(l.drop m++R):=fun l m=>by rw [<-List.append_assoc,List.take_append_drop]
     rw [htd (o::rest) (blkN i j (o::rest)+1)]
     refine mrg1_sound (und_lk hu) (fun t t' ht=>⟨fun Q' hQ'=>evM_sound hall f (j::asm) i _ t t' (fun q hq=>hm q (List.mem_of_mem_take hq)) ht _ Q' hQ',evM_kp f (j::asm) i _ t t' ht⟩) (fun t t' ht=>evM_keep f (j::asm) i _ t t' ht) h1 ?_
     exact evM_sound hall f asm _ _ _ s' (fun q hq=>hm q (List.mem_of_mem_drop hq)) h R Q hQ
    ·cases h
   ·cases h
end
def mrgX(P:Program)(md:Md)(n:Nat)(all ls:List Oper)(s:S):SM (Option (Nat × S))
 | .mrg::sc=>match ls with
  | [] => .ok none (.mrg::sc) []
  | o::_=>match und all [] o s with
   | some (j,dj,b)=>match (ls[blkN (all.length - ls.length) j ls]?).bind (·.dst) with
    | some d=>match mrg1 (evM P md n all 200 [j] (all.length - ls.length)) (blkN (all.length - ls.length) j ls+1) d dj b ls s with
     | some x=>((askV (.v (.bool x))).bnd fun lv => .ret (some (blkN (all.length - ls.length) j ls+1,mst (blkN (all.length - ls.length) j ls+1) d ls s lv))) sc
     | none => .no (.bad 32)
    | none => .no (.bad 33)
   | none => .ok none (.mrg::sc) []
 | sc => .ok none sc []
theorem mrgX_wp{P:Program}{cx:Cx}{s:S}{Q:PExit->S->Prop}{md:Md}{all ls:List Oper}{sc:List Ans}{K':Option (Nat × S)->List Ans->Prop}(hall:dstOK cx.n all=true)(hm:∀o∈ls,o∈all)(h:(mrgX P md cx.n all ls s).wp P sc K') :
  (∃sc',K' none sc')∨∃m s' sc',K' (some (m+1,s')) sc'/\(PL P cx all.toArray (ls.drop (m+1)) s' Q->PL P cx all.toArray ls s Q):=by
 unfold SM.wp mrgX at h
 split at h
 ·split at h
  ·exact .inl ⟨_,h.2⟩
  ·rename_i o r
   split at h
   ·rename_i j dj b hu
    split at h
    ·rename_i d hdd
     split at h
     ·rename_i x h1
      obtain ⟨sc',h2⟩:=askV_wp (SM.wp_bnd (show SM.wp _ (SM.bnd _ _) _ _ from h))
      refine .inr ⟨_,_,_,SM.wp_ret h2,fun hQ=>?_⟩
      rw [<-List.take_append_drop (blkN (all.length - (o::r).length) j (o::r)+1) (o::r)]
      exact mrg1_sound (und_lk hu) (fun t t' ht=>⟨fun Q' hQ'=>evM_sound hall _ _ _ _ t t' (fun q hq=>hm q (List.mem_of_mem_take hq)) ht _ Q' hQ',evM_kp _ _ _ _ t t' ht⟩) (fun t t' ht=>evM_keep _ _ _ _ t t' ht) h1 hQ
     ·exact h.elim
    ·exact h.elim
   ·exact .inl ⟨_,h.2⟩
 ·exact .inl ⟨_,h.2⟩
section
variable {P:Program} {cx:Cx} {s s':S} {Q:PExit->S->Prop} {K:S->Prop} {o:Oper} {pe:PExit} {md:Md} {all:List Oper} {sc sc':List Ans}
def wantX(all:List Oper)(o:Oper)(s:S):SM Bool:=match o.guard with
 | none => .ret true
 | some (j,want)=>match (all[j]?).bind (·.dst) with
  | some dj=>match lk s.tmps dj with
   | some (.v (.bool b))=>(askB b).bnd fun v => .ret (v==want)
   | some (.v (.tup _)) => .ret false
   | _ => .bad 20
  | none => .bad 21
theorem wantX_wp{K':Bool->List Ans->Prop}(h:(wantX all o s).wp P sc K'):∃b sc',wantS all o s=some b/\K' b sc':=by
 unfold wantX at h
 unfold wantS
 split at h
 ·rename_i hg; rw [hg]; exact ⟨_,_,rfl,SM.wp_ret h⟩
 ·rename_i j want hg
  rw [hg]
  split at h
  ·rename_i dj hdj
   simp only [hdj]
   split at h
   ·rename_i b hb
    obtain ⟨sc',h1⟩:=askB_wp (SM.wp_bnd h)
    exact ⟨_,_,by rw [hb]; rfl,SM.wp_ret h1⟩
   ·rename_i vs hb
    exact ⟨_,_,by rw [hb]; rfl,SM.wp_ret h⟩
   ·exact h.elim
  ·exact h.elim
def evLX(P:Program)(md:Md)(n:Nat)(all:List Oper):List Oper->Nat->S->SM (PExit × S)
 | [],_,s => .ret (.normal,s)
 | _::rest,k+1,s=>evLX P md n all rest k s
 | o::rest,0,s=>(mrgX P md n all (o::rest) s).bnd fun m=>match m with
  | some (m,s')=>evLX P md n all rest (m - 1) s'
  | none=>(wantX all o s).bnd fun b=>match b with
   | true=>(SM.tag o s (opX P md n all o s)).bnd fun r=>match r with
    | (.normal,s')=>evLX P md n all rest 0 s'
    | r => .ret r
   | false=>evLX P md n all rest 0 (s.skip o)
theorem evLX_soundK{K':PExit × S->List Ans->Prop}(hall:dstOK cx.n all=true)(hk:∀pe s' sc',K' (pe,s') sc'->Q pe s'):∀ {ls:List Oper} {k:Nat} {s:S} {sc:List Ans},(∀o∈ls,o∈all)->(evLX P md cx.n all ls k s).wp P sc K'->PL P cx all.toArray (ls.drop k) s Q
 | [],_,s,sc,_,h=>by rw [List.drop_nil]; exact PL_nil (hk _ _ _ (SM.wp_ret h))
 | o::rest,k+1,s,sc,hm,h=>by
  rw [List.drop_succ_cons]
  exact evLX_soundK hall hk (fun o ho=>hm o (List.mem_cons_of_mem _ ho)) h
 | o::rest,0,s,sc,hm,h=>by
  have hd:∀d,o.dst=some d->d<cx.n:=dstOK_mem hall (hm o sM)
  have hm':∀o∈rest,o∈all:=fun o ho=>hm o (List.mem_cons_of_mem _ ho)
  simp only [evLX] at h
  rw [List.drop_zero]
  rcases mrgX_wp (Q:=Q) hall hm (SM.wp_bnd h) with ⟨sc0,h0⟩ | ⟨m,s',sc',h0,h1⟩
  ·intro g l0 a w hs
   obtain ⟨b,sc1,hw,h1⟩:=wantX_wp (SM.wp_bnd h0)
   have hwant:=wantS_sound hall hw hs
   refine wpList_step fun K hK=>?_
   cases b with
   | true=>
    rw [iP hwant]
    have h2:=SM.wp_tag (SM.wp_bnd h1)
    refine upon_mono ?_ (opX_sound (Q:=Q) (K:=fun s'=>PL P cx all.toArray rest s' Q) hd h2 (fun pe s' sc' h3=>?_) g l0 a w hs)
    ·rintro a' w' ⟨s',g',l',hp,sm⟩
     exact hK _ _ (hp g' l' a' w' sm)
    ·cases pe with
     | normal=>exact evLX_soundK (k:=0) hall hk hm' h3
     | exit _=>exact hk _ _ _ (SM.wp_ret h3)
     | ret=>exact hk _ _ _ (SM.wp_ret h3)
     | panic _=>exact hk _ _ _ (SM.wp_ret h3)
   | false=>
    rw [iN (by rw [hwant]; simp)]
    refine hK _ _ (evLX_soundK (k:=0) hall hk hm' h1 g l0 _ w ?_)
    cases hdd:o.dst with
    | none=>simp only [S.skip,hdd,Act.put]; exact hs
    | some d=>
     simp only [S.skip,hdd]
     exact hs.set (hd d hdd) (.tup [] [] rfl fun j h=>by simp at h)
  ·refine h1 ?_
   have:=evLX_soundK (ls:=rest) (k:=m) hall hk hm' h0
   rw [List.drop_succ_cons]; exact this
theorem evLX_sound{K':PExit × S->List Ans->Prop}(hall:dstOK cx.n all=true)(hk:∀pe s' sc',K' (pe,s') sc'->Q pe s'){ls:List Oper}{s:S}{sc:List Ans}(hm:∀o∈ls,o∈all)(h:(evLX P md cx.n all ls 0 s).wp P sc K'):PL P cx all.toArray ls s Q:=evLX_soundK (k:=0) hall hk hm h
end
def absL:LV := .v (.sl 1 [[]])
def absE:Ext:=[(0,[absL])]
theorem abs_false{cx:Cx}{s:S}{g:Gh}{l:LG}{a:Act}{w:World}(h:Sim cx s g l a w)(he:s.ext=absE):False:=by
 obtain ⟨b,-,-,hE⟩:=h.ex 0 [absL] (by rw [he]; rfl)
 rcases hE with ⟨-,cur,t,-,-,k⟩ | ⟨es,hE,-⟩ | ⟨n,c,ps,-,hE,-⟩
 rotate_left
 ·exact hE
 ·injection hE with hE _; cases hE
 have:=(k 0 sM).2.2
 have h2:Rep g w (.sl 1 [[]]) (cur.getD 0 undef):=this
 generalize cur.getD 0 undef=v at h2
 cases h2 with
 | sl _ _ _ _ _ _ _ hsz=>exact absurd (hsz 0 sM) sM
theorem Sim.bare{cx:Cx}{s:S}{g:Gh}{l:LG}{a:Act}{w:World}(h:Sim cx s g l a w):Sim cx ⟨[],[],s.ext⟩ g l a w where
 hist:=h.hist
 size:=h.size
 defers:=h.defers
 tm t lv ht:=by simp [lk] at ht
 bx i cs hi:=by simp [lk] at hi
 ex:=h.ex
 own:=h.own
 uo:=h.uo
 fresh:=h.fresh
 xlt:=h.xlt
def Qx(cx:Cx)(Q:PExit->S->Prop):PExit->S->Prop
 | .panic p,s=>∃t,(∀g l a w,Sim cx s g l a w->Sim cx t g l a w)/\Q (.panic p) t
 | .normal,s=>s.ext=absE∨Q .normal s
 | pe,s=>Q pe s
theorem PW_of_Qx{P:Program}{cx:Cx}{c:Code}{s:S}{Q:PExit->S->Prop}(h:PW P cx c s (Qx cx Q)):PW P cx c s Q:=fun g l a w hs=>by
 refine wp_mono (h g l a w hs) ?_
 rintro e a' w' ⟨pe,s',g',l',q,er,sm⟩
 cases pe with
 | normal=>
  rcases q with q | q
  ·exact (abs_false sm q).elim
  ·exact ⟨.normal,s',g',l',q,er,sm⟩
 | exit i=>exact ⟨.exit i,s',g',l',q,er,sm⟩
 | ret=>exact ⟨.ret,s',g',l',q,er,sm⟩
 | panic p=>
  obtain ⟨t,h1,h2⟩:=q
  exact ⟨.panic p,t,g',l',h2,er,h1 _ _ _ _ sm⟩
section
variable {P:Program} {cx:Cx} {s s':S} {Q:PExit->S->Prop} {o:Oper} {md:Md} {all:List Oper} {sc sc':List Ans}
theorem PW_chain{id:Nat}{ops:List Oper}{sts:List DS}{xs:List Ext}{t:S}(hm:P.follows .mixedOrders=true)(hch:Chain P cx ops.toArray Q ops sts xs s t)(hc:chk ops sts s.tmps=true)(hq:Q .normal t):PW P cx (.region id ops.toArray true) s Q:=by
 obtain ⟨k1,k2,k3⟩:=hch.at_
 have hT:∀i,sT s sts (fun k=>(s.ext::xs).getD k []) i=stA s sts xs i:=fun i=>by
  unfold sT stA
  have h1:=wsel_take sts 0 i
  have h2:=ecnt_take sts 0 i
  simp only [Nat.zero_add] at h1 h2
  rw [h1,h2]
 refine PW_draw (sts:=sts) (e:=fun k=>(s.ext::xs).getD k []) hm hc k1 rfl ?_ fun i o d ho hd=>?_
 ·have h1:=hT sts.length
  have h2:sD s sts (fun k=>(s.ext::xs).getD k []) (fun _=>true)=sT s sts (fun k=>(s.ext::xs).getD k []) sts.length:=by
   unfold sD sT
   rw [wsel_congr (D:=fun _=>true) (D':=fun j=>decide (j<sts.length)) (sts:=sts) (k:=0) fun j _ hj=>by simp at hj; simp [hj]]
   rw [ecnt_congr (D:=fun _=>true) (D':=fun j=>decide (j<sts.length)) (sts:=sts) (k:=0) fun j d' hj _=>by
    have:=(List.getElem?_eq_some_iff.1 hj).1
    simp [this]]
  rw [h2,h1,<-k2]
  exact hq
 ·obtain ⟨e',h1,h2⟩:=k3 i o d ho hd
  rw [hT]
  have hk:ecnt (fun j=>decide (j<i)) 0 sts=(sts.take i).countP (·.eff):=by
   have:=ecnt_take sts 0 i
   simpa using this
  rw [hk]
  intro s' k hag hxk hse hnl
  obtain ⟨-,hnf,-⟩:=chk_at hc hd
  have:=h1 hnf s' hag (fun hx=>by rw [hse,hxk hx]; rfl) hnl
  refine this.of (fun p hp=>?_) ?_
  ·cases p <;> first | rfl | cases hp
  ·simp only
   cases hef:d.eff with
   | true=>
    have hkk:=hxk (by simp [DS.xf,hef])
    rw [hkk,h2 hef]
    rfl
   | false=>simp only [Bool.false_eq_true,if_false,Nat.add_zero]; exact hse.symm
abbrev Pk:=Option (PV × Ext)
def stepX(P:Program)(ro:TypeId->Option Bool)(n:Nat)(all:List Oper)(o:Oper)(gr:List Loc)(s:S):SM (DS × Option Ext × S × Pk):=match callee P o with
 | some r=>(r.runMR s).bnd fun x=>(askC x.1.1 x.1.2 s.ext).bnd fun y=>match y with
  | (.ret p,e,true) => .ret (⟨gr++x.2,dstW o (.v p),false⟩,none,s.wqs (dstW o (.v p)),none)
  | (.ret p,e,false) => .ret (⟨gr++x.2,dstW o (.v p),true⟩,some e,{ s.wqs (dstW o (.v p)) with ext:=e },none)
  | (.own te z es,e,true) => .ret (⟨gr++x.2,dstW o (.uniq te z es),false⟩,none,s.wqs (dstW o (.uniq te z es)),none)
  | (.own te z es,e,false) => .ret (⟨gr++x.2,dstW o (.uniq te z es),true⟩,some e,{ s.wqs (dstW o (.uniq te z es)) with ext:=e },none)
  | (.panic p,e,_) => .ret (⟨gr++x.2,[],true⟩,some absE,{ s with ext:=absE },some (p,e))
 | none=>(actM P ro n all o s).bnd fun x=>if x.1.any isXW=true then .ret (⟨gr++x.2,x.1.filter plainW,true⟩,some (extW s.ext x.1),{ s.wqs (x.1.filter plainW) with ext:=extW s.ext x.1 },none)
   else .ret (⟨gr++x.2,x.1,false⟩,none,s.wqs x.1,none)
theorem RM.wpR_det{α:Type}:∀ {r:RM α} {K:α->List Loc->Prop},r.wpR s K->∃a rd,K a rd/\∀K':α->List Loc->Prop,K' a rd->r.wpR s K'
 | .ret a,K,h=>⟨a,[],h,fun _ h=>h⟩
 | .fail,_,h=>h.elim
 | .getT t k,K,h=>by
  simp only [RM.wpR] at h ⊢
  split at h
  ·obtain ⟨a,rd,h1,h2⟩:=RM.wpR_det h
   exact ⟨a,_,h1,fun K' hk=>h2 _ hk⟩
  ·exact h.elim
 | .getB t k,K,h=>by
  simp only [RM.wpR] at h ⊢
  split at h
  ·obtain ⟨a,rd,h1,h2⟩:=RM.wpR_det h
   exact ⟨a,_,h1,fun K' hk=>h2 _ hk⟩
  ·exact h.elim
 | .getX t k,K,h=>by
  simp only [RM.wpR] at h ⊢
  split at h
  ·obtain ⟨a,rd,h1,h2⟩:=RM.wpR_det h
   exact ⟨a,_,h1,fun K' hk=>h2 _ hk⟩
  ·exact h.elim
 | .assume p k,K,h=>by
  obtain ⟨a,rd,h1,h2⟩:=RM.wpR_det h.2
  exact ⟨a,rd,h1,fun K' hk=>⟨h.1,h2 _ hk⟩⟩
theorem stepX_sound{gr:List Loc}{ro:TypeId->Option Bool}{K':DS × Option Ext × S × Pk->List Ans->Prop}(hd:∀d,o.dst=some d->d<cx.n)
  (hwant:∀s',(∀l∈gr,s'.get l=s.get l)->∀g l a w,Sim cx s' g l a w->Region.wanted o (yielded all.toArray a.tmps)=true) (h:(stepX P ro cx.n all o gr s).wp P sc K') :
  ∃d x s' pk sc',K' (d,x,s',pk) sc'/\d.eff=x.isSome/\s'={ s.wqs d.ws with ext:=x.getD s.ext }/\(pk.isSome=true->x=some absE)/\((∀p e,pk=some (p,e)->Q (.panic p) ⟨[],[],e⟩)->Loc1 P cx all.toArray (Qx cx Q) o d s (x.getD s.ext)):=by
 have plain:(∃sc',stepR P ro cx.n all o gr s fun d x s'=>K' (d,x,s',none) sc')∨stepR P ro cx.n all o gr s (fun d x s'=>∃sc',K' (d,x,s',none) sc')->∃d x s' pk sc',K' (d,x,s',pk) sc'/\d.eff=x.isSome/\s'={ s.wqs d.ws with ext:=x.getD s.ext }/\(pk.isSome=true->x=some absE)/\((∀p e,pk=some (p,e)->Q (.panic p) ⟨[],[],e⟩)->Loc1 P cx all.toArray (Qx cx Q) o d s (x.getD s.ext)):=by
  rintro (⟨sc',hst⟩ | hst)
  ·obtain ⟨d,x,s',hk,he,hs',hl⟩:=stepR_sound (Q:=Qx cx Q) hd hwant hst
   exact ⟨d,x,s',none,sc',hk,he,hs',fun h=>by simp at h,fun _=>hl⟩
  ·obtain ⟨d,x,s',⟨sc',hk⟩,he,hs',hl⟩:=stepR_sound (Q:=Qx cx Q) hd hwant hst
   exact ⟨d,x,s',none,sc',hk,he,hs',fun h=>by simp at h,fun _=>hl⟩
 unfold stepX at h
 split at h
 ·rename_i r hr
  obtain ⟨⟨f,args⟩,rd,⟨sc1,h1⟩,hdet⟩:=RM.wpR_det (RM.runMR_wp (SM.wp_bnd h))
  obtain ⟨res,e',pu,sc',hK,hfn,hC,hpu⟩:=askC_wp (SM.wp_bnd h1)
  cases res with
  | panic p=>
   refine ⟨_,_,_,_,_,SM.wp_ret hK,rfl,rfl,fun _=>rfl,fun hQ=>?_⟩
   obtain ⟨_,_,⟨rfl,rfl⟩,hloc⟩:=RM.wpR_local (hdet (fun a r=>a=(f,args)/\r=rd) ⟨rfl,rfl⟩)
   intro _ s1 hag hxs _ g l a w hs
   rw [iP (hwant s1 (fun l hl=>hag l (List.mem_append_left _ hl)) g l a w hs)]
   have hC':CallC P f args s1.ext fun r1 e1=>r1 = .panic p/\e1=e':=by rw [hxs (by simp [DS.xf])]; exact hC
   refine upon_mono ?_ (callee_sound (Q:=Qx cx Q) (K:=fun _=>False) hr hd hs (RM.wp_mono (fun y hy=>?_) (hloc s1 fun l hl=>hag l (List.mem_append_right _ hl))))
   ·rintro a' w' ⟨s',g',l',hf,sm⟩; exact hf.elim
   ·subst hy
    refine ⟨hfn,hC'.mono ?_⟩
    rintro _ _ ⟨rfl,rfl⟩
    exact ⟨⟨[],[],_⟩,fun g l a w sm=>sm.bare,hQ _ _ rfl⟩
  | ret p=>
   cases pu with
   | true=>exact plain (.inl ⟨sc',by unfold stepR; rw [hr]; exact hdet _ ⟨hfn,.inl ⟨.ret p,.v p,rfl,(hpu rfl).2,SM.wp_ret hK⟩⟩⟩)
   | false=>exact plain (.inl ⟨sc',by unfold stepR; rw [hr]; exact hdet _ ⟨hfn,.inr ⟨.ret p,.v p,e',rfl,hC,SM.wp_ret hK⟩⟩⟩)
  | own te z es=>
   cases pu with
   | true=>exact plain (.inl ⟨sc',by unfold stepR; rw [hr]; exact hdet _ ⟨hfn,.inl ⟨.own te z es,.uniq te z es,rfl,(hpu rfl).2,SM.wp_ret hK⟩⟩⟩)
   | false=>exact plain (.inl ⟨sc',by unfold stepR; rw [hr]; exact hdet _ ⟨hfn,.inr ⟨.own te z es,.uniq te z es,e',rfl,hC,SM.wp_ret hK⟩⟩⟩)
 ·rename_i hr
  refine plain (.inr ?_)
  unfold stepR
  rw [hr]
  refine RM.wpR_mono' (actM_wp (SM.wp_bnd h)) ?_
  rintro wr rd ⟨sc2,h2⟩
  simp only at h2
  split at h2
  ·rename_i hx; rw [iP hx]; exact ⟨sc2,SM.wp_ret h2⟩
  ·rename_i hx; rw [iN hx]; exact ⟨sc2,SM.wp_ret h2⟩
def wantD(all:List Oper)(o:Oper)(s:S):SM (Bool × List Loc):=match o.guard with
 | none => .ret (true,[])
 | some (j,want)=>match (all[j]?).bind (·.dst) with
  | some dj=>match lk s.tmps dj with
   | some (.v (.bool b))=>(askB b).bnd fun v => .ret (v==want,[.t dj])
   | some (.v (.tup _)) => .ret (false,[.t dj])
   | _ => .bad 22
  | none => .bad 23
theorem wantD_wp{K':Bool × List Loc->List Ans->Prop}(hall:dstOK cx.n all=true)(h:(wantD all o s).wp P sc K'):∃b gr sc',K' (b,gr) sc'/\∀s',(∀l∈gr,s'.get l=s.get l)->∀g l a w,Sim cx s' g l a w->Region.wanted o (yielded all.toArray a.tmps)=b:=by
 unfold wantD at h
 split at h
 ·rename_i hg
  exact ⟨_,_,_,SM.wp_ret h,fun s' _ g l a w _=>by simp [Region.wanted,hg]⟩
 ·rename_i j want hg
  split at h
  ·rename_i dj hdj
   have hdjn:dj<cx.n:=by
    simp only [Option.bind_eq_some_iff] at hdj
    obtain ⟨oj,h1,h2⟩:=hdj
    exact dstOK_mem hall (List.mem_of_getElem? h1) dj h2
   have key:∀ {lv:LV} {b:Bool},lk s.tmps dj=some lv->wantP want lv=some b->∀s',(∀l∈[Loc.t dj],s'.get l=s.get l)->∀g l a w,Sim cx s' g l a w->Region.wanted o (yielded all.toArray a.tmps)=b:=fun {lv b} hlv hb s' hs' g l a w sm=>by
    have h1:lk s'.tmps dj=some lv:=by rw [get_t (hs' (.t dj) sM)]; exact hlv
    simp only [Region.wanted,hg]
    exact yielded_of (by simpa using hdj) hdjn sm h1 hb
   split at h
   ·rename_i b hb
    obtain ⟨sc',h1⟩:=askB_wp (SM.wp_bnd h)
    exact ⟨_,_,_,SM.wp_ret h1,key hb rfl⟩
   ·rename_i vs hb
    exact ⟨_,_,_,SM.wp_ret h,key hb rfl⟩
   ·exact h.elim
  ·exact h.elim
abbrev Pki:=Option (Nat × PV × Ext)
def dead(an:List (List Nat))(k:Nat):Pki->Bool
 | some (i,_)=>(an.getD k []).contains i
 | none=>false
def joinP(k:Nat)(pk:Pki)(x:Option Ext)(pp:Pk):Option Pki:=match pk with
 | none=>some (pp.map fun y=>(k,y))
 | some q=>if x.isSome=true then none else some (some q)
def evDX(P:Program)(ro:TypeId->Option Bool)(n:Nat)(all:List Oper)(an:List (List Nat)):List Oper->Nat->Pki->S->SM (List DS × S × Pki × List Ext)
 | [],_,pk,s => .ret ([],s,pk,[])
 | o::rest,k,pk,s=>match dead an k pk with
  | true=>(evDX P ro n all an rest (k+1) pk s).bnd fun x => .ret (⟨[],[],true⟩::x.1,x.2.1,x.2.2.1,absE::x.2.2.2)
  | false=>(wantD all o s).bnd fun b=>match b with
   | (true,gr)=>(SM.tag o s (stepX P ro n all o gr s)).bnd fun y=>match joinP k pk y.2.1 y.2.2.2 with
    | some pk'=>(evDX P ro n all an rest (k+1) pk' y.2.2.1).bnd fun x => .ret (y.1::x.1,x.2.1,x.2.2.1,y.2.1.toList++x.2.2.2)
    | none => .bad 24
   | (false,gr)=>(evDX P ro n all an rest (k+1) pk (s.wqs (dstW o (.v (.tup []))))).bnd fun x => .ret (⟨gr,dstW o (.v (.tup [])),false⟩::x.1,x.2)
theorem evDX_sound{ro:TypeId->Option Bool}{an:List (List Nat)}(hall:dstOK cx.n all=true):∀ {ls:List Oper} {k:Nat} {pk:Pki} {s:S} {sc:List Ans} {K':List DS × S × Pki × List Ext->List Ans->Prop},(∀o∈ls,o∈all)->(pk.isSome=true->s.ext=absE)->(evDX P ro cx.n all an ls k pk s).wp P sc K' ->
  ∃sts xs t pk' sc',K' (sts,t,pk',xs) sc'/\(pk.isSome=true->pk'=pk)/\(pk'.isSome=true->t.ext=absE)/\((∀i p e,pk'=some (i,p,e)->Q (.panic p) ⟨[],[],e⟩)->Chain P cx all.toArray (Qx cx Q) ls sts xs s t)
 | [],k,pk,s,sc,K',_,hpk,h=>⟨[],[],s,pk,sc,SM.wp_ret h,fun _=>rfl,hpk,fun _=>rfl⟩
 | o::rest,k,pk,s,sc,K',hm,hpk,h=>by
  have hd:∀d,o.dst=some d->d<cx.n:=dstOK_mem hall (hm o sM)
  have hm':∀o∈rest,o∈all:=fun o ho=>hm o (List.mem_cons_of_mem _ ho)
  simp only [evDX] at h
  split at h
  ·rename_i hdead
   have hps:pk.isSome=true:=by cases pk <;> first | rfl | cases hdead
   have hse:=hpk hps
   obtain ⟨sts,xs,t,pk',sc',h1,h2,h3,h4⟩:=evDX_sound hall hm' hpk (SM.wp_bnd h)
   refine ⟨_::sts,(some absE).toList++xs,t,pk',sc',SM.wp_ret h1,h2,h3,fun hQ=>⟨some absE,xs,rfl,rfl,?_,?_⟩⟩
   ·intro _ s1 _ hxs _ g l a w hs
    exact (abs_false hs ((hxs (by simp [DS.xf])).trans hse)).elim
   ·have:({ s.wqs [] with ext:=(some absE).getD s.ext }:S)=s:=by
     show ({ s with ext:=absE }:S)=s
     rw [<-hse]
    rw [this]
    exact h4 hQ
  ·obtain ⟨b,gr,sc1,h1,hwant⟩:=wantD_wp (cx:=cx) hall (SM.wp_bnd h)
   cases b with
   | true=>
    obtain ⟨d,x,s',pp,sc2,h2,he,rfl,hpp,hl⟩:=stepX_sound (Q:=Q) hd hwant (SM.wp_tag (SM.wp_bnd h1))
    simp only at h2
    split at h2
    ·rename_i pk' hj
     have hpk':pk'.isSome=true->({ s.wqs d.ws with ext:=x.getD s.ext }:S).ext=absE:=fun hs=>by
      show x.getD s.ext=absE
      unfold joinP at hj
      split at hj
      ·injection hj with hj
       subst hj
       have:pp.isSome=true:=by cases pp <;> first | rfl | (simp at hs)
       rw [hpp this]; rfl
      ·split at hj
       ·cases hj
       ·rename_i hx
        have:x=none:=by cases x <;> first | rfl | simp at hx
        subst this
        exact hpk rfl
     obtain ⟨sts,xs,t,pk2,sc',h3,h4,h5,h6⟩:=evDX_sound hall hm' hpk' (SM.wp_bnd h2)
     refine ⟨d::sts,x.toList++xs,t,pk2,sc',SM.wp_ret h3,fun hs=>?_,h5,fun hQ=>⟨x,xs,rfl,he,hl fun p e hp=>?_,h6 hQ⟩⟩
     ·unfold joinP at hj
      split at hj
      ·simp at hs
      ·split at hj
       ·cases hj
       ·injection hj with hj
        subst hj
        exact h4 rfl
     ·unfold joinP at hj
      split at hj
      ·injection hj with hj
       subst hj
       rw [hp] at h4
       exact hQ k p e (h4 rfl)
      ·split at hj
       ·cases hj
       ·rename_i hx
        have:x=none:=by cases x <;> first | rfl | simp at hx
        subst this
        have:=hpp (by rw [hp]; rfl)
        cases this
    ·exact h2.elim
   | false=>
    have hext:=wqs_ext (dstW o (.v (.tup []))) s
    obtain ⟨sts,xs,t,pk',sc',h3,h4,h5,h6⟩:=evDX_sound hall hm' (s:=s.wqs (dstW o (.v (.tup [])))) (fun hs=>by rw [hext]; exact hpk hs) (SM.wp_bnd h1)
    refine ⟨_::sts,(none:Option Ext).toList++xs,t,pk',sc',SM.wp_ret h3,h4,h5,fun hQ=>⟨none,xs,rfl,rfl,?_,?_⟩⟩
    ·intro _ s' hag hxs _ g l a w sm
     rw [iN (by rw [hwant s' hag g l a w sm]; simp)]
     refine ⟨g,l,?_⟩
     show Sim cx { s'.wqs (dstW o (.v (.tup []))) with ext:=s'.ext } g l (a.put o.dst undef) w
     unfold dstW
     cases hdd:o.dst with
     | none=>exact sm
     | some d=>exact sm.set (hd d hdd) (.tup [] [] rfl fun j h=>by simp at h)
    ·have e2:s.wqs (dstW o (.v (.tup [])))={ s.wqs (dstW o (.v (.tup []))) with ext:=s.ext }:=by rw [<-hext]
     have:=h6 hQ
     rw [e2] at this
     exact this
def relD(P:Program)(o:Oper)(d:DS):Bool:=!d.eff&&d.rd.any isX&&(callee P o).isNone&&o.guard.isNone
def relx(P:Program)(o:Oper)(d:DS):DS:=match relD P o d with
 | true=>⟨d.rd.filter (fun l=>!isX l),d.ws,d.eff⟩
 | false=>d
def relL(P:Program):List Oper->List DS->List DS
 | o::ops,d::ds=>relx P o d::relL P ops ds
 | _,ds=>ds
theorem relx_ws(P:Program)(o:Oper)(d:DS):(relx P o d).ws=d.ws/\(relx P o d).eff=d.eff:=by unfold relx; split <;> exact ⟨rfl,rfl⟩
theorem relL_get(P:Program):∀ {ops:List Oper} {sts:List DS} {i:Nat} {o:Oper} {d':DS},ops[i]?=some o->(relL P ops sts)[i]?=some d'->∃d,sts[i]?=some d/\d'=relx P o d
 | [],_,_,_,_,h,_=>by simp at h
 | o::ops,[],i,_,_,_,h=>by simp [relL] at h
 | o::ops,d::ds,0,_,_,h,h'=>by
  simp only [relL,List.getElem?_cons_zero,Option.some.injEq] at h h' ⊢
  subst h
  exact ⟨d,rfl,h'.symm⟩
 | o::ops,d::ds,i+1,_,_,h,h'=>by
  simp only [relL,List.getElem?_cons_succ] at h h' ⊢
  exact relL_get P h h'
theorem relL_len(P:Program):∀ (ops:List Oper) (sts:List DS),(relL P ops sts).length=sts.length
 | [],_=>rfl
 | _::_,[]=>rfl
 | o::ops,d::ds=>by simp [relL,relL_len P ops ds]
theorem relL_wsel(P:Program)(D:Nat->Bool):∀ (ops:List Oper) (sts:List DS) (k:Nat),wsel D k (relL P ops sts)=wsel D k sts
 | [],_,_=>rfl
 | _::_,[],_=>rfl
 | o::ops,d::ds,k=>by simp only [relL,wsel,relL_wsel P D ops ds,(relx_ws P o d).1]
theorem relL_ecnt(P:Program)(D:Nat->Bool):∀ (ops:List Oper) (sts:List DS) (k:Nat),ecnt D k (relL P ops sts)=ecnt D k sts
 | [],_,_=>rfl
 | _::_,[],_=>rfl
 | o::ops,d::ds,k=>by simp only [relL,ecnt,relL_ecnt P D ops ds,(relx_ws P o d).2]
theorem Chain.cnt{all:Array Oper}:∀ {ls:List Oper} {sts:List DS} {xs:List Ext} {s t:S},Chain P cx all Q ls sts xs s t->xs.length=sts.countP (·.eff)
 | [],[],[],_,_,_=>rfl
 | o::rest,d::ds,xs,s,t,h=>by
  obtain ⟨x,xs',rfl,hx,-,hr⟩:=h
  have ih:=Chain.cnt hr
  cases x with
  | none=>simp only [Option.isSome_none] at hx; simp [hx,ih]
  | some e=>simp only [Option.isSome_some] at hx; simp [hx,ih]
 | [],_::_,_,_,_,h=>h.elim
 | _::_,[],_,_,_,h=>h.elim
 | [],[],_::_,_,_,h=>h.elim
def isAbs:Ext->Bool
 | [(0,[lv])]=>match lv with
  | .v (.sl 1 [[]])=>true
  | _=>false
 | _=>false
theorem isAbs_eq{e:Ext}(h:isAbs e=true):e=absE:=by
 unfold isAbs at h
 split at h
 ·split at h
  ·rfl
  ·cases h
 ·cases h
def stab1(P:Program)(ro:TypeId->Option Bool)(n:Nat)(all:List Oper)(o:Oper)(d:DS)(s:S):SM Unit:=((act P ro n all o).runMR s).bnd fun x=>match x.1,d.ws with
 | [.tmp t lv],[.tmp t' lv']=>if t=t'/\(x.2.filter (fun l=>!isX l)).all (fun l=>d.rd.contains l)=true then SM.owe (.eqv lv lv') () else .bad 60
 | _,_ => .bad 61
def stabE(P:Program)(ro:TypeId->Option Bool)(n:Nat)(all:List Oper)(o:Oper)(d:DS)(s:S):List Ext->SM Unit
 | [] => .ret ()
 | e::r=>match isAbs e with
  | true=>stabE P ro n all o d s r
  | false=>(stab1 P ro n all o d { s with ext:=e }).bnd fun _=>stabE P ro n all o d s r
def stabX(P:Program)(ro:TypeId->Option Bool)(n:Nat)(all:List Oper)(es:List Ext):List Oper->List DS->S->SM Unit
 | o::ops,d::ds,s=>match relD P o d with
  | true=>(stabE P ro n all o d s es).bnd fun _=>stabX P ro n all es ops ds (s.wqs d.ws)
  | false=>stabX P ro n all es ops ds (s.wqs d.ws)
 | _,_,_ => .ret ()
def Stab(P:Program)(ro:TypeId->Option Bool)(n:Nat)(all:List Oper)(o:Oper)(d:DS)(s:S):Prop:=(act P ro n all o).wpR s fun wr rd=>wr=d.ws/\∀l∈rd,isX l=false->l∈d.rd
theorem stab1_wp{ro:TypeId->Option Bool}{n:Nat}{d:DS}{K':Unit->List Ans->Prop}(h:(stab1 P ro n all o d s).wp P sc K'):Stab P ro n all o d s/\∃sc',K' () sc':=by
 obtain ⟨wr,rd,⟨sc1,h1⟩,hdet⟩:=RM.wpR_det (RM.runMR_wp (SM.wp_bnd h))
 simp only at h1
 split at h1
 ·rename_i t lv t' lv' hd
  split at h1
  ·rename_i hc
   obtain ⟨h2,h3⟩:=SM.wp_owe h1
   refine ⟨hdet _ ⟨?_,fun l hl hx=>?_⟩,sc1,h3⟩
   ·have h2':lv=lv':=h2
    rw [hd,hc.1,h2']
   ·have:=hc.2
    simp only [List.all_eq_true,List.mem_filter,Bool.not_eq_true',and_imp] at this
    simpa using this l hl hx
  ·exact h1.elim
 ·exact h1.elim
theorem stabE_wp{ro:TypeId->Option Bool}{n:Nat}{d:DS}:∀ {es:List Ext} {sc:List Ans} {K':Unit->List Ans->Prop},(stabE P ro n all o d s es).wp P sc K'->(∀e∈es,isAbs e=false->Stab P ro n all o d { s with ext:=e })/\∃sc',K' () sc'
 | [],sc,K',h=>⟨fun e he=>by simp at he,sc,SM.wp_ret h⟩
 | e::r,sc,K',h=>by
  simp only [stabE] at h
  split at h
  ·rename_i ha
   obtain ⟨h3,h4⟩:=stabE_wp h
   refine ⟨fun e' he hb=>?_,h4⟩
   rcases List.mem_cons.1 he with rfl | he
   ·rw [ha] at hb; cases hb
   ·exact h3 e' he hb
  ·obtain ⟨h1,sc1,h2⟩:=stab1_wp (SM.wp_bnd h)
   obtain ⟨h3,h4⟩:=stabE_wp h2
   refine ⟨fun e' he hb=>?_,h4⟩
   rcases List.mem_cons.1 he with rfl | he
   ·exact h1
   ·exact h3 e' he hb
theorem stabX_wp{ro:TypeId->Option Bool}{n:Nat}{es:List Ext}:∀ {ops:List Oper} {ds:List DS} {s:S} {sc:List Ans} {K':Unit->List Ans->Prop},(stabX P ro n all es ops ds s).wp P sc K' ->
  (∀i o d,ops[i]?=some o->ds[i]?=some d->relD P o d=true->∀e∈es,isAbs e=false->Stab P ro n all o d { s.wqs ((ds.take i).flatMap (·.ws)) with ext:=e })/\∃sc',K' () sc'
 | [],[],s,sc,K',h=>⟨fun i o d ho=>by simp at ho,sc,SM.wp_ret h⟩
 | [],_::_,s,sc,K',h=>⟨fun i o d ho=>by simp at ho,sc,SM.wp_ret h⟩
 | _::_,[],s,sc,K',h=>⟨fun i o d _ hd=>by simp at hd,sc,SM.wp_ret h⟩
 | o::ops,d::ds,s,sc,K',h=>by
  have key:(∀e∈es,isAbs e=false->relD P o d=true->Stab P ro n all o d { s with ext:=e })/\∃sc1,(stabX P ro n all es ops ds (s.wqs d.ws)).wp P sc1 K':=by
   simp only [stabX] at h
   split at h
   ·obtain ⟨h1,sc1,h2⟩:=stabE_wp (SM.wp_bnd h)
    exact ⟨fun e he hb _=>h1 e he hb,sc1,h2⟩
   ·rename_i hr
    exact ⟨fun e _ _ hc=>absurd hc (by rw [hr]; simp),⟨sc,h⟩⟩
  obtain ⟨k1,sc1,k2⟩:=key
  obtain ⟨h3,h4⟩:=stabX_wp k2
  refine ⟨fun i o' d' ho hd hr e he hb=>?_,h4⟩
  cases i with
  | zero=>
   simp only [List.getElem?_cons_zero,Option.some.injEq] at ho hd
   subst ho hd
   exact k1 e he hb hr
  | succ i=>
   simp only [List.getElem?_cons_succ] at ho hd
   have:=h3 i o' d' ho hd hr e he hb
   simp only [List.take_succ_cons,List.flatMap_cons,wqs_append]
   exact this
theorem PW_chainS{id:Nat}{ops:List Oper}{sts:List DS}{xs:List Ext}{t:S}{ro:TypeId->Option Bool}(hm:P.follows .mixedOrders=true)(hall:dstOK cx.n ops=true)(hch:Chain P cx ops.toArray Q ops sts xs s t)(hst:∀i o d,ops[i]?=some o->sts[i]?=some d->relD P o d=true->∀e∈s.ext::xs,isAbs e=false->Stab P ro cx.n ops o d { s.wqs ((sts.take i).flatMap (·.ws)) with ext:=e })
  (hc:chk ops (relL P ops sts) s.tmps=true) (hq:Q .normal t):PW P cx (.region id ops.toArray true) s Q:=by
 obtain ⟨k1,k2,k3⟩:=hch.at_
 have hcnt:=hch.cnt
 let ef:Nat->Ext:=fun k=>(s.ext::xs).getD (min k xs.length) []
 have hef:∀k,ef k∈s.ext::xs:=fun k=>by
  show (s.ext::xs).getD (min k xs.length) []∈s.ext::xs
  have:min k xs.length<(s.ext::xs).length:=by simp; omega
  rw [List.getD_eq_getElem?_getD,List.getElem?_eq_getElem this]
  exact List.getElem_mem this
 have hle:∀i,(sts.take i).countP (·.eff)<=xs.length:=fun i=>by
  rw [hcnt]
  have:=List.countP_append (p:=fun d:DS=>d.eff) (l₁:=sts.take i) (l₂:=sts.drop i)
  rw [List.take_append_drop] at this
  omega
 have hfe:∀k,k<=xs.length->ef k=(s.ext::xs).getD k []:=fun k hk=>by show (s.ext::xs).getD (min k xs.length) []=_; rw [Nat.min_eq_left hk]
 have hT:∀i,sT s (relL P ops sts) ef i=stA s sts xs i:=fun i=>by
  unfold sT stA
  have h1:=wsel_take sts 0 i
  have h2:=ecnt_take sts 0 i
  simp only [Nat.zero_add] at h1 h2
  rw [relL_wsel,relL_ecnt,h1,h2,hfe _ (hle i)]
 have hk0:∀i,ecnt (fun j=>decide (j<i)) 0 (relL P ops sts)=(sts.take i).countP (·.eff):=fun i=>by
  rw [relL_ecnt]
  have:=ecnt_take sts 0 i
  simpa using this
 refine PW_draw (sts:=relL P ops sts) (e:=ef) hm hc (by rw [relL_len]; exact k1) (by rw [hfe 0 (Nat.zero_le _)]; rfl) ?_ fun i o d' ho hd'=>?_
 ·have h1:=hT sts.length
  have h2:sD s (relL P ops sts) ef (fun _=>true)=sT s (relL P ops sts) ef sts.length:=by
   unfold sD sT
   rw [wsel_congr (D:=fun _=>true) (D':=fun j=>decide (j<sts.length)) (sts:=relL P ops sts) (k:=0) fun j _ hj=>by rw [relL_len] at hj; simp at hj; simp [hj]]
   rw [ecnt_congr (D:=fun _=>true) (D':=fun j=>decide (j<sts.length)) (sts:=relL P ops sts) (k:=0) fun j d' hj _=>by
    have:=(List.getElem?_eq_some_iff.1 hj).1
    rw [relL_len] at this
    simp [this]]
  rw [h2,h1,<-k2]
  exact hq
 ·obtain ⟨d,hd,rfl⟩:=relL_get P ho hd'
  obtain ⟨hnf1,hnf,-⟩:=chk_at hc hd'
  rw [hT,hk0]
  cases hrel:relD P o d with
  | false=>
   have hrx:relx P o d=d:=by unfold relx; rw [hrel]
   rw [hrx] at hnf ⊢
   obtain ⟨e',h1,h2⟩:=k3 i o d ho hd
   intro s' k hag hxk hse hnl
   have:=h1 hnf s' hag (fun hx=>by
    rw [hse,hxk hx,hfe _ (hle i)]; rfl) hnl
   refine this.of (fun p hp=>?_) ?_
   ·cases p <;> first | rfl | cases hp
   ·simp only
    cases hef':d.eff with
    | true=>
     have hkk:=hxk (by simp [DS.xf,hef'])
     have hlt:(sts.take i).countP (·.eff)+1<=xs.length:=by
      have h5:=hle (i+1)
      rw [List.take_add_one,hd] at h5
      simp [hef'] at h5
      exact h5
     rw [hkk,h2 hef',hfe _ (by simpa using hlt)]
     rfl
    | false=>simp only [Bool.false_eq_true,if_false,Nat.add_zero]; exact hse.symm
  | true=>
   have hst':=hst i o d ho hd hrel
   have hrx:relx P o d=⟨d.rd.filter (fun l=>!isX l),d.ws,d.eff⟩:=by unfold relx; rw [hrel]
   have heff:d.eff=false:=by
    simp only [relD,Bool.and_eq_true,Bool.not_eq_true'] at hrel
    exact hrel.1.1.1
   have hcal:callee P o=none:=by
    simp only [relD,Bool.and_eq_true,Option.isNone_iff_eq_none] at hrel
    exact hrel.1.2
   have hgrd:o.guard=none:=by
    simp only [relD,Bool.and_eq_true,Option.isNone_iff_eq_none] at hrel
    exact hrel.2
   rw [hrx] at hnf hnf1 ⊢
   simp only at hnf hnf1
   intro s' k hag _ hse hnl
   cases hab:isAbs (ef k) with
   | true=>exact fun g l a w sm=>(abs_false sm (hse.trans (isAbs_eq hab))).elim
   | false=>
   have hS:=hst' (ef k) (hef k) hab
   have hdst:∀d0,o.dst=some d0->d0<cx.n:=dstOK_mem hall (List.mem_of_getElem? ho)
   have hstep:stepR P ro cx.n ops o [] { s.wqs ((sts.take i).flatMap (·.ws)) with ext:=ef k } fun d1 x _=>d1.ws=d.ws/\d1.eff=false/\x=none/\∀l∈d1.rd,isX l=false->l∈d.rd:=by
    unfold stepR
    rw [hcal]
    refine RM.wpR_mono' hS ?_
    rintro wr rd ⟨rfl,hrd⟩
    have hno:d.ws.any isXW=false:=by
     rw [Bool.eq_false_iff]
     intro hany
     obtain ⟨x,hx,hxw⟩:=List.any_eq_true.1 hany
     have:=List.all_eq_true.1 hnf1 x hx
     cases x <;> first | (simp [isXW] at hxw; done) | (simp [plainW] at this; done)
    rw [iN (by rw [hno]; simp)]
    exact ⟨rfl,rfl,rfl,by simpa using hrd⟩
   obtain ⟨d1,x,s1,⟨hws,he1,hx1,hrd1⟩,-,-,hL⟩:=stepR_sound (Q:=Q) hdst (fun s'' _ g l a w _=>by simp [Region.wanted,hgrd]) hstep
   have:=hL (by rw [hws]; exact hnf) s' (fun l hl=>by
    by_cases hx:isX l=true
    ·cases l with
     | t _=>cases hx
     | b _=>cases hx
     | x n=>simp only [S.get]; rw [hse]
    ·have hx':isX l=false:=by simpa using hx
     have h6:=hag l (List.mem_filter.2 ⟨hrd1 l hl hx',by simp [hx']⟩)
     rw [h6]
     unfold stA
     cases l <;> first | rfl | exact absurd rfl hx) (fun hxf=>hse) (by rw [hws]; exact hnl)
   refine this.of (fun p hp=>?_) ?_
   ·rw [hws]
    cases p <;> first | rfl | cases hp
   ·simp only [heff,he1,Bool.false_eq_true,if_false,Nat.add_zero]
    exact hse.symm
def evRX(P:Program)(md:Md)(n:Nat)(ops:List Oper)(draw:Bool)(s:S):SM (PExit × S):=match draw with
 | false=>evLX P md n ops ops 0 s
 | true=>(evDX P md.ro n ops (ancs ops []) ops 0 none s).bnd fun x=>match chk ops x.1 s.tmps with
  | true=>match x.2.2.1 with
   | none => .ret (.normal,x.2.1)
   | some (_,p,e) => .ret (.panic p,⟨[],[],e⟩)
  | false=>match chk ops (relL P ops x.1) s.tmps with
   | true=>(stabX P md.ro n ops (s.ext::x.2.2.2) ops x.1 s).bnd fun _=>match x.2.2.1 with
    | none => .ret (.normal,x.2.1)
    | some (_,p,e) => .ret (.panic p,⟨[],[],e⟩)
   | false => .bad 25
theorem evRX_sound{id:Nat}{ops:Array Oper}{draw:Bool}{K':PExit × S->List Ans->Prop}(hm:P.follows .mixedOrders=true)(hall:dstOK cx.n ops.toList=true)(h:(evRX P md cx.n ops.toList draw s).wp P sc K')(hk:∀pe s' sc',K' (pe,s') sc'->Q pe s'):PW P cx (.region id ops draw) s Q:=by
 obtain ⟨ops⟩:=ops
 cases draw with
 | false=>exact fun g l0 a w hs=>wp_region_lit (evLX_sound hall hk (fun _ h=>h) h g l0 a w hs)
 | true=>
  simp only [evRX] at h
  obtain ⟨sts,xs,t,pk,sc',h1,-,h3,h4⟩:=evDX_sound (Q:=Q) hall (fun _ h=>h) (fun h=>by simp at h) (SM.wp_bnd h)
  simp only at h1
  split at h1
  rotate_left
  ·split at h1
   ·rename_i hc
    refine PW_of_Qx ?_
    obtain ⟨hst,sc2,h5⟩:=stabX_wp (SM.wp_bnd h1)
    cases pk with
    | none=>exact PW_chainS hm hall (h4 fun i p e he=>by cases he) hst hc (.inr (hk _ _ _ (SM.wp_ret h5)))
    | some v=>
     obtain ⟨i,p,e⟩:=v
     refine PW_chainS hm hall (h4 fun i p e he=>?_) hst hc (.inl (h3 rfl))
     injection he with he
     injection he with h5' h6
     injection h6 with h6 h7
     subst h6 h7
     exact hk _ _ _ (SM.wp_ret h5)
   ·exact h1.elim
  ·rename_i hc
   refine PW_of_Qx ?_
   cases pk with
   | none=>
    refine PW_chain hm (h4 fun i p e he=>?_) hc (.inr (hk _ _ _ (SM.wp_ret h1)))
    cases he
   | some v=>
    obtain ⟨i,p,e⟩:=v
    refine PW_chain hm (h4 fun i p e he=>?_) hc (.inl (h3 rfl))
    injection he with he
    injection he with h5 h6
    injection h6 with h6 h7
    subst h6 h7
    exact hk _ _ _ (SM.wp_ret h1)
end
def loopX(body:S->SM (PExit × S)):Nat->S->SM (PExit × S)
 | 0,_ => .bad 26
 | n+1,s=>(body s).bnd fun r=>match r with
  | (.normal,s')=>loopX body n s'
  | r => .ret r
def restK{β:Type}:List (Nat × β)->List (Nat × β)->List (Nat × β)
 | [],_=>[]
 | (k,_)::r,s=>match lk s k with
  | some u=>(k,u)::restK r s
  | none=>restK r s
def restS(t s:S):S:=⟨restK t.tmps s.tmps,restK t.boxes s.boxes,s.ext⟩
theorem restK_lk{β:Type}{s:List (Nat × β)}{k:Nat}{u:β}:∀ {t:List (Nat × β)},lk (restK t s) k=some u->lk s k=some u
 | [],h=>by cases h
 | (k',v)::r,h=>by
  rw [restK] at h
  split at h
  ·rename_i u' hu
   rw [lk] at h
   split at h
   ·rename_i e; rw [<-e,hu]; exact h
   ·exact restK_lk h
  ·exact restK_lk h
theorem LeT.of_rest{s s':List (Nat × LV)}(hs:∀k u,lk s' k=some u->lk s k=some u):∀ {t:List (Nat × LV)},LeT t s'->LeT t s
 | [],_=>trivial
 | (k,v)::r,h=>by
  refine ⟨?_,LeT.of_rest hs h.2⟩
  have h1:=h.1
  split at h1
  ·rename_i u hu; rw [hs k u hu]; exact h1
  ·exact h1.elim
theorem LeB.of_rest{s s':List (Nat × List LV)}(hs:∀k u,lk s' k=some u->lk s k=some u):∀ {t:List (Nat × List LV)},LeB t s'->LeB t s
 | [],_=>trivial
 | (k,v)::r,h=>by
  refine ⟨?_,LeB.of_rest hs h.2⟩
  have h1:=h.1
  split at h1
  ·rename_i u hu; rw [hs k u hu]; exact h1
  ·exact h1.elim
theorem LeX.rest{t s:S}(h:LeX t (restS t s)):LeX t s:=⟨LeT.of_rest (fun _ _=>restK_lk) h.1,LeB.of_rest (fun _ _=>restK_lk) h.2.1,h.2.2⟩
def askL(n:Nat)(c:Code)(body:S->SM (PExit × S))(fl:Nat)(s:S):SM (PExit × S)
 | .loop s0 pe s1::sc => .ok (pe,s1) sc [.le s0 (restS s0 s),.loop n c s0 pe s1]
 | .unroll::sc=>loopX body fl s sc
 | _ => .no (.loop n c s)
def askG(n:Nat)(c:Code)(s:S):SM (PExit × S)
 | .loop s0 pe s1::sc => .ok (pe,s1) sc [.le s0 (restS s0 s),.frag n c s0 pe s1]
 | _ => .no (.loop n c s)
def headR:Code->Option Nat
 | .region id _ _=>some id
 | .seq a _=>headR a
 | _=>none
def tailQ(md:Md)(c:Code):Bool:=match headR c with
 | some id=>md.row (2000000+id)
 | none=>false
def evCX(P:Program)(md:Md)(n fl:Nat):Code->S->SM (PExit × S)
 | .skip,s => .ret (.normal,s)
 | .region id ops draw,s=>match md.row (1000000+id) with
  | true=>askG n (.region id ops draw) s
  | false=>evRX P md n ops.toList draw s
 | .seq a b,s=>match tailQ md a with
  | true=>askG n (.seq a b) s
  | false=>(evCX P md n fl a s).bnd fun r=>match r with
   | (.normal,s')=>evCX P md n fl b s'
   | r => .ret r
 | .cond (.tmp t) x y,s=>match lk s.tmps t with
  | some (.v (.bool b))=>(askB b).bnd fun v=>match v with
   | true=>evCX P md n fl x s
   | false=>evCX P md n fl y s
  | _ => .bad 27
 | .cond (.const v) x y,s=>match v with
  | .bool true=>evCX P md n fl x s
  | .bool false=>evCX P md n fl y s
  | _ => .bad 29
 | .block id c,s=>(evCX P md n fl c s).bnd fun r=>match r with
  | (.exit id',s')=>if id'=id then .ret (.normal,s') else .ret (.exit id',s')
  | r => .ret r
 | .loop c,s=>askL n c (evCX P md n fl c) fl s
 | .exit id,s => .ret (.exit id,s)
 | .ret,s => .ret (.ret,s)
 | _,_ => .bad 28
section
variable {P:Program} {cx:Cx} {md:Md} {fl:Nat}
theorem loopX_sound{c:Code}{body:S->SM (PExit × S)}{Q:PExit->S->Prop}{K':PExit × S->List Ans->Prop}(hbody:∀ {s:S} {sc:List Ans} {K':PExit × S->List Ans->Prop} {Q:PExit->S->Prop},(body s).wp P sc K'->(∀pe s' sc',K' (pe,s') sc'->Q pe s')->PW P cx c s Q)
  {n:Nat} {s:S} {sc:List Ans} (h:(loopX body n s).wp P sc K') (hk:∀pe s' sc',K' (pe,s') sc'->Q pe s'):PW P cx (.loop c) s Q:=by
 refine PW_loopE (α:={ x:Nat × S × List Ans // (loopX body x.1 x.2.1).wp P x.2.2 K' }) (fun x=>x.1.2.1) (fun x=>x.1.1) ⟨(n,s,sc),h⟩ rfl ?_
 rintro ⟨⟨n,s,sc⟩,h⟩
 cases n with
 | zero=>exact h.elim
 | succ n=>
  refine hbody (SM.wp_bnd h) fun pe s' sc' h1=>?_
  cases pe with
  | normal=>exact ⟨⟨(n,s',sc'),h1⟩,Nat.lt_succ_self _,rfl⟩
  | exit i=>exact hk _ _ _ (SM.wp_ret h1)
  | ret=>exact hk _ _ _ (SM.wp_ret h1)
  | panic p=>exact hk _ _ _ (SM.wp_ret h1)
theorem evCX_sound(hm:P.follows .mixedOrders=true):∀ (c:Code) {s:S} {sc:List Ans} {K':PExit × S->List Ans->Prop} {Q:PExit->S->Prop},codeOK cx.n c=true->(evCX P md cx.n fl c s).wp P sc K'->(∀pe s' sc',K' (pe,s') sc'->Q pe s')->PW P cx c s Q
 | .skip,s,sc,K',Q,_,h,hk=>PW_skip (hk _ _ _ (SM.wp_ret h))
 | .region id ops draw,s,sc,K',Q,hc,h,hk=>by
  simp only [evCX] at h
  split at h
  ·unfold SM.wp askG at h
   split at h
   ·obtain ⟨⟨h1,h2,-⟩,h3⟩:=h
    refine PW.leX (LeX.rest h1) ((h2 cx rfl).mono ?_)
    rintro _ _ ⟨rfl,rfl⟩
    exact hk _ _ _ h3
   ·exact h.elim
  ·exact evRX_sound hm hc h hk
 | .seq a b,s,sc,K',Q,hc,h,hk=>by
  simp only [codeOK,Bool.and_eq_true] at hc
  simp only [evCX] at h
  split at h
  ·unfold SM.wp askG at h
   split at h
   ·obtain ⟨⟨h1,h2,-⟩,h3⟩:=h
    refine PW.leX (LeX.rest h1) ((h2 cx rfl).mono ?_)
    rintro _ _ ⟨rfl,rfl⟩
    exact hk _ _ _ h3
   ·exact h.elim
  ·refine PW_seq (evCX_sound hm a hc.1 (SM.wp_bnd h) fun pe s' sc' h1=>?_)
   cases pe with
   | normal=>exact evCX_sound hm b hc.2 h1 hk
   | exit i=>exact hk _ _ _ (SM.wp_ret h1)
   | ret=>exact hk _ _ _ (SM.wp_ret h1)
   | panic p=>exact hk _ _ _ (SM.wp_ret h1)
 | .cond x a b,s,sc,K',Q,hc,h,hk=>by
  simp only [codeOK,Bool.and_eq_true] at hc
  cases x with
  | tmp t=>
   simp only [evCX] at h
   split at h
   ·rename_i v ht
    obtain ⟨sc',h1⟩:=askB_wp (SM.wp_bnd h)
    refine PW_cond ht (fun e=>?_) (fun e=>?_)
    ·subst e; exact evCX_sound hm a hc.1 h1 hk
    ·subst e; exact evCX_sound hm b hc.2 h1 hk
   ·exact h.elim
  | const v=>
   simp only [evCX] at h
   split at h
   ·exact fun g l a' w hs=>wp_cond_split (show a'.eval (.const (.bool true)) = .bool true from rfl) (fun _=>evCX_sound hm a hc.1 h hk g l a' w hs) (fun e=>Bool.noConfusion e)
   ·exact fun g l a' w hs=>wp_cond_split (show a'.eval (.const (.bool false)) = .bool false from rfl) (fun e=>Bool.noConfusion e) (fun _=>evCX_sound hm b hc.2 h hk g l a' w hs)
   ·exact h.elim
  | global _=>simp only [evCX] at h; exact h.elim
  | func _=>simp only [evCX] at h; exact h.elim
 | .block id c,s,sc,K',Q,hc,h,hk=>by
  simp only [codeOK] at hc
  simp only [evCX] at h
  refine PW_block (evCX_sound hm c hc (SM.wp_bnd h) fun pe s' sc' h1=>?_)
  cases pe with
  | normal=>exact hk _ _ _ (SM.wp_ret h1)
  | exit i=>
   simp only [blockQ]
   simp only at h1
   split at h1
   ·rename_i e; rw [iP e]; exact hk _ _ _ (SM.wp_ret h1)
   ·rename_i e; rw [iN e]; exact hk _ _ _ (SM.wp_ret h1)
  | ret=>exact hk _ _ _ (SM.wp_ret h1)
  | panic p=>exact hk _ _ _ (SM.wp_ret h1)
 | .loop c,s,sc,K',Q,hc,h,hk=>by
  simp only [codeOK] at hc
  simp only [evCX] at h
  unfold SM.wp askL at h
  split at h
  ·obtain ⟨⟨h1,h2,-⟩,h3⟩:=h
   refine PW.leX (LeX.rest h1) ((h2 cx rfl).mono ?_)
   rintro _ _ ⟨rfl,rfl⟩
   exact hk _ _ _ h3
  ·exact loopX_sound (fun h hk=>evCX_sound hm c hc h hk) h hk
  ·exact h.elim
 | .exit id,s,sc,K',Q,_,h,hk=>PW_exit (hk _ _ _ (SM.wp_ret h))
 | .ret,s,sc,K',Q,_,h,hk=>PW_ret (hk _ _ _ (SM.wp_ret h))
 | .rangeFunc _ _ _ _,_,_,_,_,_,h,_=>by simp only [evCX] at h; exact h.elim
 | .scope _,_,_,_,_,_,h,_=>by simp only [evCX] at h; exact h.elim
 | .label _,_,_,_,_,_,h,_=>by simp only [evCX] at h; exact h.elim
 | .goto _,_,_,_,_,_,h,_=>by simp only [evCX] at h; exact h.elim
 | .refuse _,_,_,_,_,_,h,_=>by simp only [evCX] at h; exact h.elim
theorem PW_run(md:Md)(n fl:Nat)(sc:List Ans){c:Code}{s s':S}{pe:PExit}{sc':List Ans}{l:List Ob}{Q:PExit->S->Prop}(hm:P.follows .mixedOrders=true)(hn:cx.n=n)(hc:codeOK n c=true)(h:evCX P md n fl c s sc = .ok (pe,s') sc' l)(hl:Obs P l)(hq:Q pe s'):PW P cx c s Q:=by
 subst hn
 refine evCX_sound (K':=fun r _=>r=(pe,s')) hm c hc (show SM.wp P _ sc _ from by unfold SM.wp; rw [h]; exact ⟨hl,rfl⟩) ?_
 rintro _ _ _ ⟨rfl,rfl⟩
 exact hq
theorem PW.postLe{c:Code}{s:S}{Q:PExit->S->Prop}(h:PW P cx c s fun pe s'=>∃t,LeX t s'/\Q pe t):PW P cx c s Q:=fun g l a w hs=>by
 refine wp_mono (h g l a w hs) ?_
 rintro e a' w' ⟨pe,s',g',l',⟨t,h1,h2⟩,er,sm⟩
 exact ⟨pe,t,g',l',h2,er,sm.leX h1⟩
def keepL{α:Type}(l:List (Nat × α)):List Nat->List (Nat × α)
 | []=>[]
 | k::r=>match lk l k with
  | some v=>(k,v)::keepL l r
  | none=>keepL l r
def keepS(ks bs:List Nat)(s:S):S:=⟨keepL s.tmps ks,keepL s.boxes bs,s.ext⟩
theorem keepL_leT(l:List (Nat × LV)):∀ks,LeT (keepL l ks) l
 | []=>trivial
 | k::r=>by
  simp only [keepL]
  split
  ·rename_i v hv
   refine ⟨?_,keepL_leT l r⟩
   rw [hv]
   exact WL.refl v
  ·exact keepL_leT l r
theorem keepL_leB(l:List (Nat × List LV)):∀ks,LeB (keepL l ks) l
 | []=>trivial
 | k::r=>by
  simp only [keepL]
  split
  ·rename_i v hv
   refine ⟨?_,keepL_leB l r⟩
   rw [hv]
   exact WLs.refl v
  ·exact keepL_leB l r
def SR.keep(ks bs:List Nat):SR (PExit × S)->SR (PExit × S)
 | .ok (pe,s) sc l => .ok (pe,keepS ks bs s) sc l
 | .no n => .no n
theorem PW_runK(md:Md)(n fl:Nat)(sc:List Ans)(ks bs:List Nat){c:Code}{s s':S}{pe:PExit}{sc':List Ans}{l:List Ob}{Q:PExit->S->Prop}(hm:P.follows .mixedOrders=true)(hn:cx.n=n)(hc:codeOK n c=true)(h:(evCX P md n fl c s sc).keep ks bs = .ok (pe,s') sc' l)(hl:Obs P l)(hq:Q pe s'):PW P cx c s Q:=by
 cases he:evCX P md n fl c s sc with
 | no _=>rw [he] at h; cases h
 | ok a sc1 l1=>
  obtain ⟨pe1,s1⟩:=a
  rw [he] at h
  simp only [SR.keep,SR.ok.injEq,Prod.mk.injEq] at h
  obtain ⟨⟨rfl,rfl⟩,rfl,rfl⟩:=h
  exact PW.postLe (PW_run md n fl sc hm hn hc he hl ⟨keepS ks bs s1,⟨keepL_leT _ _,keepL_leB _ _,rfl⟩,hq⟩)
theorem Ob.loop_of{α:Type}{n:Nat}{c:Code}(I:α->S)(μ:α->Nat)(res:α->PExit × S)
  (round:∀x (cx:Cx),cx.n=n->PW P cx c (I x) fun pe s'=>(pe = .normal/\∃y,μ y<μ x/\LeX (I y) s'/\res y=res x)∨(pe ≠ .normal/\pe=(res x).1/\LeX (res x).2 s')) (x:α):(Ob.loop n c (I x) (res x).1 (res x).2).ok P:=by
 intro cx hcx
 refine PW.postLe ?_
 refine PW_loopE (α:={ y:α × S // res y.1=res x/\(y.2=I y.1∨LeX (I y.1) y.2) }) (fun y=>y.1.2) (fun y=>μ y.1.1) ⟨(x,I x),rfl,.inl rfl⟩ rfl ?_
 ·rintro ⟨⟨y,s⟩,hy,hle⟩
  have go:∀ {Q:PExit->S->Prop},PW P cx c (I y) Q->PW P cx c s Q:=fun hp=>by
   rcases hle with h0 | hle
   ·have h0':s=I y:=h0
    rw [h0']; exact hp
   ·exact PW.leX hle hp
  refine go ((round y cx hcx).mono ?_)
  rintro pe s' (⟨rfl,z,h1,h2,h3⟩ | ⟨h1,h2,h3⟩)
  ·exact ⟨⟨(z,s'),h3.trans hy,.inr h2⟩,h1,rfl⟩
  ·rw [hy] at h2 h3
   cases pe with
   | normal=>exact absurd rfl h1
   | _=>exact ⟨_,h3,h2,rfl⟩
end
def loopsC:Code->List Code
 | .seq a b=>loopsC a++loopsC b
 | .cond _ a b=>loopsC a++loopsC b
 | .block _ c=>loopsC c
 | .loop c=>c::loopsC c
 | _=>[]
def regsC(id:Nat):Code->Option Code
 | .region i ops d=>if i=id then some (.region i ops d) else none
 | .seq a b=>match regsC id a with
  | some c=>some c
  | none=>regsC id b
 | .cond _ a b=>match regsC id a with
  | some c=>some c
  | none=>regsC id b
 | .block _ c=>regsC id c
 | .loop c=>regsC id c
 | _=>none
def regF(fn:Func)(id:Nat):Code:=match fn.body with
 | some c=>(regsC id c).getD .skip
 | none => .skip
def loopF(fn:Func)(k:Nat):Code:=match fn.body with
 | some c=>(loopsC c).getD k .skip
 | none => .skip
def endX(P:Program)(res:List ResultVar)(pe:PExit)(s:S):SM (CRes × Ext):=match endV P res pe s with
 | some x => .ret x
 | none => .bad 30
def resX(P:Program)(res:List ResultVar)(s:S)(e:Ext):SM (CRes × Ext):=match resP P { s with ext:=e } res with
 | some q => .ret (.ret q,e)
 | none => .bad 31
def preD:Code->Option (List Code × Oper × Oper × Nat × Code)
 | .seq (.region i ⟨[mk,df]⟩ false) y=>match df.op with
  | .defer ⟨.value (.tmp t),⟨[]⟩,_⟩=>some ([],mk,df,t,y)
  | _=>(preD y).map fun x=>(.region i ⟨[mk,df]⟩ false::x.1,x.2)
 | .seq a b=>(preD b).map fun x=>(a::x.1,x.2)
 | _=>none
theorem preD_inv:∀ {c:Code} {xs:List Code} {mk df:Oper} {t:Nat} {y:Code},preD c=some (xs,mk,df,t,y)->∃id ts,c=seqs xs (.seq (.region id #[mk,df] false) y)/\df.op = .defer ⟨.value (.tmp t),#[],ts⟩:=by
 intro c
 induction c using preD.induct with
 | case1 i mk df y t ts hop=>
  intro xs mk' df' t' y' h
  simp only [preD,hop,Option.some.injEq,Prod.mk.injEq] at h
  obtain ⟨rfl,rfl,rfl,rfl,rfl⟩:=h
  exact ⟨i,ts,rfl,hop⟩
 | case2 i mk df y hne ih=>
  intro xs mk' df' t' y' h
  unfold preD at h
  split at h
  ·rename_i t ts hop
   exact absurd hop (hne t ts)
  ·simp only [Option.map_eq_some_iff] at h
   obtain ⟨⟨xs1,mk1,df1,t1,y1⟩,h1,h2⟩:=h
   simp only [Prod.mk.injEq] at h2
   obtain ⟨rfl,rfl,rfl,rfl,rfl⟩:=h2
   obtain ⟨id,ts,h3,h4⟩:=ih h1
   exact ⟨id,ts,by rw [h3]; rfl,h4⟩
 | case3 a b hne ih=>
  intro xs mk' df' t' y' h
  rw [preD] at h
  ·simp only [Option.map_eq_some_iff] at h
   obtain ⟨⟨xs1,mk1,df1,t1,y1⟩,h1,h2⟩:=h
   simp only [Prod.mk.injEq] at h2
   obtain ⟨rfl,rfl,rfl,rfl,rfl⟩:=h2
   obtain ⟨id,ts,h3,h4⟩:=ih h1
   exact ⟨id,ts,by rw [h3]; rfl,h4⟩
  ·exact hne
 | case4 c h1 h2=>
  intro xs mk' df' t' y' h
  unfold preD at h
  split at h
  ·exact absurd rfl (h1 _ _ _ _)
  ·exact absurd rfl (h2 _ _)
  ·cases h
def evPX(P:Program)(md:Md)(n fl:Nat):List Code->S->SM S
 | [],s => .ret s
 | c::r,s=>(evCX P md n fl c s).bnd fun x=>match x with
  | (.normal,s')=>evPX P md n fl r s'
  | _ => .bad 37
theorem evPX_sound{P:Program}{cx:Cx}{md:Md}{fl:Nat}(hm:P.follows .mixedOrders=true){K:S->Prop}:∀ {xs:List Code} {s:S} {sc:List Ans} {K':S->List Ans->Prop},(∀c∈xs,codeOK cx.n c=true)->(evPX P md cx.n fl xs s).wp P sc K'->(∀s' sc',K' s' sc'->K s')->PWs P cx xs s K
 | [],s,sc,K',_,h,hk=>hk _ _ (SM.wp_ret h)
 | c::r,s,sc,K',hc,h,hk=>by
  refine evCX_sound hm c (hc c List.mem_cons_self) (SM.wp_bnd h) fun pe s' sc' h1=>?_
  cases pe with
  | normal=>exact ⟨rfl,evPX_sound hm (fun c hc'=>hc c (List.mem_cons_of_mem _ hc')) h1 hk⟩
  | exit i=>exact h1.elim
  | ret=>exact h1.elim
  | panic p=>exact h1.elim
theorem codeOK_seqs{n:Nat}:∀ {xs:List Code} {c:Code},codeOK n (seqs xs c)=true->(∀x∈xs,codeOK n x=true)/\codeOK n c=true
 | [],c,h=>⟨fun x hx=>by simp at hx,h⟩
 | x::r,c,h=>by
  simp only [seqs,codeOK,Bool.and_eq_true] at h
  obtain ⟨h1,h2⟩:=codeOK_seqs h.2
  refine ⟨fun y hy=>?_,h2⟩
  rcases List.mem_cons.1 hy with rfl | hy
  ·exact h.1
  ·exact h1 y hy
def evFX(P:Program)(md:Md)(fl:Nat)(fn:Func)(args:List PV)(e:Ext):SM (CRes × Ext):=match fn.body with
 | none => .bad 32
 | some c=>if args.length<=fn.ntmps then (match preD c with
  | none=>(evCX P md fn.ntmps fl c (enterS args e)).bnd fun r=>endX P fn.results.toList r.1 r.2
  | some (r0,mk,df,t,y)=>if mk.guard.isNone&&df.guard.isNone&&df.dst.isNone then ((evPX P md fn.ntmps fl r0 (enterS args e)).bnd fun s=>((act P md.ro fn.ntmps [mk,df] mk).runM s).bnd fun wr=>match lk (s.wrs wr).tmps t with
    | some (.v (.fn (.func fid) first cap))=>if isFn P fid=true then (evCX P md fn.ntmps fl y (s.wrs wr)).bnd fun r2=>match r2 with
     | (.panic p,s2)=>(askD fid (first++cap) s2.ext (.pan p)).bnd fun d=>match d with
      | (.rcv,e')=>resX P fn.results.toList s2 e'
      | _ => .bad 33
     | (.exit _,_) => .bad 34
     | (_,s2)=>(askD fid (first++cap) s2.ext .ret).bnd fun d=>match d with
      | (.ret,e')=>resX P fn.results.toList s2 e'
      | _ => .bad 35 else .bad 41
    | _ => .bad 36) else .bad 38) else .bad 39
section
variable {P:Program} {md:Md} {fl:Nat} {f:FuncId} {fn:Func} {args:List PV} {e:Ext}
theorem evFX_sound{sc:List Ans}{R:CRes->Ext->Prop}(hm:P.follows .mixedOrders=true)(hf:P.funcs[f]?=some fn)(hok:fnOK fn=true)(h:(evFX P md fl fn args e).wp P sc fun r _=>R r.1 r.2):CallC P f args e R:=by
 unfold evFX at h
 unfold fnOK at hok
 split at h
 ·exact h.elim
 ·rename_i c hb
  rw [hb] at hok
  simp only at hok
  split at h
  ·rename_i hn
   split at h
   ·refine CallC.enter hf hb hn fun cx hcx hds=>?_
    rw [<-hcx] at hok h
    refine evCX_sound hm c hok (SM.wp_bnd h) fun pe s' sc' h1=>?_
    unfold endX at h1
    split at h1
    ·rename_i x hx
     have:=endV_sound (r:=x.1) (e:=x.2) hx
     have h2:=SM.wp_ret h1
     cases pe with
     | panic p=>obtain ⟨h3,h4⟩:=this; show R _ _; rw [h3,h4]; exact h2
     | exit i=>exact this
     | normal=>obtain ⟨q,h3,h4,h5⟩:=this; refine ⟨q,h3,?_⟩; rw [h4,h5]; exact h2
     | ret=>
      rcases this with ⟨q,h3,h4,h5⟩ | ⟨t,e0,z,es,h3,h4,h5,h6⟩
      ·refine .inl ⟨q,h3,?_⟩; rw [h4,h5]; exact h2
      ·refine .inr ⟨t,e0,z,es,h3,h4,?_⟩; rw [h5,h6]; exact h2
    ·exact h1.elim
   ·rename_i r0 mk df t y hsh
    obtain ⟨id,ts,rfl,hdf⟩:=preD_inv hsh
    obtain ⟨hokp,hokr⟩:=codeOK_seqs hok
    simp only [codeOK,Bool.and_eq_true] at hokr
    split at h
    ·rename_i hg
     simp only [Bool.and_eq_true,Option.isNone_iff_eq_none] at hg
     refine CallC.enterDs md.ro hf hb hn hdf hg.1.1 hg.1.2 hg.2 fun cx hcx hds=>?_
     have h0:=SM.wp_bnd h
     rw [<-hcx] at h0 hokp
     refine evPX_sound hm hokp h0 fun s sc1 h1=>?_
     have h1':=h1
     try rw [hcx] at h1'
     refine RM.wp_mono ?_ (RM.runM_wp (SM.wp_bnd h1'))
     rintro wr ⟨sc2,h2⟩
     ·skip
      split at h2
      ·rename_i fid first cap hlk
       split at h2
       ·rename_i hfid
        refine ⟨fid,first,cap,hlk,hfid,fun cx' hcx'=>?_⟩
        have hok2:=hokr.2
        have h3:=SM.wp_bnd h2
        rw [<-hcx'] at hok2 h3
        refine evCX_sound hm y hok2 h3 fun pe s2 sc3 h4=>?_
        have hres:∀ {s2:S} {e1:Ext} {sc:List Ans},(resX P fn.results.toList s2 e1).wp P sc (fun r _=>R r.1 r.2)->∃q,resP P { s2 with ext:=e1 } fn.results.toList=some q/\R (.ret q) e1:=by
         intro s2 e1 sc h
         unfold resX at h
         split at h
         ·rename_i q hq; exact ⟨q,hq,SM.wp_ret h⟩
         ·exact h.elim
        have fin:∀ {m m':PM} {e1:Ext},CallCD P fid (first++cap) s2.ext m (fun m1 e1'=>m1=m'/\e1'=e1)->(∃q,resP P { s2 with ext:=e1 } fn.results.toList=some q/\R (.ret q) e1)->CallCD P fid (first++cap) s2.ext m fun m1 e1'=>m1=m'/\∃q,resP P { s2 with ext:=e1' } fn.results.toList=some q/\R (.ret q) e1':=by
         intro m m' e1 k2 hq vs g l w u ha he hu
         refine (k2 vs g l w u ha he hu).mono ?_
         rintro en u' w' ⟨v,m2,e2,g',l',k3,⟨k4,k5⟩,k6⟩
         exact ⟨v,m2,e2,g',l',k3,⟨k4,by rw [k5]; exact hq⟩,k6⟩
        cases pe with
        | panic p=>
         obtain ⟨m',e1,sc4,h5,-,h6⟩:=askD_wp (SM.wp_bnd h4)
         split at h5
         ·rename_i e2 heq
          injection heq with e3 e4
          subst e3 e4
          exact fin h6 (hres h5)
         ·exact h5.elim
        | exit i=>exact h4.elim
        | normal=>
         obtain ⟨m',e1,sc4,h5,-,h6⟩:=askD_wp (SM.wp_bnd h4)
         split at h5
         ·rename_i e2 heq
          injection heq with e3 e4
          subst e3 e4
          exact fin h6 (hres h5)
         ·exact h5.elim
        | ret=>
         obtain ⟨m',e1,sc4,h5,-,h6⟩:=askD_wp (SM.wp_bnd h4)
         split at h5
         ·rename_i e2 heq
          injection heq with e3 e4
          subst e3 e4
          exact fin h6 (hres h5)
         ·exact h5.elim
       ·exact h2.elim
      ·exact h2.elim
    ·exact h.elim
  ·exact h.elim
theorem Ob.pur_of(md:Md)(fl:Nat)(sc:Ext->List Ans){r:CRes}{sc':Ext->List Ans}{l:Ext->List Ob}(hm:P.follows .mixedOrders=true)(hf:P.funcs[f]?=some fn)(hok:(isFn P f&&fnOK fn)=true)(h:∀e,evFX P md fl fn args e (sc e) = .ok (r,e) (sc' e) (l e))(hl:∀e,Obs P (l e)):(Ob.pur f args r).ok P:=by
 simp only [Bool.and_eq_true] at hok
 refine ⟨hok.1,fun e=>evFX_sound hm hf hok.2 (sc:=sc e) (md:=md) (fl:=fl) ?_⟩
 unfold SM.wp
 rw [h e]
 exact ⟨hl e,rfl,rfl⟩
theorem Ob.eff_of(md:Md)(fl:Nat)(sc:List Ans){r:CRes}{e':Ext}{sc':List Ans}{l:List Ob}(hm:P.follows .mixedOrders=true)(hf:P.funcs[f]?=some fn)(hok:(isFn P f&&fnOK fn)=true)(h:evFX P md fl fn args e sc = .ok (r,e') sc' l)(hl:Obs P l):(Ob.eff f args e r e').ok P:=by
 simp only [Bool.and_eq_true] at hok
 refine ⟨hok.1,evFX_sound hm hf hok.2 (sc:=sc) (md:=md) (fl:=fl) ?_⟩
 unfold SM.wp
 rw [h]
 exact ⟨hl,rfl,rfl⟩
end
theorem bnT{x:Bool}(h:x=false):(!x)=true:=by rw [h]; rfl
theorem bnF{x:Bool}(h:x=true):(!x)=false:=by rw [h]; rfl
theorem dT{p:Prop} [Decidable p] (h:p):decide p=true:=decide_eq_true h
theorem dF{p:Prop} [Decidable p] (h:¬p):decide p=false:=decide_eq_false h
theorem wrap64_eq{x:Int}(h1 : -9223372036854775808<=x)(h2:x<=9223372036854775807):IntKind.i64.wrap x=x:=by
 simp only [IntKind.wrap,IntKind.bits,IntKind.signed]
 simp
 omega
theorem wrap64{x:Int}(h1 : -9223372036854775808<=x)(h2:x<=9223372036854775807):LV.v (.int .i64 (IntKind.i64.wrap x))=LV.v (.int .i64 x):=by rw [wrap64_eq h1 h2]
theorem bytes_eq{a b:ByteArray}(h:a.toList=b.toList):a=b:=by
 rw [ByteArray.toList_eq,ByteArray.toList_eq] at h
 cases a; cases b
 congr
 exact Array.toList_inj.1 h
theorem bsT{a b:ByteArray}(h:a=b):(a.toList==b.toList)=true:=by rw [h]; simp
theorem bsF{a b:ByteArray}(h:¬a=b):(a.toList==b.toList)=false:=by
 simp only [beq_eq_false_iff_ne,ne_eq]
 exact fun e=>h (bytes_eq e)
theorem CallC.forget{P:Program}{f:FuncId}{args:List PV}{res:CRes}{e1:Ext}(ha:noXs args=true)(hr:res.noX=true)(h:CallC P f args [] fun r e=>r=res/\e=e1)(e:Ext):CallC P f args e fun r e'=>r=res/\e'=e:=by
 intro vs g l w hargs hent
 let g2:Gh:=⟨g.M,fun _=>none,fun _ _=>none⟩
 let l2:LG:=⟨fun _=>none,fun _=>none,fun _=>none⟩
 have h1:RepAll g2 w args vs:=⟨hargs.1,fun j hj hj'=>Rep.names (g:=g) rfl (noXs_mem ha j hj) (hargs.2 j hj hj')⟩
 have h2:Ent [] g2 l2 w:={ ex:=fun x cs hx=>(by simp [lk] at hx),olt:=fun b o ho=>(by cases ho),uo:=fun p b hb=>(by cases hb),fresh:=⟨hent.fresh.1,fun _ _=>rfl,fun _ _ _=>rfl⟩,xlt:=fun n b hb=>(by cases hb),only:=fun b o ho=>(by cases ho),glb:=hent.glb.names rfl }
 refine (h vs g2 l2 w h1 h2).mono ?_
 rintro en w' ⟨r,e2,g',l',⟨rfl,rfl⟩,hres,hent',hmono,hsz,hfr,hown,os,tape,output⟩
 have hl':∀b o,l'.O b=some o->w.heap.size<=b:=fun b o ho=>by
  rcases hown b o ho with h | h
  ·exact h
  ·cases h
 let g3:Gh:=⟨g'.M,g.X,g.Y⟩
 have hkeep:∀b,b<w.heap.size->w'.heap[b]?=w.heap[b]?/\g'.M b=g.M b:=fun b hb=>hfr b hb rfl
 have hm3:Mono g w g3 w':=⟨fun n b hb=>hb,fun b o v hc hf=>by
   obtain ⟨k1,k2⟩:=hmono.cell b o v hc (fun k hk=>hf k hk)
   exact ⟨k1,fun k hk=>k2 k hk⟩,fun b cur t hb=>hmono.len b cur t hb,fun _ _ _ h=>h,fun b arr c hh hn=>hmono.map b arr c hh hn⟩
 refine ⟨r,e,g3,l,⟨rfl,rfl⟩,?_,?_,hm3,hsz,fun b hb _=>hkeep b hb,fun b o ho => .inr (by rw [ho]; rfl),os,tape,output⟩
 ·cases r with
  | ret p=>
   cases en <;> first | exact hres.elim | skip
   exact Rep.names (g:=g') rfl hr hres
  | own te z es=>
   cases en <;> first | exact hres.elim | skip
   rcases hres with (h | ⟨a,h,h',heK⟩) | ⟨b,off,cap,cur,k1,k2,k3,k4,k5,k6,k7,k8⟩
   ·exact .inl (.inl h)
   ·exact .inl (.inr ⟨a,h,Rep.names (g:=g') rfl (by simpa [PV.noX,CRes.noX] using hr) h',heK⟩)
   ·have hb:w.heap.size<=b:=by
     rcases k2 with h | h
     ·exact h
     ·cases h
    refine .inr ⟨b,off,cap,cur,k1,.inl hb,k3,?_,k5,k6,k7,fun he=>Rep.names (g:=g') rfl (by simpa [PV.noX,CRes.noX] using hr) (k8.1 he),fun he=>⟨(k8.2 he).1,(k8.2 he).2.1,(k8.2 he).2.2.1,(k8.2 he).2.2.2.1,fun j hj=>⟨((k8.2 he).2.2.2.2 j hj).1,Rep.names (g:=g') rfl (noXss_flat hr j hj) ((k8.2 he).2.2.2.2 j hj).2⟩⟩⟩
    cases hb':l.O b with
    | none=>rfl
    | some o=>exact absurd (hent.olt b o hb') oM
  | panic p=>
   cases en <;> first | exact hres.elim | skip
   obtain ⟨v,hv,hrv⟩:=hres
   exact ⟨v,hv,Rep.names (g:=g') rfl hr hrv⟩
 ·refine ⟨fun x cs hx=>?_,fun b o ho=>Nat.lt_of_lt_of_le (hent.olt b o ho) hsz,hent.uo,⟨hent'.fresh.1,hent.fresh.2⟩,fun n b hb=>Nat.lt_of_lt_of_le (hent.xlt n b hb) hsz,hent.only,hent.glb.mono hm3⟩
  obtain ⟨b,k1,k2,hE⟩:=hent.ex x cs hx
  have hb:=hkeep b (hent.olt b _ k2)
  refine ⟨b,k1.mono hm3,k2,?_⟩
  rcases hE with ⟨k3,cur,t,k4,k5,k6⟩ | hE
  rotate_left
  ·exact .inr (hE.keep hm3 (fun _ _ _ h=>h) hb.2 hb.1)
  refine .inl ⟨hb.2.trans k3,cur,t,hb.1.trans k4,k5,fun j hj=>⟨(k6 j hj).1,(k6 j hj).2.1,?_⟩⟩
  refine (k6 j hj).2.2.keep hm3 (fun _ _ _=>rfl) fun b' hb'=>?_
  have hlt:=hent.olt b' _ (hent.uo _ _ hb')
  exact ⟨hb',(hkeep b' hlt).2,(hkeep b' hlt).1⟩
theorem Ob.pur_of_eff{P:Program}{f:FuncId}{args:List PV}{r:CRes}{e':Ext}(ha:noXs args=true)(hr:r.noX=true)(h:(Ob.eff f args [] r e').ok P):(Ob.pur f args r).ok P:=⟨h.1,fun e=>CallC.forget ha hr h.2 e⟩
theorem Ob.pur_of_fast{P:Program}(md:FuncId->Md)(fl d:Nat){f:FuncId}{args:List PV}{r:CRes}(hm:P.follows .mixedOrders=true)(h:((evFR P md fl d).1 f args []).map Prod.fst=some r)(ha:noXs args=true)(hr:r.noX=true):(Ob.pur f args r).ok P:=by
 have:=(evFR_sound (P:=P) (md:=md) (fl:=fl) hm d).1
 cases he:(evFR P md fl d).1 f args [] with
 | none=>rw [he] at h; cases h
 | some x=>
  obtain ⟨r1,e1⟩:=x
  rw [he] at h
  injection h with h
  subst h
  obtain ⟨h1,h2⟩:=this f args [] _ _ he
  exact Ob.pur_of_eff ha hr ⟨h1,h2⟩
theorem ob_eqv{P:Program}{x y:LV}(h:x=y):(Ob.eqv x y).ok P:=h
theorem ob_bit{P:Program}{x y:Bool}(h:x=y):(Ob.bit x y).ok P:=h
theorem bTF{b:Bool}(h:¬b=false):b=true:=by cases b <;> simp_all
theorem bFT{b:Bool}(h:¬b=true):b=false:=by cases b <;> simp_all
theorem beT{a b:Int}(h:a=b):(a==b)=true:=by simp [h]
theorem beF{a b:Int}(h:¬a=b):(a==b)=false:=by simp [h]
theorem bneT{a b:Int}(h:¬a=b):(a != b)=true:=by simp [h]
theorem bneF{a b:Int}(h:a=b):(a != b)=false:=by simp [h]
theorem WL.r{v:LV}:WL v v := .inl rfl
inductive Wk:PV->PV->Prop
 | r (p:PV):Wk p p
 | n (z:Nat):Wk .nilsl (.sl z [])
 | op (p:PV):Wk (.opq p) p
 | qo (p:PV) (h:p.one=true):Wk p (.opq p)
 | im (t:TypeId) (f:Nat) (p:PV):Wk (.iface t p) (.ifm t f p)
 | agg {a b:List PV} (h1:a.length=b.length) (h:∀j (h:j<a.length) (h':j<b.length),Wk a[j] b[j]):Wk (.agg a) (.agg b)
 | tup {a b:List PV} (h1:a.length=b.length) (h:∀j (h:j<a.length) (h':j<b.length),Wk a[j] b[j]):Wk (.tup a) (.tup b)
 | ro {a b:List PV} {o:Nat} (h1:a.length=b.length) (h:∀j (h:j<a.length) (h':j<b.length),Wk a[j] b[j]):Wk (.ro a o) (.ro b o)
 | sl {z:Nat} {a b:List (List PV)} (h1:a.length=b.length) (h2:∀i (h:i<a.length) (h':i<b.length),a[i].length=b[i].length)
   (h:∀i (h:i<a.length) (h':i<b.length) j (k:j<a[i].length) (k':j<b[i].length),Wk a[i][j] b[i][j]):Wk (.sl z a) (.sl z b)
theorem Wk.rep{p q:PV}(h:Wk p q){g:Gh}{w:World}:∀ {v:Value},Rep g w p v->Rep g w q v:=by
 induction h with
 | r p=>exact fun h=>h
 | n z=>intro v h; cases h; exact .slnil z
 | op p=>
  intro v h
  cases h with
  | opq _ _ _ h=>exact h
 | qo p h1=>exact fun h => .opq _ _ (h.one h1) h
 | im t f p=>
  intro v h
  cases h with
  | iface _ _ v h=>exact .ifm _ _ _ v h
 | agg h1 h ih=>
  intro v hr
  cases hr with
  | agg _ vs k1 ko k=>exact .agg _ vs (h1 ▸ k1) ko fun j hj hj'=>ih j (by rw [h1]; exact hj) hj (k j (by rw [h1]; exact hj) hj')
 | tup h1 h ih=>
  intro v hr
  cases hr with
  | tup _ vs k1 k=>exact .tup _ vs (h1 ▸ k1) fun j hj hj'=>ih j (by rw [h1]; exact hj) hj (k j (by rw [h1]; exact hj) hj')
 | ro h1 h ih=>
  intro v hr
  cases hr with
  | ro _ off b o vs hc hf ho k=>exact .ro _ _ b o vs (fun j hj=>hc j (by rw [h1]; exact hj)) (fun j hj=>hf j (by rw [h1]; exact hj)) (fun j hj=>ho j (by rw [h1]; exact hj)) fun j hj=>ih j (by rw [h1]; exact hj) hj (k j (by rw [h1]; exact hj))
 | @sl z a b h1 h2 h ih=>
  intro v hr
  cases hr with
  | slnil _=>
   have:b=[]:=List.eq_nil_of_length_eq_zero h1.symm
   subst this
   exact .slnil z
  | sl _ _ ad cap vs hle hcap hsz hc hf ho k=>
   rw [h1] at hle ⊢
   exact .sl z b ad cap vs hle hcap (fun i hi=>by rw [<-h2 i (by rw [h1]; exact hi) hi]; exact hsz i (by rw [h1]; exact hi)) (fun i j hi hj=>hc i j (by rw [h1]; exact hi) hj) (fun i j hi hj=>hf i j (by rw [h1]; exact hi) hj) (fun i j hi hj=>ho i j (by rw [h1]; exact hi) hj)
    fun i j hi hj=>ih i (by rw [h1]; exact hi) hi j (by rw [h2 i (by rw [h1]; exact hi) hi]; exact hj) hj (k i j (by rw [h1]; exact hi) (by rw [h2 i (by rw [h1]; exact hi) hi]; exact hj))
def WkL(a b:List PV):Prop:=a.length=b.length/\∀j (h:j<a.length) (h':j<b.length),Wk a[j] b[j]
theorem WkL.r(a:List PV):WkL a a:=⟨rfl,fun _ _ _ => .r _⟩
theorem WkL.c{x y:PV}{a b:List PV}(h:Wk x y)(hs:WkL a b):WkL (x::a) (y::b):=by
 refine ⟨by simp [hs.1],fun j hj hj'=>?_⟩
 cases j with
 | zero=>exact h
 | succ j=>exact hs.2 j (by simpa using hj) (by simpa using hj')
theorem Wk.a{a b:List PV}(h:WkL a b):Wk (.agg a) (.agg b) := .agg h.1 h.2
theorem Wk.t{a b:List PV}(h:WkL a b):Wk (.tup a) (.tup b) := .tup h.1 h.2
def WkLL(a b:List (List PV)):Prop:=a.length=b.length/\∀i (h:i<a.length) (h':i<b.length),WkL a[i] b[i]
theorem WkLL.r(a:List (List PV)):WkLL a a:=⟨rfl,fun _ _ _ => .r _⟩
theorem WkLL.c{x y:List PV}{a b:List (List PV)}(h:WkL x y)(hs:WkLL a b):WkLL (x::a) (y::b):=by
 refine ⟨by simp [hs.1],fun j hj hj'=>?_⟩
 cases j with
 | zero=>exact h
 | succ j=>exact hs.2 j (by simpa using hj) (by simpa using hj')
theorem Wk.s{z:Nat}{a b:List (List PV)}(h:WkLL a b):Wk (.sl z a) (.sl z b) := .sl h.1 (fun i hi hi'=>(h.2 i hi hi').1) fun i hi hi'=>(h.2 i hi hi').2
theorem CallC.wk{P:Program}{f:FuncId}{args:List PV}{e e':Ext}{p q:PV}(hw:Wk p q)(h:CallC P f args e fun r1 e1=>r1 = .ret p/\e1=e'):CallC P f args e fun r1 e1=>r1 = .ret q/\e1=e':=fun vs g l w ha he=>
 (h vs g l w ha he).mono fun en w' ⟨res,e2,g',l',⟨h1,h2⟩,h3,h4⟩=>by
  subst h1 h2
  refine ⟨.ret q,e2,g',l',⟨rfl,rfl⟩,?_,h4⟩
  cases en <;> first | exact h3.elim | exact hw.rep h3
theorem Ob.pur_wk{P:Program}{f:FuncId}{args:List PV}{p q:PV}(hw:Wk p q)(h:(Ob.pur f args (.ret p)).ok P):(Ob.pur f args (.ret q)).ok P:=⟨h.1,fun e=>(h.2 e).wk hw⟩
theorem Ob.eff_wk{P:Program}{f:FuncId}{args:List PV}{e e':Ext}{p q:PV}(hw:Wk p q)(h:(Ob.eff f args e (.ret p) e').ok P):(Ob.eff f args e (.ret q) e').ok P:=⟨h.1,h.2.wk hw⟩
theorem CallC.unown{P:Program}{f:FuncId}{args:List PV}{e e':Ext}{te:TypeId}{z:Nat}{es:List (List PV)}(h:CallC P f args e fun r1 e1=>r1 = .own te z es/\e1=e')(hte:te<1000000):CallC P f args e fun r1 e1=>r1 = .ret (.sl z es)/\e1=e':=fun vs g l w ha he=>
 (h vs g l w ha he).mono fun en w' ⟨res,e2,g',l',⟨h1,h2⟩,h3,h4⟩=>by
  subst h1 h2
  refine ⟨.ret (.sl z es),e2,g',l',⟨rfl,rfl⟩,?_,h4⟩
  cases en with
  | returned v=>
   rcases h3 with (⟨rfl,rfl⟩ | ⟨a,-,h,-⟩) | ⟨b,off,cap,cur,-,-,-,-,-,-,-,h⟩
   ·exact .slnil z
   ·exact h
   ·exact h.1 hte
  | panicked _=>exact h3.elim
  | _=>exact h3.elim
theorem Ob.pur_unown{P:Program}{f:FuncId}{args:List PV}{te:TypeId}{z:Nat}{es:List (List PV)}(h:(Ob.pur f args (.own te z es)).ok P)(hte:te<1000000:=by decide):(Ob.pur f args (.ret (.sl z es))).ok P:=⟨h.1,fun e=>(h.2 e).unown hte⟩
theorem WkL.repAll{a b:List PV}(h:WkL a b){g:Gh}{w:World}{vs:List Value}(hr:RepAll g w a vs):RepAll g w b vs:=⟨h.1 ▸ hr.1,fun j hj hj'=>(h.2 j (by rw [h.1]; exact hj) hj).rep (hr.2 j (by rw [h.1]; exact hj) hj')⟩
theorem Ob.pur_arg{P:Program}{f:FuncId}{a b:List PV}{r:CRes}(hw:WkL a b)(h:(Ob.pur f b r).ok P):(Ob.pur f a r).ok P:=⟨h.1,fun e vs g l w ha he=>h.2 e vs g l w (hw.repAll ha) he⟩
theorem Ob.eff_arg{P:Program}{f:FuncId}{a b:List PV}{e e':Ext}{r:CRes}(hw:WkL a b)(h:(Ob.eff f b e r e').ok P):(Ob.eff f a e r e').ok P:=⟨h.1,fun vs g l w ha he=>h.2 vs g l w (hw.repAll ha) he⟩
abbrev aT:Ans := .bit true
abbrev aF:Ans := .bit false
abbrev aI(x:Int):Ans := .as_ (.v (.int .i64 x))
abbrev aR(cs:List PV):Ans := .as_ (.v (.ro cs 0))
abbrev oT(p:Prop) [Decidable p]:Ob := .bit (decide p) true
abbrev oF(p:Prop) [Decidable p]:Ob := .bit (decide p) false
abbrev oE(x y:Int):Ob := .eqv (.v (.int .i64 x)) (.v (.int .i64 y))
abbrev oR(x y:List PV):Ob := .eqv (.v (.ro x 0)) (.v (.ro y 0))
abbrev oB(x:Bool):Ob := .bit x true
abbrev oC(x:Bool):Ob := .bit x false
theorem pT{P:Program}{p:Prop} [Decidable p] (h:p):(oT p).ok P:=ob_bit (dT h)
theorem pF{P:Program}{p:Prop} [Decidable p] (h:¬p):(oF p).ok P:=ob_bit (dF h)
abbrev pI(x:Int):PV := .int .i64 x
abbrev vI6(x:Int):LV := .v (.int .i64 x)
abbrev vS(x:ByteArray):LV := .v (.str x)
abbrev vL(n:Nat)(x:List (List PV)):LV := .v (.sl n x)
abbrev rA(x:List PV):CRes := .ret (.agg x)
abbrev rI(x:Int):CRes := .ret (.int .i64 x)
abbrev rB(x:Bool):CRes := .ret (.bool x)
theorem W{v:LV}:WL v v:=WL.r
theorem Ws{l:List LV}:WLs l l:=WLs.refl l
abbrev jk:LV := .junk
structure Stp (P:Program) where
 a:List Ans
 o:List Ob
 h:Obs P o
section
variable {P:Program}
def asS:List (Stp P)->List Ans
 | []=>[]
 | s::r=>s.a++asS r
def osS:List (Stp P)->List Ob
 | []=>[]
 | s::r=>s.o++osS r
theorem obs_app:∀ {a b:List Ob},Obs P a->Obs P b->Obs P (a++b)
 | [],_,_,hb=>hb
 | _::_,_,ha,hb=>⟨ha.1,obs_app ha.2 hb⟩
theorem okS:∀L:List (Stp P),Obs P (osS L)
 | []=>trivial
 | s::r=>obs_app s.h (okS r)
def s1(a:List Ans){o:Ob}(h:o.ok P):Stp P:=⟨a,[o],⟨h,tVv⟩⟩
def bt(b:Bool)(h:b=true:=by rfl):Stp P:=s1 [.bit true] (o := .bit b true) h
def bf(b:Bool)(h:b=false:=by rfl):Stp P:=s1 [.bit false] (o := .bit b false) h
def dt(p:Prop) [Decidable p] (h:p:=by omega):Stp P:=s1 [.bit true] (o := .bit (decide p) true) (decide_eq_true h)
def df(p:Prop) [Decidable p] (h:¬p:=by omega):Stp P:=s1 [.bit false] (o := .bit (decide p) false) (decide_eq_false h)
def et(x y:Int)(h:x=y:=by omega):Stp P:=s1 [.bit true] (o := .bit (x==y) true) (beT h)
def en(x y:Int)(h:¬x=y:=by omega):Stp P:=s1 [.bit false] (o := .bit (x==y) false) (beF h)
def nt(x y:Int)(h:¬x=y:=by omega):Stp P:=s1 [.bit true] (o := .bit (x != y) true) (bneT h)
def nn(x y:Int)(h:x=y:=by omega):Stp P:=s1 [.bit false] (o := .bit (x != y) false) (bneF h)
def am(p:Prop) [Decidable p] (h:p:=by omega):Stp P:=s1 [] (o := .bit (decide p) true) (decide_eq_true h)
def ab(b:Bool)(h:b=true:=by rfl):Stp P:=s1 [] (o := .bit b true) h
def av(x y:LV)(h:x=y:=by rfl):Stp P:=s1 [.as_ y] (o := .eqv x y) h
def ai(x y:Int)(h:LV.v (.int .i64 x)=LV.v (.int .i64 y):=by rfl):Stp P:=s1 [.as_ (.v (.int .i64 y))] (o := .eqv (.v (.int .i64 x)) (.v (.int .i64 y))) h
def ar(x y:List PV)(h:LV.v (.ro x 0)=LV.v (.ro y 0):=by rfl):Stp P:=s1 [.as_ (.v (.ro y 0))] (o := .eqv (.v (.ro x 0)) (.v (.ro y 0))) h
def wr(x:Int)(h1 : -9223372036854775808<=x:=by omega)(h2:x<=9223372036854775807:=by omega):Stp P:=s1 [.as_ (.v (.int .i64 x))] (o := .eqv (.v (.int .i64 (IntKind.i64.wrap x))) (.v (.int .i64 x))) (wrap64 h1 h2)
def sl{c:List (List PV)}{n:Nat}(h:c.length=n):Stp P:=s1 [.as_ (.v (.int .i64 n))] (o := .eqv (.v (.int .i64 c.length)) (.v (.int .i64 n))) (by rw [h]; rfl)
def kp:Stp P:=⟨[.keep],[],tVv⟩
def rp:Nat->Stp P->Stp P
 | 0,_=>⟨[],[],tVv⟩
 | n+1,s=>⟨s.a++(rp n s).a,s.o++(rp n s).o,obs_app s.h (rp n s).h⟩
def ur:Stp P:=⟨[.unroll],[],tVv⟩
def cl{f:FuncId}{args:List PV}{r:CRes}(h:(Ob.pur f args r).ok P):Stp P:=s1 [.pur r] h
def ce{f:FuncId}{args:List PV}{e:Ext}{r:CRes}{e':Ext}(h:(Ob.eff f args e r e').ok P):Stp P:=s1 [.eff r e'] h
def cw{f:FuncId}{args:List PV}{k:Nat}{te:TypeId}{z:Nat}{es:List (List PV)}{e:Ext}{r:CRes}{e':Ext}(h:(Ob.own f args k te z es e r e').ok P):Stp P:=s1 [.eff r e'] (o := .own f args k te z es e r e') h
def cd{f:FuncId}{args:List PV}{e:Ext}{m m':PM}{e':Ext}(h:(Ob.dfr f args e m m' e').ok P):Stp P:=s1 [.dfr m' e'] h
def mg:Stp P:=⟨[.mrg],[],tVv⟩
def lf{n:Nat}{c:Code}{s0:S}{pe:PExit}{t:S}(s:S)(h:(Ob.frag n c s0 pe t).ok P)(hle:LeX s0 s):Stp P:=⟨[.loop s0 pe t],[.le s0 s,.frag n c s0 pe t],⟨hle,h,tVv⟩⟩
def lp{n:Nat}{c:Code}{s0:S}{pe:PExit}{t:S}(s:S)(h:(Ob.loop n c s0 pe t).ok P)(hle:LeX s0 s):Stp P:=⟨[.loop s0 pe t],[.le s0 s,.loop n c s0 pe t],⟨hle,h,tVv⟩⟩
abbrev BA:Type:=ByteArray
def bt1{b:Bool}(h:b=true):Stp P:=bt b h
def bf1{b:Bool}(h:b=false):Stp P:=bf b h
def dt1{p:Prop} [Decidable p] (h:p):Stp P:=dt p h
def df1{p:Prop} [Decidable p] (h:¬p):Stp P:=df p h
def et1{x y:Int}(h:x=y):Stp P:=et x y h
def en1{x y:Int}(h:¬x=y):Stp P:=en x y h
def nt1{x y:Int}(h:¬x=y):Stp P:=nt x y h
def nn1{x y:Int}(h:x=y):Stp P:=nn x y h
def am1{p:Prop} [Decidable p] (h:p):Stp P:=am p h
def ab1{b:Bool}(h:b=true):Stp P:=ab b h
theorem xr{A B:S}(h:LeX A B:=by (refine ⟨?_,?_,rfl⟩ <;> repeat' first | exact trivial | exact WL.r | exact WLs.refl _ | constructor)):LeX A B:=h
def kyS{β:Type}:List (Nat × β)->List Nat->Bool
 | [],_=>true
 | x::r,q=>!q.contains x.1&&kyS r (x.1::q)
theorem lk_app{β:Type}{k:Nat}{v:β}:∀ (p r:List (Nat × β)),(∀x,x∈p->¬x.1=k)->lk (p++(k,v)::r) k=some v
 | [],r,_=>by simp [lk]
 | (a,b)::p,r,h=>by
  have h1:=h (a,b) List.mem_cons_self
  simp only at h1
  rw [List.cons_append,lk,iN h1]
  exact lk_app p r fun x hx=>h x (List.mem_cons_of_mem _ hx)
theorem LeT.sf:∀ (r p:List (Nat × LV)) (q:List Nat),(∀x,x∈p->x.1∈q)->kyS r q=true->LeT r (p++r)
 | [],_,_,_,_=>trivial
 | (k,v)::r,p,q,hp,h=>by
  simp only [kyS,Bool.and_eq_true,Bool.not_eq_true',List.contains_eq_mem,decide_eq_false_iff_not] at h
  refine ⟨?_,?_⟩
  ·rw [lk_app p r fun x hx e=>h.1 (by rw [<-e]; exact hp x hx)]
   exact WL.r
  ·have:=LeT.sf r (p++[(k,v)]) (k::q) (fun x hx=>by
    rcases List.mem_append.1 hx with hx | hx
    ·exact List.mem_cons_of_mem _ (hp x hx)
    ·rw [List.mem_singleton.1 hx]; exact List.mem_cons_self) h.2
   rwa [List.append_assoc] at this
theorem LeB.sf:∀ (r p:List (Nat × List LV)) (q:List Nat),(∀x,x∈p->x.1∈q)->kyS r q=true->LeB r (p++r)
 | [],_,_,_,_=>trivial
 | (k,v)::r,p,q,hp,h=>by
  simp only [kyS,Bool.and_eq_true,Bool.not_eq_true',List.contains_eq_mem,decide_eq_false_iff_not] at h
  refine ⟨?_,?_⟩
  ·rw [lk_app p r fun x hx e=>h.1 (by rw [<-e]; exact hp x hx)]
   exact WLs.refl _
  ·have:=LeB.sf r (p++[(k,v)]) (k::q) (fun x hx=>by
    rcases List.mem_append.1 hx with hx | hx
    ·exact List.mem_cons_of_mem _ (hp x hx)
    ·rw [List.mem_singleton.1 hx]; exact List.mem_cons_self) h.2
   rwa [List.append_assoc] at this
theorem xq{s:S}(h:(kyS s.tmps []&&kyS s.boxes [])=true):LeX s s:=by
 rw [Bool.and_eq_true] at h
 exact ⟨LeT.sf _ [] [] (fun _ h=>by cases h) h.1,LeB.sf _ [] [] (fun _ h=>by cases h) h.2,rfl⟩
def lg{n:Nat}{c:Code}{s0:S}{pe:PExit}{t:S}(h:(Ob.frag n c s0 pe t).ok P)(hk:(kyS s0.tmps []&&kyS s0.boxes [])=true:=by rfl):Stp P:=lf s0 h (xq hk)
def lq{n:Nat}{c:Code}{s0:S}{pe:PExit}{t:S}(h:(Ob.loop n c s0 pe t).ok P)(hk:(kyS s0.tmps []&&kyS s0.boxes [])=true:=by rfl):Stp P:=lp s0 h (xq hk)
theorem kR{p:Prop}(h:p:=by kernel_rfl):p:=h
structure C5 where (a b c d e:PV)
theorem oq{P:Program}{x y:Int}(h:¬x=y:=by omega):(Ob.bit (x==y) false).ok P:=ob_bit (beF h)
end
end Go.Pv
