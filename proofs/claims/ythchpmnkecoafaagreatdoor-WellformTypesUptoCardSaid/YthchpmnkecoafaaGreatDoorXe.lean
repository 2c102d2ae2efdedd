/- Values of Go as plain data, an evaluator over them, and what the functions of the program return; part Xe. -/
import Derived.Test.YthchpmnkecoafaaGreatDoorXd
import Derived.Test.YthchpmnkecoafaaGreatDoorXf
import Derived.Laws.Strings
set_option linter.unusedVariables false
set_option linter.unusedSimpArgs false
set_option linter.unusedSectionVars false
namespace Go.Pv
open Go.RowKit
def Rq(t s:S):Prop:=eI t.tmps s.tmps/\eJ t.boxes s.boxes/\t.ext=s.ext
theorem Bb.Yd{cx:Cx}{s t:S}{g:Gh}{l:LG}{a:Act}{w:World}(h:Bb cx s g l a w)(hl:Rq t s):Bb cx t g l a w where
 AV:=h.AV
 size:=h.size
 defers:=h.defers
 tm k v hk:=let ⟨_,hu,hw⟩:=hl.1.at_ hk; hw.rep (h.tm k _ hu)
 bx k v hk:=by
  obtain ⟨u,hu,hw⟩:=hl.2.1.at_ hk
  obtain ⟨b,h1,h2,h3⟩:=h.bx k u hu
  exact ⟨b,h1,h2,h3.le hw⟩
 ex k v hk:=h.ex k v (by rw [<-hl.2.2]; exact hk)
 own:=h.own
 uo:=h.uo
 fresh:=⟨h.fresh.1,fun n hn=>h.fresh.2.1 n (by rw [<-hl.2.2]; exact hn),fun n c hn=>h.fresh.2.2 n c (by rw [<-hl.2.2]; exact hn)⟩
 Gg:=h.Gg
theorem PW.Yd{P:Program}{cx:Cx}{s:S}{Q:A5->S->Prop}{c:Code}{t:S}(hl:Rq t s)(h:PW P cx c t Q):PW P cx c s Q:=fun g l a w hs=>h g l a w (hs.Yd hl)
inductive Dg where
 | Qa (r:Cr)
 | DO (r:Cr) (e:Ext)
 | bit (v:Bool)
 | BN
 | kY (lv:LV)
 | loop (s0:S) (pe:A5) (s1:S)
 | Ye
 | Oe (m:PM) (e:Ext)
 | mrg
inductive Ob where
 | Qa (f:FuncId) (args:List PV) (r:Cr)
 | DO (f:FuncId) (args:List PV) (e:Ext) (r:Cr) (e':Ext)
 | Oe (f:FuncId) (args:List PV) (e:Ext) (m m':PM) (e':Ext)
 | bit (b v:Bool)
 | eqv (x y:LV)
 | loop (n:Nat) (c:Code) (s0:S) (pe:A5) (s1:S)
 | le (s0 s:S)
 | Ev (n:Nat) (c:Code) (s0:S) (pe:A5) (s1:S)
def Ob.ok(P:Program):Ob->Prop
 | .Qa f args r=>Fu P f=true/\∀e,C3 P f args e fun r1 e1=>r1=r/\e1=e
 | .DO f args e r e'=>Fu P f=true/\C3 P f args e fun r1 e1=>r1=r/\e1=e'
 | .Oe f args e m m' e'=>Fu P f=true/\Eb P f args e m fun m1 e1=>m1=m'/\e1=e'
 | .bit b v=>b=v
 | .eqv x y=>x=y
 | .loop n c s0 pe s1=>∀cx:Cx,cx.n=n->PW P cx (.loop c) s0 fun pe' s'=>pe'=pe/\s'=s1
 | .le s0 s=>Rq s0 s
 | .Ev n c s0 pe s1=>∀cx:Cx,cx.n=n->PW P cx c s0 fun pe' s'=>pe'=pe/\s'=s1
def QG(P:Program):List Ob->Prop
 | []=>True
 | o::r=>o.ok P/\QG P r
theorem QG.app{P:Program}:∀ {l m:List Ob},QG P (l++m)->QG P l/\QG P m
 | [],_,h=>⟨trivial,h⟩
 | _::_,_,h=>⟨⟨h.1,(QG.app h.2).1⟩,(QG.app h.2).2⟩
inductive A9t where
 | bad (k:Nat)
 | call (f:FuncId) (args:List PV) (e:Ext)
 | test (b:Bool)
 | val (lv:LV)
 | loop (n:Nat) (c:Code) (s:S)
 | Oe (f:FuncId) (args:List PV) (e:Ext) (m:PM)
 | at_ (k:Nat) (o:Oper) (s:S)
inductive SR (α:Type) where
 | ok (a:α) (sc:List Dg) (l:List Ob)
 | no (n:A9t)
abbrev SM(α:Type):=List Dg->SR α
section
variable {α β:Type} {P:Program}
def SM.ret(a:α):SM α:=fun sc => .ok a sc []
def SM.bad(k:Nat):SM α:=fun _ => .no (.bad k)
def SM.EZ(m:SM α)(f:α->SM β):SM β:=fun sc=>match m sc with
 | .ok a C1 l=>match f a C1 with
  | .ok b WV l2 => .ok b WV (l++l2)
  | .no n => .no n
 | .no n => .no n
def SR.wp(P:Program)(K:α->List Dg->Prop):SR α->Prop
 | .ok a C1 l=>QG P l/\K a C1
 | .no _=>False
def SM.wp(P:Program)(m:SM α)(sc:List Dg)(K:α->List Dg->Prop):Prop:=(m sc).wp P K
theorem SM.wp_ret{a:α}{sc:List Dg}{K:α->List Dg->Prop}(h:(SM.ret a).wp P sc K):K a sc:=h.2
theorem SM.Bf{m:SM α}{f:α->SM β}{sc:List Dg}{K:β->List Dg->Prop}(h:(m.EZ f).wp P sc K):m.wp P sc fun a C1=>(f a).wp P C1 K:=by
 unfold SM.wp SM.EZ at *
 cases hm:m sc with
 | no n=>rw [hm] at h; exact h
 | ok a C1 l=>
  rw [hm] at h
  simp only at h
  cases hf:f a C1 with
  | no n=>rw [hf] at h; exact h.elim
  | ok b WV l2=>
   rw [hf] at h
   have:=QG.app h.1
   exact ⟨this.1,by show SR.wp P K (f a C1); rw [hf]; exact ⟨this.2,h.2⟩⟩
def SM.tag(o:Oper)(s:S)(m:SM α):SM α:=fun sc=>match m sc with
 | .ok a C1 l => .ok a C1 l
 | .no (.bad k) => .no (.at_ k o s)
 | .no n => .no n
theorem SM.Yf{o:Oper}{s:S}{m:SM α}{sc:List Dg}{K:α->List Dg->Prop}(h:(SM.tag o s m).wp P sc K):m.wp P sc K:=by
 unfold SM.wp SM.tag at *
 cases hm:m sc with
 | ok a C1 l=>rw [hm] at h; exact h
 | no n=>rw [hm] at h; cases n <;> exact h.elim
def SM.kZ(o:Ob)(a:α):SM α:=fun sc => .ok a sc [o]
theorem SM.JS{o:Ob}{a:α}{sc:List Dg}{K:α->List Dg->Prop}(h:(SM.kZ o a).wp P sc K):o.ok P/\K a sc:=⟨h.1.1,h.2⟩
def We(b:Bool):SM Bool
 | .bit v::sc => .ok v sc [.bit b v]
 | _ => .no (.test b)
theorem M8{b:Bool}{sc:List Dg}{K:Bool->List Dg->Prop}(h:(We b).wp P sc K):∃C1,K b C1:=by
 unfold SM.wp We at h
 split at h
 ·rename_i v C1
  have:b=v:=h.1.1
  subst this
  exact ⟨C1,h.2⟩
 ·exact h.elim
def gQ(lv:LV):SM LV
 | .BN::sc => .ok lv sc []
 | .kY eK::sc => .ok eK sc [.eqv lv eK]
 | _ => .no (.val lv)
theorem U7{lv:LV}{sc:List Dg}{K:LV->List Dg->Prop}(h:(gQ lv).wp P sc K):∃C1,K lv C1:=by
 unfold SM.wp gQ at h
 split at h
 ·exact ⟨_,h.2⟩
 ·have:lv=_:=h.1.1
  subst this
  exact ⟨_,h.2⟩
 ·exact h.elim
def gR(f:FuncId)(args:List PV)(e:Ext):SM (Cr × Ext × Bool)
 | .Qa r::sc => .ok (r,e,true) sc [.Qa f args r]
 | .DO r e'::sc => .ok (r,e',false) sc [.DO f args e r e']
 | _ => .no (.call f args e)
theorem U8{f:FuncId}{args:List PV}{e:Ext}{sc:List Dg}{K:Cr × Ext × Bool->List Dg->Prop}(h:(gR f args e).wp P sc K) :
  ∃r e' pu C1,K (r,e',pu) C1/\Fu P f=true/\C3 P f args e (fun r1 e1=>r1=r/\e1=e')/\(pu=true->e'=e/\∀e,C3 P f args e fun r1 e1=>r1=r/\e1=e):=by
 unfold SM.wp gR at h
 split at h
 ·obtain ⟨⟨⟨h1,h2⟩,-⟩,h3⟩:=h
  exact ⟨_,_,_,_,h3,h1,h2 e,fun _=>⟨rfl,h2⟩⟩
 ·obtain ⟨⟨⟨h1,h2⟩,-⟩,h3⟩:=h
  exact ⟨_,_,_,_,h3,h1,h2,fun e0=>by cases e0⟩
 ·exact h.elim
def gS(f:FuncId)(args:List PV)(e:Ext)(m:PM):SM (PM × Ext)
 | .Oe m' e'::sc => .ok (m',e') sc [.Oe f args e m m' e']
 | _ => .no (.Oe f args e m)
theorem Qb{f:FuncId}{args:List PV}{e:Ext}{m:PM}{sc:List Dg}{K:PM × Ext->List Dg->Prop}(h:(gS f args e m).wp P sc K) :
  ∃m' e' C1,K (m',e') C1/\Fu P f=true/\Eb P f args e m fun m1 e1=>m1=m'/\e1=e':=by
 unfold SM.wp gS at h
 split at h
 ·obtain ⟨⟨⟨h1,h2⟩,-⟩,h3⟩:=h
  exact ⟨_,_,_,h3,h1,h2⟩
 ·exact h.elim
def RM.runM:RM α->S->SM α
 | .ret a,_ => .ret a
 | .fail,_ => .bad 1
 | .It t k,s=>match lk s.tmps t with
  | some v=>(k v).runM s
  | none => .bad 2
 | .Iu i k,s=>match lk s.boxes i with
  | some v=>(k v).runM s
  | none => .bad 3
 | .E6 n k,s=>match lk s.ext n with
  | some v=>(k v).runM s
  | none => .bad 4
 | .assume p k,s=>(SM.kZ (.bit p true) ()).EZ fun _=>k.runM s
theorem RM.DJ{s:S}:∀ {r:RM α} {sc:List Dg} {K:α->List Dg->Prop},(r.runM s).wp P sc K->r.wp s fun a=>∃C1,K a C1
 | .ret a,sc,K,h=>⟨sc,h.2⟩
 | .fail,_,_,h=>h.elim
 | .It t f,sc,K,h=>by
  simp only [RM.runM] at h
  simp only [RM.wp]
  split at h
  ·rename_i v hv; rw [hv]; exact RM.DJ h
  ·exact h.elim
 | .Iu t f,sc,K,h=>by
  simp only [RM.runM] at h
  simp only [RM.wp]
  split at h
  ·rename_i v hv; rw [hv]; exact RM.DJ h
  ·exact h.elim
 | .E6 t f,sc,K,h=>by
  simp only [RM.runM] at h
  simp only [RM.wp]
  split at h
  ·rename_i v hv; rw [hv]; exact RM.DJ h
  ·exact h.elim
 | .assume p f,sc,K,h=>by
  simp only [RM.runM] at h
  obtain ⟨h1,h2⟩:=SM.JS (SM.Bf h)
  exact ⟨h1,RM.DJ h2⟩
theorem RM.CR{s:S}:∀ {r:RM α} {K K':α->List Loc->Prop},r.I1 s K->(∀x rd,K x rd->K' x rd)->r.I1 s K'
 | .ret _,_,_,h,hk=>hk _ _ h
 | .fail,_,_,h,_=>h
 | .It t k,K,K',h,hk=>by
  simp only [RM.I1] at h ⊢
  split at h
  ·exact RM.CR h fun x rd hx=>hk _ _ hx
  ·exact h.elim
 | .Iu t k,K,K',h,hk=>by
  simp only [RM.I1] at h ⊢
  split at h
  ·exact RM.CR h fun x rd hx=>hk _ _ hx
  ·exact h.elim
 | .E6 t k,K,K',h,hk=>by
  simp only [RM.I1] at h ⊢
  split at h
  ·exact RM.CR h fun x rd hx=>hk _ _ hx
  ·exact h.elim
 | .assume p k,K,K',h,hk=>⟨h.1,RM.CR h.2 hk⟩
def RM.FV:RM α->S->SM (α × List Loc)
 | .ret a,_ => .ret (a,[])
 | .fail,_ => .bad 5
 | .It t k,s=>match lk s.tmps t with
  | some v=>((k v).FV s).EZ fun x => .ret (x.1,.t t::x.2)
  | none => .bad 6
 | .Iu i k,s=>match lk s.boxes i with
  | some v=>((k v).FV s).EZ fun x => .ret (x.1,.b i::x.2)
  | none => .bad 7
 | .E6 n k,s=>match lk s.ext n with
  | some v=>((k v).FV s).EZ fun x => .ret (x.1,.x n::x.2)
  | none => .bad 8
 | .assume p k,s=>(SM.kZ (.bit p true) ()).EZ fun _=>k.FV s
theorem RM.DZ{s:S}:∀ {r:RM α} {sc:List Dg} {K:α × List Loc->List Dg->Prop},(r.FV s).wp P sc K->r.I1 s fun a rd=>∃C1,K (a,rd) C1
 | .ret a,sc,K,h=>⟨sc,h.2⟩
 | .fail,_,_,h=>h.elim
 | .It t f,sc,K,h=>by
  simp only [RM.FV] at h
  simp only [RM.I1]
  split at h
  ·rename_i v hv
   rw [hv]
   exact RM.CR (RM.DZ (SM.Bf h)) fun a rd ⟨C1,hk⟩=>⟨C1,SM.wp_ret hk⟩
  ·exact h.elim
 | .Iu t f,sc,K,h=>by
  simp only [RM.FV] at h
  simp only [RM.I1]
  split at h
  ·rename_i v hv
   rw [hv]
   exact RM.CR (RM.DZ (SM.Bf h)) fun a rd ⟨C1,hk⟩=>⟨C1,SM.wp_ret hk⟩
  ·exact h.elim
 | .E6 t f,sc,K,h=>by
  simp only [RM.FV] at h
  simp only [RM.I1]
  split at h
  ·rename_i v hv
   rw [hv]
   exact RM.CR (RM.DZ (SM.Bf h)) fun a rd ⟨C1,hk⟩=>⟨C1,SM.wp_ret hk⟩
  ·exact h.elim
 | .assume p f,sc,K,h=>by
  simp only [RM.FV] at h
  obtain ⟨h1,h2⟩:=SM.JS (SM.Bf h)
  exact ⟨h1,RM.DZ h2⟩
end
def A9u(o:Oper):Bool:=match o.op with
 | .indexAddr _ _ _=>true
 | .binOp .add _ _ _ _=>true
 | .binOp .sub _ _ _ _=>true
 | .binOp .mul _ _ _ _=>true
 | .binOp .quo _ _ _ _=>true
 | .binOp .rem _ _ _ _=>true
 | .unOp .neg _ _=>true
 | .convert _ _ _=>true
 | .call ⟨.builtin .len,_,_⟩=>true
 | .lookup _ _ _ _=>true
 | .index _ _ _=>true
 | .slice _ _ _ _ _=>true
 | _=>false
def reW(o:Oper)(wr:List Wr):SM (List Wr):=if A9u o=true then (match wr with
 | [.tmp d lv]=>(gQ lv).EZ fun eK => .ret [.tmp d eK]
 | _ => .ret wr) else .ret wr
theorem qO{P:Program}{o:Oper}{wr:List Wr}{sc:List Dg}{K:List Wr->List Dg->Prop}(h:(reW o wr).wp P sc K):∃C1,K wr C1:=by
 unfold reW at h
 split at h
 ·split at h
  ·obtain ⟨C1,h1⟩:=U7 (SM.Bf h)
   exact ⟨C1,SM.wp_ret h1⟩
  ·exact ⟨_,SM.wp_ret h⟩
 ·exact ⟨_,SM.wp_ret h⟩
def l6(n:Nat)(o:Oper)(c x y:Operand)(s:S):SM (List Wr × List Loc):=((Fm c fun p=>RM.ret p).FV s).EZ fun pr=>match pr.1 with
 | .bool b=>(We b).EZ fun v=>match v with
  | true=>((Fm x fun q=>wv n o (.v q)).FV s).EZ fun w => .ret (w.1,pr.2++w.2)
  | false=>((Fm y fun q=>wv n o (.v q)).FV s).EZ fun w => .ret (w.1,pr.2++w.2)
 | _ => .bad 9
theorem Wf{α:Type}{c:Operand}{s:S}{k:PV->RM α}{K:α->List Loc->Prop}(h:(Fm c fun p=>RM.ret p).I1 s fun p rd1=>(k p).I1 s fun a rd2=>K a (rd1++rd2)):(Fm c k).I1 s K:=by
 unfold Fm ev at *
 cases c with
 | tmp t=>
  simp only [RM.I1] at h ⊢
  split at h
  ·split at h
   ·exact h
   ·exact h.elim
  ·exact h.elim
 | const c=>
  simp only at h ⊢
  split at h
  ·split at h
   ·exact h
   ·exact h.elim
  ·exact h.elim
 | func f=>
  simp only at h ⊢
  split at h
  ·exact h
  ·exact h.elim
 | global n=>
  simp only at h ⊢
  cases hg:lk GLB n with
  | none=>rw [hg] at h; exact h.elim
  | some cs=>rw [hg] at h; exact h
theorem Yg{P:Program}{n:Nat}{o:Oper}{c x y:Operand}{s:S}{sc:List Dg}{K:List Wr × List Loc->List Dg->Prop}(h:(l6 n o c x y s).wp P sc K):(M5 n o c x y).I1 s fun wr rd=>∃C1,K (wr,rd) C1:=by
 unfold M5
 refine Wf (RM.CR (RM.DZ (SM.Bf h)) ?_)
 rintro p rd ⟨MU,h1⟩
 simp only at h1
 split at h1
 ·rename_i b
  obtain ⟨WV,h2⟩:=M8 (SM.Bf h1)
  cases b with
  | true=>exact RM.CR (RM.DZ (SM.Bf h2)) fun a rd2 ⟨sc3,h3⟩=>⟨sc3,SM.wp_ret h3⟩
  | false=>exact RM.CR (RM.DZ (SM.Bf h2)) fun a rd2 ⟨sc3,h3⟩=>⟨sc3,SM.wp_ret h3⟩
 ·exact h1.elim
def gT(P:Program)(ro:TypeId->Option Bool)(n:Nat)(all:List Oper)(o:Oper)(s:S):SM (List Wr × List Loc):=match o.op with
 | .pick c x y=>l6 n o c x y s
 | _=>((act P ro n all o).FV s).EZ fun x=>(reW o x.1).EZ fun wr => .ret (wr,x.2)
theorem U9{P:Program}{ro:TypeId->Option Bool}{n:Nat}{all:List Oper}{o:Oper}{s:S}{sc:List Dg}{K:List Wr × List Loc->List Dg->Prop}(h:(gT P ro n all o s).wp P sc K):(act P ro n all o).I1 s fun wr rd=>∃C1,K (wr,rd) C1:=by
 unfold gT at h
 split at h
 ·rename_i c x y ho
  have:=Yg h
  unfold act
  rw [ho]
  exact this
 ·refine RM.CR (RM.DZ (SM.Bf h)) ?_
  rintro wr rd ⟨MU,h1⟩
  obtain ⟨WV,h2⟩:=qO (SM.Bf h1)
  exact ⟨WV,SM.wp_ret h2⟩
theorem RM.MV{α:Type}{s:S}:∀ {r:RM α} {K:α->List Loc->Prop},r.I1 s K->r.wp s fun a=>∃rd,K a rd
 | .ret _,_,h=>⟨[],h⟩
 | .fail,_,h=>h
 | .It t k,K,h=>by
  simp only [RM.I1] at h
  simp only [RM.wp]
  split at h
  ·rename_i v hv; rw [hv]; exact RM.wp_mono (fun a ⟨rd,h⟩=>⟨_,h⟩) (RM.MV h)
  ·exact h.elim
 | .Iu t k,K,h=>by
  simp only [RM.I1] at h
  simp only [RM.wp]
  split at h
  ·rename_i v hv; rw [hv]; exact RM.wp_mono (fun a ⟨rd,h⟩=>⟨_,h⟩) (RM.MV h)
  ·exact h.elim
 | .E6 t k,K,h=>by
  simp only [RM.I1] at h
  simp only [RM.wp]
  split at h
  ·rename_i v hv; rw [hv]; exact RM.wp_mono (fun a ⟨rd,h⟩=>⟨_,h⟩) (RM.MV h)
  ·exact h.elim
 | .assume p k,K,h=>⟨h.1,RM.MV h.2⟩
def Wg(P:Program)(ro:TypeId->Option Bool)(n:Nat)(all:List Oper)(o:Oper)(s:S):SM (A5 × S):=(gT P ro n all o s).EZ fun x => .ret (.normal,s.HY x.1)
def l7(o:Oper)(r:RM (FuncId × List PV))(s:S):SM (A5 × S):=(r.runM s).EZ fun x=>(gR x.1 x.2 s.ext).EZ fun y=>match y with
 | (.ret p,e,_) => .ret (.normal,s.LX o.dst (.v p) e)
 | (.own te z es,e,_) => .ret (.normal,s.LX o.dst (.uniq te z es) e)
 | (.panic p,e,_) => .ret (.panic p,{ s with ext:=e })
def gU(n:Nat)(o:Oper)(cs:List PV)(s:S):SM (A5 × S):=match Wb n o cs s with
 | some r => .ret r
 | none => .bad 10
def l8(s:S):Operand->Bool
 | .tmp t=>match lk s.tmps t with
  | some (.v (.LR _ _ _))=>true
  | _=>false
 | _=>false
def qP(P:Program)(n:Nat)(o:Oper)(ty:TypeId)(x y:Operand)(s:S):SM (A5 × S):=match Gj P ty,o.dst with
 | some e,some d=>match KW P e,Fq P e,TK P e with
  | some (m+1),some (B+1),some zs=>if d<n/\zs.length=m+1 then (match m,l8 s x,l8 s y with
   | 0,true,_=>((A0z x y).runM s).EZ fun r=>SM.kZ (.bit (decide ((r.1.2.2.length+r.2.length) * (B+1)<=140737488355328)) true) (.normal,{ s with tmps:=put s.tmps d (.v (.LR r.1.1 (r.1.2.1+1) (r.1.2.2.length+r.2.length))),ext:=put s.ext r.1.1 [.row (r.1.2.1+1) (r.1.2.2++r.2)] })
   | 0,false,true=>((A11 x y).runM s).EZ fun r=>SM.kZ (.bit (decide (r.2.2.length * (B+1)<=140737488355328)) true) (.normal,{ s with tmps:=put s.tmps d (.v (.LR r.1 (r.2.1+1) r.2.2.length)),ext:=put s.ext r.1 [.row (r.2.1+1) r.2.2] })
   | 0,false,false=>((A12 x y).runM s).EZ fun ks=>SM.kZ (.bit (decide (ks.length * (B+1)<=140737488355328)) true) (.normal,{ s with tmps:=put s.tmps d (.v (.LR (DN s.ext) 0 ks.length)),ext:=put s.ext (DN s.ext) [.row 0 ks] })
   | m+1,_,_=>((qJ e (m+2) x y).runM s).EZ fun ys=>SM.kZ (.bit (decide (ys.length * (B+1)<=140737488355328)) true) (.normal,{ s with tmps:=put s.tmps d (.v (.TH (DN s.ext) (m+2) ys.length)),ext:=put s.ext (DN s.ext) (ys.flatten.map .v) })) else .bad 11
  | _,_,_ => .bad 12
 | _,_ => .bad 13
def mapM(P:Program)(ty:TypeId)(n:Nat)(o:Oper)(s:S):SM (A5 × S):=match o.dst with
 | some d=>if d<n then .ret (.normal,{ s with tmps:=put s.tmps d (.v (.mp (DN s.ext))),ext:=put s.ext (DN s.ext) [.mm (T3 (T2 P ty))] }) else .bad 15
 | none => .bad 16
def gV:LV->Option PV
 | .v q=>some q
 | .uniq e z es=>if e<1000000 then some (.sl z es) else none
 | .full z es=>some (.sl z es)
 | _=>none
def Rr:List LV->Option (List PV)
 | []=>some []
 | x::r=>match gV x,Rr r with
  | some q,some qs=>some (q::qs)
  | _,_=>none
def Rs(i:Nat)(qs:List PV):List (Nat × LV)->List (Nat × LV)
 | []=>[]
 | (k,.lp j off)::r=>(k,if j=i then .v (.ro qs off) else .lp j off)::Rs i qs r
 | x::r=>x::Rs i qs r
def qQ(s:S):Operand->S
 | .tmp t=>match lk s.tmps t with
  | some (.lp i _)=>match lk s.boxes i with
   | some cs=>match Rr cs with
    | some qs=>⟨Rs i qs s.tmps,del s.boxes i,s.ext⟩
    | none=>s
   | none=>s
  | _=>s
 | _=>s
def qR(s:S):List Operand->S
 | []=>s
 | o::r=>qR (qQ s o) r
theorem Ua(i:Nat)(qs:List PV):∀ (l:List (Nat × LV)) (t:Nat) (lv:LV),lk (Rs i qs l) t=some lv->lk l t=some lv∨∃off,lk l t=some (.lp i off)/\lv = .v (.ro qs off)
 | [],_,_,h=>by cases h
 | (k,x)::r,t,lv,h=>by
  by_cases hk:k=t
  ·cases x
   case lp j off=>
    simp only [Rs,lk,iP hk] at h ⊢
    injection h with h
    by_cases hj:j=i
    ·subst hj; rw [iP rfl] at h; exact .inr ⟨off,rfl,h.symm⟩
    ·rw [iN hj] at h; exact .inl (by rw [<-h])
   all_goals (simp only [Rs,lk,iP hk] at h ⊢; exact .inl h)
  ·have ih:=Ua i qs r t lv
   cases x <;> (simp only [Rs,lk,iN hk] at h ⊢; exact ih h)
theorem Rt:∀ {cs:List LV} {qs:List PV},Rr cs=some qs->qs.length=cs.length
 | [],qs,h=>by simp only [Rr] at h; injection h with h; subst h; rfl
 | x::r,qs,h=>by
  simp only [Rr] at h
  split at h
  ·rename_i q qs' h1 h2
   injection h with h; subst h
   simp [Rt h2]
  ·cases h
theorem Ub:∀ {cs:List LV} {qs:List PV},Rr cs=some qs->∀j (h:j<cs.length) (h':j<qs.length),gV cs[j]=some qs[j]
 | [],_,_,j,h,_=>absurd h sM
 | x::r,qs,hq,j,h,h'=>by
  simp only [Rr] at hq
  split at hq
  ·rename_i q qs' h1 h2
   injection hq with hq; subst hq
   cases j with
   | zero=>exact h1
   | succ j=>exact Ub h2 j (by simpa using h) (by simpa using h')
  ·cases hq
theorem Yh{g:Gh}{l:LG}{w:World}{p:UL}{x:LV}{q:PV}{v:Value}(h:gV x=some q)(hr:Cq g l w p x v):BJ g w q v:=by
 cases x <;> simp only [gV] at h <;> first | (cases h; done) | (injection h with h; subst h) | (split at h; rename_i Ag; injection h with h; subst h; rotate_left; cases h)
 ·exact hr
 ·rename_i e z es; exact WL.rep (p:=p) (l:=l) (t := .v (.sl z es)) (s := .uniq e z es) (.inr ⟨rfl,pJ (by assumption)⟩) hr
 ·rename_i z es; exact WL.rep (p:=p) (l:=l) (t := .v (.sl z es)) (s := .full z es) (.inr ⟨rfl,rfl⟩) hr
theorem Bb.frz{cx:Cx}{s:S}{g:Gh}{l:LG}{a:Act}{w:World}(h:Bb cx s g l a w){i:Nat}{cs:List LV}{qs:List PV}(hb:lk s.boxes i=some cs)(hq:Rr cs=some qs) :
  ∃g' l',Bb cx ⟨Rs i qs s.tmps,del s.boxes i,s.ext⟩ g' l' a w:=by
 obtain ⟨b,h1,h2,h3,cur,e,h4,h5,h6⟩:=h.bx i cs hb
 let g':Gh:=⟨fun x=>if x=b then none else g.M x,g.X,g.Y⟩
 let l':LG:=⟨l.L,l.U,fun x=>if x=b then none else l.O x⟩
 have hm:C0 g w g' w:=⟨fun _ _ e=>e,fun b' o v hc hf=>⟨hc,fun k hk=>by
  simp only [g'] at hk
  split at hk
  ·cases hk
  ·exact hf k hk⟩,fun _ cur _ h=>⟨cur,h,rfl⟩,fun _ _ _ h=>h⟩
 have hO:∀ {b' o},l.O b'=some o->o ≠ .l i->b'≠b:=fun {b' o} ho D4 e0=>by
  subst e0; rw [h2] at ho; injection ho with ho; exact D4 ho.symm
 have hM:∀ {b'},b'≠b->g'.M b'=g.M b':=fun D4=>by simp only [g',iN D4]
 have hO':∀ {b' o},l.O b'=some o->o ≠ .l i->l'.O b'=some o:=fun ho D4=>by simp only [l',iN (hO ho D4)]; exact ho
 have hL:∀ {p lv v},Cq g l w p lv v->Cq g' l' w p lv v:=fun hr=>hr.BN hm (fun _ _ _=>rfl) fun b2 hu=>⟨hu,hM (hO (h.uo _ _ hu) (by intro e0; cases e0)),rfl⟩
 refine ⟨g',l',⟨⟨h.AV.mono.trans hm,h.AV.size,fun b' Ag ho=>?_,h.AV.os,h.AV.tape,h.AV.output,h.AV.JH.mono hm⟩,h.size,h.defers,fun t lv ht=>?_,fun j Ki hj=>?_,fun x Ki hx=>?_,fun b' o ho=>?_,fun p b' hu=>?_,⟨fun b' GY=>?_,h.fresh.2⟩,h.Gg⟩⟩
 ·obtain ⟨k1,k2⟩:=h.AV.frame b' Ag ho
  refine ⟨k1,?_⟩
  rw [hM]
  ·exact k2
  ·intro e0; subst e0
   rcases (h.own b' _ h2).2 with h7 | h7
   ·omega
   ·exact ho h7
 ·rcases Ua i qs s.tmps t lv ht with ht2 | ⟨off,ht2,rfl⟩
  ·exact hL (h.tm t lv ht2)
  ·obtain ⟨b',k1,k2⟩:=h.tm t (.lp i off) ht2
   rw [h1] at k1; injection k1 with k1; subst k1
   show BJ g' w (.ro qs off) _
   have hlen:=Rt hq
   have e9:(Value.pointer (some ⟨b,off,none⟩):Value) = .pointer (some ⟨b,0+off,none⟩):=by rw [Nat.zero_add]
   rw [k2,e9]
   refine .ro qs off b 0 (fun j=>cur.getD j undef) (fun j hj=>?_) (fun j hj k hk=>?_) (fun j hj=>(h6 j oM).2.1) fun j hj=>?_
   ·have Cu:j<cur.size:=by omega
    simp only [World.cell?,h4]
    simp [Cu]
   ·simp only [g'] at hk
    simp at hk
   ·exact (Yh (Ub hq j oM hj) (h6 j oM).2.2).mono hm
 ·rw [SB] at hj
  split at hj
  ·cases hj
  ·rename_i D4
   obtain ⟨b',k1,k2,k3,cur',e',k4,k5,k6⟩:=h.bx j Ki hj
   have hnj:(Own.l j) ≠ .l i:=by intro e0; injection e0 with e0; exact D4 e0.symm
   exact ⟨b',k1,hO' k2 hnj,(hM (hO k2 hnj)).trans k3,cur',e',k4,k5,fun j' Cu=>⟨(k6 j' Cu).1,(k6 j' Cu).2.1,hL (k6 j' Cu).2.2⟩⟩
 ·obtain ⟨b',k1,k2,hE⟩:=h.ex x Ki hx
  have hnx:(Own.x x) ≠ .l i:=by intro e0; cases e0
  refine ⟨b',k1.mono hm,hO' k2 hnx,?_⟩
  rcases hE with ⟨k3,cur',e',k4,k5,k6⟩ | hE
  ·exact .inl ⟨(hM (hO k2 hnx)).trans k3,cur',e',k4,k5,fun j' Cu=>⟨(k6 j' Cu).1,(k6 j' Cu).2.1,hL (k6 j' Cu).2.2⟩⟩
  ·exact .inr (hE.BN hm (fun _ _ _ k=>k) (hM (hO k2 hnx)) rfl)
 ·simp only [l'] at ho
  split at ho
  ·cases ho
  ·exact h.own b' o ho
 ·exact hO' (h.uo p b' hu) (by intro e0; cases e0)
 ·simp only [g']
  split
  ·rfl
  ·exact h.fresh.1 b' GY
theorem Ox.A9v{P:Program}{cx:Cx}{s:S}{o:Oper}{K:S->Prop}{Q:A5->S->Prop}{x:Operand}(h:Ox P cx (qQ s x) o K Q):Ox P cx s o K Q:=fun g l a w hs=>by
 unfold qQ at h
 split at h
 ·split at h
  ·split at h
   ·split at h
    ·rename_i hb _ _ hq
     obtain ⟨g',l',Sq⟩:=hs.frz hb hq
     exact h g' l' a w Sq
    ·exact h g l a w hs
   ·exact h g l a w hs
  ·exact h g l a w hs
 ·exact h g l a w hs
theorem Ox.frz{P:Program}{cx:Cx}{o:Oper}{K:S->Prop}{Q:A5->S->Prop}:∀ {l:List Operand} {s:S},Ox P cx (qR s l) o K Q->Ox P cx s o K Q
 | [],_,h=>h
 | _::_,_,h=>Ox.A9v (Ox.frz h)
def A13(P:Program)(ty:TypeId)(n:Nat)(o:Oper)(m:Operand)(s:S):SM (A5 × S):=match (PU P ty).isSome,o.dst with
 | true,some d=>if d<n then ((fX m).runM s).EZ fun i => .ret (.normal,{ s with tmps:=put s.tmps d (.v (.xp (DN s.ext) 0)),ext:=put s.ext (DN s.ext) [.mm (.it i)] }) else .bad 17
 | _,_ => .bad 18
def opX(P:Program)(md:Md)(n:Nat)(all:List Oper)(o:Oper)(s:S):SM (A5 × S):=match callee P o with
 | some r=>l7 o r s
 | none=>match o.op with
  | .alloc ty=>if (md.ro ty).isNone=true then (match TK P ty with | some zs=>gU n o zs s | none => .bad 14) else Wg P md.ro n all o s
  | .box ty x=>if (md.ro ty).isNone=true then ((A0u x).runM s).EZ fun cs=>gU n o cs s else Wg P md.ro n all o s
  | .panic x=>((A0t x).runM s).EZ fun p => .ret (.panic p,s)
  | .makeMap ty none=>mapM P ty n o s
  | .range ty m=>A13 P ty n o m s
  | .makeFunc _ _ captured=>Wg P md.ro n all o (qR s captured.toList)
  | .call ⟨.builtin .append,⟨[x,y]⟩,⟨[ty,fZ]⟩⟩=>if md.row ty=true/\ty=fZ then qP P n o ty x y s else Wg P md.ro n all o s
  | _=>Wg P md.ro n all o s
section
variable {P:Program} {cx:Cx} {s s':S} {Q:A5->S->Prop} {K:S->Prop} {o:Oper} {pe:A5} {md:Md} {all:List Oper} {sc C1:List Dg}
theorem FW{ro:TypeId->Option Bool}{K':A5 × S->List Dg->Prop}(h:(Wg P ro cx.n all o s).wp P sc K')(hk:∀pe s' C1,K' (pe,s') C1->Ic K Q pe s'):Ox P cx s o K Q:=fun g l a w hs=>by
 have h1:=RM.MV (U9 (SM.Bf h))
 refine Cz ?_ (FO hs h1 (post cx Q))
 rintro a' w' ⟨wr,g',l',⟨rd,MU,h2⟩,sm⟩
 exact ⟨_,g',l',hk _ _ _ (SM.wp_ret h2),sm⟩
theorem Ru{r:RM (FuncId × List PV)}{K':A5 × S->List Dg->Prop}(ho:callee P o=some r)(hd:∀d,o.dst=some d->d<cx.n)(h:(l7 o r s).wp P sc K')(hk:∀pe s' C1,K' (pe,s') C1->Ic K Q pe s'):Ox P cx s o K Q:=fun g l a w hs=>by
 have h1:=RM.DJ (SM.Bf h)
 refine FJ ho hd hs (RM.wp_mono ?_ h1)
 rintro ⟨f,args⟩ ⟨MU,h2⟩
 obtain ⟨res,e',pu,WV,h3,h4,h5,-⟩:=U8 (SM.Bf h2)
 refine ⟨h4,h5.mono ?_⟩
 rintro A9w e1 ⟨h6,h7⟩
 subst h6 h7
 cases A9w with
 | ret p=>exact hk _ _ _ (SM.wp_ret h3)
 | own te z es=>exact hk _ _ _ (SM.wp_ret h3)
 | panic p=>exact hk _ _ _ (SM.wp_ret h3)
theorem Rv{n:Nat}{cs:List PV}{K':A5 × S->List Dg->Prop}(h:(gU n o cs s).wp P sc K'):∃pe s',Wb n o cs s=some (pe,s')/\K' (pe,s') sc:=by
 unfold gU at h
 split at h
 ·rename_i r hr; exact ⟨r.1,r.2,hr,SM.wp_ret h⟩
 ·exact h.elim
theorem T9{ty:TypeId}{x y:Operand}{K':A5 × S->List Dg->Prop}(ho:o.op = .call ⟨.builtin .append,#[x,y],#[ty,ty]⟩)(h:(qP P cx.n o ty x y s).wp P sc K')(hk:∀pe s' C1,K' (pe,s') C1->Ic K Q pe s'):Ox P cx s o K Q:=fun g l0 a w hs=>by
 unfold qP at h
 split at h
 ·rename_i e d he hd
  split at h
  ·rename_i m B zs hm hB hz
   split at h
   ·rename_i hc
    obtain ⟨hn,Rb⟩:=hc
    split at h
    ·refine gM ho hd hn he hm hB hz Rb hs (RM.wp_mono ?_ (RM.DJ (SM.Bf h)))
     rintro ys ⟨MU,h2⟩
     obtain ⟨h3,h4⟩:=SM.JS h2
     exact ⟨of_decide_eq_true h3,hk _ _ _ h4⟩
    ·refine gO ho hd hn he hm hB hz Rb hs (RM.wp_mono ?_ (RM.DJ (SM.Bf h)))
     rintro ys ⟨MU,h2⟩
     obtain ⟨h3,h4⟩:=SM.JS h2
     exact ⟨of_decide_eq_true h3,hk _ _ _ h4⟩
    ·refine gP ho hd hn he hm hB hz Rb hs (RM.wp_mono ?_ (RM.DJ (SM.Bf h)))
     rintro ys ⟨MU,h2⟩
     obtain ⟨h3,h4⟩:=SM.JS h2
     exact ⟨of_decide_eq_true h3,hk _ _ _ h4⟩
    ·refine U2 ho hd hn he hm hB hz Rb hs (RM.wp_mono ?_ (RM.DJ (SM.Bf h)))
     rintro ys ⟨MU,h2⟩
     obtain ⟨h3,h4⟩:=SM.JS h2
     exact ⟨of_decide_eq_true h3,hk _ _ _ h4⟩
   ·exact h.elim
  ·exact h.elim
 ·exact h.elim
theorem Wh{K':A5 × S->List Dg->Prop}(hd:∀d,o.dst=some d->d<cx.n)(h:(opX P md cx.n all o s).wp P sc K')(hk:∀pe s' C1,K' (pe,s') C1->Ic K Q pe s'):Ox P cx s o K Q:=by
 unfold opX at h
 split at h
 ·rename_i r hr; exact Ru hr hd h hk
 ·split at h
  ·rename_i ty Jc
   split at h
   ·split at h
    ·rename_i zs hz
     obtain ⟨pe,s',hx,hK⟩:=Rv h
     intro g l a w hs
     obtain ⟨i,z,h1,h2,h3⟩:=F4 hz
     obtain ⟨hr,Ce,-⟩:=En (g:=g) (w:=w) h3
     exact I3 (ty:=ty) hs hr Ce (by simp [execOp,Jc,Instr.alloc,zeroValue,typeInfo,h1,h2,newVar,newRow]) hx (hk _ _ _ hK)
    ·exact h.elim
   ·exact FW h hk
  ·rename_i ty x Jc
   split at h
   ·intro g l0 a w hs
    obtain ⟨p,h1,r1⟩:=AL hs (RM.DJ (SM.Bf h))
    split at h1
    ·rename_i cs hc
     obtain ⟨MU,h2⟩:=h1
     obtain ⟨pe,s',hx,hK⟩:=Rv h2
     obtain ⟨hr,Ce⟩:=Ja hc r1
     exact I3 (ty:=ty) hs hr Ce (by simp [execOp,Jc,Instr.box,newVar,newRow]) hx (hk _ _ _ hK)
    ·exact h1.elim
   ·exact FW h hk
  ·rename_i x Jc
   intro g l0 a w hs
   obtain ⟨p',h1,r1⟩:=AL hs (RM.DJ (SM.Bf h))
   split at h1
   ·rename_i t q
    obtain ⟨MU,h2⟩:=h1
    have h3:=hk _ _ _ (SM.wp_ret h2)
    have Bz:∀v,a.eval x = .iface t v->(execOp a.eval o).run P w = .halt (.panic (.iface t v)) w:=fun v hv=>by
     simp [execOp,Jc,hv,Instr.panic,goPanic]
    generalize a.eval x=vx at r1 Bz
    cases r1 with
    | iface _ _ v hv=>
     unfold Oper.wp
     rw [Bz v rfl,Oper.upon_panic]
     exact ⟨.panic (.iface t q),s,g,l0,h3,⟨_,rfl,.iface _ _ _ hv⟩,hs⟩
   ·exact h1.elim
  ·rename_i ty Jc
   unfold mapM at h
   intro g l0 a w hs
   split at h
   ·rename_i d eS
    split at h
    ·rename_i hn
     unfold Oper.wp
     rw [show (execOp a.eval o).run P w = .ok (.value (.map (some w.heap.size))) (w.alloc (.map #[] 0)) by simp [execOp,Jc,Instr.makeMap,Result.andThen],Oper.upon_value,eS]
     obtain ⟨k1,-⟩:=hs.XZ (T2 P ty)
     exact ⟨_,_,_,hk _ _ _ (SM.wp_ret h),k1.set hn (.mp _ _ (Bt _ _ _))⟩
    ·exact h.elim
   ·exact h.elim
  ·rename_i ty m Jc
   unfold A13 at h
   intro g l0 a w hs
   split at h
   ·rename_i d hT eS
    split at h
    ·rename_i hn
     obtain ⟨i,bm,clock,⟨MU,h2⟩,hX,Ag,Bz⟩:=TX Jc hT hs (RM.DJ (SM.Bf h))
     unfold Oper.wp
     rw [Bz,Oper.upon_value,eS]
     obtain ⟨k1,-⟩:=hs.kP hX Ag
     exact ⟨_,_,_,hk _ _ _ (SM.wp_ret h2),k1.set hn (.xp _ _ _ (Bt _ _ _))⟩
    ·exact h.elim
   ·exact h.elim
  ·exact Ox.frz (FW h hk)
  ·rename_i x y ty fZ Jc
   split at h
   ·rename_i hc
    obtain ⟨-,rfl⟩:=hc
    exact T9 Jc h hk
   ·exact FW h hk
  ·exact FW h hk
end
def op1(P:Program)(md:Md)(n:Nat)(all:List Oper)(o:Oper)(s:S):Option S:=match callee P o with
 | some _=>none
 | none=>match (act P md.ro n all o).run s with
  | some [.tmp d lv]=>if o.dst=some d then some { s with tmps:=put s.tmps d lv } else none
  | _=>none
def und(all:List Oper)(K9:List Nat)(o:Oper)(s:S):Option (Nat × Nat × Bool):=match o.guard with
 | none=>none
 | some (j,_)=>match K9.contains j with
  | true=>none
  | false=>match (all[j]?).bind (·.dst) with
   | some dj=>match lk s.tmps dj with
    | some (.v (.bool b))=>some (j,dj,b)
    | _=>none
   | none=>none
def IQ(i0 j:Nat):List Oper->Nat
 | []=>0
 | o::r=>match o.guard with
  | some (g,_)=>if g=j∨i0<=g then IQ i0 j r+1 else 0
  | none=>0
def Yi{α:Type}:List Nat->List (Nat × α)->List (Nat × α)
 | [],l=>l
 | k::r,l=>Yi r (del l k)
def F0(ls:List Oper):List Nat:=ls.filterMap (·.dst)
def mst(m d:Nat)(ls:List Oper)(s:S)(lv:LV):S:={ s with tmps:=put (Yi (F0 (ls.take m)) s.tmps) d lv }
def Yj(rec:List Oper->S->Option S)(m d dj:Nat)(b:Bool)(ls:List Oper)(s:S):Option Bool:=
 match rec (ls.take m) { s with tmps:=put s.tmps dj (.v (.bool true)) },rec (ls.take m) { s with tmps:=put s.tmps dj (.v (.bool false)) } with
 | some s1,some s2=>match lk s1.tmps d,lk s2.tmps d with
  | some (.v (.bool x1)),some (.v (.bool x2))=>some (bif b then x1 else x2)
  | _,_=>none
 | _,_=>none
def Uc(P:Program)(md:Md)(n:Nat)(all:List Oper):Nat->List Nat->Nat->List Oper->S->Option S
 | 0,_,_,_,_=>none
 | _+1,_,_,[],s=>some s
 | f+1,K9,i,o::rest,s=>match und all K9 o s with
  | none=>match LD all o s with
   | some true=>match op1 P md n all o s with
    | some s'=>Uc P md n all f K9 (i+1) rest s'
    | none=>none
   | some false=>Uc P md n all f K9 (i+1) rest (s.skip o)
   | none=>none
  | some (j,dj,b)=>match ((o::rest)[IQ i j (o::rest)]?).bind (·.dst) with
   | some d=>match Yj (Uc P md n all f (j::K9) i) (IQ i j (o::rest)+1) d dj b (o::rest) s with
    | some x=>Uc P md n all f K9 (i+(IQ i j (o::rest)+1)) ((o::rest).drop (IQ i j (o::rest)+1)) (mst (IQ i j (o::rest)+1) d (o::rest) s (.v (.bool x)))
    | none=>none
   | none=>none
section
variable {P:Program} {cx:Cx} {s s' t:S} {Q:A5->S->Prop} {md:Md} {all:List Oper}
theorem Qd{α:Type}:∀ (ks:List Nat) (l:List (Nat × α)) (u:Nat) (v:α),lk (Yi ks l) u=some v->¬u∈ks/\lk l u=some v
 | [],_,_,_,h=>⟨by simp,h⟩
 | k::r,l,u,v,h=>by
  obtain ⟨h1,h2⟩:=Qd r (del l k) u v h
  rw [SB] at h2
  split at h2
  ·cases h2
  ·rename_i hk
   exact ⟨by simp only [List.mem_cons,not_or]; exact ⟨fun e=>hk e.symm,h1⟩,h2⟩
theorem Ud{α:Type}:∀ (ks:List Nat) (l:List (Nat × α)) (u:Nat),¬u∈ks->lk (Yi ks l) u=lk l u
 | [],_,_,_=>rfl
 | k::r,l,u,h=>by
  simp only [List.mem_cons,not_or] at h
  rw [Yi,Ud r (del l k) u h.2,SB,iN (fun e=>h.1 e.symm)]
def Kp(ks:List Nat)(s s':S):Prop:=s'.boxes=s.boxes/\s'.ext=s.ext/\∀k,¬k∈ks->lk s'.tmps k=lk s.tmps k
theorem Yk{o:Oper}(h:op1 P md cx.n all o s=some s'):Kp (F0 [o]) s s':=by
 unfold op1 at h
 split at h
 ·cases h
 ·split at h
  ·split at h
   ·rename_i d lv _ hd
    injection h with h; subst h
    exact ⟨rfl,rfl,fun k hk=>Em _ _ _ _ (fun e=>hk (by simp [F0,hd,e]))⟩
   ·cases h
  ·cases h
theorem Ue{o:Oper}:Kp (F0 [o]) s (s.skip o):=by
 unfold S.skip
 split
 ·rename_i d hd; exact ⟨rfl,rfl,fun k hk=>Em _ _ _ _ (fun e=>hk (by simp [F0,hd,e]))⟩
 ·exact ⟨rfl,rfl,fun _ _=>rfl⟩
theorem Yl{rec:List Oper->S->Option S}{m d dj:Nat}{b x:Bool}{ls:List Oper}(h:Yj rec m d dj b ls s=some x) :
  ∃s1 s2 x1 x2,rec (ls.take m) { s with tmps:=put s.tmps dj (.v (.bool true)) }=some s1/\rec (ls.take m) { s with tmps:=put s.tmps dj (.v (.bool false)) }=some s2/\lk s1.tmps d=some (.v (.bool x1))/\lk s2.tmps d=some (.v (.bool x2)) /\
   x=(bif b then x1 else x2):=by
 unfold Yj at h
 split at h
 ·rename_i s1 s2 h1 h2
  split at h
  ·rename_i x1 x2 h3 h4
   injection h with h
   exact ⟨s1,s2,x1,x2,h1,h2,h3,h4,h.symm⟩
  ·cases h
 ·cases h
theorem MW:∀ (f:Nat) (K9:List Nat) (i:Nat) (ls:List Oper) (s s':S),Uc P md cx.n all f K9 i ls s=some s'->s'.boxes=s.boxes/\s'.ext=s.ext/\∀k v,¬k∈F0 ls->lk s'.tmps k=some v->lk s.tmps k=some v
 | 0,_,_,_,_,_,h=>by cases h
 | _+1,_,_,[],s,s',h=>by simp only [Uc] at h; injection h with h; subst h; exact ⟨rfl,rfl,fun _ _ _ h=>h⟩
 | f+1,K9,i,o::rest,s,s',h=>by
  have hd:∀x,x∈F0 [o]->x∈F0 (o::rest):=fun x hx=>by
   rw [show o::rest=[o]++rest by rfl,F0,List.filterMap_append,List.mem_append]; exact .inl hx
  have hr:∀x,x∈F0 rest->x∈F0 (o::rest):=fun x hx=>by
   rw [show o::rest=[o]++rest by rfl,F0,List.filterMap_append,List.mem_append]; exact .inr hx
  simp only [Uc] at h
  split at h
  ·split at h
   ·split at h
    ·rename_i s1 h1
     have k1:=Yk h1
     obtain ⟨k2,k3,k4⟩:=MW f K9 (i+1) rest s1 s' h
     exact ⟨k2.trans k1.1,k3.trans k1.2.1,fun k v hk hv=>by rw [<-k1.2.2 k (fun e=>hk (hd _ e))]; exact k4 k v (fun e=>hk (hr _ e)) hv⟩
    ·cases h
   ·have k1:=Ue (s:=s) (o:=o)
    obtain ⟨k2,k3,k4⟩:=MW f K9 (i+1) rest _ s' h
    exact ⟨k2.trans k1.1,k3.trans k1.2.1,fun k v hk hv=>by rw [<-k1.2.2 k (fun e=>hk (hd _ e))]; exact k4 k v (fun e=>hk (hr _ e)) hv⟩
   ·cases h
  ·rename_i j dj b hu
   split at h
   ·rename_i d FA
    split at h
    ·rename_i s1 h1
     obtain ⟨k2,k3,k4⟩:=MW f K9 _ _ _ s' h
     refine ⟨k2,k3,fun k v hk hv=>?_⟩
     unfold mst at k4
     have Ym:¬k∈F0 ((o::rest).drop (IQ i j (o::rest)+1)):=fun e=>hk (by
      unfold F0 at e ⊢
      obtain ⟨x,hx,Ao⟩:=List.mem_filterMap.1 e
      exact List.mem_filterMap.2 ⟨x,List.mem_of_mem_drop hx,Ao⟩)
     have h5:=k4 k v Ym hv
     simp only at h5
     have hkd:d≠k:=fun e=>hk (by
      subst e
      cases hg:(o::rest)[IQ i j (o::rest)]? with
      | none=>rw [hg] at FA; cases FA
      | some q=>rw [hg] at FA; exact List.mem_filterMap.2 ⟨q,List.mem_of_getElem? hg,FA⟩)
     rw [Em _ _ _ _ hkd] at h5
     exact (Qd _ _ _ _ h5).2
    ·cases h
   ·cases h
theorem Yn{ls:Array Oper}{l:List Oper}(hs:∀g l a w,Bb cx s g l a w->Bb cx t g l a w)(h:PL P cx ls l t Q):PL P cx ls l s Q:=fun g l a w k=>h g l a w (hs g l a w k)
theorem Yo{K9:List Nat}{o:Oper}{j dj:Nat}{b:Bool}(h:und all K9 o s=some (j,dj,b)):lk s.tmps dj=some (.v (.bool b)):=by
 unfold und at h
 split at h
 ·cases h
 ·split at h
  ·cases h
  ·split at h
   ·split at h
    ·rename_i hb
     injection h with h
     injection h with h1 h2
     injection h2 with h2 h3
     subst h2 h3; exact hb
    ·cases h
   ·cases h
theorem MX{rec:List Oper->S->Option S}{m d dj:Nat}{b x:Bool}{ls R:List Oper}(hb:lk s.tmps dj=some (.v (.bool b)))
  (qH:∀s s',rec (ls.take m) s=some s'->(∀Q,PL P cx all.toArray R s' Q->PL P cx all.toArray (ls.take m++R) s Q)/\s'.boxes=s.boxes/\s'.ext=s.ext/\∀k v,¬k∈F0 (ls.take m)->lk s'.tmps k=some v->lk s.tmps k=some v)
  (A14:∀s s',rec (ls.take m) s=some s'->∀k v,¬k∈F0 (ls.take m)->lk s.tmps k=some v->lk s'.tmps k=some v)
  (h:Yj rec m d dj b ls s=some x) (hQ:PL P cx all.toArray R (mst m d ls s (.v (.bool x))) Q):PL P cx all.toArray (ls.take m++R) s Q:=by
 obtain ⟨s1,s2,x1,x2,h1,h2,h3,h4,rfl⟩:=Yl h
 have l9:∀v,b=v->∀k,lk (put s.tmps dj (.v (.bool v))) k=lk s.tmps k:=fun v hv k=>by
  rw [Be]; split
  ·rename_i e; subst e; rw [hb,hv]
  ·rfl
 have go:∀v r x,b=v->rec (ls.take m) { s with tmps:=put s.tmps dj (.v (.bool v)) }=some r->lk r.tmps d=some (.v (.bool x))->(bif b then x1 else x2)=x->PL P cx all.toArray (ls.take m++R) s Q:=fun v r x hv hr hd hx=>by
  obtain ⟨k1,k2,k3,-⟩:=qH _ _ hr
  refine Yn (t:={ s with tmps:=put s.tmps dj (.v (.bool v)) }) (fun g l a w sm=>sm.congr (l9 v hv) (fun _=>rfl) (fun _=>rfl)) (k1 Q ?_)
  refine Yn (fun g l a w sm=>sm.eM (fun k u hk => .inr ?_) (fun k u hk=>⟨u,by rw [k2]; exact hk,F7.refl u⟩) (fun k u hk=>⟨u,by rw [k3]; exact hk,F7.refl u⟩) (by rw [k3]; exact Nat.le_refl _)) hQ
  unfold mst at hk
  simp only at hk
  rw [Be] at hk
  split at hk
  ·rename_i e; subst e; injection hk with hk; subst hk; rw [hx]; exact ⟨_,hd,WL.refl _⟩
  ·obtain ⟨k4,k5⟩:=Qd _ _ _ _ hk
   exact ⟨u,A14 _ _ hr k u k4 (by rw [<-k5]; exact l9 v hv k),WL.refl _⟩
 cases b with
 | true=>exact go true s1 x1 rfl h1 h3 rfl
 | false=>exact go false s2 x2 rfl h2 h4 rfl
theorem IS:∀ (f:Nat) (K9:List Nat) (i:Nat) (ls:List Oper) (s s':S),Uc P md cx.n all f K9 i ls s=some s'->∀k v,¬k∈F0 ls->lk s.tmps k=some v->lk s'.tmps k=some v
 | 0,_,_,_,_,_,h=>by cases h
 | _+1,_,_,[],s,s',h=>by simp only [Uc] at h; injection h with h; subst h; exact fun _ _ _ h=>h
 | f+1,K9,i,o::rest,s,s',h=>by
  have hd:∀x,x∈F0 [o]->x∈F0 (o::rest):=fun x hx=>by
   rw [show o::rest=[o]++rest by rfl,F0,List.filterMap_append,List.mem_append]; exact .inl hx
  have hr:∀x,x∈F0 rest->x∈F0 (o::rest):=fun x hx=>by
   rw [show o::rest=[o]++rest by rfl,F0,List.filterMap_append,List.mem_append]; exact .inr hx
  simp only [Uc] at h
  split at h
  ·split at h
   ·split at h
    ·rename_i s1 h1
     have k1:=Yk h1
     exact fun k v hk hv=>IS f K9 (i+1) rest s1 s' h k v (fun e=>hk (hr _ e)) (by rw [k1.2.2 k (fun e=>hk (hd _ e))]; exact hv)
    ·cases h
   ·have k1:=Ue (s:=s) (o:=o)
    exact fun k v hk hv=>IS f K9 (i+1) rest _ s' h k v (fun e=>hk (hr _ e)) (by rw [k1.2.2 k (fun e=>hk (hd _ e))]; exact hv)
   ·cases h
  ·rename_i j dj b hu
   split at h
   ·rename_i d FA
    split at h
    ·rename_i s1 h1
     intro k v hk hv
     have Ym:¬k∈F0 ((o::rest).drop (IQ i j (o::rest)+1)):=fun e=>hk (by
      unfold F0 at e ⊢
      obtain ⟨x,hx,Ao⟩:=List.mem_filterMap.1 e
      exact List.mem_filterMap.2 ⟨x,List.mem_of_mem_drop hx,Ao⟩)
     have X8:¬k∈F0 ((o::rest).take (IQ i j (o::rest)+1)):=fun e=>hk (by
      unfold F0 at e ⊢
      obtain ⟨x,hx,Ao⟩:=List.mem_filterMap.1 e
      exact List.mem_filterMap.2 ⟨x,List.mem_of_mem_take hx,Ao⟩)
     refine IS f K9 _ _ _ s' h k v Ym ?_
     have hkd:d≠k:=fun e=>hk (by
      subst e
      cases hg:(o::rest)[IQ i j (o::rest)]? with
      | none=>rw [hg] at FA; cases FA
      | some q=>rw [hg] at FA; exact List.mem_filterMap.2 ⟨q,List.mem_of_getElem? hg,FA⟩)
     unfold mst
     simp only
     rw [Em _ _ _ _ hkd,Ud _ _ _ X8]
     exact hv
    ·cases h
   ·cases h
theorem Ht(Bw:Er cx.n all=true):∀ (f:Nat) (K9:List Nat) (i:Nat) (ls:List Oper) (s s':S),(∀o∈ls,o∈all)->Uc P md cx.n all f K9 i ls s=some s'->∀ (R:List Oper) Q,PL P cx all.toArray R s' Q->PL P cx all.toArray (ls++R) s Q
 | 0,_,_,_,_,_,_,h=>by cases h
 | _+1,_,_,[],s,s',_,h=>by simp only [Uc] at h; injection h with h; subst h; exact fun _ _ h=>h
 | f+1,K9,i,o::rest,s,s',hm,h=>fun R Q hQ=>by
  have EM:∀o∈rest,o∈all:=fun o ho=>hm o (List.mem_cons_of_mem _ ho)
  have hd:∀d,o.dst=some d->d<cx.n:=Dk Bw (hm o sM)
  simp only [Uc] at h
  split at h
  ·split at h
   ·rename_i hw
    split at h
    ·rename_i s1 h1
     have ih:=Ht Bw f K9 (i+1) rest s1 s' EM h R Q hQ
     intro g l0 a w hs
     refine wpList_step fun K hK=>?_
     rw [iP (DH Bw hw hs)]
     unfold op1 at h1
     split at h1
     ·cases h1
     ·split at h1
      ·rename_i d lv Bz
       split at h1
       ·injection h1 with h1
        refine Cz ?_ (FO (K:=fun x=>x=[.tmp d lv]) hs (RM.Fw Bz rfl) (post cx Q))
        rintro a' w' ⟨wr,g',l',rfl,sm⟩
        subst h1
        exact hK _ _ (ih g' l' a' w' sm)
       ·cases h1
      ·cases h1
    ·cases h
   ·rename_i hw
    have ih:=Ht Bw f K9 (i+1) rest _ s' EM h R Q hQ
    intro g l0 a w hs
    refine wpList_step fun K hK=>?_
    rw [iN (by rw [DH Bw hw hs]; simp)]
    refine hK _ _ (ih g l0 _ w ?_)
    cases FA:o.dst with
    | none=>simp only [S.skip,FA,Act.put]; exact hs
    | some d=>
     simp only [S.skip,FA]
     exact hs.set (hd d FA) (.AE [] [] rfl fun j h=>by simp at h)
   ·cases h
  ·rename_i j dj b hu
   split at h
   ·rename_i d FA
    split at h
    ·rename_i s1 h1
     have htd:∀ (l:List Oper) (m:Nat),l++R=l.take m++(l.drop m++R):=fun l m=>by rw [<-List.append_assoc,List.take_append_drop]
     rw [htd (o::rest) (IQ i j (o::rest)+1)]
     refine MX (Yo hu) (fun t t' ht=>⟨fun Q' hQ'=>Ht Bw f (j::K9) i _ t t' (fun q hq=>hm q (List.mem_of_mem_take hq)) ht _ Q' hQ',MW f (j::K9) i _ t t' ht⟩) (fun t t' ht=>IS f (j::K9) i _ t t' ht) h1 ?_
     exact Ht Bw f K9 _ _ _ s' (fun q hq=>hm q (List.mem_of_mem_drop hq)) h R Q hQ
    ·cases h
   ·cases h
end
def qS(P:Program)(md:Md)(n:Nat)(all ls:List Oper)(s:S):SM (Option (Nat × S))
 | .mrg::sc=>match ls with
  | [] => .ok none (.mrg::sc) []
  | o::_=>match und all [] o s with
   | some (j,dj,b)=>match (ls[IQ (all.length - ls.length) j ls]?).bind (·.dst) with
    | some d=>match Yj (Uc P md n all 200 [j] (all.length - ls.length)) (IQ (all.length - ls.length) j ls+1) d dj b ls s with
     | some x=>((gQ (.v (.bool x))).EZ fun lv => .ret (some (IQ (all.length - ls.length) j ls+1,mst (IQ (all.length - ls.length) j ls+1) d ls s lv))) sc
     | none => .no (.bad 32)
    | none => .no (.bad 33)
   | none => .ok none (.mrg::sc) []
 | sc => .ok none sc []
theorem gW{P:Program}{cx:Cx}{s:S}{Q:A5->S->Prop}{md:Md}{all ls:List Oper}{sc:List Dg}{K':Option (Nat × S)->List Dg->Prop}(Bw:Er cx.n all=true)(hm:∀o∈ls,o∈all)(h:(qS P md cx.n all ls s).wp P sc K') :
  (∃C1,K' none C1)∨∃m s' C1,K' (some (m+1,s')) C1/\(PL P cx all.toArray (ls.drop (m+1)) s' Q->PL P cx all.toArray ls s Q):=by
 unfold SM.wp qS at h
 split at h
 ·split at h
  ·exact .inl ⟨_,h.2⟩
  ·rename_i o r
   split at h
   ·rename_i j dj b hu
    split at h
    ·rename_i d FA
     split at h
     ·rename_i x h1
      obtain ⟨C1,h2⟩:=U7 (SM.Bf (show SM.wp _ (SM.EZ _ _) _ _ from h))
      refine .inr ⟨_,_,_,SM.wp_ret h2,fun hQ=>?_⟩
      rw [<-List.take_append_drop (IQ (all.length - (o::r).length) j (o::r)+1) (o::r)]
      exact MX (Yo hu) (fun t t' ht=>⟨fun Q' hQ'=>Ht Bw _ _ _ _ t t' (fun q hq=>hm q (List.mem_of_mem_take hq)) ht _ Q' hQ',MW _ _ _ _ t t' ht⟩) (fun t t' ht=>IS _ _ _ _ t t' ht) h1 hQ
     ·exact h.elim
    ·exact h.elim
   ·exact .inl ⟨_,h.2⟩
 ·exact .inl ⟨_,h.2⟩
section
variable {P:Program} {cx:Cx} {s s':S} {Q:A5->S->Prop} {K:S->Prop} {o:Oper} {pe:A5} {md:Md} {all:List Oper} {sc C1:List Dg}
def Yp(all:List Oper)(o:Oper)(s:S):SM Bool:=match o.guard with
 | none => .ret true
 | some (j,want)=>match (all[j]?).bind (·.dst) with
  | some dj=>match lk s.tmps dj with
   | some (.v (.bool b))=>(We b).EZ fun v => .ret (v==want)
   | some (.v (.AE _)) => .ret false
   | _ => .bad 20
  | none => .bad 21
theorem Yq{K':Bool->List Dg->Prop}(h:(Yp all o s).wp P sc K'):∃b C1,LD all o s=some b/\K' b C1:=by
 unfold Yp at h
 unfold LD
 split at h
 ·rename_i hg; rw [hg]; exact ⟨_,_,rfl,SM.wp_ret h⟩
 ·rename_i j want hg
  rw [hg]
  split at h
  ·rename_i dj T1
   simp only [T1]
   split at h
   ·rename_i b hb
    obtain ⟨C1,h1⟩:=M8 (SM.Bf h)
    exact ⟨_,_,by rw [hb]; rfl,SM.wp_ret h1⟩
   ·rename_i vs hb
    exact ⟨_,_,by rw [hb]; rfl,SM.wp_ret h⟩
   ·exact h.elim
  ·exact h.elim
def Rw(P:Program)(md:Md)(n:Nat)(all:List Oper):List Oper->Nat->S->SM (A5 × S)
 | [],_,s => .ret (.normal,s)
 | _::rest,k+1,s=>Rw P md n all rest k s
 | o::rest,0,s=>(qS P md n all (o::rest) s).EZ fun m=>match m with
  | some (m,s')=>Rw P md n all rest (m - 1) s'
  | none=>(Yp all o s).EZ fun b=>match b with
   | true=>(SM.tag o s (opX P md n all o s)).EZ fun r=>match r with
    | (.normal,s')=>Rw P md n all rest 0 s'
    | r => .ret r
   | false=>Rw P md n all rest 0 (s.skip o)
theorem Fb{K':A5 × S->List Dg->Prop}(Bw:Er cx.n all=true)(hk:∀pe s' C1,K' (pe,s') C1->Q pe s'):∀ {ls:List Oper} {k:Nat} {s:S} {sc:List Dg},(∀o∈ls,o∈all)->(Rw P md cx.n all ls k s).wp P sc K'->PL P cx all.toArray (ls.drop k) s Q
 | [],_,s,sc,_,h=>by rw [List.drop_nil]; exact MD (hk _ _ _ (SM.wp_ret h))
 | o::rest,k+1,s,sc,hm,h=>by
  rw [List.drop_succ_cons]
  exact Fb Bw hk (fun o ho=>hm o (List.mem_cons_of_mem _ ho)) h
 | o::rest,0,s,sc,hm,h=>by
  have hd:∀d,o.dst=some d->d<cx.n:=Dk Bw (hm o sM)
  have EM:∀o∈rest,o∈all:=fun o ho=>hm o (List.mem_cons_of_mem _ ho)
  simp only [Rw] at h
  rw [List.drop_zero]
  rcases gW (Q:=Q) Bw hm (SM.Bf h) with ⟨sc0,h0⟩ | ⟨m,s',C1,h0,h1⟩
  ·intro g l0 a w hs
   obtain ⟨b,MU,hw,h1⟩:=Yq (SM.Bf h0)
   have DG:=DH Bw hw hs
   refine wpList_step fun K hK=>?_
   cases b with
   | true=>
    rw [iP DG]
    have h2:=SM.Yf (SM.Bf h1)
    refine Cz ?_ (Wh (Q:=Q) (K:=fun s'=>PL P cx all.toArray rest s' Q) hd h2 (fun pe s' C1 h3=>?_) g l0 a w hs)
    ·rintro a' w' ⟨s',g',l',hp,sm⟩
     exact hK _ _ (hp g' l' a' w' sm)
    ·cases pe with
     | normal=>exact Fb (k:=0) Bw hk EM h3
     | exit _=>exact hk _ _ _ (SM.wp_ret h3)
     | ret=>exact hk _ _ _ (SM.wp_ret h3)
     | panic _=>exact hk _ _ _ (SM.wp_ret h3)
   | false=>
    rw [iN (by rw [DG]; simp)]
    refine hK _ _ (Fb (k:=0) Bw hk EM h1 g l0 _ w ?_)
    cases FA:o.dst with
    | none=>simp only [S.skip,FA,Act.put]; exact hs
    | some d=>
     simp only [S.skip,FA]
     exact hs.set (hd d FA) (.AE [] [] rfl fun j h=>by simp at h)
  ·refine h1 ?_
   have:=Fb (ls:=rest) (k:=m) Bw hk EM h0
   rw [List.drop_succ_cons]; exact this
theorem Ta{K':A5 × S->List Dg->Prop}(Bw:Er cx.n all=true)(hk:∀pe s' C1,K' (pe,s') C1->Q pe s'){ls:List Oper}{s:S}{sc:List Dg}(hm:∀o∈ls,o∈all)(h:(Rw P md cx.n all ls 0 s).wp P sc K'):PL P cx all.toArray ls s Q:=Fb (k:=0) Bw hk hm h
end
def A15:LV := .v (.sl 1 [[]])
def Jl:Ext:=[(0,[A15])]
theorem Lc{cx:Cx}{s:S}{g:Gh}{l:LG}{a:Act}{w:World}(h:Bb cx s g l a w)(he:s.ext=Jl):False:=by
 obtain ⟨b,-,-,hE⟩:=h.ex 0 [A15] (by rw [he]; rfl)
 rcases hE with ⟨-,cur,t,-,-,k⟩ | ⟨es,hE,-⟩ | ⟨n,c,ps,-,hE,-⟩
 rotate_left
 ·exact hE
 ·injection hE with hE _; cases hE
 have:=(k 0 sM).2.2
 have h2:BJ g w (.sl 1 [[]]) (cur.getD 0 undef):=this
 generalize cur.getD 0 undef=v at h2
 cases h2 with
 | sl _ _ _ _ _ _ _ Bq=>exact absurd (Bq 0 sM) sM
theorem Bb.bare{cx:Cx}{s:S}{g:Gh}{l:LG}{a:Act}{w:World}(h:Bb cx s g l a w):Bb cx ⟨[],[],s.ext⟩ g l a w where
 AV:=h.AV
 size:=h.size
 defers:=h.defers
 tm t lv ht:=by simp [lk] at ht
 bx i cs hi:=by simp [lk] at hi
 ex:=h.ex
 own:=h.own
 uo:=h.uo
 fresh:=h.fresh
 Gg:=h.Gg
def Qx(cx:Cx)(Q:A5->S->Prop):A5->S->Prop
 | .panic p,s=>∃t,(∀g l a w,Bb cx s g l a w->Bb cx t g l a w)/\Q (.panic p) t
 | .normal,s=>s.ext=Jl∨Q .normal s
 | pe,s=>Q pe s
theorem Rx{P:Program}{cx:Cx}{c:Code}{s:S}{Q:A5->S->Prop}(h:PW P cx c s (Qx cx Q)):PW P cx c s Q:=fun g l a w hs=>by
 refine wp_mono (h g l a w hs) ?_
 rintro e a' w' ⟨pe,s',g',l',q,er,sm⟩
 cases pe with
 | normal=>
  rcases q with q | q
  ·exact (Lc sm q).elim
  ·exact ⟨.normal,s',g',l',q,er,sm⟩
 | exit i=>exact ⟨.exit i,s',g',l',q,er,sm⟩
 | ret=>exact ⟨.ret,s',g',l',q,er,sm⟩
 | panic p=>
  obtain ⟨t,h1,h2⟩:=q
  exact ⟨.panic p,t,g',l',h2,er,h1 _ _ _ _ sm⟩
section
variable {P:Program} {cx:Cx} {s s':S} {Q:A5->S->Prop} {o:Oper} {md:Md} {all:List Oper} {sc C1:List Dg}
theorem Ry{id:Nat}{ops:List Oper}{B7:List DS}{xs:List Ext}{t:S}(hm:P.follows .mixedOrders=true)(hch:IP P cx ops.toArray Q ops B7 xs s t)(hc:WS ops B7 s.tmps=true)(hq:Q .normal t):PW P cx (.region id ops.toArray true) s Q:=by
 obtain ⟨k1,k2,k3⟩:=hch.at_
 have hT:∀i,sT s B7 (fun k=>(s.ext::xs).getD k []) i=U1 s B7 xs i:=fun i=>by
  unfold sT U1
  have h1:=Hq B7 0 i
  have h2:=Ei B7 0 i
  simp only [Nat.zero_add] at h1 h2
  rw [h1,h2]
 refine Q6 (B7:=B7) (e:=fun k=>(s.ext::xs).getD k []) hm hc k1 rfl ?_ fun i o d ho hd=>?_
 ·have h1:=hT B7.length
  have h2:sD s B7 (fun k=>(s.ext::xs).getD k []) (fun _=>true)=sT s B7 (fun k=>(s.ext::xs).getD k []) B7.length:=by
   unfold sD sT
   rw [Dt (D:=fun _=>true) (D':=fun j=>decide (j<B7.length)) (B7:=B7) (k:=0) fun j _ hj=>by simp at hj; simp [hj]]
   rw [Ea (D:=fun _=>true) (D':=fun j=>decide (j<B7.length)) (B7:=B7) (k:=0) fun j d' hj _=>by
    have:=(List.getElem?_eq_some_iff.1 hj).1
    simp [this]]
  rw [h2,h1,<-k2]
  exact hq
 ·obtain ⟨e',h1,h2⟩:=k3 i o d ho hd
  rw [hT]
  have hk:Dy (fun j=>decide (j<i)) 0 B7=(B7.take i).countP (·.DO):=by
   have:=Ei B7 0 i
   simpa using this
  rw [hk]
  intro s' k OY kO Sr IE
  obtain ⟨-,XU,-⟩:=JO hc hd
  have:=h1 XU s' OY (fun hx=>by rw [Sr,kO hx]; rfl) IE
  refine this.of (fun p hp=>?_) ?_
  ·cases p <;> first | rfl | cases hp
  ·simp only
   cases WU:d.DO with
   | true=>
    have L7:=kO (by simp [DS.xf,WU])
    rw [L7,h2 WU]
    rfl
   | false=>simp only [Bool.false_eq_true,if_false,Nat.add_zero]; exact Sr.symm
abbrev Pk:=Option (PV × Ext)
def Yr(P:Program)(ro:TypeId->Option Bool)(n:Nat)(all:List Oper)(o:Oper)(gr:List Loc)(s:S):SM (DS × Option Ext × S × Pk):=match callee P o with
 | some r=>(r.FV s).EZ fun x=>(gR x.1.1 x.1.2 s.ext).EZ fun y=>match y with
  | (.ret p,e,true) => .ret (⟨gr++x.2,Dn o (.v p),false⟩,none,s.Dm (Dn o (.v p)),none)
  | (.ret p,e,false) => .ret (⟨gr++x.2,Dn o (.v p),true⟩,some e,{ s.Dm (Dn o (.v p)) with ext:=e },none)
  | (.own te z es,e,true) => .ret (⟨gr++x.2,Dn o (.uniq te z es),false⟩,none,s.Dm (Dn o (.uniq te z es)),none)
  | (.own te z es,e,false) => .ret (⟨gr++x.2,Dn o (.uniq te z es),true⟩,some e,{ s.Dm (Dn o (.uniq te z es)) with ext:=e },none)
  | (.panic p,e,_) => .ret (⟨gr++x.2,[],true⟩,some Jl,{ s with ext:=Jl },some (p,e))
 | none=>(gT P ro n all o s).EZ fun x=>if x.1.any Q7=true then .ret (⟨gr++x.2,x.1.filter CY,true⟩,some (Iv s.ext x.1),{ s.Dm (x.1.filter CY) with ext:=Iv s.ext x.1 },none)
   else .ret (⟨gr++x.2,x.1,false⟩,none,s.Dm x.1,none)
theorem RM.Jf{α:Type}:∀ {r:RM α} {K:α->List Loc->Prop},r.I1 s K->∃a rd,K a rd/\∀K':α->List Loc->Prop,K' a rd->r.I1 s K'
 | .ret a,K,h=>⟨a,[],h,fun _ h=>h⟩
 | .fail,_,h=>h.elim
 | .It t k,K,h=>by
  simp only [RM.I1] at h ⊢
  split at h
  ·obtain ⟨a,rd,h1,h2⟩:=RM.Jf h
   exact ⟨a,_,h1,fun K' hk=>h2 _ hk⟩
  ·exact h.elim
 | .Iu t k,K,h=>by
  simp only [RM.I1] at h ⊢
  split at h
  ·obtain ⟨a,rd,h1,h2⟩:=RM.Jf h
   exact ⟨a,_,h1,fun K' hk=>h2 _ hk⟩
  ·exact h.elim
 | .E6 t k,K,h=>by
  simp only [RM.I1] at h ⊢
  split at h
  ·obtain ⟨a,rd,h1,h2⟩:=RM.Jf h
   exact ⟨a,_,h1,fun K' hk=>h2 _ hk⟩
  ·exact h.elim
 | .assume p k,K,h=>by
  obtain ⟨a,rd,h1,h2⟩:=RM.Jf h.2
  exact ⟨a,rd,h1,fun K' hk=>⟨h.1,h2 _ hk⟩⟩
theorem Rz{gr:List Loc}{ro:TypeId->Option Bool}{K':DS × Option Ext × S × Pk->List Dg->Prop}(hd:∀d,o.dst=some d->d<cx.n)
  (DG:∀s',(∀l∈gr,s'.get l=s.get l)->∀g l a w,Bb cx s' g l a w->Region.wanted o (yielded all.toArray a.tmps)=true) (h:(Yr P ro cx.n all o gr s).wp P sc K') :
  ∃d x s' pk C1,K' (d,x,s',pk) C1/\d.DO=x.isSome/\s'={ s.Dm d.ws with ext:=x.getD s.ext }/\(pk.isSome=true->x=some Jl)/\((∀p e,pk=some (p,e)->Q (.panic p) ⟨[],[],e⟩)->T0 P cx all.toArray (Qx cx Q) o d s (x.getD s.ext)):=by
 have plain:(∃C1,FU P ro cx.n all o gr s fun d x s'=>K' (d,x,s',none) C1)∨FU P ro cx.n all o gr s (fun d x s'=>∃C1,K' (d,x,s',none) C1)->∃d x s' pk C1,K' (d,x,s',pk) C1/\d.DO=x.isSome/\s'={ s.Dm d.ws with ext:=x.getD s.ext }/\(pk.isSome=true->x=some Jl)/\((∀p e,pk=some (p,e)->Q (.panic p) ⟨[],[],e⟩)->T0 P cx all.toArray (Qx cx Q) o d s (x.getD s.ext)):=by
  rintro (⟨C1,IF⟩ | IF)
  ·obtain ⟨d,x,s',hk,he,Sq,hl⟩:=Fa (Q:=Qx cx Q) hd DG IF
   exact ⟨d,x,s',none,C1,hk,he,Sq,fun h=>by simp at h,fun _=>hl⟩
  ·obtain ⟨d,x,s',⟨C1,hk⟩,he,Sq,hl⟩:=Fa (Q:=Qx cx Q) hd DG IF
   exact ⟨d,x,s',none,C1,hk,he,Sq,fun h=>by simp at h,fun _=>hl⟩
 unfold Yr at h
 split at h
 ·rename_i r hr
  obtain ⟨⟨f,args⟩,rd,⟨MU,h1⟩,Tb⟩:=RM.Jf (RM.DZ (SM.Bf h))
  obtain ⟨res,e',pu,C1,hK,Lz,hC,hpu⟩:=U8 (SM.Bf h1)
  cases res with
  | panic p=>
   refine ⟨_,_,_,_,_,SM.wp_ret hK,rfl,rfl,fun _=>rfl,fun hQ=>?_⟩
   obtain ⟨_,_,⟨rfl,rfl⟩,Ks⟩:=RM.EY (Tb (fun a r=>a=(f,args)/\r=rd) ⟨rfl,rfl⟩)
   intro _ s1 OY WT _ g l a w hs
   rw [iP (DG s1 (fun l hl=>OY l (List.mem_append_left _ hl)) g l a w hs)]
   have hC':C3 P f args s1.ext fun r1 e1=>r1 = .panic p/\e1=e':=by rw [WT (by simp [DS.xf])]; exact hC
   refine Cz ?_ (FJ (Q:=Qx cx Q) (K:=fun _=>False) hr hd hs (RM.wp_mono (fun y hy=>?_) (Ks s1 fun l hl=>OY l (List.mem_append_right _ hl))))
   ·rintro a' w' ⟨s',g',l',hf,sm⟩; exact hf.elim
   ·subst hy
    refine ⟨Lz,hC'.mono ?_⟩
    rintro _ _ ⟨rfl,rfl⟩
    exact ⟨⟨[],[],_⟩,fun g l a w sm=>sm.bare,hQ _ _ rfl⟩
  | ret p=>
   cases pu with
   | true=>exact plain (.inl ⟨C1,by unfold FU; rw [hr]; exact Tb _ ⟨Lz,.inl ⟨.ret p,.v p,rfl,(hpu rfl).2,SM.wp_ret hK⟩⟩⟩)
   | false=>exact plain (.inl ⟨C1,by unfold FU; rw [hr]; exact Tb _ ⟨Lz,.inr ⟨.ret p,.v p,e',rfl,hC,SM.wp_ret hK⟩⟩⟩)
  | own te z es=>
   cases pu with
   | true=>exact plain (.inl ⟨C1,by unfold FU; rw [hr]; exact Tb _ ⟨Lz,.inl ⟨.own te z es,.uniq te z es,rfl,(hpu rfl).2,SM.wp_ret hK⟩⟩⟩)
   | false=>exact plain (.inl ⟨C1,by unfold FU; rw [hr]; exact Tb _ ⟨Lz,.inr ⟨.own te z es,.uniq te z es,e',rfl,hC,SM.wp_ret hK⟩⟩⟩)
 ·rename_i hr
  refine plain (.inr ?_)
  unfold FU
  rw [hr]
  refine RM.CR (U9 (SM.Bf h)) ?_
  rintro wr rd ⟨WV,h2⟩
  simp only at h2
  split at h2
  ·rename_i hx; rw [iP hx]; exact ⟨WV,SM.wp_ret h2⟩
  ·rename_i hx; rw [iN hx]; exact ⟨WV,SM.wp_ret h2⟩
def Ys(all:List Oper)(o:Oper)(s:S):SM (Bool × List Loc):=match o.guard with
 | none => .ret (true,[])
 | some (j,want)=>match (all[j]?).bind (·.dst) with
  | some dj=>match lk s.tmps dj with
   | some (.v (.bool b))=>(We b).EZ fun v => .ret (v==want,[.t dj])
   | some (.v (.AE _)) => .ret (false,[.t dj])
   | _ => .bad 22
  | none => .bad 23
theorem Yt{K':Bool × List Loc->List Dg->Prop}(Bw:Er cx.n all=true)(h:(Ys all o s).wp P sc K'):∃b gr C1,K' (b,gr) C1/\∀s',(∀l∈gr,s'.get l=s.get l)->∀g l a w,Bb cx s' g l a w->Region.wanted o (yielded all.toArray a.tmps)=b:=by
 unfold Ys at h
 split at h
 ·rename_i hg
  exact ⟨_,_,_,SM.wp_ret h,fun s' _ g l a w _=>by simp [Region.wanted,hg]⟩
 ·rename_i j want hg
  split at h
  ·rename_i dj T1
   have XV:dj<cx.n:=by
    simp only [Option.bind_eq_some_iff] at T1
    obtain ⟨oj,h1,h2⟩:=T1
    exact Dk Bw (List.mem_of_getElem? h1) dj h2
   have key:∀ {lv:LV} {b:Bool},lk s.tmps dj=some lv->ME want lv=some b->∀s',(∀l∈[Loc.t dj],s'.get l=s.get l)->∀g l a w,Bb cx s' g l a w->Region.wanted o (yielded all.toArray a.tmps)=b:=fun {lv b} Gc hb s' Sq g l a w sm=>by
    have h1:lk s'.tmps dj=some lv:=by rw [Rj (Sq (.t dj) sM)]; exact Gc
    simp only [Region.wanted,hg]
    exact JL (by simpa using T1) XV sm h1 hb
   split at h
   ·rename_i b hb
    obtain ⟨C1,h1⟩:=M8 (SM.Bf h)
    exact ⟨_,_,_,SM.wp_ret h1,key hb rfl⟩
   ·rename_i vs hb
    exact ⟨_,_,_,SM.wp_ret h,key hb rfl⟩
   ·exact h.elim
  ·exact h.elim
abbrev qT:=Option (Nat × PV × Ext)
def dead(an:List (List Nat))(k:Nat):qT->Bool
 | some (i,_)=>(an.getD k []).contains i
 | none=>false
def Uf(k:Nat)(pk:qT)(x:Option Ext)(pp:Pk):Option qT:=match pk with
 | none=>some (pp.map fun y=>(k,y))
 | some q=>if x.isSome=true then none else some (some q)
def Wi(P:Program)(ro:TypeId->Option Bool)(n:Nat)(all:List Oper)(an:List (List Nat)):List Oper->Nat->qT->S->SM (List DS × S × qT × List Ext)
 | [],_,pk,s => .ret ([],s,pk,[])
 | o::rest,k,pk,s=>match dead an k pk with
  | true=>(Wi P ro n all an rest (k+1) pk s).EZ fun x => .ret (⟨[],[],true⟩::x.1,x.2.1,x.2.2.1,Jl::x.2.2.2)
  | false=>(Ys all o s).EZ fun b=>match b with
   | (true,gr)=>(SM.tag o s (Yr P ro n all o gr s)).EZ fun y=>match Uf k pk y.2.1 y.2.2.2 with
    | some WW=>(Wi P ro n all an rest (k+1) WW y.2.2.1).EZ fun x => .ret (y.1::x.1,x.2.1,x.2.2.1,y.2.1.toList++x.2.2.2)
    | none => .bad 24
   | (false,gr)=>(Wi P ro n all an rest (k+1) pk (s.Dm (Dn o (.v (.AE []))))).EZ fun x => .ret (⟨gr,Dn o (.v (.AE [])),false⟩::x.1,x.2)
theorem I4{ro:TypeId->Option Bool}{an:List (List Nat)}(Bw:Er cx.n all=true):∀ {ls:List Oper} {k:Nat} {pk:qT} {s:S} {sc:List Dg} {K':List DS × S × qT × List Ext->List Dg->Prop},(∀o∈ls,o∈all)->(pk.isSome=true->s.ext=Jl)->(Wi P ro cx.n all an ls k pk s).wp P sc K' ->
  ∃B7 xs t WW C1,K' (B7,t,WW,xs) C1/\(pk.isSome=true->WW=pk)/\(WW.isSome=true->t.ext=Jl)/\((∀i p e,WW=some (i,p,e)->Q (.panic p) ⟨[],[],e⟩)->IP P cx all.toArray (Qx cx Q) ls B7 xs s t)
 | [],k,pk,s,sc,K',_,hpk,h=>⟨[],[],s,pk,sc,SM.wp_ret h,fun _=>rfl,hpk,fun _=>rfl⟩
 | o::rest,k,pk,s,sc,K',hm,hpk,h=>by
  have hd:∀d,o.dst=some d->d<cx.n:=Dk Bw (hm o sM)
  have EM:∀o∈rest,o∈all:=fun o ho=>hm o (List.mem_cons_of_mem _ ho)
  simp only [Wi] at h
  split at h
  ·rename_i A16
   have SJ:pk.isSome=true:=by cases pk <;> first | rfl | cases A16
   have Sr:=hpk SJ
   obtain ⟨B7,xs,t,WW,C1,h1,h2,h3,h4⟩:=I4 Bw EM hpk (SM.Bf h)
   refine ⟨_::B7,(some Jl).toList++xs,t,WW,C1,SM.wp_ret h1,h2,h3,fun hQ=>⟨some Jl,xs,rfl,rfl,?_,?_⟩⟩
   ·intro _ s1 _ WT _ g l a w hs
    exact (Lc hs ((WT (by simp [DS.xf])).trans Sr)).elim
   ·have:({ s.Dm [] with ext:=(some Jl).getD s.ext }:S)=s:=by
     show ({ s with ext:=Jl }:S)=s
     rw [<-Sr]
    rw [this]
    exact h4 hQ
  ·obtain ⟨b,gr,MU,h1,DG⟩:=Yt (cx:=cx) Bw (SM.Bf h)
   cases b with
   | true=>
    obtain ⟨d,x,s',pp,WV,h2,he,rfl,hpp,hl⟩:=Rz (Q:=Q) hd DG (SM.Yf (SM.Bf h1))
    simp only at h2
    split at h2
    ·rename_i WW hj
     have A9x:WW.isSome=true->({ s.Dm d.ws with ext:=x.getD s.ext }:S).ext=Jl:=fun hs=>by
      show x.getD s.ext=Jl
      unfold Uf at hj
      split at hj
      ·injection hj with hj
       subst hj
       have:pp.isSome=true:=by cases pp <;> first | rfl | (simp at hs)
       rw [hpp this]; rfl
      ·split at hj
       ·cases hj
       ·rename_i hx
        have:x=none:=by cases x <;> first | rfl | simp at hx
        subst this
        exact hpk rfl
     obtain ⟨B7,xs,t,pk2,C1,h3,h4,h5,h6⟩:=I4 Bw EM A9x (SM.Bf h2)
     refine ⟨d::B7,x.toList++xs,t,pk2,C1,SM.wp_ret h3,fun hs=>?_,h5,fun hQ=>⟨x,xs,rfl,he,hl fun p e hp=>?_,h6 hQ⟩⟩
     ·unfold Uf at hj
      split at hj
      ·simp at hs
      ·split at hj
       ·cases hj
       ·injection hj with hj
        subst hj
        exact h4 rfl
     ·unfold Uf at hj
      split at hj
      ·injection hj with hj
       subst hj
       rw [hp] at h4
       exact hQ k p e (h4 rfl)
      ·split at hj
       ·cases hj
       ·rename_i hx
        have:x=none:=by cases x <;> first | rfl | simp at hx
        subst this
        have:=hpp (by rw [hp]; rfl)
        cases this
    ·exact h2.elim
   | false=>
    have XS:=Kq (Dn o (.v (.AE []))) s
    obtain ⟨B7,xs,t,WW,C1,h3,h4,h5,h6⟩:=I4 Bw EM (s:=s.Dm (Dn o (.v (.AE [])))) (fun hs=>by rw [XS]; exact hpk hs) (SM.Bf h1)
    refine ⟨_::B7,(none:Option Ext).toList++xs,t,WW,C1,SM.wp_ret h3,h4,h5,fun hQ=>⟨none,xs,rfl,rfl,?_,?_⟩⟩
    ·intro _ s' OY WT _ g l a w sm
     rw [iN (by rw [DG s' OY g l a w sm]; simp)]
     refine ⟨g,l,?_⟩
     show Bb cx { s'.Dm (Dn o (.v (.AE []))) with ext:=s'.ext } g l (a.put o.dst undef) w
     unfold Dn
     cases FA:o.dst with
     | none=>exact sm
     | some d=>exact sm.set (hd d FA) (.AE [] [] rfl fun j h=>by simp at h)
    ·have e2:s.Dm (Dn o (.v (.AE [])))={ s.Dm (Dn o (.v (.AE []))) with ext:=s.ext }:=by rw [<-XS]
     have:=h6 hQ
     rw [e2] at this
     exact this
def Qf(P:Program)(o:Oper)(d:DS):Bool:=!d.DO&&d.rd.any Q4&&(callee P o).isNone&&o.guard.isNone
def Qg(P:Program)(o:Oper)(d:DS):DS:=match Qf P o d with
 | true=>⟨d.rd.filter (fun l=>!Q4 l),d.ws,d.DO⟩
 | false=>d
def Hu(P:Program):List Oper->List DS->List DS
 | o::ops,d::ds=>Qg P o d::Hu P ops ds
 | _,ds=>ds
theorem Ug(P:Program)(o:Oper)(d:DS):(Qg P o d).ws=d.ws/\(Qg P o d).DO=d.DO:=by unfold Qg; split <;> exact ⟨rfl,rfl⟩
theorem RA(P:Program):∀ {ops:List Oper} {B7:List DS} {i:Nat} {o:Oper} {d':DS},ops[i]?=some o->(Hu P ops B7)[i]?=some d'->∃d,B7[i]?=some d/\d'=Qg P o d
 | [],_,_,_,_,h,_=>by simp at h
 | o::ops,[],i,_,_,_,h=>by simp [Hu] at h
 | o::ops,d::ds,0,_,_,h,h'=>by
  simp only [Hu,List.getElem?_cons_zero,Option.some.injEq] at h h' ⊢
  subst h
  exact ⟨d,rfl,h'.symm⟩
 | o::ops,d::ds,i+1,_,_,h,h'=>by
  simp only [Hu,List.getElem?_cons_succ] at h h' ⊢
  exact RA P h h'
theorem Ku(P:Program):∀ (ops:List Oper) (B7:List DS),(Hu P ops B7).length=B7.length
 | [],_=>rfl
 | _::_,[]=>rfl
 | o::ops,d::ds=>by simp [Hu,Ku P ops ds]
theorem P4(P:Program)(D:Nat->Bool):∀ (ops:List Oper) (B7:List DS) (k:Nat),CQ D k (Hu P ops B7)=CQ D k B7
 | [],_,_=>rfl
 | _::_,[],_=>rfl
 | o::ops,d::ds,k=>by simp only [Hu,CQ,P4 P D ops ds,(Ug P o d).1]
theorem Ld(P:Program)(D:Nat->Bool):∀ (ops:List Oper) (B7:List DS) (k:Nat),Dy D k (Hu P ops B7)=Dy D k B7
 | [],_,_=>rfl
 | _::_,[],_=>rfl
 | o::ops,d::ds,k=>by simp only [Hu,Dy,Ld P D ops ds,(Ug P o d).2]
theorem IP.DN{all:Array Oper}:∀ {ls:List Oper} {B7:List DS} {xs:List Ext} {s t:S},IP P cx all Q ls B7 xs s t->xs.length=B7.countP (·.DO)
 | [],[],[],_,_,_=>rfl
 | o::rest,d::ds,xs,s,t,h=>by
  obtain ⟨x,gD,rfl,hx,-,hr⟩:=h
  have ih:=IP.DN hr
  cases x with
  | none=>simp only [Option.isSome_none] at hx; simp [hx,ih]
  | some e=>simp only [Option.isSome_some] at hx; simp [hx,ih]
 | [],_::_,_,_,_,h=>h.elim
 | _::_,[],_,_,_,h=>h.elim
 | [],[],_::_,_,_,h=>h.elim
def LI:Ext->Bool
 | [(0,[lv])]=>match lv with
  | .v (.sl 1 [[]])=>true
  | _=>false
 | _=>false
theorem Yu{e:Ext}(h:LI e=true):e=Jl:=by
 unfold LI at h
 split at h
 ·split at h
  ·rfl
  ·cases h
 ·cases h
def lA(P:Program)(ro:TypeId->Option Bool)(n:Nat)(all:List Oper)(o:Oper)(d:DS)(s:S):SM Unit:=((act P ro n all o).FV s).EZ fun x=>match x.1,d.ws with
 | [.tmp t lv],[.tmp t' eK]=>if t=t'/\(x.2.filter (fun l=>!Q4 l)).all (fun l=>d.rd.contains l)=true then SM.kZ (.eqv lv eK) () else .bad 60
 | _,_ => .bad 61
def RC(P:Program)(ro:TypeId->Option Bool)(n:Nat)(all:List Oper)(o:Oper)(d:DS)(s:S):List Ext->SM Unit
 | [] => .ret ()
 | e::r=>match LI e with
  | true=>RC P ro n all o d s r
  | false=>(lA P ro n all o d { s with ext:=e }).EZ fun _=>RC P ro n all o d s r
def P5(P:Program)(ro:TypeId->Option Bool)(n:Nat)(all:List Oper)(es:List Ext):List Oper->List DS->S->SM Unit
 | o::ops,d::ds,s=>match Qf P o d with
  | true=>(RC P ro n all o d s es).EZ fun _=>P5 P ro n all es ops ds (s.Dm d.ws)
  | false=>P5 P ro n all es ops ds (s.Dm d.ws)
 | _,_,_ => .ret ()
def Yv(P:Program)(ro:TypeId->Option Bool)(n:Nat)(all:List Oper)(o:Oper)(d:DS)(s:S):Prop:=(act P ro n all o).I1 s fun wr rd=>wr=d.ws/\∀l∈rd,Q4 l=false->l∈d.rd
theorem Yw{ro:TypeId->Option Bool}{n:Nat}{d:DS}{K':Unit->List Dg->Prop}(h:(lA P ro n all o d s).wp P sc K'):Yv P ro n all o d s/\∃C1,K' () C1:=by
 obtain ⟨wr,rd,⟨MU,h1⟩,Tb⟩:=RM.Jf (RM.DZ (SM.Bf h))
 simp only at h1
 split at h1
 ·rename_i t lv t' eK hd
  split at h1
  ·rename_i hc
   obtain ⟨h2,h3⟩:=SM.JS h1
   refine ⟨Tb _ ⟨?_,fun l hl hx=>?_⟩,MU,h3⟩
   ·have h2':lv=eK:=h2
    rw [hd,hc.1,h2']
   ·have:=hc.2
    simp only [List.all_eq_true,List.mem_filter,Bool.not_eq_true',and_imp] at this
    simpa using this l hl hx
  ·exact h1.elim
 ·exact h1.elim
theorem MY{ro:TypeId->Option Bool}{n:Nat}{d:DS}:∀ {es:List Ext} {sc:List Dg} {K':Unit->List Dg->Prop},(RC P ro n all o d s es).wp P sc K'->(∀e∈es,LI e=false->Yv P ro n all o d { s with ext:=e })/\∃C1,K' () C1
 | [],sc,K',h=>⟨fun e he=>by simp at he,sc,SM.wp_ret h⟩
 | e::r,sc,K',h=>by
  simp only [RC] at h
  split at h
  ·rename_i ha
   obtain ⟨h3,h4⟩:=MY h
   refine ⟨fun e' he hb=>?_,h4⟩
   rcases List.mem_cons.1 he with rfl | he
   ·rw [ha] at hb; cases hb
   ·exact h3 e' he hb
  ·obtain ⟨h1,MU,h2⟩:=Yw (SM.Bf h)
   obtain ⟨h3,h4⟩:=MY h2
   refine ⟨fun e' he hb=>?_,h4⟩
   rcases List.mem_cons.1 he with rfl | he
   ·exact h1
   ·exact h3 e' he hb
theorem RD{ro:TypeId->Option Bool}{n:Nat}{es:List Ext}:∀ {ops:List Oper} {ds:List DS} {s:S} {sc:List Dg} {K':Unit->List Dg->Prop},(P5 P ro n all es ops ds s).wp P sc K' ->
  (∀i o d,ops[i]?=some o->ds[i]?=some d->Qf P o d=true->∀e∈es,LI e=false->Yv P ro n all o d { s.Dm ((ds.take i).flatMap (·.ws)) with ext:=e })/\∃C1,K' () C1
 | [],[],s,sc,K',h=>⟨fun i o d ho=>by simp at ho,sc,SM.wp_ret h⟩
 | [],_::_,s,sc,K',h=>⟨fun i o d ho=>by simp at ho,sc,SM.wp_ret h⟩
 | _::_,[],s,sc,K',h=>⟨fun i o d _ hd=>by simp at hd,sc,SM.wp_ret h⟩
 | o::ops,d::ds,s,sc,K',h=>by
  have key:(∀e∈es,LI e=false->Qf P o d=true->Yv P ro n all o d { s with ext:=e })/\∃MU,(P5 P ro n all es ops ds (s.Dm d.ws)).wp P MU K':=by
   simp only [P5] at h
   split at h
   ·obtain ⟨h1,MU,h2⟩:=MY (SM.Bf h)
    exact ⟨fun e he hb _=>h1 e he hb,MU,h2⟩
   ·rename_i hr
    exact ⟨fun e _ _ hc=>absurd hc (by rw [hr]; simp),⟨sc,h⟩⟩
  obtain ⟨k1,MU,k2⟩:=key
  obtain ⟨h3,h4⟩:=RD k2
  refine ⟨fun i o' d' ho hd hr e he hb=>?_,h4⟩
  cases i with
  | zero=>
   simp only [List.getElem?_cons_zero,Option.some.injEq] at ho hd
   subst ho hd
   exact k1 e he hb hr
  | succ i=>
   simp only [List.getElem?_cons_succ] at ho hd
   have:=h3 i o' d' ho hd hr e he hb
   simp only [List.take_succ_cons,List.flatMap_cons,JQ]
   exact this
theorem P6{id:Nat}{ops:List Oper}{B7:List DS}{xs:List Ext}{t:S}{ro:TypeId->Option Bool}(hm:P.follows .mixedOrders=true)(Bw:Er cx.n ops=true)(hch:IP P cx ops.toArray Q ops B7 xs s t)(IF:∀i o d,ops[i]?=some o->B7[i]?=some d->Qf P o d=true->∀e∈s.ext::xs,LI e=false->Yv P ro cx.n ops o d { s.Dm ((B7.take i).flatMap (·.ws)) with ext:=e })
  (hc:WS ops (Hu P ops B7) s.tmps=true) (hq:Q .normal t):PW P cx (.region id ops.toArray true) s Q:=by
 obtain ⟨k1,k2,k3⟩:=hch.at_
 have A9y:=hch.DN
 let ef:Nat->Ext:=fun k=>(s.ext::xs).getD (min k xs.length) []
 have WU:∀k,ef k∈s.ext::xs:=fun k=>by
  show (s.ext::xs).getD (min k xs.length) []∈s.ext::xs
  have:min k xs.length<(s.ext::xs).length:=by simp; omega
  rw [List.getD_eq_getElem?_getD,List.getElem?_eq_getElem this]
  exact List.getElem_mem this
 have hle:∀i,(B7.take i).countP (·.DO)<=xs.length:=fun i=>by
  rw [A9y]
  have:=List.countP_append (p:=fun d:DS=>d.DO) (l₁:=B7.take i) (l₂:=B7.drop i)
  rw [List.take_append_drop] at this
  omega
 have hfe:∀k,k<=xs.length->ef k=(s.ext::xs).getD k []:=fun k hk=>by show (s.ext::xs).getD (min k xs.length) []=_; rw [Nat.min_eq_left hk]
 have hT:∀i,sT s (Hu P ops B7) ef i=U1 s B7 xs i:=fun i=>by
  unfold sT U1
  have h1:=Hq B7 0 i
  have h2:=Ei B7 0 i
  simp only [Nat.zero_add] at h1 h2
  rw [P4,Ld,h1,h2,hfe _ (hle i)]
 have Sn:∀i,Dy (fun j=>decide (j<i)) 0 (Hu P ops B7)=(B7.take i).countP (·.DO):=fun i=>by
  rw [Ld]
  have:=Ei B7 0 i
  simpa using this
 refine Q6 (B7:=Hu P ops B7) (e:=ef) hm hc (by rw [Ku]; exact k1) (by rw [hfe 0 (Nat.zero_le _)]; rfl) ?_ fun i o d' ho eS=>?_
 ·have h1:=hT B7.length
  have h2:sD s (Hu P ops B7) ef (fun _=>true)=sT s (Hu P ops B7) ef B7.length:=by
   unfold sD sT
   rw [Dt (D:=fun _=>true) (D':=fun j=>decide (j<B7.length)) (B7:=Hu P ops B7) (k:=0) fun j _ hj=>by rw [Ku] at hj; simp at hj; simp [hj]]
   rw [Ea (D:=fun _=>true) (D':=fun j=>decide (j<B7.length)) (B7:=Hu P ops B7) (k:=0) fun j d' hj _=>by
    have:=(List.getElem?_eq_some_iff.1 hj).1
    rw [Ku] at this
    simp [this]]
  rw [h2,h1,<-k2]
  exact hq
 ·obtain ⟨d,hd,rfl⟩:=RA P ho eS
  obtain ⟨qU,XU,-⟩:=JO hc eS
  rw [hT,Sn]
  cases hrel:Qf P o d with
  | false=>
   have hrx:Qg P o d=d:=by unfold Qg; rw [hrel]
   rw [hrx] at XU ⊢
   obtain ⟨e',h1,h2⟩:=k3 i o d ho hd
   intro s' k OY kO Sr IE
   have:=h1 XU s' OY (fun hx=>by
    rw [Sr,kO hx,hfe _ (hle i)]; rfl) IE
   refine this.of (fun p hp=>?_) ?_
   ·cases p <;> first | rfl | cases hp
   ·simp only
    cases qV:d.DO with
    | true=>
     have L7:=kO (by simp [DS.xf,qV])
     have Ag:(B7.take i).countP (·.DO)+1<=xs.length:=by
      have h5:=hle (i+1)
      rw [List.take_add_one,hd] at h5
      simp [qV] at h5
      exact h5
     rw [L7,h2 qV,hfe _ (by simpa using Ag)]
     rfl
    | false=>simp only [Bool.false_eq_true,if_false,Nat.add_zero]; exact Sr.symm
  | true=>
   have A9z:=IF i o d ho hd hrel
   have hrx:Qg P o d=⟨d.rd.filter (fun l=>!Q4 l),d.ws,d.DO⟩:=by unfold Qg; rw [hrel]
   have W8:d.DO=false:=by
    simp only [Qf,Bool.and_eq_true,Bool.not_eq_true'] at hrel
    exact hrel.1.1.1
   have Aa0:callee P o=none:=by
    simp only [Qf,Bool.and_eq_true,Option.isNone_iff_eq_none] at hrel
    exact hrel.1.2
   have Aa1:o.guard=none:=by
    simp only [Qf,Bool.and_eq_true,Option.isNone_iff_eq_none] at hrel
    exact hrel.2
   rw [hrx] at XU qU ⊢
   simp only at XU qU
   intro s' k OY _ Sr IE
   cases Uh:LI (ef k) with
   | true=>exact fun g l a w sm=>(Lc sm (Sr.trans (Yu Uh))).elim
   | false=>
   have hS:=A9z (ef k) (WU k) Uh
   have fR:∀d0,o.dst=some d0->d0<cx.n:=Dk Bw (List.mem_of_getElem? ho)
   have OU:FU P ro cx.n ops o [] { s.Dm ((B7.take i).flatMap (·.ws)) with ext:=ef k } fun d1 x _=>d1.ws=d.ws/\d1.DO=false/\x=none/\∀l∈d1.rd,Q4 l=false->l∈d.rd:=by
    unfold FU
    rw [Aa0]
    refine RM.CR hS ?_
    rintro wr rd ⟨rfl,hrd⟩
    have Wj:d.ws.any Q7=false:=by
     rw [Bool.eq_false_iff]
     intro Aa2
     obtain ⟨x,hx,hxw⟩:=List.any_eq_true.1 Aa2
     have:=List.all_eq_true.1 qU x hx
     cases x <;> first | (simp [Q7] at hxw; done) | (simp [CY] at this; done)
    rw [iN (by rw [Wj]; simp)]
    exact ⟨rfl,rfl,rfl,by simpa using hrd⟩
   obtain ⟨d1,x,s1,⟨hws,VJ,Ae,Aa3⟩,-,-,hL⟩:=Fa (Q:=Q) fR (fun s'' _ g l a w _=>by simp [Region.wanted,Aa1]) OU
   have:=hL (by rw [hws]; exact XU) s' (fun l hl=>by
    by_cases hx:Q4 l=true
    ·cases l with
     | t _=>cases hx
     | b _=>cases hx
     | x n=>simp only [S.get]; rw [Sr]
    ·have hx':Q4 l=false:=by simpa using hx
     have h6:=OY l (List.mem_filter.2 ⟨Aa3 l hl hx',by simp [hx']⟩)
     rw [h6]
     unfold U1
     cases l <;> first | rfl | exact absurd rfl hx) (fun hxf=>Sr) (by rw [hws]; exact IE)
   refine this.of (fun p hp=>?_) ?_
   ·rw [hws]
    cases p <;> first | rfl | cases hp
   ·simp only [W8,VJ,Bool.false_eq_true,if_false,Nat.add_zero]
    exact Sr.symm
def qW(P:Program)(md:Md)(n:Nat)(ops:List Oper)(draw:Bool)(s:S):SM (A5 × S):=match draw with
 | false=>Rw P md n ops ops 0 s
 | true=>(Wi P md.ro n ops (W5 ops []) ops 0 none s).EZ fun x=>match WS ops x.1 s.tmps with
  | true=>match x.2.2.1 with
   | none => .ret (.normal,x.2.1)
   | some (_,p,e) => .ret (.panic p,⟨[],[],e⟩)
  | false=>match WS ops (Hu P ops x.1) s.tmps with
   | true=>(P5 P md.ro n ops (s.ext::x.2.2.2) ops x.1 s).EZ fun _=>match x.2.2.1 with
    | none => .ret (.normal,x.2.1)
    | some (_,p,e) => .ret (.panic p,⟨[],[],e⟩)
   | false => .bad 25
theorem Tc{id:Nat}{ops:Array Oper}{draw:Bool}{K':A5 × S->List Dg->Prop}(hm:P.follows .mixedOrders=true)(Bw:Er cx.n ops.toList=true)(h:(qW P md cx.n ops.toList draw s).wp P sc K')(hk:∀pe s' C1,K' (pe,s') C1->Q pe s'):PW P cx (.region id ops draw) s Q:=by
 obtain ⟨ops⟩:=ops
 cases draw with
 | false=>exact fun g l0 a w hs=>wp_region_lit (Ta Bw hk (fun _ h=>h) h g l0 a w hs)
 | true=>
  simp only [qW] at h
  obtain ⟨B7,xs,t,pk,C1,h1,-,h3,h4⟩:=I4 (Q:=Q) Bw (fun _ h=>h) (fun h=>by simp at h) (SM.Bf h)
  simp only at h1
  split at h1
  rotate_left
  ·split at h1
   ·rename_i hc
    refine Rx ?_
    obtain ⟨IF,WV,h5⟩:=RD (SM.Bf h1)
    cases pk with
    | none=>exact P6 hm Bw (h4 fun i p e he=>by cases he) IF hc (.inr (hk _ _ _ (SM.wp_ret h5)))
    | some v=>
     obtain ⟨i,p,e⟩:=v
     refine P6 hm Bw (h4 fun i p e he=>?_) IF hc (.inl (h3 rfl))
     injection he with he
     injection he with h5' h6
     injection h6 with h6 h7
     subst h6 h7
     exact hk _ _ _ (SM.wp_ret h5)
   ·exact h1.elim
  ·rename_i hc
   refine Rx ?_
   cases pk with
   | none=>
    refine Ry hm (h4 fun i p e he=>?_) hc (.inr (hk _ _ _ (SM.wp_ret h1)))
    cases he
   | some v=>
    obtain ⟨i,p,e⟩:=v
    refine Ry hm (h4 fun i p e he=>?_) hc (.inl (h3 rfl))
    injection he with he
    injection he with h5 h6
    injection h6 with h6 h7
    subst h6 h7
    exact hk _ _ _ (SM.wp_ret h1)
end
def Ui(body:S->SM (A5 × S)):Nat->S->SM (A5 × S)
 | 0,_ => .bad 26
 | n+1,s=>(body s).EZ fun r=>match r with
  | (.normal,s')=>Ui body n s'
  | r => .ret r
def A17(n:Nat)(c:Code)(body:S->SM (A5 × S))(fl:Nat)(s:S):SM (A5 × S)
 | .loop s0 pe s1::sc => .ok (pe,s1) sc [.le s0 s,.loop n c s0 pe s1]
 | .Ye::sc=>Ui body fl s sc
 | _ => .no (.loop n c s)
def gX(n:Nat)(c:Code)(s:S):SM (A5 × S)
 | .loop s0 pe s1::sc => .ok (pe,s1) sc [.le s0 s,.Ev n c s0 pe s1]
 | _ => .no (.loop n c s)
def lB:Code->Option Nat
 | .region id _ _=>some id
 | .seq a _=>lB a
 | _=>none
def A18(md:Md)(c:Code):Bool:=match lB c with
 | some id=>md.row (2000000+id)
 | none=>false
def DP(P:Program)(md:Md)(n fl:Nat):Code->S->SM (A5 × S)
 | .skip,s => .ret (.normal,s)
 | .region id ops draw,s=>match md.row (1000000+id) with
  | true=>gX n (.region id ops draw) s
  | false=>qW P md n ops.toList draw s
 | .seq a b,s=>match A18 md a with
  | true=>gX n (.seq a b) s
  | false=>(DP P md n fl a s).EZ fun r=>match r with
   | (.normal,s')=>DP P md n fl b s'
   | r => .ret r
 | .cond (.tmp t) x y,s=>match lk s.tmps t with
  | some (.v (.bool b))=>(We b).EZ fun v=>match v with
   | true=>DP P md n fl x s
   | false=>DP P md n fl y s
  | _ => .bad 27
 | .cond (.const v) x y,s=>match v with
  | .bool true=>DP P md n fl x s
  | .bool false=>DP P md n fl y s
  | _ => .bad 29
 | .block id c,s=>(DP P md n fl c s).EZ fun r=>match r with
  | (.exit QT,s')=>if QT=id then .ret (.normal,s') else .ret (.exit QT,s')
  | r => .ret r
 | .loop c,s=>A17 n c (DP P md n fl c) fl s
 | .exit id,s => .ret (.exit id,s)
 | .ret,s => .ret (.ret,s)
 | _,_ => .bad 28
section
variable {P:Program} {cx:Cx} {md:Md} {fl:Nat}
theorem RE{c:Code}{body:S->SM (A5 × S)}{Q:A5->S->Prop}{K':A5 × S->List Dg->Prop}(U5:∀ {s:S} {sc:List Dg} {K':A5 × S->List Dg->Prop} {Q:A5->S->Prop},(body s).wp P sc K'->(∀pe s' C1,K' (pe,s') C1->Q pe s')->PW P cx c s Q)
  {n:Nat} {s:S} {sc:List Dg} (h:(Ui body n s).wp P sc K') (hk:∀pe s' C1,K' (pe,s') C1->Q pe s'):PW P cx (.loop c) s Q:=by
 refine MQ (α:={ x:Nat × S × List Dg // (Ui body x.1 x.2.1).wp P x.2.2 K' }) (fun x=>x.1.2.1) (fun x=>x.1.1) ⟨(n,s,sc),h⟩ rfl ?_
 rintro ⟨⟨n,s,sc⟩,h⟩
 cases n with
 | zero=>exact h.elim
 | succ n=>
  refine U5 (SM.Bf h) fun pe s' C1 h1=>?_
  cases pe with
  | normal=>exact ⟨⟨(n,s',C1),h1⟩,Nat.lt_succ_self _,rfl⟩
  | exit i=>exact hk _ _ _ (SM.wp_ret h1)
  | ret=>exact hk _ _ _ (SM.wp_ret h1)
  | panic p=>exact hk _ _ _ (SM.wp_ret h1)
theorem CI(hm:P.follows .mixedOrders=true):∀ (c:Code) {s:S} {sc:List Dg} {K':A5 × S->List Dg->Prop} {Q:A5->S->Prop},BS cx.n c=true->(DP P md cx.n fl c s).wp P sc K'->(∀pe s' C1,K' (pe,s') C1->Q pe s')->PW P cx c s Q
 | .skip,s,sc,K',Q,_,h,hk=>PA (hk _ _ _ (SM.wp_ret h))
 | .region id ops draw,s,sc,K',Q,hc,h,hk=>by
  simp only [DP] at h
  split at h
  ·unfold SM.wp gX at h
   split at h
   ·obtain ⟨⟨h1,h2,-⟩,h3⟩:=h
    refine PW.Yd h1 ((h2 cx rfl).mono ?_)
    rintro _ _ ⟨rfl,rfl⟩
    exact hk _ _ _ h3
   ·exact h.elim
  ·exact Tc hm hc h hk
 | .seq a b,s,sc,K',Q,hc,h,hk=>by
  simp only [BS,Bool.and_eq_true] at hc
  simp only [DP] at h
  split at h
  ·unfold SM.wp gX at h
   split at h
   ·obtain ⟨⟨h1,h2,-⟩,h3⟩:=h
    refine PW.Yd h1 ((h2 cx rfl).mono ?_)
    rintro _ _ ⟨rfl,rfl⟩
    exact hk _ _ _ h3
   ·exact h.elim
  ·refine HX (CI hm a hc.1 (SM.Bf h) fun pe s' C1 h1=>?_)
   cases pe with
   | normal=>exact CI hm b hc.2 h1 hk
   | exit i=>exact hk _ _ _ (SM.wp_ret h1)
   | ret=>exact hk _ _ _ (SM.wp_ret h1)
   | panic p=>exact hk _ _ _ (SM.wp_ret h1)
 | .cond x a b,s,sc,K',Q,hc,h,hk=>by
  simp only [BS,Bool.and_eq_true] at hc
  cases x with
  | tmp t=>
   simp only [DP] at h
   split at h
   ·rename_i v ht
    obtain ⟨C1,h1⟩:=M8 (SM.Bf h)
    refine Kg ht (fun e=>?_) (fun e=>?_)
    ·subst e; exact CI hm a hc.1 h1 hk
    ·subst e; exact CI hm b hc.2 h1 hk
   ·exact h.elim
  | const v=>
   simp only [DP] at h
   split at h
   ·exact fun g l a' w hs=>wp_cond_split (show a'.eval (.const (.bool true)) = .bool true from rfl) (fun _=>CI hm a hc.1 h hk g l a' w hs) (fun e=>Bool.noConfusion e)
   ·exact fun g l a' w hs=>wp_cond_split (show a'.eval (.const (.bool false)) = .bool false from rfl) (fun e=>Bool.noConfusion e) (fun _=>CI hm b hc.2 h hk g l a' w hs)
   ·exact h.elim
  | global _=>simp only [DP] at h; exact h.elim
  | func _=>simp only [DP] at h; exact h.elim
 | .block id c,s,sc,K',Q,hc,h,hk=>by
  simp only [BS] at hc
  simp only [DP] at h
  refine Mg (CI hm c hc (SM.Bf h) fun pe s' C1 h1=>?_)
  cases pe with
  | normal=>exact hk _ _ _ (SM.wp_ret h1)
  | exit i=>
   simp only [Mf]
   simp only at h1
   split at h1
   ·rename_i e; rw [iP e]; exact hk _ _ _ (SM.wp_ret h1)
   ·rename_i e; rw [iN e]; exact hk _ _ _ (SM.wp_ret h1)
  | ret=>exact hk _ _ _ (SM.wp_ret h1)
  | panic p=>exact hk _ _ _ (SM.wp_ret h1)
 | .loop c,s,sc,K',Q,hc,h,hk=>by
  simp only [BS] at hc
  simp only [DP] at h
  unfold SM.wp A17 at h
  split at h
  ·obtain ⟨⟨h1,h2,-⟩,h3⟩:=h
   refine PW.Yd h1 ((h2 cx rfl).mono ?_)
   rintro _ _ ⟨rfl,rfl⟩
   exact hk _ _ _ h3
  ·exact RE (fun h hk=>CI hm c hc h hk) h hk
  ·exact h.elim
 | .exit id,s,sc,K',Q,_,h,hk=>PB (hk _ _ _ (SM.wp_ret h))
 | .ret,s,sc,K',Q,_,h,hk=>SA (hk _ _ _ (SM.wp_ret h))
 | .rangeFunc _ _ _ _,_,_,_,_,_,h,_=>by simp only [DP] at h; exact h.elim
 | .scope _,_,_,_,_,_,h,_=>by simp only [DP] at h; exact h.elim
 | .label _,_,_,_,_,_,h,_=>by simp only [DP] at h; exact h.elim
 | .goto _,_,_,_,_,_,h,_=>by simp only [DP] at h; exact h.elim
 | .refuse _,_,_,_,_,_,h,_=>by simp only [DP] at h; exact h.elim
theorem qX(md:Md)(n fl:Nat)(sc:List Dg){c:Code}{s s':S}{pe:A5}{C1:List Dg}{l:List Ob}{Q:A5->S->Prop}(hm:P.follows .mixedOrders=true)(hn:cx.n=n)(hc:BS n c=true)(h:DP P md n fl c s sc = .ok (pe,s') C1 l)(hl:QG P l)(hq:Q pe s'):PW P cx c s Q:=by
 subst hn
 refine CI (K':=fun r _=>r=(pe,s')) hm c hc (show SM.wp P _ sc _ from by unfold SM.wp; rw [h]; exact ⟨hl,rfl⟩) ?_
 rintro _ _ _ ⟨rfl,rfl⟩
 exact hq
theorem PW.Qh{c:Code}{s:S}{Q:A5->S->Prop}(h:PW P cx c s fun pe s'=>∃t,Rq t s'/\Q pe t):PW P cx c s Q:=fun g l a w hs=>by
 refine wp_mono (h g l a w hs) ?_
 rintro e a' w' ⟨pe,s',g',l',⟨t,h1,h2⟩,er,sm⟩
 exact ⟨pe,t,g',l',h2,er,sm.Yd h1⟩
def IK{α:Type}(l:List (Nat × α)):List Nat->List (Nat × α)
 | []=>[]
 | k::r=>match lk l k with
  | some v=>(k,v)::IK l r
  | none=>IK l r
def lC(ks bs:List Nat)(s:S):S:=⟨IK s.tmps ks,IK s.boxes bs,s.ext⟩
theorem Le(l:List (Nat × LV)):∀ks,eI (IK l ks) l
 | []=>trivial
 | k::r=>by
  simp only [IK]
  split
  ·rename_i v hv
   refine ⟨?_,Le l r⟩
   rw [hv]
   exact WL.refl v
  ·exact Le l r
theorem Lf(l:List (Nat × List LV)):∀ks,eJ (IK l ks) l
 | []=>trivial
 | k::r=>by
  simp only [IK]
  split
  ·rename_i v hv
   refine ⟨?_,Lf l r⟩
   rw [hv]
   exact F7.refl v
  ·exact Lf l r
def SR.BN(ks bs:List Nat):SR (A5 × S)->SR (A5 × S)
 | .ok (pe,s) sc l => .ok (pe,lC ks bs s) sc l
 | .no n => .no n
theorem DK(md:Md)(n fl:Nat)(sc:List Dg)(ks bs:List Nat){c:Code}{s s':S}{pe:A5}{C1:List Dg}{l:List Ob}{Q:A5->S->Prop}(hm:P.follows .mixedOrders=true)(hn:cx.n=n)(hc:BS n c=true)(h:(DP P md n fl c s sc).BN ks bs = .ok (pe,s') C1 l)(hl:QG P l)(hq:Q pe s'):PW P cx c s Q:=by
 cases he:DP P md n fl c s sc with
 | no _=>rw [he] at h; cases h
 | ok a MU l1=>
  obtain ⟨pe1,s1⟩:=a
  rw [he] at h
  simp only [SR.BN,SR.ok.injEq,Prod.mk.injEq] at h
  obtain ⟨⟨rfl,rfl⟩,rfl,rfl⟩:=h
  exact PW.Qh (qX md n fl sc hm hn hc he hl ⟨lC ks bs s1,⟨Le _ _,Lf _ _,rfl⟩,hq⟩)
theorem Ob.Jg{α:Type}{n:Nat}{c:Code}(I:α->S)(μ:α->Nat)(res:α->A5 × S)
  (round:∀x (cx:Cx),cx.n=n->PW P cx c (I x) fun pe s'=>(pe = .normal/\∃y,μ y<μ x/\Rq (I y) s'/\res y=res x)∨(pe ≠ .normal/\pe=(res x).1/\Rq (res x).2 s')) (x:α):(Ob.loop n c (I x) (res x).1 (res x).2).ok P:=by
 intro cx Ar
 refine PW.Qh ?_
 refine MQ (α:={ y:α × S // res y.1=res x/\(y.2=I y.1∨Rq (I y.1) y.2) }) (fun y=>y.1.2) (fun y=>μ y.1.1) ⟨(x,I x),rfl,.inl rfl⟩ rfl ?_
 ·rintro ⟨⟨y,s⟩,hy,hle⟩
  have go:∀ {Q:A5->S->Prop},PW P cx c (I y) Q->PW P cx c s Q:=fun hp=>by
   rcases hle with h0 | hle
   ·have h0':s=I y:=h0
    rw [h0']; exact hp
   ·exact PW.Yd hle hp
  refine go ((round y cx Ar).mono ?_)
  rintro pe s' (⟨rfl,z,h1,h2,h3⟩ | ⟨h1,h2,h3⟩)
  ·exact ⟨⟨(z,s'),h3.trans hy,.inr h2⟩,h1,rfl⟩
  ·rw [hy] at h2 h3
   cases pe with
   | normal=>exact absurd rfl h1
   | _=>exact ⟨_,h3,h2,rfl⟩
end
def JT:Code->List Code
 | .seq a b=>JT a++JT b
 | .cond _ a b=>JT a++JT b
 | .block _ c=>JT c
 | .loop c=>c::JT c
 | _=>[]
def MZ(id:Nat):Code->Option Code
 | .region i ops d=>if i=id then some (.region i ops d) else none
 | .seq a b=>match MZ id a with
  | some c=>some c
  | none=>MZ id b
 | .cond _ a b=>match MZ id a with
  | some c=>some c
  | none=>MZ id b
 | .block _ c=>MZ id c
 | .loop c=>MZ id c
 | _=>none
def AW(fn:Func)(id:Nat):Code:=match fn.body with
 | some c=>(MZ id c).getD .skip
 | none => .skip
def Ai(fn:Func)(k:Nat):Code:=match fn.body with
 | some c=>(JT c).getD k .skip
 | none => .skip
def A19(P:Program)(res:List ResultVar)(pe:A5)(s:S):SM (Cr × Ext):=match T5 P res pe s with
 | some x => .ret x
 | none => .bad 30
def gY(P:Program)(res:List ResultVar)(s:S)(e:Ext):SM (Cr × Ext):=match F9 P { s with ext:=e } res with
 | some q => .ret (.ret q,e)
 | none => .bad 31
def Qi:Code->Option (List Code × Oper × Oper × Nat × Code)
 | .seq (.region i ⟨[mk,df]⟩ false) y=>match df.op with
  | .defer ⟨.value (.tmp t),⟨[]⟩,_⟩=>some ([],mk,df,t,y)
  | _=>(Qi y).map fun x=>(.region i ⟨[mk,df]⟩ false::x.1,x.2)
 | .seq a b=>(Qi b).map fun x=>(a::x.1,x.2)
 | _=>none
theorem Yx:∀ {c:Code} {xs:List Code} {mk df:Oper} {t:Nat} {y:Code},Qi c=some (xs,mk,df,t,y)->∃id ts,c=Wa xs (.seq (.region id #[mk,df] false) y)/\df.op = .defer ⟨.value (.tmp t),#[],ts⟩:=by
 intro c
 induction c using Qi.induct with
 | case1 i mk df y t ts Jc=>
  intro xs mk' df' t' y' h
  simp only [Qi,Jc,Option.some.injEq,Prod.mk.injEq] at h
  obtain ⟨rfl,rfl,rfl,rfl,rfl⟩:=h
  exact ⟨i,ts,rfl,Jc⟩
 | case2 i mk df y D4 ih=>
  intro xs mk' df' t' y' h
  unfold Qi at h
  split at h
  ·rename_i t ts Jc
   exact absurd Jc (D4 t ts)
  ·simp only [Option.map_eq_some_iff] at h
   obtain ⟨⟨xs1,mk1,Az,t1,y1⟩,h1,h2⟩:=h
   simp only [Prod.mk.injEq] at h2
   obtain ⟨rfl,rfl,rfl,rfl,rfl⟩:=h2
   obtain ⟨id,ts,h3,h4⟩:=ih h1
   exact ⟨id,ts,by rw [h3]; rfl,h4⟩
 | case3 a b D4 ih=>
  intro xs mk' df' t' y' h
  rw [Qi] at h
  ·simp only [Option.map_eq_some_iff] at h
   obtain ⟨⟨xs1,mk1,Az,t1,y1⟩,h1,h2⟩:=h
   simp only [Prod.mk.injEq] at h2
   obtain ⟨rfl,rfl,rfl,rfl,rfl⟩:=h2
   obtain ⟨id,ts,h3,h4⟩:=ih h1
   exact ⟨id,ts,by rw [h3]; rfl,h4⟩
  ·exact D4
 | case4 c h1 h2=>
  intro xs mk' df' t' y' h
  unfold Qi at h
  split at h
  ·exact absurd rfl (h1 _ _ _ _)
  ·exact absurd rfl (h2 _ _)
  ·cases h
def qY(P:Program)(md:Md)(n fl:Nat):List Code->S->SM S
 | [],s => .ret s
 | c::r,s=>(DP P md n fl c s).EZ fun x=>match x with
  | (.normal,s')=>qY P md n fl r s'
  | _ => .bad 37
theorem N0{P:Program}{cx:Cx}{md:Md}{fl:Nat}(hm:P.follows .mixedOrders=true){K:S->Prop}:∀ {xs:List Code} {s:S} {sc:List Dg} {K':S->List Dg->Prop},(∀c∈xs,BS cx.n c=true)->(qY P md cx.n fl xs s).wp P sc K'->(∀s' C1,K' s' C1->K s')->PWs P cx xs s K
 | [],s,sc,K',_,h,hk=>hk _ _ (SM.wp_ret h)
 | c::r,s,sc,K',hc,h,hk=>by
  refine CI hm c (hc c List.mem_cons_self) (SM.Bf h) fun pe s' C1 h1=>?_
  cases pe with
  | normal=>exact ⟨rfl,N0 hm (fun c QF=>hc c (List.mem_cons_of_mem _ QF)) h1 hk⟩
  | exit i=>exact h1.elim
  | ret=>exact h1.elim
  | panic p=>exact h1.elim
theorem LJ{n:Nat}:∀ {xs:List Code} {c:Code},BS n (Wa xs c)=true->(∀x∈xs,BS n x=true)/\BS n c=true
 | [],c,h=>⟨fun x hx=>by simp at hx,h⟩
 | x::r,c,h=>by
  simp only [Wa,BS,Bool.and_eq_true] at h
  obtain ⟨h1,h2⟩:=LJ h.2
  refine ⟨fun y hy=>?_,h2⟩
  rcases List.mem_cons.1 hy with rfl | hy
  ·exact h.1
  ·exact h1 y hy
def Td(P:Program)(md:Md)(fl:Nat)(fn:Func)(args:List PV)(e:Ext):SM (Cr × Ext):=match fn.body with
 | none => .bad 32
 | some c=>if args.length<=fn.ntmps then (match Qi c with
  | none=>(DP P md fn.ntmps fl c (Fv args e)).EZ fun r=>A19 P fn.results.toList r.1 r.2
  | some (r0,mk,df,t,y)=>if mk.guard.isNone&&df.guard.isNone&&df.dst.isNone then ((qY P md fn.ntmps fl r0 (Fv args e)).EZ fun s=>((act P md.ro fn.ntmps [mk,df] mk).runM s).EZ fun wr=>match lk (s.HY wr).tmps t with
    | some (.v (.fn (.func EK) first cap))=>if Fu P EK=true then (DP P md fn.ntmps fl y (s.HY wr)).EZ fun r2=>match r2 with
     | (.panic p,s2)=>(gS EK (first++cap) s2.ext (.pan p)).EZ fun d=>match d with
      | (.gF,e')=>gY P fn.results.toList s2 e'
      | _ => .bad 33
     | (.exit _,_) => .bad 34
     | (_,s2)=>(gS EK (first++cap) s2.ext .ret).EZ fun d=>match d with
      | (.ret,e')=>gY P fn.results.toList s2 e'
      | _ => .bad 35 else .bad 41
    | _ => .bad 36) else .bad 38) else .bad 39
section
variable {P:Program} {md:Md} {fl:Nat} {f:FuncId} {fn:Func} {args:List PV} {e:Ext}
theorem N1{sc:List Dg}{R:Cr->Ext->Prop}(hm:P.follows .mixedOrders=true)(hf:P.funcs[f]?=some fn)(E5:Kt fn=true)(h:(Td P md fl fn args e).wp P sc fun r _=>R r.1 r.2):C3 P f args e R:=by
 unfold Td at h
 unfold Kt at E5
 split at h
 ·exact h.elim
 ·rename_i c hb
  rw [hb] at E5
  simp only at E5
  split at h
  ·rename_i hn
   split at h
   ·refine C3.enter hf hb hn fun cx Ar Mv=>?_
    rw [<-Ar] at E5 h
    refine CI hm c E5 (SM.Bf h) fun pe s' C1 h1=>?_
    unfold A19 at h1
    split at h1
    ·rename_i x hx
     have:=JR (r:=x.1) (e:=x.2) hx
     have h2:=SM.wp_ret h1
     cases pe with
     | panic p=>obtain ⟨h3,h4⟩:=this; show R _ _; rw [h3,h4]; exact h2
     | exit i=>exact this
     | normal=>obtain ⟨q,h3,h4,h5⟩:=this; refine ⟨q,h3,?_⟩; rw [h4,h5]; exact h2
     | ret=>
      rcases this with ⟨q,h3,h4,h5⟩ | ⟨t,e0,z,es,h3,h4,h7,h5,h6⟩
      ·refine .inl ⟨q,h3,?_⟩; rw [h4,h5]; exact h2
      ·refine .inr ⟨t,e0,z,es,h3,h4,h7,?_⟩; rw [h5,h6]; exact h2
    ·exact h1.elim
   ·rename_i r0 mk df t y pQ
    obtain ⟨id,ts,rfl,qG⟩:=Yx pQ
    obtain ⟨A1a,A1b⟩:=LJ E5
    simp only [BS,Bool.and_eq_true] at A1b
    split at h
    ·rename_i hg
     simp only [Bool.and_eq_true,Option.isNone_iff_eq_none] at hg
     refine C3.gH md.ro hf hb hn qG hg.1.1 hg.1.2 hg.2 fun cx Ar Mv=>?_
     have h0:=SM.Bf h
     rw [<-Ar] at h0 A1a
     refine N0 hm A1a h0 fun s MU h1=>?_
     have TN:=h1
     try rw [Ar] at TN
     refine RM.wp_mono ?_ (RM.DJ (SM.Bf TN))
     rintro wr ⟨WV,h2⟩
     ·skip
      split at h2
      ·rename_i EK first cap g9
       split at h2
       ·rename_i Aa4
        refine ⟨EK,first,cap,g9,Aa4,fun Y2 Yb=>?_⟩
        have A1c:=A1b.2
        have h3:=SM.Bf h2
        rw [<-Yb] at A1c h3
        refine CI hm y A1c h3 fun pe s2 sc3 h4=>?_
        have At:∀ {s2:S} {e1:Ext} {sc:List Dg},(gY P fn.results.toList s2 e1).wp P sc (fun r _=>R r.1 r.2)->∃q,F9 P { s2 with ext:=e1 } fn.results.toList=some q/\R (.ret q) e1:=by
         intro s2 e1 sc h
         unfold gY at h
         split at h
         ·rename_i q hq; exact ⟨q,hq,SM.wp_ret h⟩
         ·exact h.elim
        have fin:∀ {m m':PM} {e1:Ext},Eb P EK (first++cap) s2.ext m (fun m1 qM=>m1=m'/\qM=e1)->(∃q,F9 P { s2 with ext:=e1 } fn.results.toList=some q/\R (.ret q) e1)->Eb P EK (first++cap) s2.ext m fun m1 qM=>m1=m'/\∃q,F9 P { s2 with ext:=qM } fn.results.toList=some q/\R (.ret q) qM:=by
         intro m m' e1 k2 hq vs g l w u ha he hu
         refine (k2 vs g l w u ha he hu).mono ?_
         rintro en u' w' ⟨v,m2,e2,g',l',k3,⟨k4,k5⟩,k6⟩
         exact ⟨v,m2,e2,g',l',k3,⟨k4,by rw [k5]; exact hq⟩,k6⟩
        cases pe with
        | panic p=>
         obtain ⟨m',e1,sc4,h5,-,h6⟩:=Qb (SM.Bf h4)
         split at h5
         ·rename_i e2 heq
          injection heq with e3 e4
          subst e3 e4
          exact fin h6 (At h5)
         ·exact h5.elim
        | exit i=>exact h4.elim
        | normal=>
         obtain ⟨m',e1,sc4,h5,-,h6⟩:=Qb (SM.Bf h4)
         split at h5
         ·rename_i e2 heq
          injection heq with e3 e4
          subst e3 e4
          exact fin h6 (At h5)
         ·exact h5.elim
        | ret=>
         obtain ⟨m',e1,sc4,h5,-,h6⟩:=Qb (SM.Bf h4)
         split at h5
         ·rename_i e2 heq
          injection heq with e3 e4
          subst e3 e4
          exact fin h6 (At h5)
         ·exact h5.elim
       ·exact h2.elim
      ·exact h2.elim
    ·exact h.elim
  ·exact h.elim
theorem Ob.qZ(md:Md)(fl:Nat)(sc:Ext->List Dg){r:Cr}{C1:Ext->List Dg}{l:Ext->List Ob}(hm:P.follows .mixedOrders=true)(hf:P.funcs[f]?=some fn)(E5:(Fu P f&&Kt fn)=true)(h:∀e,Td P md fl fn args e (sc e) = .ok (r,e) (C1 e) (l e))(hl:∀e,QG P (l e)):(Ob.Qa f args r).ok P:=by
 simp only [Bool.and_eq_true] at E5
 refine ⟨E5.1,fun e=>N1 hm hf E5.2 (sc:=sc e) (md:=md) (fl:=fl) ?_⟩
 unfold SM.wp
 rw [h e]
 exact ⟨hl e,rfl,rfl⟩
theorem Ob.r8(md:Md)(fl:Nat)(sc:List Dg){r:Cr}{e':Ext}{C1:List Dg}{l:List Ob}(hm:P.follows .mixedOrders=true)(hf:P.funcs[f]?=some fn)(E5:(Fu P f&&Kt fn)=true)(h:Td P md fl fn args e sc = .ok (r,e') C1 l)(hl:QG P l):(Ob.DO f args e r e').ok P:=by
 simp only [Bool.and_eq_true] at E5
 refine ⟨E5.1,N1 hm hf E5.2 (sc:=sc) (md:=md) (fl:=fl) ?_⟩
 unfold SM.wp
 rw [h]
 exact ⟨hl,rfl,rfl⟩
end
theorem B6{x:Bool}(h:x=false):(!x)=true:=by rw [h]; rfl
theorem AJ{x:Bool}(h:x=true):(!x)=false:=by rw [h]; rfl
theorem dT{p:Prop} [Decidable p] (h:p):decide p=true:=decide_eq_true h
theorem dF{p:Prop} [Decidable p] (h:¬p):decide p=false:=decide_eq_false h
theorem Wl{x:Int}(h1 : -9223372036854775808<=x)(h2:x<=9223372036854775807):IntKind.i64.wrap x=x:=by
 simp only [IntKind.wrap,IntKind.bits,IntKind.signed]
 simp
 omega
theorem wrap64{x:Int}(h1 : -9223372036854775808<=x)(h2:x<=9223372036854775807):LV.v (.int .i64 (IntKind.i64.wrap x))=LV.v (.int .i64 x):=by rw [Wl h1 h2]
theorem Yy{a b:ByteArray}(h:a.toList=b.toList):a=b:=by
 rw [ByteArray.toList_eq,ByteArray.toList_eq] at h
 cases a; cases b
 congr
 exact Array.toList_inj.1 h
theorem BL{a b:ByteArray}(h:a=b):(a.toList==b.toList)=true:=by rw [h]; simp
theorem BZ{a b:ByteArray}(h:¬a=b):(a.toList==b.toList)=false:=by
 simp only [beq_eq_false_iff_ne,ne_eq]
 exact fun e=>h (Yy e)
theorem C3.forget{P:Program}{f:FuncId}{args:List PV}{res:Cr}{e1:Ext}(ha:Ec args=true)(hr:res.HT=true)(h:C3 P f args [] fun r e=>r=res/\e=e1)(e:Ext):C3 P f args e fun r e'=>r=res/\e'=e:=by
 intro vs g l w IM E9
 let g2:Gh:=⟨g.M,fun _=>none,fun _ _=>none⟩
 let l2:LG:=⟨fun _=>none,fun _=>none,fun _=>none⟩
 have h1:AG g2 w args vs:=⟨IM.1,fun j hj Cu=>BJ.names (g:=g) rfl (Eu ha j hj) (IM.2 j hj Cu)⟩
 have h2:So [] g2 l2 w:={ ex:=fun x cs hx=>(by simp [lk] at hx),Q1:=fun b o ho=>(by cases ho),uo:=fun p b hb=>(by cases hb),fresh:=⟨E9.fresh.1,fun _ _=>rfl,fun _ _ _=>rfl⟩,Gg:=fun n b hb=>(by cases hb),only:=fun b o ho=>(by cases ho),JH:=E9.JH.names rfl }
 refine (h vs g2 l2 w h1 h2).mono ?_
 rintro en w' ⟨r,e2,g',l',⟨rfl,rfl⟩,At,Rm,P0,Bq,VY,Q2,os,tape,output⟩
 have OP:∀b o,l'.O b=some o->w.heap.size<=b:=fun b o ho=>by
  rcases Q2 b o ho with h | h
  ·exact h
  ·cases h
 let g3:Gh:=⟨g'.M,g.X,g.Y⟩
 have Hj:∀b,b<w.heap.size->w'.heap[b]?=w.heap[b]?/\g'.M b=g.M b:=fun b hb=>VY b hb rfl
 have Y8:C0 g w g3 w':=⟨fun n b hb=>hb,fun b o v hc hf=>by
   obtain ⟨k1,k2⟩:=P0.cell b o v hc (fun k hk=>hf k hk)
   exact ⟨k1,fun k hk=>k2 k hk⟩,fun b cur t hb=>P0.len b cur t hb,fun _ _ _ h=>h⟩
 refine ⟨r,e,g3,l,⟨rfl,rfl⟩,?_,?_,Y8,Bq,fun b hb _=>Hj b hb,fun b o ho => .inr (by rw [ho]; rfl),os,tape,output⟩
 ·cases r with
  | ret p=>
   cases en <;> first | exact At.elim | skip
   exact BJ.names (g:=g') rfl hr At
  | own te z es=>
   cases en <;> first | exact At.elim | skip
   obtain ⟨KX,At⟩:=At
   refine ⟨KX,?_⟩
   rcases At with (h | ⟨a,h,h'⟩) | ⟨b,cap,cur,k1,k2,k3,k4,k5,k6,k7,k8⟩
   ·exact .inl (.inl h)
   ·exact .inl (.inr ⟨a,h,BJ.names (g:=g') rfl (by simpa [PV.HT,Cr.HT] using hr) h'⟩)
   ·have hb:w.heap.size<=b:=by
     rcases k2 with h | h
     ·exact h
     ·cases h
    refine .inr ⟨b,cap,cur,k1,.inl hb,k3,?_,k5,k6,k7,BJ.names (g:=g') rfl (by simpa [PV.HT,Cr.HT] using hr) k8⟩
    cases GY:l.O b with
    | none=>rfl
    | some o=>exact absurd (E9.Q1 b o GY) oM
  | panic p=>
   cases en <;> first | exact At.elim | skip
   obtain ⟨v,hv,pO⟩:=At
   exact ⟨v,hv,BJ.names (g:=g') rfl hr pO⟩
 ·refine ⟨fun x cs hx=>?_,fun b o ho=>Nat.lt_of_lt_of_le (E9.Q1 b o ho) Bq,E9.uo,⟨Rm.fresh.1,E9.fresh.2⟩,fun n b hb=>Nat.lt_of_lt_of_le (E9.Gg n b hb) Bq,E9.only,E9.JH.mono Y8⟩
  obtain ⟨b,k1,k2,hE⟩:=E9.ex x cs hx
  have hb:=Hj b (E9.Q1 b _ k2)
  refine ⟨b,k1.mono Y8,k2,?_⟩
  rcases hE with ⟨k3,cur,t,k4,k5,k6⟩ | hE
  rotate_left
  ·exact .inr (hE.BN Y8 (fun _ _ _ h=>h) hb.2 hb.1)
  refine .inl ⟨hb.2.trans k3,cur,t,hb.1.trans k4,k5,fun j hj=>⟨(k6 j hj).1,(k6 j hj).2.1,?_⟩⟩
  refine (k6 j hj).2.2.BN Y8 (fun _ _ _=>rfl) fun b' GY=>?_
  have Ag:=E9.Q1 b' _ (E9.uo _ _ GY)
  exact ⟨GY,(Hj b' Ag).2,(Hj b' Ag).1⟩
theorem Ob.De{P:Program}{f:FuncId}{args:List PV}{r:Cr}{e':Ext}(ha:Ec args=true)(hr:r.HT=true)(h:(Ob.DO f args [] r e').ok P):(Ob.Qa f args r).ok P:=⟨h.1,fun e=>C3.forget ha hr h.2 e⟩
theorem Ob.Gm{P:Program}(md:FuncId->Md)(fl d:Nat){f:FuncId}{args:List PV}{r:Cr}(hm:P.follows .mixedOrders=true)(h:((Te P md fl d).1 f args []).map Prod.fst=some r)(ha:Ec args=true)(hr:r.HT=true):(Ob.Qa f args r).ok P:=by
 have:=(N2 (P:=P) (md:=md) (fl:=fl) hm d).1
 cases he:(Te P md fl d).1 f args [] with
 | none=>rw [he] at h; cases h
 | some x=>
  obtain ⟨r1,e1⟩:=x
  rw [he] at h
  injection h with h
  subst h
  obtain ⟨h1,h2⟩:=this f args [] _ _ he
  exact Ob.De ha hr ⟨h1,h2⟩
theorem Aa5{P:Program}{x y:LV}(h:x=y):(Ob.eqv x y).ok P:=h
theorem N3{P:Program}{x y:Bool}(h:x=y):(Ob.bit x y).ok P:=h
theorem Jq{b:Bool}(h:¬b=false):b=true:=by cases b <;> simp_all
theorem DQ{b:Bool}(h:¬b=true):b=false:=by cases b <;> simp_all
theorem beT{a b:Int}(h:a=b):(a==b)=true:=by simp [h]
theorem beF{a b:Int}(h:¬a=b):(a==b)=false:=by simp [h]
theorem Aa6{a b:Int}(h:¬a=b):(a != b)=true:=by simp [h]
theorem Aa7{a b:Int}(h:a=b):(a != b)=false:=by simp [h]
theorem WL.r{v:LV}:WL v v := .inl rfl
inductive Wk:PV->PV->Prop
 | r (p:PV):Wk p p
 | n (z:Nat):Wk .A4 (.sl z [])
 | op (p:PV):Wk (.Su p) p
 | qo (p:PV) (h:p.one=true):Wk p (.Su p)
 | im (t:TypeId) (f:Nat) (p:PV):Wk (.iface t p) (.VF t f p)
 | agg {a b:List PV} (h1:a.length=b.length) (h:∀j (h:j<a.length) (h':j<b.length),Wk a[j] b[j]):Wk (.agg a) (.agg b)
 | AE {a b:List PV} (h1:a.length=b.length) (h:∀j (h:j<a.length) (h':j<b.length),Wk a[j] b[j]):Wk (.AE a) (.AE b)
 | ro {a b:List PV} {o:Nat} (h1:a.length=b.length) (h:∀j (h:j<a.length) (h':j<b.length),Wk a[j] b[j]):Wk (.ro a o) (.ro b o)
 | sl {z:Nat} {a b:List (List PV)} (h1:a.length=b.length) (h2:∀i (h:i<a.length) (h':i<b.length),a[i].length=b[i].length)
   (h:∀i (h:i<a.length) (h':i<b.length) j (k:j<a[i].length) (k':j<b[i].length),Wk a[i][j] b[i][j]):Wk (.sl z a) (.sl z b)
theorem Wk.rep{p q:PV}(h:Wk p q){g:Gh}{w:World}:∀ {v:Value},BJ g w p v->BJ g w q v:=by
 induction h with
 | r p=>exact fun h=>h
 | n z=>intro v h; cases h; exact .slnil z
 | op p=>
  intro v h
  cases h with
  | Su _ _ _ h=>exact h
 | qo p h1=>exact fun h => .Su _ _ (h.one h1) h
 | im t f p=>
  intro v h
  cases h with
  | iface _ _ v h=>exact .VF _ _ _ v h
 | agg h1 h ih=>
  intro v hr
  cases hr with
  | agg _ vs k1 ko k=>exact .agg _ vs (h1 ▸ k1) ko fun j hj Cu=>ih j (by rw [h1]; exact hj) hj (k j (by rw [h1]; exact hj) Cu)
 | AE h1 h ih=>
  intro v hr
  cases hr with
  | AE _ vs k1 k=>exact .AE _ vs (h1 ▸ k1) fun j hj Cu=>ih j (by rw [h1]; exact hj) hj (k j (by rw [h1]; exact hj) Cu)
 | ro h1 h ih=>
  intro v hr
  cases hr with
  | ro _ off b o vs hc hf ho k=>exact .ro _ _ b o vs (fun j hj=>hc j (by rw [h1]; exact hj)) (fun j hj=>hf j (by rw [h1]; exact hj)) (fun j hj=>ho j (by rw [h1]; exact hj)) fun j hj=>ih j (by rw [h1]; exact hj) hj (k j (by rw [h1]; exact hj))
 | @sl z a b h1 h2 h ih=>
  intro v hr
  cases hr with
  | slnil _=>
   have:b=[]:=List.eq_nil_of_length_eq_zero h1.symm
   subst this
   exact .slnil z
  | sl _ _ ad cap vs hle Di Bq hc hf ho k=>
   rw [h1] at hle ⊢
   exact .sl z b ad cap vs hle Di (fun i hi=>by rw [<-h2 i (by rw [h1]; exact hi) hi]; exact Bq i (by rw [h1]; exact hi)) (fun i j hi hj=>hc i j (by rw [h1]; exact hi) hj) (fun i j hi hj=>hf i j (by rw [h1]; exact hi) hj) (fun i j hi hj=>ho i j (by rw [h1]; exact hi) hj)
    fun i j hi hj=>ih i (by rw [h1]; exact hi) hi j (by rw [h2 i (by rw [h1]; exact hi) hi]; exact hj) hj (k i j (by rw [h1]; exact hi) (by rw [h2 i (by rw [h1]; exact hi) hi]; exact hj))
def DD(a b:List PV):Prop:=a.length=b.length/\∀j (h:j<a.length) (h':j<b.length),Wk a[j] b[j]
theorem DD.r(a:List PV):DD a a:=⟨rfl,fun _ _ _ => .r _⟩
theorem DD.c{x y:PV}{a b:List PV}(h:Wk x y)(hs:DD a b):DD (x::a) (y::b):=by
 refine ⟨by simp [hs.1],fun j hj Cu=>?_⟩
 cases j with
 | zero=>exact h
 | succ j=>exact hs.2 j (by simpa using hj) (by simpa using Cu)
theorem Wk.a{a b:List PV}(h:DD a b):Wk (.agg a) (.agg b) := .agg h.1 h.2
theorem Wk.t{a b:List PV}(h:DD a b):Wk (.AE a) (.AE b) := .AE h.1 h.2
def Qj(a b:List (List PV)):Prop:=a.length=b.length/\∀i (h:i<a.length) (h':i<b.length),DD a[i] b[i]
theorem Qj.r(a:List (List PV)):Qj a a:=⟨rfl,fun _ _ _ => .r _⟩
theorem Qj.c{x y:List PV}{a b:List (List PV)}(h:DD x y)(hs:Qj a b):Qj (x::a) (y::b):=by
 refine ⟨by simp [hs.1],fun j hj Cu=>?_⟩
 cases j with
 | zero=>exact h
 | succ j=>exact hs.2 j (by simpa using hj) (by simpa using Cu)
theorem Wk.s{z:Nat}{a b:List (List PV)}(h:Qj a b):Wk (.sl z a) (.sl z b) := .sl h.1 (fun i hi OL=>(h.2 i hi OL).1) fun i hi OL=>(h.2 i hi OL).2
theorem C3.wk{P:Program}{f:FuncId}{args:List PV}{e e':Ext}{p q:PV}(hw:Wk p q)(h:C3 P f args e fun r1 e1=>r1 = .ret p/\e1=e'):C3 P f args e fun r1 e1=>r1 = .ret q/\e1=e':=fun vs g l w ha he=>
 (h vs g l w ha he).mono fun en w' ⟨res,e2,g',l',⟨h1,h2⟩,h3,h4⟩=>by
  subst h1 h2
  refine ⟨.ret q,e2,g',l',⟨rfl,rfl⟩,?_,h4⟩
  cases en <;> first | exact h3.elim | exact hw.rep h3
theorem Ob.Ed{P:Program}{f:FuncId}{args:List PV}{p q:PV}(hw:Wk p q)(h:(Ob.Qa f args (.ret p)).ok P):(Ob.Qa f args (.ret q)).ok P:=⟨h.1,fun e=>(h.2 e).wk hw⟩
theorem DD.r9{a b:List PV}(h:DD a b){g:Gh}{w:World}{vs:List Value}(hr:AG g w a vs):AG g w b vs:=⟨h.1 ▸ hr.1,fun j hj Cu=>(h.2 j (by rw [h.1]; exact hj) hj).rep (hr.2 j (by rw [h.1]; exact hj) Cu)⟩
theorem Ob.gZ{P:Program}{f:FuncId}{a b:List PV}{r:Cr}(hw:DD a b)(h:(Ob.Qa f b r).ok P):(Ob.Qa f a r).ok P:=⟨h.1,fun e vs g l w ha he=>h.2 e vs g l w (hw.r9 ha) he⟩
abbrev aT:Dg := .bit true
abbrev aF:Dg := .bit false
abbrev aI(x:Int):Dg := .kY (.v (.int .i64 x))
abbrev aR(cs:List PV):Dg := .kY (.v (.ro cs 0))
abbrev oT(p:Prop) [Decidable p]:Ob := .bit (decide p) true
abbrev oF(p:Prop) [Decidable p]:Ob := .bit (decide p) false
abbrev oE(x y:Int):Ob := .eqv (.v (.int .i64 x)) (.v (.int .i64 y))
abbrev oR(x y:List PV):Ob := .eqv (.v (.ro x 0)) (.v (.ro y 0))
abbrev oB(x:Bool):Ob := .bit x true
abbrev oC(x:Bool):Ob := .bit x false
theorem pT{P:Program}{p:Prop} [Decidable p] (h:p):(oT p).ok P:=N3 (dT h)
theorem pF{P:Program}{p:Prop} [Decidable p] (h:¬p):(oF p).ok P:=N3 (dF h)
abbrev pI(x:Int):PV := .int .i64 x
abbrev A1(x:Int):LV := .v (.int .i64 x)
abbrev vS(x:ByteArray):LV := .v (.str x)
abbrev vL(n:Nat)(x:List (List PV)):LV := .v (.sl n x)
abbrev rA(x:List PV):Cr := .ret (.agg x)
abbrev rI(x:Int):Cr := .ret (.int .i64 x)
abbrev rB(x:Bool):Cr := .ret (.bool x)
theorem W{v:LV}:WL v v:=WL.r
theorem Ws{l:List LV}:F7 l l:=F7.refl l
abbrev jk:LV := .Dx
structure DX (P:Program) where
 a:List Dg
 o:List Ob
 h:QG P o
section
variable {P:Program}
def Ss:List (DX P)->List Dg
 | []=>[]
 | s::r=>s.a++Ss r
def eV:List (DX P)->List Ob
 | []=>[]
 | s::r=>s.o++eV r
theorem Qk:∀ {a b:List Ob},QG P a->QG P b->QG P (a++b)
 | [],_,_,hb=>hb
 | _::_,_,ha,hb=>⟨ha.1,Qk ha.2 hb⟩
theorem lD:∀L:List (DX P),QG P (eV L)
 | []=>trivial
 | s::r=>Qk s.h (lD r)
def s1(a:List Dg){o:Ob}(h:o.ok P):DX P:=⟨a,[o],⟨h,An⟩⟩
def bt(b:Bool)(h:b=true:=by rfl):DX P:=s1 [.bit true] (o := .bit b true) h
def bf(b:Bool)(h:b=false:=by rfl):DX P:=s1 [.bit false] (o := .bit b false) h
def dt(p:Prop) [Decidable p] (h:p:=by omega):DX P:=s1 [.bit true] (o := .bit (decide p) true) (decide_eq_true h)
def df(p:Prop) [Decidable p] (h:¬p:=by omega):DX P:=s1 [.bit false] (o := .bit (decide p) false) (decide_eq_false h)
def et(x y:Int)(h:x=y:=by omega):DX P:=s1 [.bit true] (o := .bit (x==y) true) (beT h)
def en(x y:Int)(h:¬x=y:=by omega):DX P:=s1 [.bit false] (o := .bit (x==y) false) (beF h)
def nt(x y:Int)(h:¬x=y:=by omega):DX P:=s1 [.bit true] (o := .bit (x != y) true) (Aa6 h)
def nn(x y:Int)(h:x=y:=by omega):DX P:=s1 [.bit false] (o := .bit (x != y) false) (Aa7 h)
def am(p:Prop) [Decidable p] (h:p:=by omega):DX P:=s1 [] (o := .bit (decide p) true) (decide_eq_true h)
def ab(b:Bool)(h:b=true:=by rfl):DX P:=s1 [] (o := .bit b true) h
def av(x y:LV)(h:x=y:=by rfl):DX P:=s1 [.kY y] (o := .eqv x y) h
def ai(x y:Int)(h:LV.v (.int .i64 x)=LV.v (.int .i64 y):=by rfl):DX P:=s1 [.kY (.v (.int .i64 y))] (o := .eqv (.v (.int .i64 x)) (.v (.int .i64 y))) h
def ar(x y:List PV)(h:LV.v (.ro x 0)=LV.v (.ro y 0):=by rfl):DX P:=s1 [.kY (.v (.ro y 0))] (o := .eqv (.v (.ro x 0)) (.v (.ro y 0))) h
def wr(x:Int)(h1 : -9223372036854775808<=x:=by omega)(h2:x<=9223372036854775807:=by omega):DX P:=s1 [.kY (.v (.int .i64 x))] (o := .eqv (.v (.int .i64 (IntKind.i64.wrap x))) (.v (.int .i64 x))) (wrap64 h1 h2)
def sl{c:List (List PV)}{n:Nat}(h:c.length=n):DX P:=s1 [.kY (.v (.int .i64 n))] (o := .eqv (.v (.int .i64 c.length)) (.v (.int .i64 n))) (by rw [h]; rfl)
def kp:DX P:=⟨[.BN],[],An⟩
def rp:Nat->DX P->DX P
 | 0,_=>⟨[],[],An⟩
 | n+1,s=>⟨s.a++(rp n s).a,s.o++(rp n s).o,Qk s.h (rp n s).h⟩
def ur:DX P:=⟨[.Ye],[],An⟩
def cl{f:FuncId}{args:List PV}{r:Cr}(h:(Ob.Qa f args r).ok P):DX P:=s1 [.Qa r] h
def ce{f:FuncId}{args:List PV}{e:Ext}{r:Cr}{e':Ext}(h:(Ob.DO f args e r e').ok P):DX P:=s1 [.DO r e'] h
def cd{f:FuncId}{args:List PV}{e:Ext}{m m':PM}{e':Ext}(h:(Ob.Oe f args e m m' e').ok P):DX P:=s1 [.Oe m' e'] h
def mg:DX P:=⟨[.mrg],[],An⟩
def lf{n:Nat}{c:Code}{s0:S}{pe:A5}{t:S}(s:S)(h:(Ob.Ev n c s0 pe t).ok P)(hle:Rq s0 s):DX P:=⟨[.loop s0 pe t],[.le s0 s,.Ev n c s0 pe t],⟨hle,h,An⟩⟩
def lp{n:Nat}{c:Code}{s0:S}{pe:A5}{t:S}(s:S)(h:(Ob.loop n c s0 pe t).ok P)(hle:Rq s0 s):DX P:=⟨[.loop s0 pe t],[.le s0 s,.loop n c s0 pe t],⟨hle,h,An⟩⟩
abbrev BA:Type:=ByteArray
def B2{b:Bool}(h:b=true):DX P:=bt b h
def AQ{b:Bool}(h:b=false):DX P:=bf b h
def C6{p:Prop} [Decidable p] (h:p):DX P:=dt p h
def Az{p:Prop} [Decidable p] (h:¬p):DX P:=df p h
def Bh{x y:Int}(h:x=y):DX P:=et x y h
def Aw{x y:Int}(h:¬x=y):DX P:=en x y h
def Bv{x y:Int}(h:¬x=y):DX P:=nt x y h
def Bi{x y:Int}(h:x=y):DX P:=nn x y h
def am1{p:Prop} [Decidable p] (h:p):DX P:=am p h
def ab1{b:Bool}(h:b=true):DX P:=ab b h
theorem xr{A B:S}(h:Rq A B:=by (refine ⟨?_,?_,rfl⟩ <;> repeat' first | exact trivial | exact WL.r | exact F7.refl _ | constructor)):Rq A B:=h
def Yz{β:Type}:List (Nat × β)->List Nat->Bool
 | [],_=>true
 | x::r,q=>!q.contains x.1&&Yz r (x.1::q)
theorem Tf{β:Type}{k:Nat}{v:β}:∀ (p r:List (Nat × β)),(∀x,x∈p->¬x.1=k)->lk (p++(k,v)::r) k=some v
 | [],r,_=>by simp [lk]
 | (a,b)::p,r,h=>by
  have h1:=h (a,b) List.mem_cons_self
  simp only at h1
  rw [List.cons_append,lk,iN h1]
  exact Tf p r fun x hx=>h x (List.mem_cons_of_mem _ hx)
theorem eI.sf:∀ (r p:List (Nat × LV)) (q:List Nat),(∀x,x∈p->x.1∈q)->Yz r q=true->eI r (p++r)
 | [],_,_,_,_=>trivial
 | (k,v)::r,p,q,hp,h=>by
  simp only [Yz,Bool.and_eq_true,Bool.not_eq_true',List.contains_eq_mem,decide_eq_false_iff_not] at h
  refine ⟨?_,?_⟩
  ·rw [Tf p r fun x hx e=>h.1 (by rw [<-e]; exact hp x hx)]
   exact WL.r
  ·have:=eI.sf r (p++[(k,v)]) (k::q) (fun x hx=>by
    rcases List.mem_append.1 hx with hx | hx
    ·exact List.mem_cons_of_mem _ (hp x hx)
    ·rw [List.mem_singleton.1 hx]; exact List.mem_cons_self) h.2
   rwa [List.append_assoc] at this
theorem eJ.sf:∀ (r p:List (Nat × List LV)) (q:List Nat),(∀x,x∈p->x.1∈q)->Yz r q=true->eJ r (p++r)
 | [],_,_,_,_=>trivial
 | (k,v)::r,p,q,hp,h=>by
  simp only [Yz,Bool.and_eq_true,Bool.not_eq_true',List.contains_eq_mem,decide_eq_false_iff_not] at h
  refine ⟨?_,?_⟩
  ·rw [Tf p r fun x hx e=>h.1 (by rw [<-e]; exact hp x hx)]
   exact F7.refl _
  ·have:=eJ.sf r (p++[(k,v)]) (k::q) (fun x hx=>by
    rcases List.mem_append.1 hx with hx | hx
    ·exact List.mem_cons_of_mem _ (hp x hx)
    ·rw [List.mem_singleton.1 hx]; exact List.mem_cons_self) h.2
   rwa [List.append_assoc] at this
theorem xq{s:S}(h:(Yz s.tmps []&&Yz s.boxes [])=true):Rq s s:=by
 rw [Bool.and_eq_true] at h
 exact ⟨eI.sf _ [] [] (fun _ h=>by cases h) h.1,eJ.sf _ [] [] (fun _ h=>by cases h) h.2,rfl⟩
def lq{n:Nat}{c:Code}{s0:S}{pe:A5}{t:S}(h:(Ob.loop n c s0 pe t).ok P)(hk:(Yz s0.tmps []&&Yz s0.boxes [])=true:=by rfl):DX P:=lp s0 h (xq hk)
theorem kR{p:Prop}(h:p:=by kernel_rfl):p:=h
structure C5 where (a b c d e:PV)
theorem oq{P:Program}{x y:Int}(h:¬x=y:=by omega):(Ob.bit (x==y) false).ok P:=N3 (beF h)
end
end Go.Pv
