/- Values of Go as plain data, an evaluator over them, and what the functions of the program return; part Xh. -/
import Derived.Test.YtmllcplaohkjnaaGreatDoorXe
import Derived.WalkKit
import Derived.ProofKit
import Derived.LaidLaws
import Derived.ChangeArms
import Derived.Sort.OwnSorted
set_option linter.unusedVariables false
set_option linter.unusedSimpArgs false
set_option linter.unusedSectionVars false
namespace Go.Pv
open Go.ChangeShapes Go.WideShapes Go.ChangeAt Go.RowKit
def TyF(T:TypeId->List PV->Prop):List Field->List PV->Prop
 | [],cs=>cs=[]
 | f::r,cs=>∃c Jk,cs=c++Jk/\T f.type c/\TyF T r Jk
def Ty(P:Program):Nat->TypeId->List PV->Prop
 | 0,_,_=>False
 | n+1,t,cs=>match P.underlying t with
  | some .bool=>∃b,cs=[.bool b]
  | some (.int k)=>∃v,cs=[.int k v]/\(Lit.int k v).wf=true
  | some .string=>∃s:ByteArray,cs=[.str s]/\s.size<=maxLen
  | some (.slice e)=>∃es:List (List PV),cs=[.sl (P.cellsOf e) es]/\es.length<=maxLen/\∀x∈es,Ty P n e x
  | some (.struct fs)=>TyF (Ty P n) fs.toList cs
  | _=>False
def S6(P:Program):List Field->Nat->Option Nat
 | [],o=>some o
 | f::r,o=>if f.offset=o then S6 P r (o+P.cellsOf f.type) else none
def Li(P:Program)(ts:List TypeId)(t:TypeId):Bool:=match P.underlying t with
 | some .bool=>true
 | some (.int _)=>true
 | some .string=>true
 | some (.slice e)=>ts.contains e&&decide (0<P.cellsOf e)
 | some (.struct fs)=>fs.toList.all (fun f=>ts.contains f.type)&&decide (S6 P fs.toList 0=some (P.cellsOf t))
 | _=>false
mutual
def Dq:PV->Nat
 | .str s=>s.size+1
 | .sl _ es=>Af es+1
 | _=>1
def Af:List (List PV)->Nat
 | []=>0
 | x::r=>A5 x+Af r
def A5:List PV->Nat
 | []=>0
 | x::r=>Dq x+A5 r
end
theorem Jw:∀a b:List PV,A5 (a++b)=A5 a+A5 b
 | [],b=>by simp [A5]
 | x::a,b=>by simp only [List.cons_append,A5,Jw a b]; omega
mutual
def Ep{H:Type}:DataW H->Nat
 | .lit (.string bytes)=>bytes.length+1
 | .lit _=>1
 | .nil=>1
 | .ptr d=>Ep d+1
 | .slice elems spare=>Ei elems+Ei spare+1
 | .agg parts=>Ei parts+1
 | .iface _ d=>Ep d+1
 | .map entries=>Qn entries+1
 | .held _=>1
def Ei{H:Type}:List (DataW H)->Nat
 | []=>0
 | d::r=>Ep d+Ei r
def Qn{H:Type}:List (Lit × DataW H)->Nat
 | []=>0
 | x::r=>TO x+Qn r
def TO{H:Type}:Lit × DataW H->Nat
 | (.string bytes,d)=>bytes.length+Ep d+1
 | (_,d)=>Ep d+1
end
def g0:Gh:=⟨fun _=>none,fun _=>none,fun _ _=>none⟩
theorem rC(b o:Nat):g0.Fix b o:=fun k hk=>by cases hk
theorem AE.append{g:Gh}{w:World}{a b:List PV}{x y:List Value}(h1:AE g w a x)(h2:AE g w b y):AE g w (a++b) (x++y):=by
 refine ⟨by simp [h1.1,h2.1],fun j h h'=>?_⟩
 by_cases hj:j<a.length
 ·have Cj:j<x.length:=by rw [<-h1.1]; exact hj
  rw [List.getElem_append_left hj,List.getElem_append_left Cj]
  exact h1.2 j hj Cj
 ·have SS:a.length<=j:=by omega
  have HK:x.length<=j:=by rw [<-h1.1]; exact SS
  rw [List.getElem_append_right SS,List.getElem_append_right HK]
  have e:j - x.length=j - a.length:=by rw [h1.1]
  simp only [e]
  exact h2.2 (j - a.length) (by simp at h; omega) (by have:=h1.1; have:=h2.1; simp at h h'; omega)
section
variable {H:Type} {enc:TypeId × Value->H} {P:Program} {w:World} {sp:Nat->Bool} {held:Bool}
structure rD (P:Program) (w:World) (n:Nat) (t:TypeId) (vs:List Value) (BF:Nat) (cs:List PV):Prop where
 ty:Ty P n t cs
 rep:AE g0 w cs vs
 one:∀c∈cs,c.one=true
 BF:A5 cs<=BF
theorem P5{ts:List TypeId}{n:Nat}(ih:∀ (t:TypeId) (vs:List Value) (d:DataW H) (ps:List MemPlace),DataW.trod enc P w 0 sp held n t vs=some (d,ps)->t∈ts->∃cs,rD P w n t vs (Ep d) cs)
  {vs:List Value}:∀ {fs:List Field} {o o':Nat} {xs:List (DataW H × List MemPlace)},(∀f∈fs,f.type∈ts)->S6 P fs o=some o'->xs.length=fs.length->(∀ (i:Nat) (f:Field),fs[i]?=some f->DataW.trod enc P w 0 sp held n f.type ((vs.drop f.offset).take (P.cellsOf f.type))=xs[i]?)->o'<=vs.length ->
   ∃cs,TyF (Ty P n) fs cs/\AE g0 w cs ((vs.drop o).take (o' - o))/\(∀c∈cs,c.one=true)/\A5 cs<=Ei (xs.map (·.1))/\o<=o'
 | [],o,o',xs,_,ht,_,hx,_=>by
  simp only [S6,Option.some.injEq] at ht
  subst ht
  exact ⟨[],rfl,by simp; exact AE.nil,by simp,by simp [A5],Nat.le_refl _⟩
 | f::fs,o,o',[],hm,ht,hl,hx,hlen=>by simp at hl
 | f::fs,o,o',(y1,y2)::ys,hm,ht,hl,hx,hlen=>by
  simp only [S6] at ht
  split at ht
  ·rename_i ho
   have hd:=hx 0 f rfl
   simp only [List.getElem?_cons_zero] at hd
   obtain ⟨Jk,k1,k2,k3,k4,k5⟩:=P5 ih (xs:=ys) (fun f hf=>hm f (List.mem_cons_of_mem _ hf)) ht (by simpa using hl) (fun i f hf=>by simpa using hx (i+1) f (by simpa using hf)) hlen
   obtain ⟨c,r⟩:=ih f.type _ y1 y2 hd (hm f sM)
   refine ⟨c++Jk,⟨c,Jk,rfl,r.ty,k1⟩,?_,fun x hx=>?_,?_,by omega⟩
   ·have e:(vs.drop o).take (o' - o)=(vs.drop f.offset).take (P.cellsOf f.type)++(vs.drop (o+P.cellsOf f.type)).take (o' - (o+P.cellsOf f.type)):=by
     rw [ho,<-List.drop_drop,<-List.take_add]
     congr 1
     omega
    rw [e]
    exact r.rep.append k2
   ·rcases List.mem_append.1 hx with hx | hx
    ·exact r.one x hx
    ·exact k3 x hx
   ·simp only [Jw,List.map_cons,Ei]
    have:=r.BF
    omega
  ·cases ht
theorem S7{n:Nat}{e:TypeId}{f:Nat->Option (DataW H × List MemPlace)}{R:Nat->List PV->Prop}:∀ {elems:List (DataW H × List MemPlace)} {k:Nat},(∀i x,f i=some x->∃cs,R i cs/\Ty P n e cs/\A5 cs<=Ep x.1)->(∀i,i<elems.length->f (k+i)=elems[i]?) ->
  ∃es:List (List PV),es.length=elems.length/\(∀i (h:i<es.length),R (k+i) es[i])/\(∀x∈es,Ty P n e x)/\Af es<=Ei (elems.map (·.1))
 | [],k,_,_=>⟨[],rfl,fun i h=>by simp at h,by simp,by simp [Af]⟩
 | x::ys,k,h,hm=>by
  have h1:=hm 0 sM
  simp only [List.getElem?_cons_zero,Nat.add_zero] at h1
  obtain ⟨cs,a1,a2,a3⟩:=h k x h1
  obtain ⟨es,b1,b2,b3,b4⟩:=S7 (elems:=ys) (k:=k+1) h (fun i hi=>by
   have:=hm (i+1) (by simpa using hi)
   rw [show k+1+i=k+(i+1) by omega]
   simpa using this)
  refine ⟨cs::es,by simp [b1],fun i hi=>?_,fun x hx=>?_,?_⟩
  ·cases i with
   | zero=>exact a1
   | succ i=>
    have:=b2 i (by simpa using hi)
    have e:k+1+i=k+(i+1):=by omega
    rw [e] at this
    exact this
  ·rcases List.mem_cons.1 hx with rfl | hx
   ·exact a2
   ·exact b3 x hx
  ·simp only [Af,List.map_cons,Ei]
   omega
theorem Qo(a:Addr)(i j:Nat):(a.add i).add j=a.add (i+j):=by
 unfold Addr.add
 by_cases hi:i=0 <;> by_cases hj:j=0 <;> simp [hi,hj] <;> omega
theorem Ni{ts:List TypeId}(Z3:ts.all (Li P ts)=true):∀ (n:Nat) (t:TypeId) (vs:List Value) (d:DataW H) (ps:List MemPlace),DataW.trod enc P w 0 sp held n t vs=some (d,ps)->t∈ts->∃cs,rD P w n t vs (Ep d) cs
 | 0,t,vs,d,ps,h,_=>by simp [DataW.trod] at h
 | n+1,t,vs,d,ps,h,ht=>by
  have hc:=List.all_eq_true.1 Z3 t ht
  unfold Li at hc
  have single:∀ {p:PV} {v:Value} {m:Nat},Ty P (n+1) t [p]->BO g0 w p v->p.one=true->Dq p<=m->∃cs,rD P w (n+1) t [v] m cs:=fun {p v m} h1 h2 h3 h4=>
   ⟨[p],h1,AE.cons h2 AE.nil,by simpa using h3,by simp only [A5]; omega⟩
  cases hu:P.underlying t with
  | none=>rw [hu] at hc; cases hc
  | some u=>
   rw [hu] at hc
   cases u <;> first | (cases hc; done) | skip
   case bool=>
    obtain ⟨b,rfl,hx⟩:=DataW.trod_bool hu h
    injection hx with hx _
    subst hx
    exact single (p := .bool b) (by simp only [Ty,hu]; exact ⟨_,rfl⟩) (.bool _) rfl (by simp [Dq,Ep])
   case int k=>
    obtain ⟨v,rfl,hx,hwf⟩:=DataW.trod_int hu h
    injection hx with hx _
    subst hx
    exact single (p := .int k v) (by simp only [Ty,hu]; exact ⟨_,rfl,hwf⟩) (.int _ _) rfl (by simp [Dq,Ep])
   case string=>
    obtain ⟨s,rfl,hx,hs⟩:=DataW.trod_string hu h
    injection hx with hx _
    subst hx
    refine single (p := .str s) (by simp only [Ty,hu]; exact ⟨_,rfl,hs⟩) (.str _) rfl ?_
    simp only [Dq,Ep,Array.length_toList]
    exact Nat.le_refl _
   case slice e=>
    simp only [Bool.and_eq_true,decide_eq_true_eq] at hc
    have he:e∈ts:=by simpa using hc.1
    rcases DataW.trod_slice hu h with ⟨rfl,hx⟩ | ⟨a,len,cap,elems,rest,m,hm,rfl,hx,hb,hle,D5,hel,Xk,-,-⟩
    ·injection hx with hx _
     subst hx
     exact single (p := .sl (P.cellsOf e) []) (by simp only [Ty,hu]; exact ⟨[],rfl,by simp,by simp⟩) (.slnil _) rfl (by simp [Dq,Af,Ep])
    ·injection hm with hm
     subst hm
     injection hx with hx _
     subst hx
     obtain ⟨es,k1,k2,k3,k4⟩:=S7 (P:=P) (n:=n) (e:=e) (R:=fun i cs=>∃vs:List Value,vs.length=P.cellsOf e/\(∀j,j<P.cellsOf e->w.cell? ((a.add (i * P.cellsOf e)).add j)=vs[j]?)/\AE g0 w cs vs/\∀c∈cs,c.one=true)
      (f:=fun i=>(w.cells? 0 (a.add (i * P.cellsOf e)) (P.cellsOf e)).bind (DataW.trod enc P w 0 sp held n e)) (elems:=elems) (k:=0)
      (fun i x hi=>by
       simp only [Option.bind_eq_some_iff] at hi
       obtain ⟨vs,h1,h2⟩:=hi
       obtain ⟨-,h3,h4⟩:=World.cells?_some h1
       obtain ⟨cs,r⟩:=Ni Z3 n e vs x.1 x.2 h2 he
       exact ⟨cs,⟨vs,h3,h4,r.rep,r.one⟩,r.ty,r.BF⟩)
      (fun i hi=>by simpa using Xk i oM)
     have hlen:es.length=len:=k1.trans hel
     refine single (p := .sl (P.cellsOf e) es) (by simp only [Ty,hu]; exact ⟨es,rfl,by omega,k3⟩) ?_ rfl ?_
     ·rw [<-hlen]
      let vs:Nat->Nat->Value:=fun i j=>((w.cell? (a.add (i * P.cellsOf e+j))).getD undef)
      have key:∀i (hi:i<es.length),∃vl:List Value,vl.length=P.cellsOf e/\es[i].length=P.cellsOf e/\(∀j (hj:j<P.cellsOf e),w.cell? (a.add (i * P.cellsOf e+j))=vl[j]?)/\AE g0 w es[i] vl/\∀c∈es[i],c.one=true:=fun i hi=>by
       obtain ⟨vl,h1,h2,h3,h4⟩:=k2 i hi
       rw [Nat.zero_add] at h2
       refine ⟨vl,h1,by rw [h3.1,h1],fun j hj=>?_,h3,h4⟩
       have:=h2 j hj
       have hv:vl[j]?=some vl[j]:=List.getElem?_eq_getElem oM
       rw [hv] at this
       have e1:=Kc this
       rw [Qo] at this
       rw [this,hv]
      refine .sl _ es a cap vs oM D5 (fun i hi=>(key i hi).choose_spec.2.1) (fun i j hi hj=>?_) (fun _ _ _ _=>rC _ _) (fun i j hi hj=>?_) (fun i j hi hj=>?_)
      all_goals obtain ⟨vl,h1,h2,h3,h4,h5⟩:=key i hi
      ·have:=h3 j hj
       have hv:vl[j]?=some vl[j]:=List.getElem?_eq_getElem oM
       simp only [vs,this,hv,Option.getD_some]
      ·have:=h3 j hj
       have hv:vl[j]?=some vl[j]:=List.getElem?_eq_getElem oM
       simp only [vs,this,hv,Option.getD_some]
       exact (h4.2 j oM oM).one (h5 _ (List.getElem_mem _))
      ·have Cj:j<P.cellsOf e:=by omega
       have:=h3 j Cj
       have hv:vl[j]?=some vl[j]:=List.getElem?_eq_getElem oM
       simp only [vs,this,hv,Option.getD_some]
       exact h4.2 j hj oM
     ·simp only [Dq,Ep]
      omega
   case struct fs=>
    simp only [Bool.and_eq_true,decide_eq_true_eq] at hc
    obtain ⟨xs,m,hm,hx,hlen,wR,Xk⟩:=DataW.trod_struct hu h
    injection hm with hm
    subst hm
    injection hx with hx _
    subst hx
    obtain ⟨cs,k1,k2,k3,k4,k5⟩:=P5 (P:=P) (ts:=ts) (n:=n) (fun t vs d ps h ht=>Ni Z3 n t vs d ps h ht) (vs:=vs) (fs:=fs.toList) (o:=0) (xs:=xs)
     (fun f hf=>by have:=List.all_eq_true.1 hc.1 f hf; simpa using this) hc.2 (by simpa using wR) (fun i f hf=>Xk i f (by simpa using hf)) oM
    refine ⟨cs,by simp only [Ty,hu]; exact k1,?_,k3,by simp only [Ep]; omega⟩
    have:(vs.drop 0).take (P.cellsOf t - 0)=vs:=by simp [<-hlen]
    rw [this] at k2
    exact k2
end
def P6(P:Program)(t:TypeId)(cs:List PV):PV:=match P.underlying t with
 | some (.struct _) => .agg cs
 | _=>cs.headD .Dy
def Nj(P:Program):List TypeId->List (List PV)->List PV
 | t::ts,cs::S8=>P6 P t cs::Nj P ts S8
 | _,_=>[]
def Z4(P:Program):List TypeId->List (List PV)->Prop
 | [],[]=>True
 | t::ts,cs::S8=>(∃n,Ty P n t cs)/\Z4 P ts S8
 | _,_=>False
section
variable {H:Type} {enc:TypeId × Value->H} {P:Program} {w:World}
theorem iK{tl:List TypeId}(Z3:tl.all (Li P tl)=true){base:Nat}{t:TypeId}{v:Value}{d:DataW H}{ps:List MemPlace}{sp:Nat->Bool}{held:Bool}(ht:t∈tl)(Lj:Value.okWide P w .any base t v)(h:DataW.Trod enc P w 0 sp held t v d ps) :
  ∃cs,(∃n,Ty P n t cs)/\BO g0 w (P6 P t cs) v/\A5 cs<=Ep d:=by
 obtain ⟨n,h⟩:=h
 obtain ⟨cs,r⟩:=Ni Z3 n t _ d ps h ht
 refine ⟨cs,⟨n,r.ty⟩,?_,r.BF⟩
 have hc:=List.all_eq_true.1 Z3 t ht
 unfold Li at hc
 have scalar:∀ {u:Value},u.cells.toList=[u]->v=u->(match P.underlying t with | some (.struct _)=>PV.agg cs | _=>cs.headD .Dy)=cs.headD .Dy->BO g0 w (P6 P t cs) v:=fun {u} h1 h2 h3=>by
  subst h2
  unfold P6
  rw [h3]
  have:=r.rep
  rw [h1] at this
  obtain ⟨p,ps',hp⟩:∃p ps',cs=p::ps':=by
   cases DM:cs with
   | nil=>rw [DM] at this; exact absurd this.1 sM
   | cons p ps'=>exact ⟨p,ps',rfl⟩
  subst hp
  exact this.2 0 sM sM
 cases hu:P.underlying t with
 | none=>rw [hu] at hc; cases hc
 | some u=>
  rw [hu] at hc
  rw [hu] at scalar
  cases u <;> first | (cases hc; done) | skip
  case bool=>obtain ⟨b,rfl⟩:=okWide_bool hu Lj; exact scalar (u := .bool b) rfl rfl rfl
  case int k=>obtain ⟨b,rfl⟩:=okWide_int hu Lj; exact scalar (u := .int k b) rfl rfl rfl
  case string=>obtain ⟨b,rfl⟩:=okWide_string hu Lj; exact scalar (u := .string b) rfl rfl rfl
  case slice e=>obtain ⟨a,l,c,rfl⟩:=okWide_slice hu Lj; exact scalar (u := .slice a l c) rfl rfl rfl
  case struct fs=>
   simp only [Value.okWide,hu] at Lj
   obtain ⟨arr,rfl,-,-⟩:=Lj
   unfold P6
   rw [hu]
   have hr:AE g0 w cs arr.toList:=r.rep
   have:=BO.agg (g:=g0) (w:=w) cs arr.toList hr.1 (fun v hv=>by
    obtain ⟨j,hj,e⟩:=List.getElem_of_mem hv
    have:=hr.2 j (by rw [hr.1]; exact hj) hj
    rw [e] at this
    exact this.one (r.one _ (List.getElem_mem _))) hr.2
   simpa using this
theorem S9{tl:List TypeId}(Z3:tl.all (Li P tl)=true){base:Nat}{sp:Nat->Bool}{held:Bool}:∀ {ts:List TypeId} {vs:List Value} {ds:List (DataW H)} {ps:List MemPlace},(∀t∈ts,t∈tl)->(∀ (j:Nat) t v,ts[j]?=some t->vs[j]?=some v->Value.okWide P w .any base t v)->DataW.TrodAll enc P w 0 sp held ts vs ds ps ->
  ∃S8,Z4 P ts S8/\AE g0 w (Nj P ts S8) vs/\Af S8<=Ei ds
 | [],[],[],ps,_,_,_=>⟨[],trivial,AE.nil,by simp [Af]⟩
 | t::ts,v::vs,d::ds,ps,hm,Lj,h=>by
  obtain ⟨p,q,h1,h2,-⟩:=h
  obtain ⟨cs,a1,a2,a3⟩:=iK Z3 (hm t sM) (Lj 0 t v rfl rfl) h1
  obtain ⟨S8,b1,b2,b3⟩:=S9 Z3 (fun t ht=>hm t (List.mem_cons_of_mem _ ht)) (fun j t v ht hv=>Lj (j+1) t v (by simpa using ht) (by simpa using hv)) h2
  exact ⟨cs::S8,⟨a1,b1⟩,AE.cons a2 b2,by simp only [Af,Ei]; omega⟩
 | [],_::_,_,_,_,_,h=>h.elim
 | [],[],_::_,_,_,_,h=>h.elim
 | _::_,[],_,_,_,_,h=>h.elim
 | _::_,_::_,[],_,_,_,h=>h.elim
theorem F2{base:Nat}{sp:Nat->Bool}{held:Bool}:∀ {ts:List TypeId} {vs:List Value} {ds:List (DataW H)} {ps:List MemPlace},DataW.TrodAll enc P w base sp held ts vs ds ps->ds.length=ts.length
 | [],[],[],_,_=>rfl
 | _::_,_::_,_::_,_,h=>by
  obtain ⟨p,q,-,h2,-⟩:=h
  simp [F2 h2]
 | [],_::_,_,_,h=>h.elim
 | [],[],_::_,_,h=>h.elim
 | _::_,[],_,_,h=>h.elim
 | _::_,_::_,[],_,h=>h.elim
theorem Jy{W W':World}(hl:laidOutB P=true)(hb:Below W.heap.size W W'):∀ {ts:List TypeId} {vs:List Value} {ds:List (DataW H)} {ps:List MemPlace},(∀t∈ts,P.readableRec t=true/\t<P.types.size)->(∀x∈ps,x.block<W.heap.size)->DataW.TrodAll enc P W 0 (fun _=>true) true ts vs ds ps->DataW.TrodAll enc P W' 0 (fun b=>decide (b<W.heap.size)) true ts vs ds ps
 | [],[],[],ps,_,_,h=>h
 | t::ts,v::vs,d::ds,ps,hr,Ad,h=>by
  obtain ⟨p,q,h1,h2,rfl⟩:=h
  exact ⟨p,q,Below.trod hl (hr t sM).1 (hr t sM).2 h1 hb (fun x hx=>Ad x (List.mem_append_left _ hx)),Jy hl hb (fun t ht=>hr t (List.mem_cons_of_mem _ ht)) (fun x hx=>Ad x (List.mem_append_right _ hx)) h2,rfl⟩
 | [],_::_,_,_,_,_,h=>h.elim
 | [],[],_::_,_,_,_,h=>h.elim
 | _::_,[],_,_,_,_,h=>h.elim
 | _::_,_::_,[],_,_,_,h=>h.elim
theorem mapM_at{α β:Type}{f:α->Option β}:∀ {l:List α} {r:List β},l.mapM f=some r->∀ (i:Nat) (a:α),l[i]?=some a->∃b,r[i]?=some b/\f a=some b
 | [],_,_,i,a,ha=>by simp at ha
 | x::l,r,h,i,a,ha=>by
  simp only [List.mapM_cons,Option.bind_eq_bind,Option.bind_eq_some_iff,Option.pure_def,Option.some.injEq] at h
  obtain ⟨b,hb,r',fX,rfl⟩:=h
  cases i with
  | zero=>
   simp only [List.getElem?_cons_zero,Option.some.injEq] at ha
   subst ha
   exact ⟨b,rfl,hb⟩
  | succ i=>exact mapM_at fX i a (by simpa using ha)
theorem Sa{α β:Type}{f:α->Option β}:∀ {l:List α} {r:List β},l.mapM f=some r->r.length=l.length
 | [],r,h=>by simp at h; subst h; rfl
 | x::l,r,h=>by
  simp only [List.mapM_cons,Option.bind_eq_bind,Option.bind_eq_some_iff,Option.pure_def,Option.some.injEq] at h
  obtain ⟨b,hb,r',fX,rfl⟩:=h
  simp [Sa fX]
theorem Nk{e:TypeId}{n fuel:Nat}{t:TypeId}{W:World}{cs:List Value}{zs:List (List UInt8)}{p:List MemPlace}{sp:Nat->Bool}{held:Bool}{base:Nat}
  (ht:P.underlying t=some (.array n e)) (he:P.underlying e=some .string) (hce:P.cellsOf e=1) (yY:P.cellsOf t=n)
  (h:DataW.trod enc P W base sp held fuel t cs=some (.agg (zs.map fun z => .lit (.string z)),p)):cs=zs.map fun z=>Value.string ⟨z.toArray⟩:=by
 cases fuel with
 | zero=>simp [DataW.trod] at h
 | succ fuel=>
  simp only [DataW.trod,ht,hce,yY,Nat.mul_one] at h
  split at h
  ·rename_i hl
   obtain ⟨xs,hm,hx⟩:=Option.map_eq_some_iff.1 h
   have Xg:xs.map (·.1)=zs.map fun z=>(DataW.lit (.string z):DataW H):=by
    have:=congrArg Prod.fst hx
    simpa using this
   have wR:xs.length=n:=by simpa using Sa hm
   have Rx:zs.length=n:=by
    have:=congrArg List.length Xg
    simp at this
    omega
   apply List.ext_getElem?
   intro i
   by_cases hi:i<n
   ·obtain ⟨b,hb,hf⟩:=mapM_at hm i i (by simp [hi])
    obtain ⟨s,hc,hz,_⟩:=DataW.trod_string he hf
    have h1:cs[i]?=some (.string s):=by
     have:=congrArg (·[0]?) hc
     simpa [List.getElem?_take,List.getElem?_drop] using this
    have h2:(xs.map (·.1))[i]?=some b.1:=by simp [hb]
    rw [Xg] at h2
    simp only [List.getElem?_map,Option.map_eq_some_iff] at h2
    obtain ⟨z',XU,h3⟩:=h2
    rw [hz] at h3
    injection h3 with h3
    injection h3 with h3
    rw [h1]
    simp only [List.getElem?_map,XU,Option.map_some,Option.some.injEq,Value.string.injEq]
    cases s
    rw [h3]
   ·rw [List.getElem?_eq_none oM,List.getElem?_eq_none (by simp; omega)]
  ·cases h
theorem On{P:Program}{W:World}{name:String}{zs:List (List UInt8)}{rest:List (String × DataW Unit)}{g:Nat}{t e:TypeId}{n:Nat}
  (hg:P.globalNamed name=some g) (gH:(P.globals[g]?).map (·.type)=some t) (ht:P.underlying t=some (.array n e)) (he:P.underlying e=some .string) (hce:P.cellsOf e=1) (yY:P.cellsOf t=n)
  (h:laidMet P ((name,.agg (zs.map fun z => .lit (.string z)))::rest) W):∀i (h:i<zs.length),W.cell? ⟨g,i,none⟩=some (.string ⟨zs[i].toArray⟩):=by
 obtain ⟨ps,⟨g',t',cs,fuel,p,q,hg',ht',A0l,hd,_,_⟩,_⟩:=h
 obtain rfl:=Option.some.inj (hg.symm.trans hg')
 obtain rfl:=Option.some.inj (gH.symm.trans ht')
 have e0:=Nk ht he hce yY hd
 intro i hi
 have e1:cs=(zs.map fun z=>Value.string ⟨z.toArray⟩).toArray:=by rw [<-e0]
 rw [e1] at A0l
 have:=World.var?_cell hg A0l i
 rw [this]
 simp [hi]
theorem WC{W:World}{g:Nat}{zs:List (List UInt8)}(hG:yG=[(g,zs.map fun z => .str ⟨z.toArray⟩)])(h:∀i (h:i<zs.length),W.cell? ⟨g,i,none⟩=some (.string ⟨zs[i].toArray⟩)):Xt g0 W:=by
 intro k cs hk
 rw [hG] at hk
 simp only [lk] at hk
 split at hk
 ·rename_i hkg
  subst hkg
  injection hk with hk
  subst hk
  refine .ro _ 0 _ 0 (fun j => .string ⟨(zs.getD j []).toArray⟩) (fun j hj=>?_) (fun j hj k hk=>by cases hk) (fun _ _=>rfl) (fun j hj=>?_)
  ·have Cj:j<zs.length:=by simpa using hj
   rw [Nat.zero_add,h j Cj]
   simp [List.getD,Cj]
  ·have Cj:j<zs.length:=by simpa using hj
   simp only [List.getElem_map]
   have:zs.getD j []=zs[j]:=by simp [List.getD,Cj]
   rw [this]
   exact .str _
 ·cases hk
theorem Qp{F8:FuncId}{f:Func}{s:ChangeSpec}{tb:TypeId}(tl:List TypeId)(Z3:tl.all (Li P tl)=true)(hl:laidOutB P=true)(hp:f.params.toList.all (fun t=>tl.contains t&&P.readableRec t&&decide (t<P.types.size))=true)(AF:f.resultTypes = #[tb])(htb:P.underlying tb=some .bool)(hv:s.vars=[])
  {W:World} {base:Nat} {args:Array Value} {ds gs:List (DataW H)} {before:List MemPlace}
  (Lz:∀ds:List (DataW H),ds.length=f.params.toList.length->s.fn H ds={ results:=[.lit (.bool true)],args:=ds })
  (Lj:∀ (j:Nat) t v,f.params[j]?=some t->args[j]?=some v->Value.okWide P W .any base t v)
  (hW:DataW.Whole enc P f.params.toList s.vars false W args.toList ds gs before) (hG:Xt g0 W)
  (h:∀S8,Z4 P f.params.toList S8->Af S8<=Ei ds->(Ob.Jt F8 (Nj P f.params.toList S8) (.ret (.bool true))).ok P) :
  Calls P F8 args W fun e W'=>∃v,e = .returned v/\s.post enc P f false true false false W args v W':=by
 have hW':=hW
 obtain ⟨p,q,hA,hV,rfl,hfz,Of⟩:=hW
 rw [hv] at hV
 obtain ⟨rfl,rfl⟩:=trodVars_none hV
 have kV:=List.all_eq_true.1 hp
 obtain ⟨S8,h1,h2,h3⟩:=S9 (base:=base) Z3 (fun t ht=>by have:=kV t ht; simp only [Bool.and_eq_true] at this; simpa using this.1.1) (fun j t v ht hv=>Lj j t v (by simpa using ht) (by simpa using hv)) hA
 have E4:SV [] g0 ⟨fun _=>none,fun _=>none,fun _=>none⟩ W:={ ex:=fun x cs hx=>(by simp [lk] at hx),OK:=fun b o ho=>(by cases ho),uo:=fun p b hb=>(by cases hb),fresh:=⟨fun _ _=>rfl,fun _ _=>rfl,fun _ _ _=>rfl⟩,Gg:=fun n b hb=>(by cases hb),only:=fun b o ho=>(by cases ho),Jj:=hG }
 have hc:=(h S8 h1 h3).2 [] args.toList g0 _ W h2 E4
 rw [Array.toArray_toList] at hc
 refine hc.mono ?_
 rintro en W' ⟨r,e1,g',l',⟨rfl,-⟩,hr,-,-,Cb,Tq,-,os,tape,output⟩
 cases en with
 | returned v=>
  have hvt:v = .bool true:=by
   have fX:BO g' W' (.bool true) v:=hr
   cases fX; rfl
  subst hvt
  have hb:Below W.heap.size W W':=⟨os,tape,output,Cb,fun k hk=>(Tq k hk rfl).1⟩
  refine ⟨_,rfl,ds,[],p++[],[],p,[],hW',?_,?_,?_,⟨os,output,fun i hi=>?_⟩,fun h=>by cases h⟩
  ·rw [List.append_nil,Lz ds (F2 hA),AF]
   exact trodAll_mk1 (shut_bool htb _)
  ·rw [List.append_nil,Lz ds (F2 hA)]
   exact Jy hl hb (fun t ht=>by have:=kV t ht; simp only [Bool.and_eq_true,decide_eq_true_eq] at this; exact ⟨this.1.2,this.2⟩) (fun x hx=>by simpa using hW'.lt x (by simpa using hx)) hA
  ·rw [List.append_nil,Lz ds (F2 hA),hv]
   exact rfl
  ·have:=(Tq i hi rfl).1
   rw [this]
   cases Tj:W.heap[i]? with
   | none=>rfl
   | some o=>cases o <;> simp
 | panicked ch=>exact hr.elim
 | outgrown=>exact hr.elim
end
open Go.RowKit
section
variable {P:Program} {cx:Cx} {s:S} {Q:A7->S->Prop} {o:Oper} {all:Array Oper} {rest:List Oper}
theorem Z5{t d:Nat}{p:PV}(hg:o.guard=none)(ho:o.op = .move (.tmp t))(hd:o.dst=some d)(hn:d<cx.n)(hl:lk s.tmps t=some (.v p))(hk:PL P cx all rest { s with tmps:=put s.tmps d (.v p) } Q):PL P cx all (o::rest) s Q:=fun g l a w hs=>by
 refine wpList_plain hg fun K hK=>?_
 unfold Oper.wp
 rw [show (execOp a.eval o).run P w = .ok (.value (a.eval (.tmp t))) w by simp only [execOp,ho]; rfl,Oper.upon_value,hd]
 exact hK _ _ (hk g l _ w (hs.set hn (hs.tm t _ hl)))
theorem WD{t d z:Nat}{es:List (List PV)}{ty yt el:TypeId}(hg:o.guard=none)(ho:o.op = .binOp .eql ty (.tmp t) (.const (.slice none 0 0)) yt)(hd:o.dst=some d)(hn:d<cx.n)(gH:P.underlying ty=some (.slice el))(hl:lk s.tmps t=some (.v (.sl z es)))
  (hk:∀b,(b=true->es=[])->PL P cx all rest { s with tmps:=put s.tmps d (.v (.bool b)) } Q):PL P cx all (o::rest) s Q:=fun g l a w hs=>by
 refine wpList_plain hg fun K hK=>?_
 have hr:BO g w (.sl z es) (a.eval (.tmp t)):=hs.tm t _ hl
 have hex:∀v,(eqGuard .eql ty (.tmp t) (.const (.slice none 0 0)) (a.eval (.tmp t)) (.slice none 0 0)).run P w = .ok () w->(binOp .eql ty (a.eval (.tmp t)) (.slice none 0 0)).run P w = .ok v w->(execOp a.eval o).run P w = .ok (.value v) w:=by
  intro v hg hv
  simp only [execOp,ho,Sem.run_bind]
  rw [show a.eval (.const (.slice none 0 0)) = .slice none 0 0 from rfl,hg]
  simp only [Result.andThen_ok,hv,Sem.run_pure]
 have go:∀b,(b=true->es=[])->(execOp a.eval o).run P w = .ok (.value (.bool b)) w->o.wp P a w K (post cx Q):=by
  intro b hb he
  unfold Oper.wp
  rw [he,Oper.upon_value,hd]
  exact hK _ _ (hk b hb g l _ w (hs.set hn (.bool b)))
 generalize a.eval (.tmp t)=v at hr hex
 cases hr with
 | slnil _=>exact go true (fun _=>rfl) (hex _ (Dp sM sM) (by
   have:(Op.equal ty (.slice none 0 0) (.slice none 0 0)).run P w = .ok true w:=Ki fun d=>by simp only [Op.equalIn,Sem.run_bind,run_underlying gH,Result.andThen_ok]; rfl
   unfold binOp
   simp only [this,Sem.run_bind,Result.andThen_ok]
   rfl))
 | sl _ _ ad cap vs hle D5 Cb hc hf MD k=>exact go false (fun h=>by cases h) (hex _ (Dp sM sM) (by
   have:(Op.equal ty (.slice (some ad) es.length cap) (.slice none 0 0)).run P w = .ok false w:=Ki fun d=>by simp only [Op.equalIn,Sem.run_bind,run_underlying gH,Result.andThen_ok]; rfl
   unfold binOp
   simp only [this,Sem.run_bind,Result.andThen_ok]
   rfl))
end
open Go.RowKit Go.Sort Go.Proofs
section
variable {P:Program} {cx:Cx} {s:S} {g:Gh} {l:LG} {a:Act} {w w':World}
theorem Bc.A7n(h:Bc cx s g l a w){t:Nat}{e:TypeId}{z:Nat}{es':List (List PV)}{b cap:Nat}{cur cur':Array Value}(hv:a.tmps.getD t undef = .slice (some ⟨b,0,none⟩) es'.length cap)(hU:l.U (.t t)=some b)(hM:g.M b=some 0)
  (hh:w.heap[b]?=some (.cells cur e (0,0))) (hg:w.grownBy w' (some b)) (hh':w'.heap[b]?=some (.cells cur' e (0,0))) (Cb:cur'.size=cur.size) (DM:cur.size=cap * z) (Gi:Row g w z es' cap cur') :
  ∃g' l',Bc cx { s with tmps:=put s.tmps t (.v (.sl z es')) } g' l' a w':=by
 let g':Gh:=⟨fun x=>if x=b then none else g.M x,g.X,g.Y⟩
 let l':LG:=⟨l.L,fun p=>if p = .t t then none else l.U p,fun x=>if x=b then none else l.O x⟩
 have hO2:=h.uo _ _ hU
 have Ju:∀b',b'<w.heap.size->b'≠b->w'.heap[b']?=w.heap[b']?:=fun b' Ad Ct=>hg.block b' Ad (fun e0=>Ct (by injection e0))
 have Ad:∀ {b' o},w.heap[b']?=some o->b'<w.heap.size:=fun hb=>(Array.getElem?_eq_some_iff.1 hb).1
 have hm:Ch g w g' w':=by
  refine ⟨fun _ _ e=>e,fun b' o v hc hf=>?_,fun b' c e2 Ga=>?_,fun _ _ _ h=>h⟩
  ·have Ct:b'≠b:=by rintro rfl; have:=hf _ hM; omega
   have hl:=World.block_lt_of_cell? w _ hc
   refine ⟨by rw [<-hc]; exact World.cell?_of_block (Ju b' hl Ct),fun k hk=>?_⟩
   simp only [g',iN Ct] at hk
   exact hf k hk
  ·by_cases Ct:b'=b
   ·subst Ct
    rw [hh] at Ga
    injection Ga with Ga
    injection Ga with q1 q2
    subst q1 q2
    exact ⟨cur',hh',Cb⟩
   ·exact ⟨c,(Ju b' (Ad Ga) Ct).trans Ga,rfl⟩
 have hO:∀ {b' o},l.O b'=some o->o ≠ .u (.t t)->b'≠b:=fun {b' o} ho Ct e0=>by
  subst e0; rw [hO2] at ho; injection ho with ho; exact Ct ho.symm
 have hMs:∀ {b'},b'≠b->g'.M b'=g.M b':=fun Ct=>by simp only [g',iN Ct]
 have qQ:∀ {b' o},l.O b'=some o->o ≠ .u (.t t)->l'.O b'=some o:=fun ho Ct=>by simp only [l',iN (hO ho Ct)]; exact ho
 have hL:∀ {p lv v},p ≠ .t t->Cm g l w p lv v->Cm g' l' w' p lv v:=fun {p lv v} hp hr=>hr.BK hm (fun _ _ _=>rfl) fun b2 hu=>by
  have h2:=h.uo _ _ hu
  have Ct:=hO h2 (by intro e0; injection e0 with e0; exact hp e0)
  exact ⟨by simp only [l',iN hp]; exact hu,hMs Ct,Ju b2 (h.own _ _ h2).1 Ct⟩
 obtain ⟨hle,D5,HM,hr⟩:=Gi
 have T5:=BQ z es' HM
 refine ⟨g',l',⟨⟨h.AM.mono.trans hm,Nat.le_trans h.AM.size hg.size,fun b' CL ho=>?_,hg.os.trans h.AM.os,hg.tape.trans h.AM.tape,hg.output.trans h.AM.output,h.AM.Jj.mono hm⟩,h.size,h.defers,fun t' lv ht=>?_,fun j Jk hj=>?_,fun x Jk hx=>?_,fun b' o ho=>?_,fun p b' hu=>?_,⟨fun b' Ga=>?_,h.fresh.2⟩,fun n b' hx=>Nat.lt_of_lt_of_le (h.Gg n b' hx) hg.size⟩⟩
 ·obtain ⟨k1,k2⟩:=h.AM.frame b' CL ho
  have Ct:b'≠b:=by
   rintro rfl
   rcases (h.own b' _ hO2).2 with h7 | h7
   ·omega
   ·exact ho h7
  exact ⟨(Ju b' (Nat.lt_of_lt_of_le CL h.AM.size) Ct).trans k1,(hMs Ct).trans k2⟩
 ·rw [B8] at ht
  split at ht
  ·rename_i e0
   subst e0
   injection ht with ht
   subst ht
   show BO g' w' (.sl z es') _
   rw [hv]
   have fP:es'.length * z<=cur'.size:=by rw [Cb,DM]; exact Nat.mul_le_mul_right _ hle
   have VR:∀j,j<es'.length * z->cur'[j]?=some (cur'.getD j undef):=fun j hj=>by
    have:j<cur'.size:=by omega
    simp [this]
   refine BO.of_flat (xs:=(List.range (es'.length * z)).map fun j=>cur'.getD j undef) hle D5 HM ⟨by simp [T5],fun j hj Cj=>?_⟩ fun j u hu=>?_
   ·simp only [List.getElem_map,List.getElem_range]
    exact (hr j hj).2.mono hm
   ·have hj:j<es'.length * z:=by
     have:=(List.getElem?_eq_some_iff.1 hu).1
     simpa using this
    have e1:u=cur'.getD j undef:=by simpa [List.getElem?_range hj] using hu.symm
    subst e1
    refine ⟨?_,fun k hk=>?_,(hr j (by rw [T5]; exact hj)).1⟩
    ·rw [OE]
     simp only [World.cell?,hh']
     simpa using VR j hj
    ·simp only [g',if_true] at hk
     cases hk
  ·rename_i Ct
   exact hL (fun e0=>Ct (by injection e0 with e0; exact e0.symm)) (h.tm t' lv ht)
 ·obtain ⟨b',k1,k2,k3,c2,e2,k4,k5,k6⟩:=h.bx j Jk hj
  have Ct:=hO k2 sM
  exact ⟨b',k1,qQ k2 sM,(hMs Ct).trans k3,c2,e2,(Ju b' (h.own _ _ k2).1 Ct).trans k4,k5,fun j' Cj=>⟨(k6 j' Cj).1,(k6 j' Cj).2.1,hL sM (k6 j' Cj).2.2⟩⟩
 ·obtain ⟨b',k1,k2,hE⟩:=h.ex x Jk hx
  have Ct:=hO k2 sM
  refine ⟨b',k1.mono hm,qQ k2 sM,?_⟩
  rcases hE with ⟨k3,c2,e2,k4,k5,k6⟩ | hE
  ·exact .inl ⟨(hMs Ct).trans k3,c2,e2,(Ju b' (h.own _ _ k2).1 Ct).trans k4,k5,fun j' Cj=>⟨(k6 j' Cj).1,(k6 j' Cj).2.1,hL sM (k6 j' Cj).2.2⟩⟩
  ·exact .inr (hE.BK hm (fun _ _ _ k=>k) (hMs Ct) (Ju b' (h.own _ _ k2).1 Ct))
 ·simp only [l'] at ho
  split at ho
  ·cases ho
  ·obtain ⟨k1,k2⟩:=h.own b' o ho
   exact ⟨Nat.lt_of_lt_of_le k1 hg.size,k2⟩
 ·simp only [l'] at hu
  split at hu
  ·cases hu
  ·rename_i hp
   exact qQ (h.uo p b' hu) (by intro e0; injection e0 with e0; exact hp e0)
 ·simp only [g']
  split
  ·rfl
  ·exact h.fresh.1 b' (Nat.le_trans hg.size Ga)
def GG(l:List ByteArray):List ByteArray:=((l.map ByteArray.toList).mergeSort fun x y=>decide (x<=y)).map fun x=>⟨x.toArray⟩
def Nl(P:Program)(f:FuncId):Prop:=Fl P f=true/\(∀ (Xl off cap:Nat) (ss:List (List UInt8)) (w:World),Holds encStr w Xl off ss.toArray->Xl<w.heap.size->ss.length<4611686018427387904 ->
  Calls P f #[.slice (some ⟨Xl,off,none⟩) ss.length cap] w fun e w'=>e = .returned (.tuple #[])/\∃n os,w'=grow (putRow encStr (Sort.ahead w n) Xl off (ss.mergeSort fun x y=>decide (x<=y)).toArray) os) /\
 ∀ (p:Option Addr) (cap:Nat) (w:World),Calls P f #[.slice p 0 cap] w fun e w'=>e = .returned (.tuple #[])/\w'=w
def strs(l:List ByteArray):List (List PV):=l.map fun x=>[.str x]
theorem J8(l:List ByteArray):(strs l).flatten=l.map .str:=by
 induction l with
 | nil=>rfl
 | cons x r ih=>simp only [strs,List.map_cons,List.flatten_cons] at ih ⊢; rw [ih]; rfl
theorem IM(l:List ByteArray):(strs l).length=l.length:=by simp [strs]
theorem Qq(l:List ByteArray):(GG l).length=l.length:=by simp [GG]
theorem TP(x:ByteArray):encStr x.toList = .string x:=by
 simp only [encStr]
 rw [ByteArray.toList_eq]
theorem Bc.A7o(h:Bc cx s g l a w){t:Nat}{lv:LV}(hr:Cm g l w (.t t) lv (a.tmps.getD t undef)):Bc cx { s with tmps:=put s.tmps t lv } g l a w:=
 ⟨h.AM,h.size,h.defers,fun t' Xa ht=>by
  rw [B8] at ht
  split at ht
  ·rename_i e0; subst e0; injection ht with ht; subst ht; exact hr
  ·exact h.tm t' Xa ht,h.bx,h.ex,h.own,h.uo,h.fresh,h.Gg⟩
theorem Z6{g:Gh}{w:World}{cap:Nat}{cur:Array Value}{ss:List ByteArray}(hle:ss.length<=cap)(D5:cap<=maxLen)(h:cur.toList.take ss.length=ss.map Value.string):Row g w 1 (strs ss) cap cur:=by
 refine ⟨by rw [IM]; exact hle,D5,fun i hi=>by simp [strs],fun j hj=>?_⟩
 have Cj:j<ss.length:=by rw [J8] at hj; simpa using hj
 have h1:(cur.toList.take ss.length)[j]?=(ss.map Value.string)[j]?:=by rw [h]
 rw [List.getElem?_take_of_lt Cj,Array.getElem?_toList] at h1
 have h2:cur.getD j undef = .string ss[j]:=by
  rw [Array.getD_eq_getD_getElem?,h1]
  simp [Cj]
 rw [h2]
 refine ⟨rfl,?_⟩
 have h3:(strs ss).flatten[j] = .str ss[j]:=by simp [J8]
 rw [h3]
 exact .str _
theorem Z7{g:Gh}{w:World}{cap:Nat}{cur:Array Value}{ss:List ByteArray}(h:Row g w 1 (strs ss) cap cur)(hs:cur.size=cap * 1):cur.toList.take ss.length=ss.map Value.string:=by
 obtain ⟨hle,-,-,hr⟩:=h
 rw [IM] at hle
 apply List.ext_getElem?
 intro j
 by_cases hj:j<ss.length
 ·have HK:j<(strs ss).flatten.length:=by rw [J8]; simpa using hj
  have h1:=(hr j HK).2
  have h3:(strs ss).flatten[j] = .str ss[j]:=by simp [J8]
  rw [h3] at h1
  have hc:j<cur.size:=by omega
  have h4:cur.getD j undef = .string ss[j]:=by generalize cur.getD j undef=v at h1; cases h1; rfl
  rw [List.getElem?_take_of_lt hj,Array.getElem?_toList]
  rw [Array.getD_eq_getD_getElem?] at h4
  simp only [Array.getElem?_eq_getElem hc,Option.getD_some] at h4
  rw [Array.getElem?_eq_getElem hc,h4]
  simp [hj]
 ·rw [List.getElem?_take_eq_none oM,List.getElem?_eq_none (by simp; omega)]
theorem iL(ss:List ByteArray):(ss.map ByteArray.toList).map encStr=ss.map Value.string:=by
 rw [List.map_map]
 exact List.map_congr_left fun x _=>TP x
theorem Ob.Mk{n:Nat}{c:Code}{s0 s1 t:S}{pe:A7}(hl:Ol t s1)(h:(Ob.F9 n c s0 pe s1).ok P):(Ob.F9 n c s0 pe t).ok P:=fun cx AH g l a w hs=>
 wp_mono (h cx AH g l a w hs) fun _ _ _ ⟨Yx,_,g',l',⟨h1,h2⟩,er,sm⟩=>⟨Yx,t,g',l',⟨h1,rfl⟩,er,by subst h2; exact sm.eZ hl⟩
theorem WE{f:FuncId}(hS:Nl P f){id t u d n:Nat}{o0 o:Oper}{ts:Array TypeId}{e:TypeId}(ho0:o0.op = .move (.tmp t))(hg0:o0.guard=none)(lD:o0.dst=some u)
  (ho:o.op = .call ⟨.value (.func f),#[.tmp u],ts⟩) (hg:o.guard=none) (hd:o.dst=some d) (hun:u<n) (wW:d<n) (hut:u≠t) (hdt:d≠t) (he:¬e<1000000) (ss:List ByteArray) (hlen:ss.length<=1000000000) (hl:lk s.tmps t=some (.uniq e 1 (strs ss))) :
  (Ob.F9 n (.region id #[o0,o] false) s .normal { s with tmps:=put (put (put s.tmps u .D8) t (.v (.sl 1 (strs (GG ss))))) d .D8 }).ok P:=by
 intro cx AH g l a0 w hs0
 subst AH
 refine wp_region_lit ?_
 refine wpList_plain hg0 fun K0 hK0=>?_
 unfold Oper.wp
 rw [show (execOp a0.eval o0).run P w = .ok (.value (a0.eval (.tmp t))) w by simp only [execOp,ho0]; rfl,Oper.upon_value,lD]
 have hs:=hs0.set (lv := .D8) (v:=a0.eval (.tmp t)) hun trivial
 have A0m:u<a0.tmps.size:=by rw [hs0.size]; exact hun
 have hau:(a0.put (some u) (a0.eval (.tmp t))).tmps.getD u undef=a0.tmps.getD t undef:=by rw [eval_put a0 u u _ A0m,iP rfl]; rfl
 have Xk:(a0.put (some u) (a0.eval (.tmp t))).tmps.getD t undef=a0.tmps.getD t undef:=by rw [eval_put a0 u t _ A0m,iN hut]
 have hr:=hs0.tm t _ hl
 refine hK0 _ _ ?_
 generalize hA:a0.put (some u) (a0.eval (.tmp t))=a at hs hau Xk
 refine wpList_plain hg fun K hK=>?_
 have hex:∀v,a0.tmps.getD t undef=v->(execOp a.eval o).run P w = .ok (.enter f #[v]) w:=by
  intro v hv
  have e1:a.eval (.tmp u)=v:=hau.trans hv
  have e2:a.eval (.func f) = .func (.func f) #[] #[]:=rfl
  simp only [execOp,ho,resolve,e2,Deferred.ofValue,Sem.run_bind,Sem.run_pure,Result.andThen_ok,invoke,List.map_toArray,List.map_cons,List.map_nil,e1]
  exact Eb hS.1
 have fin:∀g l w',Bc cx { s with tmps:=put (put s.tmps u .D8) t (.v (.sl 1 (strs (GG ss)))) } g l a w'->K (a.put o.dst (.tuple #[])) w':=by
  intro g l w' sm
  rw [hd]
  exact hK _ _ (MS (Q:=fun Yx s'=>Yx = .normal/\s'={ s with tmps:=put (put (put s.tmps u .D8) t (.v (.sl 1 (strs (GG ss))))) d .D8 }) ⟨rfl,rfl⟩ g l _ w' (sm.set (lv := .D8) wW trivial))
 unfold Oper.wp
 rcases hr with (⟨hv,HM⟩ | ⟨a',-,-,Ad⟩) | ⟨b,cap,cur,hv,hU,hM,hh,DM,Gi⟩
 ·rw [hex _ hv,Oper.upon_enter]
  refine (hS.2.2 none 0 w).mono ?_
  rintro en w' ⟨rfl,rfl⟩
  have hss:ss=[]:=by simpa [strs] using HM
  subst hss
  exact fin g l _ (hs.A7o (by rw [Xk,hv,show strs (GG [])=[] from by simp [GG,strs]]; exact .slnil 1))
 ·exact absurd Ad he
 ·rw [hex _ hv,Oper.upon_enter]
  have Gi:=Gi.2 he
  rw [Xs he] at hM
  have Ml:=Z7 Gi DM
  have Ad:b<w.heap.size:=(Array.getElem?_eq_some_iff.1 hh).1
  have hlm:(ss.map ByteArray.toList).length=ss.length:=by simp
  have D5:ss.length<=cap:=by have:=Gi.1; rwa [IM] at this
  have hH:Holds encStr w b 0 (ss.map ByteArray.toList).toArray:=holds_of_block hh (by rw [hlm,Ml,iL])
  have hc:=hS.2.1 b 0 cap (ss.map ByteArray.toList) w hH Ad (by rw [hlm]; omega)
  rw [hlm] at hc
  rw [IM] at hv ⊢
  refine hc.mono ?_
  rintro en w' ⟨rfl,nn,os,rfl⟩
  have hls:((ss.map ByteArray.toList).mergeSort fun x y=>decide (x<=y)).length=ss.length:=by simp
  obtain ⟨g',l',sm⟩:=hs.A7n (t:=t) (z:=1) (es':=strs (GG ss)) (cur':=putCells encStr 0 ((ss.map ByteArray.toList).mergeSort fun x y=>decide (x<=y)).toArray cur) (w':=grow (putRow encStr (Sort.ahead w nn) b 0 ((ss.map ByteArray.toList).mergeSort fun x y=>decide (x<=y)).toArray) os)
   (by rw [Xk,hv,IM,Qq]) hU hM hh (grownBy_sorted _) (heap_sorted _ hh) (by simp [putCells]) DM (Z6 (by rw [Qq]; exact D5) Gi.2.1 (by
    rw [Qq,<-hls,take_putCells cur _ (by rw [hls,DM]; omega),GG,List.map_map]
    rfl))
  exact fin g' l' _ sm
def lR:Code->Option (Nat × Nat × FuncId × Nat)
 | .region _ ⟨[o0,o]⟩ false=>match o0.op,o0.guard,o0.dst,o.op,o.guard,o.dst with
  | .move (.tmp t),none,some u,.call ⟨.value (.func f),⟨[.tmp u']⟩,_⟩,none,some d=>if u'=u then some (t,u,f,d) else none
  | _,_,_,_,_,_=>none
 | _=>none
theorem P7{c:Code}{f:FuncId}{t u d n:Nat}(hc:lR c=some (t,u,f,d))(hS:Nl P f){e:TypeId}(hun:u<n)(wW:d<n)(hut:u≠t)(hdt:d≠t)(he:¬e<1000000)(ss:List ByteArray)(hlen:ss.length<=1000000000)(hl:lk s.tmps t=some (.uniq e 1 (strs ss))) :
  (Ob.F9 n c s .normal { s with tmps:=put (put (put s.tmps u .D8) t (.v (.sl 1 (strs (GG ss))))) d .D8 }).ok P:=by
 unfold lR at hc
 split at hc
 ·rename_i id o0 o
  split at hc
  ·rename_i t' u' f' u2 ts d' h1 h2 h3 h4 h5 h6
   split at hc
   ·rename_i hu
    subst hu
    simp only [Option.some.injEq,Prod.mk.injEq] at hc
    obtain ⟨rfl,rfl,rfl,rfl⟩:=hc
    exact WE hS h1 h2 h3 h4 h5 h6 hun wW hut hdt he ss hlen hl
   ·cases hc
  ·cases hc
 ·cases hc
end
end Go.Pv
