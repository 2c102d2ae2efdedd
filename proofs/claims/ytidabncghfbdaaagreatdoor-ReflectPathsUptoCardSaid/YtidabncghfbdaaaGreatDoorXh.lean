/- Values of Go as plain data, an evaluator over them, and what the functions of the program return; part Xh. -/
import Derived.Test.YtidabncghfbdaaaGreatDoorXe
import Derived.WalkKit
import Derived.ProofKit
import Derived.LaidLaws
import Derived.ChangeArms
import Derived.Sort.OwnSorted
set_option linter.unusedVariables false
set_option linter.unusedSimpArgs false
set_option linter.unusedSectionVars false
namespace Go.Pv
open Go.ChangeShapes Go.WideShapes Go.ChangeAt Go.RowKit
def TyF(T:TypeId->List PV->Prop):List Field->List PV->Prop
 | [],cs=>cs=[]
 | f::r,cs=>∃c cs',cs=c++cs'/\T f.type c/\TyF T r cs'
def Ty(P:Program):Nat->TypeId->List PV->Prop
 | 0,_,_=>False
 | n+1,t,cs=>match P.underlying t with
  | some .bool=>∃b,cs=[.bool b]
  | some (.int k)=>∃v,cs=[.int k v]/\(Lit.int k v).wf=true
  | some .string=>∃s:ByteArray,cs=[.str s]/\s.size<=maxLen
  | some (.slice e)=>∃es:List (List PV),cs=[.sl (P.cellsOf e) es]/\es.length<=maxLen/\∀x∈es,Ty P n e x
  | some (.struct fs)=>TyF (Ty P n) fs.toList cs
  | _=>False
def tiles(P:Program):List Field->Nat->Option Nat
 | [],o=>some o
 | f::r,o=>if f.offset=o then tiles P r (o+P.cellsOf f.type) else none
def compOK(P:Program)(ts:List TypeId)(t:TypeId):Bool:=match P.underlying t with
 | some .bool=>true
 | some (.int _)=>true
 | some .string=>true
 | some (.slice e)=>ts.contains e&&decide (0<P.cellsOf e)
 | some (.struct fs)=>fs.toList.all (fun f=>ts.contains f.type)&&decide (tiles P fs.toList 0=some (P.cellsOf t))
 | _=>false
mutual
def bulkP:PV->Nat
 | .str s=>s.size+1
 | .sl _ es=>bulkPss es+1
 | _=>1
def bulkPss:List (List PV)->Nat
 | []=>0
 | x::r=>bulkPs x+bulkPss r
def bulkPs:List PV->Nat
 | []=>0
 | x::r=>bulkP x+bulkPs r
end
theorem bulkPs_append:∀a b:List PV,bulkPs (a++b)=bulkPs a+bulkPs b
 | [],b=>by simp [bulkPs]
 | x::a,b=>by simp only [List.cons_append,bulkPs,bulkPs_append a b]; omega
mutual
def bulkD{H:Type}:DataW H->Nat
 | .lit (.string bytes)=>bytes.length+1
 | .lit _=>1
 | .nil=>1
 | .ptr d=>bulkD d+1
 | .slice elems spare=>bulkDs elems+bulkDs spare+1
 | .agg parts=>bulkDs parts+1
 | .iface _ d=>bulkD d+1
 | .map entries=>bulkDm entries+1
 | .held _=>1
def bulkDs{H:Type}:List (DataW H)->Nat
 | []=>0
 | d::r=>bulkD d+bulkDs r
def bulkDm{H:Type}:List (Lit × DataW H)->Nat
 | []=>0
 | x::r=>bulkDe x+bulkDm r
def bulkDe{H:Type}:Lit × DataW H->Nat
 | (.string bytes,d)=>bytes.length+bulkD d+1
 | (_,d)=>bulkD d+1
end
def g0:Gh:=⟨fun _=>none,fun _=>none,fun _ _=>none⟩
theorem g0_fix(b o:Nat):g0.Fix b o:=fun k hk=>by cases hk
theorem RepAll.append{g:Gh}{w:World}{a b:List PV}{x y:List Value}(h1:RepAll g w a x)(h2:RepAll g w b y):RepAll g w (a++b) (x++y):=by
 refine ⟨by simp [h1.1,h2.1],fun j h h'=>?_⟩
 by_cases hj:j<a.length
 ·have hj':j<x.length:=by rw [<-h1.1]; exact hj
  rw [List.getElem_append_left hj,List.getElem_append_left hj']
  exact h1.2 j hj hj'
 ·have hj1:a.length<=j:=by omega
  have hj2:x.length<=j:=by rw [<-h1.1]; exact hj1
  rw [List.getElem_append_right hj1,List.getElem_append_right hj2]
  have e:j - x.length=j - a.length:=by rw [h1.1]
  simp only [e]
  exact h2.2 (j - a.length) (by simp at h; omega) (by have:=h1.1; have:=h2.1; simp at h h'; omega)
section
variable {H:Type} {enc:TypeId × Value->H} {P:Program} {w:World} {sp:Nat->Bool} {held:Bool}
structure RdOK (P:Program) (w:World) (n:Nat) (t:TypeId) (vs:List Value) (bulk:Nat) (cs:List PV):Prop where
 ty:Ty P n t cs
 rep:RepAll g0 w cs vs
 one:∀c∈cs,c.one=true
 bulk:bulkPs cs<=bulk
theorem fields_ok{ts:List TypeId}{n:Nat}(ih:∀ (t:TypeId) (vs:List Value) (d:DataW H) (ps:List MemPlace),DataW.trod enc P w 0 sp held n t vs=some (d,ps)->t∈ts->∃cs,RdOK P w n t vs (bulkD d) cs)
  {vs:List Value}:∀ {fs:List Field} {o o':Nat} {xs:List (DataW H × List MemPlace)},(∀f∈fs,f.type∈ts)->tiles P fs o=some o'->xs.length=fs.length->(∀ (i:Nat) (f:Field),fs[i]?=some f->DataW.trod enc P w 0 sp held n f.type ((vs.drop f.offset).take (P.cellsOf f.type))=xs[i]?)->o'<=vs.length ->
   ∃cs,TyF (Ty P n) fs cs/\RepAll g0 w cs ((vs.drop o).take (o' - o))/\(∀c∈cs,c.one=true)/\bulkPs cs<=bulkDs (xs.map (·.1))/\o<=o'
 | [],o,o',xs,_,ht,_,hx,_=>by
  simp only [tiles,Option.some.injEq] at ht
  subst ht
  exact ⟨[],rfl,by simp; exact RepAll.nil,by simp,by simp [bulkPs],Nat.le_refl _⟩
 | f::fs,o,o',[],hm,ht,hl,hx,hlen=>by simp at hl
 | f::fs,o,o',(y1,y2)::ys,hm,ht,hl,hx,hlen=>by
  simp only [tiles] at ht
  split at ht
  ·rename_i ho
   have hd:=hx 0 f rfl
   simp only [List.getElem?_cons_zero] at hd
   obtain ⟨cs',k1,k2,k3,k4,k5⟩:=fields_ok ih (xs:=ys) (fun f hf=>hm f (List.mem_cons_of_mem _ hf)) ht (by simpa using hl) (fun i f hf=>by simpa using hx (i+1) f (by simpa using hf)) hlen
   obtain ⟨c,r⟩:=ih f.type _ y1 y2 hd (hm f sM)
   refine ⟨c++cs',⟨c,cs',rfl,r.ty,k1⟩,?_,fun x hx=>?_,?_,by omega⟩
   ·have e:(vs.drop o).take (o' - o)=(vs.drop f.offset).take (P.cellsOf f.type)++(vs.drop (o+P.cellsOf f.type)).take (o' - (o+P.cellsOf f.type)):=by
     rw [ho,<-List.drop_drop,<-List.take_add]
     congr 1
     omega
    rw [e]
    exact r.rep.append k2
   ·rcases List.mem_append.1 hx with hx | hx
    ·exact r.one x hx
    ·exact k3 x hx
   ·simp only [bulkPs_append,List.map_cons,bulkDs]
    have:=r.bulk
    omega
  ·cases ht
theorem elems_ok{n:Nat}{e:TypeId}{f:Nat->Option (DataW H × List MemPlace)}{R:Nat->List PV->Prop}:∀ {elems:List (DataW H × List MemPlace)} {k:Nat},(∀i x,f i=some x->∃cs,R i cs/\Ty P n e cs/\bulkPs cs<=bulkD x.1)->(∀i,i<elems.length->f (k+i)=elems[i]?) ->
  ∃es:List (List PV),es.length=elems.length/\(∀i (h:i<es.length),R (k+i) es[i])/\(∀x∈es,Ty P n e x)/\bulkPss es<=bulkDs (elems.map (·.1))
 | [],k,_,_=>⟨[],rfl,fun i h=>by simp at h,by simp,by simp [bulkPss]⟩
 | x::ys,k,h,hm=>by
  have h1:=hm 0 sM
  simp only [List.getElem?_cons_zero,Nat.add_zero] at h1
  obtain ⟨cs,a1,a2,a3⟩:=h k x h1
  obtain ⟨es,b1,b2,b3,b4⟩:=elems_ok (elems:=ys) (k:=k+1) h (fun i hi=>by
   have:=hm (i+1) (by simpa using hi)
   rw [show k+1+i=k+(i+1) by omega]
   simpa using this)
  refine ⟨cs::es,by simp [b1],fun i hi=>?_,fun x hx=>?_,?_⟩
  ·cases i with
   | zero=>exact a1
   | succ i=>
    have:=b2 i (by simpa using hi)
    have e:k+1+i=k+(i+1):=by omega
    rw [e] at this
    exact this
  ·rcases List.mem_cons.1 hx with rfl | hx
   ·exact a2
   ·exact b3 x hx
  ·simp only [bulkPss,List.map_cons,bulkDs]
   omega
theorem addr_add_add(a:Addr)(i j:Nat):(a.add i).add j=a.add (i+j):=by
 unfold Addr.add
 by_cases hi:i=0 <;> by_cases hj:j=0 <;> simp [hi,hj] <;> omega
theorem trod_rep{ts:List TypeId}(hts:ts.all (compOK P ts)=true):∀ (n:Nat) (t:TypeId) (vs:List Value) (d:DataW H) (ps:List MemPlace),DataW.trod enc P w 0 sp held n t vs=some (d,ps)->t∈ts->∃cs,RdOK P w n t vs (bulkD d) cs
 | 0,t,vs,d,ps,h,_=>by simp [DataW.trod] at h
 | n+1,t,vs,d,ps,h,ht=>by
  have hc:=List.all_eq_true.1 hts t ht
  unfold compOK at hc
  have single:∀ {p:PV} {v:Value} {m:Nat},Ty P (n+1) t [p]->Rep g0 w p v->p.one=true->bulkP p<=m->∃cs,RdOK P w (n+1) t [v] m cs:=fun {p v m} h1 h2 h3 h4=>
   ⟨[p],h1,RepAll.cons h2 RepAll.nil,by simpa using h3,by simp only [bulkPs]; omega⟩
  cases hu:P.underlying t with
  | none=>rw [hu] at hc; cases hc
  | some u=>
   rw [hu] at hc
   cases u <;> first | (cases hc; done) | skip
   case bool=>
    obtain ⟨b,rfl,hx⟩:=DataW.trod_bool hu h
    injection hx with hx _
    subst hx
    exact single (p := .bool b) (by simp only [Ty,hu]; exact ⟨_,rfl⟩) (.bool _) rfl (by simp [bulkP,bulkD])
   case int k=>
    obtain ⟨v,rfl,hx,hwf⟩:=DataW.trod_int hu h
    injection hx with hx _
    subst hx
    exact single (p := .int k v) (by simp only [Ty,hu]; exact ⟨_,rfl,hwf⟩) (.int _ _) rfl (by simp [bulkP,bulkD])
   case string=>
    obtain ⟨s,rfl,hx,hs⟩:=DataW.trod_string hu h
    injection hx with hx _
    subst hx
    refine single (p := .str s) (by simp only [Ty,hu]; exact ⟨_,rfl,hs⟩) (.str _) rfl ?_
    simp only [bulkP,bulkD,Array.length_toList]
    exact Nat.le_refl _
   case slice e=>
    simp only [Bool.and_eq_true,decide_eq_true_eq] at hc
    have he:e∈ts:=by simpa using hc.1
    rcases DataW.trod_slice hu h with ⟨rfl,hx⟩ | ⟨a,len,cap,elems,rest,m,hm,rfl,hx,hb,hle,hcap,hel,hat,-,-⟩
    ·injection hx with hx _
     subst hx
     exact single (p := .sl (P.cellsOf e) []) (by simp only [Ty,hu]; exact ⟨[],rfl,by simp,by simp⟩) (.slnil _) rfl (by simp [bulkP,bulkPss,bulkD])
    ·injection hm with hm
     subst hm
     injection hx with hx _
     subst hx
     obtain ⟨es,k1,k2,k3,k4⟩:=elems_ok (P:=P) (n:=n) (e:=e) (R:=fun i cs=>∃vs:List Value,vs.length=P.cellsOf e/\(∀j,j<P.cellsOf e->w.cell? ((a.add (i * P.cellsOf e)).add j)=vs[j]?)/\RepAll g0 w cs vs/\∀c∈cs,c.one=true)
      (f:=fun i=>(w.cells? 0 (a.add (i * P.cellsOf e)) (P.cellsOf e)).bind (DataW.trod enc P w 0 sp held n e)) (elems:=elems) (k:=0)
      (fun i x hi=>by
       simp only [Option.bind_eq_some_iff] at hi
       obtain ⟨vs,h1,h2⟩:=hi
       obtain ⟨-,h3,h4⟩:=World.cells?_some h1
       obtain ⟨cs,r⟩:=trod_rep hts n e vs x.1 x.2 h2 he
       exact ⟨cs,⟨vs,h3,h4,r.rep,r.one⟩,r.ty,r.bulk⟩)
      (fun i hi=>by simpa using hat i oM)
     have hlen:es.length=len:=k1.trans hel
     refine single (p := .sl (P.cellsOf e) es) (by simp only [Ty,hu]; exact ⟨es,rfl,by omega,k3⟩) ?_ rfl ?_
     ·rw [<-hlen]
      let vs:Nat->Nat->Value:=fun i j=>((w.cell? (a.add (i * P.cellsOf e+j))).getD undef)
      have key:∀i (hi:i<es.length),∃vl:List Value,vl.length=P.cellsOf e/\es[i].length=P.cellsOf e/\(∀j (hj:j<P.cellsOf e),w.cell? (a.add (i * P.cellsOf e+j))=vl[j]?)/\RepAll g0 w es[i] vl/\∀c∈es[i],c.one=true:=fun i hi=>by
       obtain ⟨vl,h1,h2,h3,h4⟩:=k2 i hi
       rw [Nat.zero_add] at h2
       refine ⟨vl,h1,by rw [h3.1,h1],fun j hj=>?_,h3,h4⟩
       have:=h2 j hj
       have hv:vl[j]?=some vl[j]:=List.getElem?_eq_getElem oM
       rw [hv] at this
       have e1:=cell_add this
       rw [addr_add_add] at this
       rw [this,hv]
      refine .sl _ es a cap vs oM hcap (fun i hi=>(key i hi).choose_spec.2.1) (fun i j hi hj=>?_) (fun _ _ _ _=>g0_fix _ _) (fun i j hi hj=>?_) (fun i j hi hj=>?_)
      all_goals obtain ⟨vl,h1,h2,h3,h4,h5⟩:=key i hi
      ·have:=h3 j hj
       have hv:vl[j]?=some vl[j]:=List.getElem?_eq_getElem oM
       simp only [vs,this,hv,Option.getD_some]
      ·have:=h3 j hj
       have hv:vl[j]?=some vl[j]:=List.getElem?_eq_getElem oM
       simp only [vs,this,hv,Option.getD_some]
       exact (h4.2 j oM oM).one (h5 _ (List.getElem_mem _))
      ·have hj':j<P.cellsOf e:=by omega
       have:=h3 j hj'
       have hv:vl[j]?=some vl[j]:=List.getElem?_eq_getElem oM
       simp only [vs,this,hv,Option.getD_some]
       exact h4.2 j hj oM
     ·simp only [bulkP,bulkD]
      omega
   case struct fs=>
    simp only [Bool.and_eq_true,decide_eq_true_eq] at hc
    obtain ⟨xs,m,hm,hx,hlen,hxl,hat⟩:=DataW.trod_struct hu h
    injection hm with hm
    subst hm
    injection hx with hx _
    subst hx
    obtain ⟨cs,k1,k2,k3,k4,k5⟩:=fields_ok (P:=P) (ts:=ts) (n:=n) (fun t vs d ps h ht=>trod_rep hts n t vs d ps h ht) (vs:=vs) (fs:=fs.toList) (o:=0) (xs:=xs)
     (fun f hf=>by have:=List.all_eq_true.1 hc.1 f hf; simpa using this) hc.2 (by simpa using hxl) (fun i f hf=>hat i f (by simpa using hf)) oM
    refine ⟨cs,by simp only [Ty,hu]; exact k1,?_,k3,by simp only [bulkD]; omega⟩
    have:(vs.drop 0).take (P.cellsOf t - 0)=vs:=by simp [<-hlen]
    rw [this] at k2
    exact k2
end
def argPV(P:Program)(t:TypeId)(cs:List PV):PV:=match P.underlying t with
 | some (.struct _) => .agg cs
 | _=>cs.headD .nilp
def argPVs(P:Program):List TypeId->List (List PV)->List PV
 | t::ts,cs::css=>argPV P t cs::argPVs P ts css
 | _,_=>[]
def TyAll(P:Program):List TypeId->List (List PV)->Prop
 | [],[]=>True
 | t::ts,cs::css=>(∃n,Ty P n t cs)/\TyAll P ts css
 | _,_=>False
section
variable {H:Type} {enc:TypeId × Value->H} {P:Program} {w:World}
theorem arg_rep{tl:List TypeId}(hts:tl.all (compOK P tl)=true){base:Nat}{t:TypeId}{v:Value}{d:DataW H}{ps:List MemPlace}{sp:Nat->Bool}{held:Bool}(ht:t∈tl)(hval:Value.okWide P w .any base t v)(h:DataW.Trod enc P w 0 sp held t v d ps) :
  ∃cs,(∃n,Ty P n t cs)/\Rep g0 w (argPV P t cs) v/\bulkPs cs<=bulkD d:=by
 obtain ⟨n,h⟩:=h
 obtain ⟨cs,r⟩:=trod_rep hts n t _ d ps h ht
 refine ⟨cs,⟨n,r.ty⟩,?_,r.bulk⟩
 have hc:=List.all_eq_true.1 hts t ht
 unfold compOK at hc
 have scalar:∀ {u:Value},u.cells.toList=[u]->v=u->(match P.underlying t with | some (.struct _)=>PV.agg cs | _=>cs.headD .nilp)=cs.headD .nilp->Rep g0 w (argPV P t cs) v:=fun {u} h1 h2 h3=>by
  subst h2
  unfold argPV
  rw [h3]
  have:=r.rep
  rw [h1] at this
  obtain ⟨p,ps',hp⟩:∃p ps',cs=p::ps':=by
   cases hcs:cs with
   | nil=>rw [hcs] at this; exact absurd this.1 sM
   | cons p ps'=>exact ⟨p,ps',rfl⟩
  subst hp
  exact this.2 0 sM sM
 cases hu:P.underlying t with
 | none=>rw [hu] at hc; cases hc
 | some u=>
  rw [hu] at hc
  rw [hu] at scalar
  cases u <;> first | (cases hc; done) | skip
  case bool=>obtain ⟨b,rfl⟩:=okWide_bool hu hval; exact scalar (u := .bool b) rfl rfl rfl
  case int k=>obtain ⟨b,rfl⟩:=okWide_int hu hval; exact scalar (u := .int k b) rfl rfl rfl
  case string=>obtain ⟨b,rfl⟩:=okWide_string hu hval; exact scalar (u := .string b) rfl rfl rfl
  case slice e=>obtain ⟨a,l,c,rfl⟩:=okWide_slice hu hval; exact scalar (u := .slice a l c) rfl rfl rfl
  case struct fs=>
   simp only [Value.okWide,hu] at hval
   obtain ⟨arr,rfl,-,-⟩:=hval
   unfold argPV
   rw [hu]
   have hr:RepAll g0 w cs arr.toList:=r.rep
   have:=Rep.agg (g:=g0) (w:=w) cs arr.toList hr.1 (fun v hv=>by
    obtain ⟨j,hj,e⟩:=List.getElem_of_mem hv
    have:=hr.2 j (by rw [hr.1]; exact hj) hj
    rw [e] at this
    exact this.one (r.one _ (List.getElem_mem _))) hr.2
   simpa using this
theorem args_rep{tl:List TypeId}(hts:tl.all (compOK P tl)=true){base:Nat}{sp:Nat->Bool}{held:Bool}:∀ {ts:List TypeId} {vs:List Value} {ds:List (DataW H)} {ps:List MemPlace},(∀t∈ts,t∈tl)->(∀ (j:Nat) t v,ts[j]?=some t->vs[j]?=some v->Value.okWide P w .any base t v)->DataW.TrodAll enc P w 0 sp held ts vs ds ps ->
  ∃css,TyAll P ts css/\RepAll g0 w (argPVs P ts css) vs/\bulkPss css<=bulkDs ds
 | [],[],[],ps,_,_,_=>⟨[],trivial,RepAll.nil,by simp [bulkPss]⟩
 | t::ts,v::vs,d::ds,ps,hm,hval,h=>by
  obtain ⟨p,q,h1,h2,-⟩:=h
  obtain ⟨cs,a1,a2,a3⟩:=arg_rep hts (hm t sM) (hval 0 t v rfl rfl) h1
  obtain ⟨css,b1,b2,b3⟩:=args_rep hts (fun t ht=>hm t (List.mem_cons_of_mem _ ht)) (fun j t v ht hv=>hval (j+1) t v (by simpa using ht) (by simpa using hv)) h2
  exact ⟨cs::css,⟨a1,b1⟩,RepAll.cons a2 b2,by simp only [bulkPss,bulkDs]; omega⟩
 | [],_::_,_,_,_,_,h=>h.elim
 | [],[],_::_,_,_,_,h=>h.elim
 | _::_,[],_,_,_,_,h=>h.elim
 | _::_,_::_,[],_,_,_,h=>h.elim
theorem trodAll_length{base:Nat}{sp:Nat->Bool}{held:Bool}:∀ {ts:List TypeId} {vs:List Value} {ds:List (DataW H)} {ps:List MemPlace},DataW.TrodAll enc P w base sp held ts vs ds ps->ds.length=ts.length
 | [],[],[],_,_=>rfl
 | _::_,_::_,_::_,_,h=>by
  obtain ⟨p,q,-,h2,-⟩:=h
  simp [trodAll_length h2]
 | [],_::_,_,_,h=>h.elim
 | [],[],_::_,_,h=>h.elim
 | _::_,[],_,_,h=>h.elim
 | _::_,_::_,[],_,h=>h.elim
theorem below_trodAll{W W':World}(hl:laidOutB P=true)(hb:Below W.heap.size W W'):∀ {ts:List TypeId} {vs:List Value} {ds:List (DataW H)} {ps:List MemPlace},(∀t∈ts,P.readableRec t=true/\t<P.types.size)->(∀x∈ps,x.block<W.heap.size)->DataW.TrodAll enc P W 0 (fun _=>true) true ts vs ds ps->DataW.TrodAll enc P W' 0 (fun b=>decide (b<W.heap.size)) true ts vs ds ps
 | [],[],[],ps,_,_,h=>h
 | t::ts,v::vs,d::ds,ps,hr,hlt,h=>by
  obtain ⟨p,q,h1,h2,rfl⟩:=h
  exact ⟨p,q,Below.trod hl (hr t sM).1 (hr t sM).2 h1 hb (fun x hx=>hlt x (List.mem_append_left _ hx)),below_trodAll hl hb (fun t ht=>hr t (List.mem_cons_of_mem _ ht)) (fun x hx=>hlt x (List.mem_append_right _ hx)) h2,rfl⟩
 | [],_::_,_,_,_,_,h=>h.elim
 | [],[],_::_,_,_,_,h=>h.elim
 | _::_,[],_,_,_,_,h=>h.elim
 | _::_,_::_,[],_,_,_,h=>h.elim
theorem mapM_at{α β:Type}{f:α->Option β}:∀ {l:List α} {r:List β},l.mapM f=some r->∀ (i:Nat) (a:α),l[i]?=some a->∃b,r[i]?=some b/\f a=some b
 | [],_,_,i,a,ha=>by simp at ha
 | x::l,r,h,i,a,ha=>by
  simp only [List.mapM_cons,Option.bind_eq_bind,Option.bind_eq_some_iff,Option.pure_def,Option.some.injEq] at h
  obtain ⟨b,hb,r',hr',rfl⟩:=h
  cases i with
  | zero=>
   simp only [List.getElem?_cons_zero,Option.some.injEq] at ha
   subst ha
   exact ⟨b,rfl,hb⟩
  | succ i=>exact mapM_at hr' i a (by simpa using ha)
theorem mapM_len{α β:Type}{f:α->Option β}:∀ {l:List α} {r:List β},l.mapM f=some r->r.length=l.length
 | [],r,h=>by simp at h; subst h; rfl
 | x::l,r,h=>by
  simp only [List.mapM_cons,Option.bind_eq_bind,Option.bind_eq_some_iff,Option.pure_def,Option.some.injEq] at h
  obtain ⟨b,hb,r',hr',rfl⟩:=h
  simp [mapM_len hr']
theorem cells_of_texts{e:TypeId}{n fuel:Nat}{t:TypeId}{W:World}{cs:List Value}{zs:List (List UInt8)}{p:List MemPlace}{sp:Nat->Bool}{held:Bool}{base:Nat}
  (ht:P.underlying t=some (.array n e)) (he:P.underlying e=some .string) (hce:P.cellsOf e=1) (hct:P.cellsOf t=n)
  (h:DataW.trod enc P W base sp held fuel t cs=some (.agg (zs.map fun z => .lit (.string z)),p)):cs=zs.map fun z=>Value.string ⟨z.toArray⟩:=by
 cases fuel with
 | zero=>simp [DataW.trod] at h
 | succ fuel=>
  simp only [DataW.trod,ht,hce,hct,Nat.mul_one] at h
  split at h
  ·rename_i hl
   obtain ⟨xs,hm,hx⟩:=Option.map_eq_some_iff.1 h
   have hxs:xs.map (·.1)=zs.map fun z=>(DataW.lit (.string z):DataW H):=by
    have:=congrArg Prod.fst hx
    simpa using this
   have hxl:xs.length=n:=by simpa using mapM_len hm
   have hzl:zs.length=n:=by
    have:=congrArg List.length hxs
    simp at this
    omega
   apply List.ext_getElem?
   intro i
   by_cases hi:i<n
   ·obtain ⟨b,hb,hf⟩:=mapM_at hm i i (by simp [hi])
    obtain ⟨s,hc,hz,_⟩:=DataW.trod_string he hf
    have h1:cs[i]?=some (.string s):=by
     have:=congrArg (·[0]?) hc
     simpa [List.getElem?_take,List.getElem?_drop] using this
    have h2:(xs.map (·.1))[i]?=some b.1:=by simp [hb]
    rw [hxs] at h2
    simp only [List.getElem?_map,Option.map_eq_some_iff] at h2
    obtain ⟨z',hz',h3⟩:=h2
    rw [hz] at h3
    injection h3 with h3
    injection h3 with h3
    rw [h1]
    simp only [List.getElem?_map,hz',Option.map_some,Option.some.injEq,Value.string.injEq]
    cases s
    rw [h3]
   ·rw [List.getElem?_eq_none oM,List.getElem?_eq_none (by simp; omega)]
  ·cases h
theorem texts_of_head{P:Program}{W:World}{name:String}{zs:List (List UInt8)}{rest:List (String × DataW Unit)}{g:Nat}{t e:TypeId}{n:Nat}
  (hg:P.globalNamed name=some g) (hty:(P.globals[g]?).map (·.type)=some t) (ht:P.underlying t=some (.array n e)) (he:P.underlying e=some .string) (hce:P.cellsOf e=1) (hct:P.cellsOf t=n)
  (h:laidMet P ((name,.agg (zs.map fun z => .lit (.string z)))::rest) W):∀i (h:i<zs.length),W.cell? ⟨g,i,none⟩=some (.string ⟨zs[i].toArray⟩):=by
 obtain ⟨ps,⟨g',t',cs,fuel,p,q,hg',ht',hvar,hd,_,_⟩,_⟩:=h
 obtain rfl:=Option.some.inj (hg.symm.trans hg')
 obtain rfl:=Option.some.inj (hty.symm.trans ht')
 have e0:=cells_of_texts ht he hce hct hd
 intro i hi
 have e1:cs=(zs.map fun z=>Value.string ⟨z.toArray⟩).toArray:=by rw [<-e0]
 rw [e1] at hvar
 have:=World.var?_cell hg hvar i
 rw [this]
 simp [hi]
theorem gok_texts{W:World}{g:Nat}{zs:List (List UInt8)}(hG:GLB=[(g,zs.map fun z => .str ⟨z.toArray⟩)])(h:∀i (h:i<zs.length),W.cell? ⟨g,i,none⟩=some (.string ⟨zs[i].toArray⟩)):GOK g0 W:=by
 intro k cs hk
 rw [hG] at hk
 simp only [lk] at hk
 split at hk
 ·rename_i hkg
  subst hkg
  injection hk with hk
  subst hk
  refine .ro _ 0 _ 0 (fun j => .string ⟨(zs.getD j []).toArray⟩) (fun j hj=>?_) (fun j hj k hk=>by cases hk) (fun _ _=>rfl) (fun j hj=>?_)
  ·have hj':j<zs.length:=by simpa using hj
   rw [Nat.zero_add,h j hj']
   simp [List.getD,hj']
  ·have hj':j<zs.length:=by simpa using hj
   simp only [List.getElem_map]
   have:zs.getD j []=zs[j]:=by simp [List.getD,hj']
   rw [this]
   exact .str _
 ·cases hk
theorem law_contract{fid:FuncId}{f:Func}{s:ChangeSpec}{tb:TypeId}(tl:List TypeId)(hts:tl.all (compOK P tl)=true)(hl:laidOutB P=true)(hp:f.params.toList.all (fun t=>tl.contains t&&P.readableRec t&&decide (t<P.types.size))=true)(hres:f.resultTypes = #[tb])(htb:P.underlying tb=some .bool)(hv:s.vars=[])
  {W:World} {base:Nat} {args:Array Value} {ds gs:List (DataW H)} {before:List MemPlace}
  (hfn:∀ds:List (DataW H),ds.length=f.params.toList.length->s.fn H ds={ results:=[.lit (.bool true)],args:=ds })
  (hval:∀ (j:Nat) t v,f.params[j]?=some t->args[j]?=some v->Value.okWide P W .any base t v)
  (hW:DataW.Whole enc P f.params.toList s.vars false W args.toList ds gs before) (hG:GOK g0 W)
  (h:∀css,TyAll P f.params.toList css->bulkPss css<=bulkDs ds->(Ob.pur fid (argPVs P f.params.toList css) (.ret (.bool true))).ok P) :
  Calls P fid args W fun e W'=>∃v,e = .returned v/\s.post enc P f false true false false W args v W':=by
 have hW':=hW
 obtain ⟨p,q,hA,hV,rfl,hfz,hnd⟩:=hW
 rw [hv] at hV
 obtain ⟨rfl,rfl⟩:=trodVars_none hV
 have hp':=List.all_eq_true.1 hp
 obtain ⟨css,h1,h2,h3⟩:=args_rep (base:=base) hts (fun t ht=>by have:=hp' t ht; simp only [Bool.and_eq_true] at this; simpa using this.1.1) (fun j t v ht hv=>hval j t v (by simpa using ht) (by simpa using hv)) hA
 have hent:Ent [] g0 ⟨fun _=>none,fun _=>none,fun _=>none⟩ W:={ ex:=fun x cs hx=>(by simp [lk] at hx),olt:=fun b o ho=>(by cases ho),uo:=fun p b hb=>(by cases hb),fresh:=⟨fun _ _=>rfl,fun _ _=>rfl,fun _ _ _=>rfl⟩,xlt:=fun n b hb=>(by cases hb),only:=fun b o ho=>(by cases ho),glb:=hG }
 have hc:=(h css h1 h3).2 [] args.toList g0 _ W h2 hent
 rw [Array.toArray_toList] at hc
 refine hc.mono ?_
 rintro en W' ⟨r,e1,g',l',⟨rfl,-⟩,hr,-,-,hsz,hfr,-,os,tape,output⟩
 cases en with
 | returned v=>
  have hvt:v = .bool true:=by
   have hr':Rep g' W' (.bool true) v:=hr
   cases hr'; rfl
  subst hvt
  have hb:Below W.heap.size W W':=⟨os,tape,output,hsz,fun k hk=>(hfr k hk rfl).1⟩
  refine ⟨_,rfl,ds,[],p++[],[],p,[],hW',?_,?_,?_,⟨os,output,fun i hi=>?_⟩,fun h=>by cases h⟩
  ·rw [List.append_nil,hfn ds (trodAll_length hA),hres]
   exact trodAll_mk1 (shut_bool htb _)
  ·rw [List.append_nil,hfn ds (trodAll_length hA)]
   exact below_trodAll hl hb (fun t ht=>by have:=hp' t ht; simp only [Bool.and_eq_true,decide_eq_true_eq] at this; exact ⟨this.1.2,this.2⟩) (fun x hx=>by simpa using hW'.lt x (by simpa using hx)) hA
  ·rw [List.append_nil,hfn ds (trodAll_length hA),hv]
   exact rfl
  ·have:=(hfr i hi rfl).1
   rw [this]
   cases hi':W.heap[i]? with
   | none=>rfl
   | some o=>cases o <;> simp
 | panicked ch=>exact hr.elim
 | outgrown=>exact hr.elim
end
open Go.RowKit
section
variable {P:Program} {cx:Cx} {s:S} {Q:PExit->S->Prop} {o:Oper} {all:Array Oper} {rest:List Oper}
theorem PL_moveV{t d:Nat}{p:PV}(hg:o.guard=none)(ho:o.op = .move (.tmp t))(hd:o.dst=some d)(hn:d<cx.n)(hl:lk s.tmps t=some (.v p))(hk:PL P cx all rest { s with tmps:=put s.tmps d (.v p) } Q):PL P cx all (o::rest) s Q:=fun g l a w hs=>by
 refine wpList_plain hg fun K hK=>?_
 unfold Oper.wp
 rw [show (execOp a.eval o).run P w = .ok (.value (a.eval (.tmp t))) w by simp only [execOp,ho]; rfl,Oper.upon_value,hd]
 exact hK _ _ (hk g l _ w (hs.set hn (hs.tm t _ hl)))
theorem PL_nilcmp{t d z:Nat}{es:List (List PV)}{ty yt el:TypeId}(hg:o.guard=none)(ho:o.op = .binOp .eql ty (.tmp t) (.const (.slice none 0 0)) yt)(hd:o.dst=some d)(hn:d<cx.n)(hty:P.underlying ty=some (.slice el))(hl:lk s.tmps t=some (.v (.sl z es)))
  (hk:∀b,(b=true->es=[])->PL P cx all rest { s with tmps:=put s.tmps d (.v (.bool b)) } Q):PL P cx all (o::rest) s Q:=fun g l a w hs=>by
 refine wpList_plain hg fun K hK=>?_
 have hr:Rep g w (.sl z es) (a.eval (.tmp t)):=hs.tm t _ hl
 have hex:∀v,(eqGuard .eql ty (.tmp t) (.const (.slice none 0 0)) (a.eval (.tmp t)) (.slice none 0 0)).run P w = .ok () w->(binOp .eql ty (a.eval (.tmp t)) (.slice none 0 0)).run P w = .ok v w->(execOp a.eval o).run P w = .ok (.value v) w:=by
  intro v hg hv
  simp only [execOp,ho,Sem.run_bind]
  rw [show a.eval (.const (.slice none 0 0)) = .slice none 0 0 from rfl,hg]
  simp only [Result.andThen_ok,hv,Sem.run_pure]
 have go:∀b,(b=true->es=[])->(execOp a.eval o).run P w = .ok (.value (.bool b)) w->o.wp P a w K (post cx Q):=by
  intro b hb he
  unfold Oper.wp
  rw [he,Oper.upon_value,hd]
  exact hK _ _ (hk b hb g l _ w (hs.set hn (.bool b)))
 generalize a.eval (.tmp t)=v at hr hex
 cases hr with
 | slnil _=>exact go true (fun _=>rfl) (hex _ (run_eqGuard_plain sM sM) (by
   have:(Op.equal ty (.slice none 0 0) (.slice none 0 0)).run P w = .ok true w:=equal_of fun d=>by simp only [Op.equalIn,Sem.run_bind,run_underlying hty,Result.andThen_ok]; rfl
   unfold binOp
   simp only [this,Sem.run_bind,Result.andThen_ok]
   rfl))
 | sl _ _ ad cap vs hle hcap hsz hc hf ho' k=>exact go false (fun h=>by cases h) (hex _ (run_eqGuard_plain sM sM) (by
   have:(Op.equal ty (.slice (some ad) es.length cap) (.slice none 0 0)).run P w = .ok false w:=equal_of fun d=>by simp only [Op.equalIn,Sem.run_bind,run_underlying hty,Result.andThen_ok]; rfl
   unfold binOp
   simp only [this,Sem.run_bind,Result.andThen_ok]
   rfl))
end
open Go.RowKit Go.Sort Go.Proofs
section
variable {P:Program} {cx:Cx} {s:S} {g:Gh} {l:LG} {a:Act} {w w':World}
end
section
variable {P:Program} {fl:Nat}
noncomputable def evFK (P:Program) (kn:Orc) (md:FuncId->Md) (fl:Nat) (d:Nat):Orc × Dfr:=
 Nat.rec (motive:=fun _=>Orc × Dfr) (fun _ _ _=>none,fun _ _ _ _=>none)
  (fun _ ih=>(fun f args e=>match kn f args e with
   | some r=>some r
   | none=>match okFn P f with
    | true=>(match P.funcs[f]? with
     | some fn=>evFnR P (md f) ih.1 ih.2 fl fn args e
     | none=>none)
    | false=>none,fun f args e m=>match okFn P f with
   | true=>(match P.funcs[f]? with
    | some fn=>evGn P (md f) ih.1 fl fn args e m
    | none=>none)
   | false=>none)) d
theorem evFK_sound{kn:Orc}(hk:OrcOK P kn){md:FuncId->Md}(hm:P.follows .mixedOrders=true):∀d,OrcOK P (evFK P kn md fl d).1/\DfrOK P (evFK P kn md fl d).2
 | 0=>⟨fun f args e r e' h=>(nomatch (show none=some (r,e') from h)),fun f args e m m' e' h=>(nomatch (show none=some (m',e') from h))⟩
 | d+1=>by
  have ih:=evFK_sound hk (md:=md) hm d
  refine ⟨fun f args e r e' h=>?_,fun f args e m m' e' h=>?_⟩
  ·have h:(match kn f args e with
    | some r=>some r
    | none=>match okFn P f with
    | true=>(match P.funcs[f]? with
     | some fn=>evFnR P (md f) (evFK P kn md fl d).1 (evFK P kn md fl d).2 fl fn args e
     | none=>none)
    | false=>none)=some (r,e'):=h
   split at h
   ·rename_i x hx
    injection h with h
    subst h
    exact hk _ _ _ _ _ hx
   ·split at h
    ·rename_i ho
     split at h
     ·rename_i fn hf
      simp only [okFn,hf,Bool.and_eq_true] at ho
      exact ⟨ho.1,evFnR_sound ih.1 ih.2 hm hf ho.2 h⟩
     ·cases h
    ·cases h
  ·have h:(match okFn P f with
    | true=>(match P.funcs[f]? with
     | some fn=>evGn P (md f) (evFK P kn md fl d).1 fl fn args e m
     | none=>none)
    | false=>none)=some (m',e'):=h
   split at h
   ·rename_i ho
    split at h
    ·rename_i fn hf
     simp only [okFn,hf,Bool.and_eq_true] at ho
     exact ⟨ho.1,evGn_sound ih.1 hm hf ho.2 h⟩
    ·cases h
   ·cases h
end
theorem Ob.pur_of_known{P:Program}(kn:Orc)(hk:OrcOK P kn)(md:FuncId->Md)(fl d:Nat){f:FuncId}{args:List PV}{r:CRes}(hm:P.follows .mixedOrders=true)(h:((evFK P kn md fl d).1 f args []).map Prod.fst=some r)(ha:noXs args=true)(hr:r.noX=true):(Ob.pur f args r).ok P:=by
 have:=(evFK_sound (P:=P) hk (md:=md) (fl:=fl) hm d).1
 cases he:(evFK P kn md fl d).1 f args [] with
 | none=>rw [he] at h; cases h
 | some x=>
  obtain ⟨r1,e1⟩:=x
  rw [he] at h
  injection h with h
  subst h
  obtain ⟨h1,h2⟩:=this f args [] _ _ he
  exact Ob.pur_of_eff ha hr ⟨h1,h2⟩
theorem Rep.fixes{g g':Gh}{w:World}{p:PV}{v:Value}(hX:g'.X=g.X)(hY:g'.Y=g.Y)(hF:∀b o,g.Fix b o->g'.Fix b o)(h:Rep g w p v):Rep g' w p v:=
 h.mono ⟨fun n b e=>by rw [hX]; exact e,fun b o v hc hf=>⟨hc,hF b o hf⟩,fun _ cur _ hh=>⟨cur,hh,rfl⟩,fun n c b e=>by rw [hY]; exact e,fun b arr c hh hn=>⟨hh,by
  cases hk:g'.M b with
  | none=>rfl
  | some k=>exact absurd (hF b k (fun k' hk'=>by rw [hn] at hk'; cases hk') k hk) (Nat.lt_irrefl _)⟩⟩
theorem CallC.freezeM{P:Program}{f:FuncId}{args:List PV}{k1 k2:List ByteArray}{v1 v2:List PV}(ha:noXs args=true)(hn1:noXs v1=true)(hn2:noXs v2=true)(hl1:k1.length=v1.length)(hl2:k2.length=v2.length)
  (h:CallC P f args [] fun r e=>∃es1 es2 it,r = .ret (.agg [.mp 0,.mp 1])/\e=[(0,[.mm (.s es1)]),(1,[.mm (.s es2)]),(2,[.mm it])]/\es1.Perm (k1.zip v1)/\es2.Perm (k2.zip v2)) (e:Ext) :
  CallC P f args e fun r e'=>r = .ret (.agg [.fm k1 v1,.fm k2 v2])/\e'=e:=by
 intro vs g l w hargs hent
 let g2:Gh:=⟨g.M,fun _=>none,fun _ _=>none⟩
 let l2:LG:=⟨fun _=>none,fun _=>none,fun _=>none⟩
 have h1:RepAll g2 w args vs:=⟨hargs.1,fun j hj hj'=>Rep.names (g:=g) rfl (noXs_mem ha j hj) (hargs.2 j hj hj')⟩
 have h2:Ent [] g2 l2 w:={ ex:=fun x cs hx=>(by simp [lk] at hx),olt:=fun b o ho=>(by cases ho),uo:=fun p b hb=>(by cases hb),fresh:=⟨hent.fresh.1,fun _ _=>rfl,fun _ _ _=>rfl⟩,xlt:=fun n b hb=>(by cases hb),only:=fun b o ho=>(by cases ho),glb:=hent.glb.names rfl }
 refine (h vs g2 l2 w h1 h2).mono ?_
 rintro en w' ⟨r,e2,g',l',⟨es1,es2,it,rfl,rfl,hp1,hp2⟩,hres,hent',hmono,hsz,hfr,hown,os,tape,output⟩
 have hblk:∀x es,lk [(0,[LV.mm (.s es1)]),(1,[.mm (.s es2)]),(2,[.mm it])] x=some [.mm (.s es)]->∃b,g'.X x=some b/\w.heap.size<=b/\BlkM g' w' b (.s es):=fun x es hx=>by
  obtain ⟨b,hX,hO,hE⟩:=hent'.ex x _ hx
  have hb:w.heap.size<=b:=by
   rcases hown b _ hO with h | h
   ·exact h
   ·cases h
  refine ⟨b,hX.plain (fun c ps e=>by injection e with e _; cases e),hb,?_⟩
  rcases hE with ⟨-,cur,te,-,-,k4⟩ | ⟨es',hi,hM⟩ | ⟨n0,c0,ps0,-,e0,-⟩
  ·exact ((k4 0 sM).2.2).elim
  ·have:MM.s es=es':=hi
   subst this
   exact hM
  ·injection e0 with e0 _; cases e0
 obtain ⟨b1,hX1,hb1,hM1,arr1,clk1,hh1,hR1⟩:=hblk 0 es1 rfl
 obtain ⟨b2,hX2,hb2,hM2,arr2,clk2,hh2,hR2⟩:=hblk 1 es2 rfl
 let g3:Gh:=⟨fun x=>if x=b1∨x=b2 then none else g'.M x,g.X,g.Y⟩
 let g4:Gh:=⟨fun x=>if x=b1∨x=b2 then none else g'.M x,g'.X,g'.Y⟩
 have hF:∀c o,g'.Fix c o->g4.Fix c o:=fun c o hf k hk=>by
  simp only [g4] at hk
  split at hk
  ·cases hk
  ·exact hf k hk
 have hkeep:∀c,c<w.heap.size->w'.heap[c]?=w.heap[c]?/\g3.M c=g.M c:=fun c hc=>by
  obtain ⟨k1,k2⟩:=hfr c hc rfl
  refine ⟨k1,?_⟩
  show (if c=b1∨c=b2 then none else g'.M c)=g.M c
  rw [iN oM]
  exact k2
 have hm3:Mono g w g3 w':=⟨fun n b hb=>hb,fun c o v hc hf=>by
   obtain ⟨k1,k2⟩:=hmono.cell c o v hc (fun k hk=>hf k hk)
   exact ⟨k1,fun k hk=>hF c o k2 k hk⟩,fun c cur t hc=>hmono.len c cur t hc,fun _ _ _ h=>h,fun c arr k hh hn=>have hq:=hmono.map c arr k hh hn; ⟨hq.1,by
    show (if c=b1∨c=b2 then none else g'.M c)=none
    split
    ·rfl
    ·exact hq.2⟩⟩
 have hq:∀ {p:PV} {v:Value},p.noX=true->Rep g' w' p v->Rep g3 w' p v:=fun hn hr=>Rep.names (g:=g4) rfl hn (Rep.fixes (g:=g') (g':=g4) rfl rfl hF hr)
 have hfm:∀ {ks vs es b arr clk},noXs vs=true->ks.length=vs.length->es.Perm (ks.zip vs)->g3.M b=none->w'.heap[b]?=some (.map arr clk)->MapR Value.string g' w' es arr clk->Rep g3 w' (.fm ks vs) (.map (some b)):=fun {ks vs es b arr clk} hn hl hp hM hh hR=>
  .fm ks vs es b arr clk hp hl hM hh hR.1 hR.2.1 (fun j h1 h2=>(hR.2.2 j h1 h2).1) fun j h1 h2=>hq (noXs_in hn (List.of_mem_zip (hp.mem_iff.1 (List.getElem_mem h1))).2) (hR.2.2 j h1 h2).2
 refine ⟨.ret (.agg [.fm k1 v1,.fm k2 v2]),e,g3,l,⟨rfl,rfl⟩,?_,?_,hm3,hsz,fun c hc _=>hkeep c hc,fun b o ho => .inr (by rw [ho]; rfl),os,tape,output⟩
 ·cases en <;> first | exact hres.elim | skip
  rename_i v
  have hr:Rep g' w' (.agg [.mp 0,.mp 1]) v:=hres
  show Rep g3 w' (.agg [.fm k1 v1,.fm k2 v2]) v
  cases hr with
  | agg _ us hl ho hall=>
   refine .agg _ us hl ho fun j hj hj'=>?_
   have hj2:j<2:=hj
   match j,hj2 with
   | 0,_=>
    have h0:=mp_inv (hall 0 sM hj') hX1
    show Rep g3 w' (.fm k1 v1) us[0]
    rw [h0]
    exact hfm hn1 hl1 hp1 (iP (.inl rfl)) hh1 hR1
   | 1,_=>
    have h0:=mp_inv (hall 1 sM hj') hX2
    show Rep g3 w' (.fm k2 v2) us[1]
    rw [h0]
    exact hfm hn2 hl2 hp2 (iP (.inr rfl)) hh2 hR2
 ·refine ⟨fun x cs hx=>?_,fun b o ho=>Nat.lt_of_lt_of_le (hent.olt b o ho) hsz,hent.uo,⟨fun c hc=>?_,hent.fresh.2⟩,fun n b hb=>Nat.lt_of_lt_of_le (hent.xlt n b hb) hsz,hent.only,hent.glb.mono hm3⟩
  ·obtain ⟨b,k1,k2,hE⟩:=hent.ex x cs hx
   have hb:=hkeep b (hent.olt b _ k2)
   refine ⟨b,k1.mono hm3,k2,?_⟩
   rcases hE with ⟨k3,cur,t,k4,k5,k6⟩ | hE
   rotate_left
   ·exact .inr (hE.keep hm3 (fun _ _ _ h=>h) hb.2 hb.1)
   refine .inl ⟨hb.2.trans k3,cur,t,hb.1.trans k4,k5,fun j hj=>⟨(k6 j hj).1,(k6 j hj).2.1,?_⟩⟩
   refine (k6 j hj).2.2.keep hm3 (fun _ _ _=>rfl) fun b' hb'=>?_
   have hlt:=hent.olt b' _ (hent.uo _ _ hb')
   exact ⟨hb',(hkeep b' hlt).2,(hkeep b' hlt).1⟩
  ·show (if c=b1∨c=b2 then none else g'.M c)=none
   split
   ·rfl
   ·exact hent'.fresh.1 c hc
section
variable {P:Program} {cx:Cx} {s:S} {Q:PExit->S->Prop} {o:Oper} {all:Array Oper} {rest:List Oper}
theorem PL_next{t d k:Nat}{ks:List ByteArray}{vs:List PV}{seen:List (ByteArray × PV)}(hg:o.guard=none)(ho:o.op = .next (.tmp t) false)(hd:o.dst=some d)(hn:d<cx.n)(ht:lk s.tmps t=some (.v (.xp k 0)))(hk:lk s.ext k=some [.mm (.fit ks vs seen)])
  (h0:seen.Perm (ks.zip vs)->PL P cx all rest { s with tmps:=put s.tmps d (.v (.tup [.bool false])) } Q)
  (h1:∀kb v,(kb,v)∈ks.zip vs->(∀x∈seen,x.1≠kb)->PL P cx all rest { s with tmps:=put s.tmps d (.v (.tup [.bool true,.str kb,v])),ext:=put s.ext k [.mm (.fit ks vs ((kb,v)::seen))] } Q):PL P cx all (o::rest) s Q:=fun g l a w hs=>by
 refine wpList_plain hg fun K hK=>?_
 refine next_fit ho hd hn hs (hs.tm t _ ht) hk (fun hp w' sm=>?_) fun kb v u w' hm hne sm=>?_
 ·exact hK _ _ (h0 hp g l _ w' sm)
 ·exact hK _ _ (h1 kb v hm hne g l _ w' sm)
end
end Go.Pv
