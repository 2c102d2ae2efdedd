/- Values of Go as plain data, an evaluator over them, and what the functions of the program return; part Xh. -/
import Derived.Test.YtaakmholhliodaaGreatDoorXe
import Derived.WalkKit
import Derived.ProofKit
import Derived.LaidLaws
import Derived.ChangeArms
import Derived.Sort.OwnSorted
set_option linter.unusedVariables false
set_option linter.unusedSimpArgs false
set_option linter.unusedSectionVars false
namespace Go.Pv
open Go.ChangeShapes Go.WideShapes Go.ChangeAt Go.RowKit
def TyF(T:TypeId->List PV->Prop):List Field->List PV->Prop
 | [],cs=>cs=[]
 | f::r,cs=>∃c cs',cs=c++cs'/\T f.type c/\TyF T r cs'
def Ty(P:Program):Nat->TypeId->List PV->Prop
 | 0,_,_=>False
 | n+1,t,cs=>match P.underlying t with
  | some .bool=>∃b,cs=[.bool b]
  | some (.int k)=>∃v,cs=[.int k v]/\(Lit.int k v).wf=true
  | some .string=>∃s:ByteArray,cs=[.str s]/\s.size<=maxLen
  | some (.slice e)=>∃es:List (List PV),cs=[.sl (P.cellsOf e) es]/\es.length<=maxLen/\∀x∈es,Ty P n e x
  | some (.struct fs)=>TyF (Ty P n) fs.toList cs
  | _=>False
def tiles(P:Program):List Field->Nat->Option Nat
 | [],o=>some o
 | f::r,o=>if f.offset=o then tiles P r (o+P.cellsOf f.type) else none
def compOK(P:Program)(ts:List TypeId)(t:TypeId):Bool:=match P.underlying t with
 | some .bool=>true
 | some (.int _)=>true
 | some .string=>true
 | some (.slice e)=>ts.contains e&&decide (0<P.cellsOf e)
 | some (.struct fs)=>fs.toList.all (fun f=>ts.contains f.type)&&decide (tiles P fs.toList 0=some (P.cellsOf t))
 | _=>false
mutual
def bulkP:PV->Nat
 | .str s=>s.size+1
 | .sl _ es=>bulkPss es+1
 | _=>1
def bulkPss:List (List PV)->Nat
 | []=>0
 | x::r=>bulkPs x+bulkPss r
def bulkPs:List PV->Nat
 | []=>0
 | x::r=>bulkP x+bulkPs r
end
theorem bulkPs_append:∀a b:List PV,bulkPs (a++b)=bulkPs a+bulkPs b
 | [],b=>by simp [bulkPs]
 | x::a,b=>by simp only [List.cons_append,bulkPs,bulkPs_append a b]; omega
mutual
def bulkD{H:Type}:DataW H->Nat
 | .lit (.string bytes)=>bytes.length+1
 | .lit _=>1
 | .nil=>1
 | .ptr d=>bulkD d+1
 | .slice elems spare=>bulkDs elems+bulkDs spare+1
 | .agg parts=>bulkDs parts+1
 | .iface _ d=>bulkD d+1
 | .map entries=>bulkDm entries+1
 | .held _=>1
def bulkDs{H:Type}:List (DataW H)->Nat
 | []=>0
 | d::r=>bulkD d+bulkDs r
def bulkDm{H:Type}:List (Lit × DataW H)->Nat
 | []=>0
 | x::r=>bulkDe x+bulkDm r
def bulkDe{H:Type}:Lit × DataW H->Nat
 | (.string bytes,d)=>bytes.length+bulkD d+1
 | (_,d)=>bulkD d+1
end
def g0:Gh:=⟨fun _=>none,fun _=>none,fun _ _=>none⟩
theorem g0_fix(b o:Nat):g0.Fix b o:=fun k hk=>by cases hk
theorem RepAll.append{g:Gh}{w:World}{a b:List PV}{x y:List Value}(h1:RepAll g w a x)(h2:RepAll g w b y):RepAll g w (a++b) (x++y):=by
 refine ⟨by simp [h1.1,h2.1],fun j h h'=>?_⟩
 by_cases hj:j<a.length
 ·have hj':j<x.length:=by rw [<-h1.1]; exact hj
  rw [List.getElem_append_left hj,List.getElem_append_left hj']
  exact h1.2 j hj hj'
 ·have hj1:a.length<=j:=by omega
  have hj2:x.length<=j:=by rw [<-h1.1]; exact hj1
  rw [List.getElem_append_right hj1,List.getElem_append_right hj2]
  have e:j - x.length=j - a.length:=by rw [h1.1]
  simp only [e]
  exact h2.2 (j - a.length) (by simp at h; omega) (by have:=h1.1; have:=h2.1; simp at h h'; omega)
section
variable {H:Type} {enc:TypeId × Value->H} {P:Program} {w:World} {sp:Nat->Bool} {held:Bool}
structure RdOK (P:Program) (w:World) (n:Nat) (t:TypeId) (vs:List Value) (bulk:Nat) (cs:List PV):Prop where
 ty:Ty P n t cs
 rep:RepAll g0 w cs vs
 one:∀c∈cs,c.one=true
 bulk:bulkPs cs<=bulk
theorem fields_ok{ts:List TypeId}{n:Nat}(ih:∀ (t:TypeId) (vs:List Value) (d:DataW H) (ps:List MemPlace),DataW.trod enc P w 0 sp held n t vs=some (d,ps)->t∈ts->∃cs,RdOK P w n t vs (bulkD d) cs)
  {vs:List Value}:∀ {fs:List Field} {o o':Nat} {xs:List (DataW H × List MemPlace)},(∀f∈fs,f.type∈ts)->tiles P fs o=some o'->xs.length=fs.length->(∀ (i:Nat) (f:Field),fs[i]?=some f->DataW.trod enc P w 0 sp held n f.type ((vs.drop f.offset).take (P.cellsOf f.type))=xs[i]?)->o'<=vs.length ->
   ∃cs,TyF (Ty P n) fs cs/\RepAll g0 w cs ((vs.drop o).take (o' - o))/\(∀c∈cs,c.one=true)/\bulkPs cs<=bulkDs (xs.map (·.1))/\o<=o'
 | [],o,o',xs,_,ht,_,hx,_=>by
  simp only [tiles,Option.some.injEq] at ht
  subst ht
  exact ⟨[],rfl,by simp; exact RepAll.nil,by simp,by simp [bulkPs],Nat.le_refl _⟩
 | f::fs,o,o',[],hm,ht,hl,hx,hlen=>by simp at hl
 | f::fs,o,o',(y1,y2)::ys,hm,ht,hl,hx,hlen=>by
  simp only [tiles] at ht
  split at ht
  ·rename_i ho
   have hd:=hx 0 f rfl
   simp only [List.getElem?_cons_zero] at hd
   obtain ⟨cs',k1,k2,k3,k4,k5⟩:=fields_ok ih (xs:=ys) (fun f hf=>hm f (List.mem_cons_of_mem _ hf)) ht (by simpa using hl) (fun i f hf=>by simpa using hx (i+1) f (by simpa using hf)) hlen
   obtain ⟨c,r⟩:=ih f.type _ y1 y2 hd (hm f sM)
   refine ⟨c++cs',⟨c,cs',rfl,r.ty,k1⟩,?_,fun x hx=>?_,?_,by omega⟩
   ·have e:(vs.drop o).take (o' - o)=(vs.drop f.offset).take (P.cellsOf f.type)++(vs.drop (o+P.cellsOf f.type)).take (o' - (o+P.cellsOf f.type)):=by
     rw [ho,<-List.drop_drop,<-List.take_add]
     congr 1
     omega
    rw [e]
    exact r.rep.append k2
   ·rcases List.mem_append.1 hx with hx | hx
    ·exact r.one x hx
    ·exact k3 x hx
   ·simp only [bulkPs_append,List.map_cons,bulkDs]
    have:=r.bulk
    omega
  ·cases ht
theorem elems_ok{n:Nat}{e:TypeId}{f:Nat->Option (DataW H × List MemPlace)}{R:Nat->List PV->Prop}:∀ {elems:List (DataW H × List MemPlace)} {k:Nat},(∀i x,f i=some x->∃cs,R i cs/\Ty P n e cs/\bulkPs cs<=bulkD x.1)->(∀i,i<elems.length->f (k+i)=elems[i]?) ->
  ∃es:List (List PV),es.length=elems.length/\(∀i (h:i<es.length),R (k+i) es[i])/\(∀x∈es,Ty P n e x)/\bulkPss es<=bulkDs (elems.map (·.1))
 | [],k,_,_=>⟨[],rfl,fun i h=>by simp at h,by simp,by simp [bulkPss]⟩
 | x::ys,k,h,hm=>by
  have h1:=hm 0 sM
  simp only [List.getElem?_cons_zero,Nat.add_zero] at h1
  obtain ⟨cs,a1,a2,a3⟩:=h k x h1
  obtain ⟨es,b1,b2,b3,b4⟩:=elems_ok (elems:=ys) (k:=k+1) h (fun i hi=>by
   have:=hm (i+1) (by simpa using hi)
   rw [show k+1+i=k+(i+1) by omega]
   simpa using this)
  refine ⟨cs::es,by simp [b1],fun i hi=>?_,fun x hx=>?_,?_⟩
  ·cases i with
   | zero=>exact a1
   | succ i=>
    have:=b2 i (by simpa using hi)
    have e:k+1+i=k+(i+1):=by omega
    rw [e] at this
    exact this
  ·rcases List.mem_cons.1 hx with rfl | hx
   ·exact a2
   ·exact b3 x hx
  ·simp only [bulkPss,List.map_cons,bulkDs]
   omega
theorem addr_add_add(a:Addr)(i j:Nat):(a.add i).add j=a.add (i+j):=by
 unfold Addr.add
 by_cases hi:i=0 <;> by_cases hj:j=0 <;> simp [hi,hj] <;> omega
theorem trod_rep{ts:List TypeId}(hts:ts.all (compOK P ts)=true):∀ (n:Nat) (t:TypeId) (vs:List Value) (d:DataW H) (ps:List MemPlace),DataW.trod enc P w 0 sp held n t vs=some (d,ps)->t∈ts->∃cs,RdOK P w n t vs (bulkD d) cs
 | 0,t,vs,d,ps,h,_=>by simp [DataW.trod] at h
 | n+1,t,vs,d,ps,h,ht=>by
  have hc:=List.all_eq_true.1 hts t ht
  unfold compOK at hc
  have single:∀ {p:PV} {v:Value} {m:Nat},Ty P (n+1) t [p]->Rep g0 w p v->p.one=true->bulkP p<=m->∃cs,RdOK P w (n+1) t [v] m cs:=fun {p v m} h1 h2 h3 h4=>
   ⟨[p],h1,RepAll.cons h2 RepAll.nil,by simpa using h3,by simp only [bulkPs]; omega⟩
  cases hu:P.underlying t with
  | none=>rw [hu] at hc; cases hc
  | some u=>
   rw [hu] at hc
   cases u <;> first | (cases hc; done) | skip
   case bool=>
    obtain ⟨b,rfl,hx⟩:=DataW.trod_bool hu h
    injection hx with hx _
    subst hx
    exact single (p := .bool b) (by simp only [Ty,hu]; exact ⟨_,rfl⟩) (.bool _) rfl (by simp [bulkP,bulkD])
   case int k=>
    obtain ⟨v,rfl,hx,hwf⟩:=DataW.trod_int hu h
    injection hx with hx _
    subst hx
    exact single (p := .int k v) (by simp only [Ty,hu]; exact ⟨_,rfl,hwf⟩) (.int _ _) rfl (by simp [bulkP,bulkD])
   case string=>
    obtain ⟨s,rfl,hx,hs⟩:=DataW.trod_string hu h
    injection hx with hx _
    subst hx
    refine single (p := .str s) (by simp only [Ty,hu]; exact ⟨_,rfl,hs⟩) (.str _) rfl ?_
    simp only [bulkP,bulkD,Array.length_toList]
    exact Nat.le_refl _
   case slice e=>
    simp only [Bool.and_eq_true,decide_eq_true_eq] at hc
    have he:e∈ts:=by simpa using hc.1
    rcases DataW.trod_slice hu h with ⟨rfl,hx⟩ | ⟨a,len,cap,elems,rest,m,hm,rfl,hx,hb,hle,hcap,hel,hat,-,-⟩
    ·injection hx with hx _
     subst hx
     exact single (p := .sl (P.cellsOf e) []) (by simp only [Ty,hu]; exact ⟨[],rfl,by simp,by simp⟩) (.slnil _) rfl (by simp [bulkP,bulkPss,bulkD])
    ·injection hm with hm
     subst hm
     injection hx with hx _
     subst hx
     obtain ⟨es,k1,k2,k3,k4⟩:=elems_ok (P:=P) (n:=n) (e:=e) (R:=fun i cs=>∃vs:List Value,vs.length=P.cellsOf e/\(∀j,j<P.cellsOf e->w.cell? ((a.add (i * P.cellsOf e)).add j)=vs[j]?)/\RepAll g0 w cs vs/\∀c∈cs,c.one=true)
      (f:=fun i=>(w.cells? 0 (a.add (i * P.cellsOf e)) (P.cellsOf e)).bind (DataW.trod enc P w 0 sp held n e)) (elems:=elems) (k:=0)
      (fun i x hi=>by
       simp only [Option.bind_eq_some_iff] at hi
       obtain ⟨vs,h1,h2⟩:=hi
       obtain ⟨-,h3,h4⟩:=World.cells?_some h1
       obtain ⟨cs,r⟩:=trod_rep hts n e vs x.1 x.2 h2 he
       exact ⟨cs,⟨vs,h3,h4,r.rep,r.one⟩,r.ty,r.bulk⟩)
      (fun i hi=>by simpa using hat i oM)
     have hlen:es.length=len:=k1.trans hel
     refine single (p := .sl (P.cellsOf e) es) (by simp only [Ty,hu]; exact ⟨es,rfl,by omega,k3⟩) ?_ rfl ?_
     ·rw [<-hlen]
      let vs:Nat->Nat->Value:=fun i j=>((w.cell? (a.add (i * P.cellsOf e+j))).getD undef)
      have key:∀i (hi:i<es.length),∃vl:List Value,vl.length=P.cellsOf e/\es[i].length=P.cellsOf e/\(∀j (hj:j<P.cellsOf e),w.cell? (a.add (i * P.cellsOf e+j))=vl[j]?)/\RepAll g0 w es[i] vl/\∀c∈es[i],c.one=true:=fun i hi=>by
       obtain ⟨vl,h1,h2,h3,h4⟩:=k2 i hi
       rw [Nat.zero_add] at h2
       refine ⟨vl,h1,by rw [h3.1,h1],fun j hj=>?_,h3,h4⟩
       have:=h2 j hj
       have hv:vl[j]?=some vl[j]:=List.getElem?_eq_getElem oM
       rw [hv] at this
       have e1:=cell_add this
       rw [addr_add_add] at this
       rw [this,hv]
      refine .sl _ es a cap vs oM hcap (fun i hi=>(key i hi).choose_spec.2.1) (fun i j hi hj=>?_) (fun _ _ _ _=>g0_fix _ _) (fun i j hi hj=>?_) (fun i j hi hj=>?_)
      all_goals obtain ⟨vl,h1,h2,h3,h4,h5⟩:=key i hi
      ·have:=h3 j hj
       have hv:vl[j]?=some vl[j]:=List.getElem?_eq_getElem oM
       simp only [vs,this,hv,Option.getD_some]
      ·have:=h3 j hj
       have hv:vl[j]?=some vl[j]:=List.getElem?_eq_getElem oM
       simp only [vs,this,hv,Option.getD_some]
       exact (h4.2 j oM oM).one (h5 _ (List.getElem_mem _))
      ·have hj':j<P.cellsOf e:=by omega
       have:=h3 j hj'
       have hv:vl[j]?=some vl[j]:=List.getElem?_eq_getElem oM
       simp only [vs,this,hv,Option.getD_some]
       exact h4.2 j hj oM
     ·simp only [bulkP,bulkD]
      omega
   case struct fs=>
    simp only [Bool.and_eq_true,decide_eq_true_eq] at hc
    obtain ⟨xs,m,hm,hx,hlen,hxl,hat⟩:=DataW.trod_struct hu h
    injection hm with hm
    subst hm
    injection hx with hx _
    subst hx
    obtain ⟨cs,k1,k2,k3,k4,k5⟩:=fields_ok (P:=P) (ts:=ts) (n:=n) (fun t vs d ps h ht=>trod_rep hts n t vs d ps h ht) (vs:=vs) (fs:=fs.toList) (o:=0) (xs:=xs)
     (fun f hf=>by have:=List.all_eq_true.1 hc.1 f hf; simpa using this) hc.2 (by simpa using hxl) (fun i f hf=>hat i f (by simpa using hf)) oM
    refine ⟨cs,by simp only [Ty,hu]; exact k1,?_,k3,by simp only [bulkD]; omega⟩
    have:(vs.drop 0).take (P.cellsOf t - 0)=vs:=by simp [<-hlen]
    rw [this] at k2
    exact k2
end
def argPV(P:Program)(t:TypeId)(cs:List PV):PV:=match P.underlying t with
 | some (.struct _) => .agg cs
 | _=>cs.headD .nilp
def argPVs(P:Program):List TypeId->List (List PV)->List PV
 | t::ts,cs::css=>argPV P t cs::argPVs P ts css
 | _,_=>[]
def TyAll(P:Program):List TypeId->List (List PV)->Prop
 | [],[]=>True
 | t::ts,cs::css=>(∃n,Ty P n t cs)/\TyAll P ts css
 | _,_=>False
section
variable {H:Type} {enc:TypeId × Value->H} {P:Program} {w:World}
theorem arg_rep{tl:List TypeId}(hts:tl.all (compOK P tl)=true){base:Nat}{t:TypeId}{v:Value}{d:DataW H}{ps:List MemPlace}{sp:Nat->Bool}{held:Bool}(ht:t∈tl)(hval:Value.okWide P w .any base t v)(h:DataW.Trod enc P w 0 sp held t v d ps) :
  ∃cs,(∃n,Ty P n t cs)/\Rep g0 w (argPV P t cs) v/\bulkPs cs<=bulkD d:=by
 obtain ⟨n,h⟩:=h
 obtain ⟨cs,r⟩:=trod_rep hts n t _ d ps h ht
 refine ⟨cs,⟨n,r.ty⟩,?_,r.bulk⟩
 have hc:=List.all_eq_true.1 hts t ht
 unfold compOK at hc
 have scalar:∀ {u:Value},u.cells.toList=[u]->v=u->(match P.underlying t with | some (.struct _)=>PV.agg cs | _=>cs.headD .nilp)=cs.headD .nilp->Rep g0 w (argPV P t cs) v:=fun {u} h1 h2 h3=>by
  subst h2
  unfold argPV
  rw [h3]
  have:=r.rep
  rw [h1] at this
  obtain ⟨p,ps',hp⟩:∃p ps',cs=p::ps':=by
   cases hcs:cs with
   | nil=>rw [hcs] at this; exact absurd this.1 sM
   | cons p ps'=>exact ⟨p,ps',rfl⟩
  subst hp
  exact this.2 0 sM sM
 cases hu:P.underlying t with
 | none=>rw [hu] at hc; cases hc
 | some u=>
  rw [hu] at hc
  rw [hu] at scalar
  cases u <;> first | (cases hc; done) | skip
  case bool=>obtain ⟨b,rfl⟩:=okWide_bool hu hval; exact scalar (u := .bool b) rfl rfl rfl
  case int k=>obtain ⟨b,rfl⟩:=okWide_int hu hval; exact scalar (u := .int k b) rfl rfl rfl
  case string=>obtain ⟨b,rfl⟩:=okWide_string hu hval; exact scalar (u := .string b) rfl rfl rfl
  case slice e=>obtain ⟨a,l,c,rfl⟩:=okWide_slice hu hval; exact scalar (u := .slice a l c) rfl rfl rfl
  case struct fs=>
   simp only [Value.okWide,hu] at hval
   obtain ⟨arr,rfl,-,-⟩:=hval
   unfold argPV
   rw [hu]
   have hr:RepAll g0 w cs arr.toList:=r.rep
   have:=Rep.agg (g:=g0) (w:=w) cs arr.toList hr.1 (fun v hv=>by
    obtain ⟨j,hj,e⟩:=List.getElem_of_mem hv
    have:=hr.2 j (by rw [hr.1]; exact hj) hj
    rw [e] at this
    exact this.one (r.one _ (List.getElem_mem _))) hr.2
   simpa using this
theorem args_rep{tl:List TypeId}(hts:tl.all (compOK P tl)=true){base:Nat}{sp:Nat->Bool}{held:Bool}:∀ {ts:List TypeId} {vs:List Value} {ds:List (DataW H)} {ps:List MemPlace},(∀t∈ts,t∈tl)->(∀ (j:Nat) t v,ts[j]?=some t->vs[j]?=some v->Value.okWide P w .any base t v)->DataW.TrodAll enc P w 0 sp held ts vs ds ps ->
  ∃css,TyAll P ts css/\RepAll g0 w (argPVs P ts css) vs/\bulkPss css<=bulkDs ds
 | [],[],[],ps,_,_,_=>⟨[],trivial,RepAll.nil,by simp [bulkPss]⟩
 | t::ts,v::vs,d::ds,ps,hm,hval,h=>by
  obtain ⟨p,q,h1,h2,-⟩:=h
  obtain ⟨cs,a1,a2,a3⟩:=arg_rep hts (hm t sM) (hval 0 t v rfl rfl) h1
  obtain ⟨css,b1,b2,b3⟩:=args_rep hts (fun t ht=>hm t (List.mem_cons_of_mem _ ht)) (fun j t v ht hv=>hval (j+1) t v (by simpa using ht) (by simpa using hv)) h2
  exact ⟨cs::css,⟨a1,b1⟩,RepAll.cons a2 b2,by simp only [bulkPss,bulkDs]; omega⟩
 | [],_::_,_,_,_,_,h=>h.elim
 | [],[],_::_,_,_,_,h=>h.elim
 | _::_,[],_,_,_,_,h=>h.elim
 | _::_,_::_,[],_,_,_,h=>h.elim
theorem trodAll_length{base:Nat}{sp:Nat->Bool}{held:Bool}:∀ {ts:List TypeId} {vs:List Value} {ds:List (DataW H)} {ps:List MemPlace},DataW.TrodAll enc P w base sp held ts vs ds ps->ds.length=ts.length
 | [],[],[],_,_=>rfl
 | _::_,_::_,_::_,_,h=>by
  obtain ⟨p,q,-,h2,-⟩:=h
  simp [trodAll_length h2]
 | [],_::_,_,_,h=>h.elim
 | [],[],_::_,_,h=>h.elim
 | _::_,[],_,_,h=>h.elim
 | _::_,_::_,[],_,h=>h.elim
theorem below_trodAll{W W':World}(hl:laidOutB P=true)(hb:Below W.heap.size W W'):∀ {ts:List TypeId} {vs:List Value} {ds:List (DataW H)} {ps:List MemPlace},(∀t∈ts,P.readableRec t=true/\t<P.types.size)->(∀x∈ps,x.block<W.heap.size)->DataW.TrodAll enc P W 0 (fun _=>true) true ts vs ds ps->DataW.TrodAll enc P W' 0 (fun b=>decide (b<W.heap.size)) true ts vs ds ps
 | [],[],[],ps,_,_,h=>h
 | t::ts,v::vs,d::ds,ps,hr,hlt,h=>by
  obtain ⟨p,q,h1,h2,rfl⟩:=h
  exact ⟨p,q,Below.trod hl (hr t sM).1 (hr t sM).2 h1 hb (fun x hx=>hlt x (List.mem_append_left _ hx)),below_trodAll hl hb (fun t ht=>hr t (List.mem_cons_of_mem _ ht)) (fun x hx=>hlt x (List.mem_append_right _ hx)) h2,rfl⟩
 | [],_::_,_,_,_,_,h=>h.elim
 | [],[],_::_,_,_,_,h=>h.elim
 | _::_,[],_,_,_,_,h=>h.elim
 | _::_,_::_,[],_,_,_,h=>h.elim
theorem mapM_at{α β:Type}{f:α->Option β}:∀ {l:List α} {r:List β},l.mapM f=some r->∀ (i:Nat) (a:α),l[i]?=some a->∃b,r[i]?=some b/\f a=some b
 | [],_,_,i,a,ha=>by simp at ha
 | x::l,r,h,i,a,ha=>by
  simp only [List.mapM_cons,Option.bind_eq_bind,Option.bind_eq_some_iff,Option.pure_def,Option.some.injEq] at h
  obtain ⟨b,hb,r',hr',rfl⟩:=h
  cases i with
  | zero=>
   simp only [List.getElem?_cons_zero,Option.some.injEq] at ha
   subst ha
   exact ⟨b,rfl,hb⟩
  | succ i=>exact mapM_at hr' i a (by simpa using ha)
theorem mapM_len{α β:Type}{f:α->Option β}:∀ {l:List α} {r:List β},l.mapM f=some r->r.length=l.length
 | [],r,h=>by simp at h; subst h; rfl
 | x::l,r,h=>by
  simp only [List.mapM_cons,Option.bind_eq_bind,Option.bind_eq_some_iff,Option.pure_def,Option.some.injEq] at h
  obtain ⟨b,hb,r',hr',rfl⟩:=h
  simp [mapM_len hr']
theorem cells_of_texts{e:TypeId}{n fuel:Nat}{t:TypeId}{W:World}{cs:List Value}{zs:List (List UInt8)}{p:List MemPlace}{sp:Nat->Bool}{held:Bool}{base:Nat}
  (ht:P.underlying t=some (.array n e)) (he:P.underlying e=some .string) (hce:P.cellsOf e=1) (hct:P.cellsOf t=n)
  (h:DataW.trod enc P W base sp held fuel t cs=some (.agg (zs.map fun z => .lit (.string z)),p)):cs=zs.map fun z=>Value.string ⟨z.toArray⟩:=by
 cases fuel with
 | zero=>simp [DataW.trod] at h
 | succ fuel=>
  simp only [DataW.trod,ht,hce,hct,Nat.mul_one] at h
  split at h
  ·rename_i hl
   obtain ⟨xs,hm,hx⟩:=Option.map_eq_some_iff.1 h
   have hxs:xs.map (·.1)=zs.map fun z=>(DataW.lit (.string z):DataW H):=by
    have:=congrArg Prod.fst hx
    simpa using this
   have hxl:xs.length=n:=by simpa using mapM_len hm
   have hzl:zs.length=n:=by
    have:=congrArg List.length hxs
    simp at this
    omega
   apply List.ext_getElem?
   intro i
   by_cases hi:i<n
   ·obtain ⟨b,hb,hf⟩:=mapM_at hm i i (by simp [hi])
    obtain ⟨s,hc,hz,_⟩:=DataW.trod_string he hf
    have h1:cs[i]?=some (.string s):=by
     have:=congrArg (·[0]?) hc
     simpa [List.getElem?_take,List.getElem?_drop] using this
    have h2:(xs.map (·.1))[i]?=some b.1:=by simp [hb]
    rw [hxs] at h2
    simp only [List.getElem?_map,Option.map_eq_some_iff] at h2
    obtain ⟨z',hz',h3⟩:=h2
    rw [hz] at h3
    injection h3 with h3
    injection h3 with h3
    rw [h1]
    simp only [List.getElem?_map,hz',Option.map_some,Option.some.injEq,Value.string.injEq]
    cases s
    rw [h3]
   ·rw [List.getElem?_eq_none oM,List.getElem?_eq_none (by simp; omega)]
  ·cases h
theorem texts_of_head{P:Program}{W:World}{name:String}{zs:List (List UInt8)}{rest:List (String × DataW Unit)}{g:Nat}{t e:TypeId}{n:Nat}
  (hg:P.globalNamed name=some g) (hty:(P.globals[g]?).map (·.type)=some t) (ht:P.underlying t=some (.array n e)) (he:P.underlying e=some .string) (hce:P.cellsOf e=1) (hct:P.cellsOf t=n)
  (h:laidMet P ((name,.agg (zs.map fun z => .lit (.string z)))::rest) W):∀i (h:i<zs.length),W.cell? ⟨g,i,none⟩=some (.string ⟨zs[i].toArray⟩):=by
 obtain ⟨ps,⟨g',t',cs,fuel,p,q,hg',ht',hvar,hd,_,_⟩,_⟩:=h
 obtain rfl:=Option.some.inj (hg.symm.trans hg')
 obtain rfl:=Option.some.inj (hty.symm.trans ht')
 have e0:=cells_of_texts ht he hce hct hd
 intro i hi
 have e1:cs=(zs.map fun z=>Value.string ⟨z.toArray⟩).toArray:=by rw [<-e0]
 rw [e1] at hvar
 have:=World.var?_cell hg hvar i
 rw [this]
 simp [hi]
theorem gok_texts{W:World}{g:Nat}{zs:List (List UInt8)}(hG:GLB=[(g,zs.map fun z => .str ⟨z.toArray⟩)])(h:∀i (h:i<zs.length),W.cell? ⟨g,i,none⟩=some (.string ⟨zs[i].toArray⟩)):GOK g0 W:=by
 intro k cs hk
 rw [hG] at hk
 simp only [lk] at hk
 split at hk
 ·rename_i hkg
  subst hkg
  injection hk with hk
  subst hk
  refine .ro _ 0 _ 0 (fun j => .string ⟨(zs.getD j []).toArray⟩) (fun j hj=>?_) (fun j hj k hk=>by cases hk) (fun _ _=>rfl) (fun j hj=>?_)
  ·have hj':j<zs.length:=by simpa using hj
   rw [Nat.zero_add,h j hj']
   simp [List.getD,hj']
  ·have hj':j<zs.length:=by simpa using hj
   simp only [List.getElem_map]
   have:zs.getD j []=zs[j]:=by simp [List.getD,hj']
   rw [this]
   exact .str _
 ·cases hk
theorem law_contract{fid:FuncId}{f:Func}{s:ChangeSpec}{tb:TypeId}(tl:List TypeId)(hts:tl.all (compOK P tl)=true)(hl:laidOutB P=true)(hp:f.params.toList.all (fun t=>tl.contains t&&P.readableRec t&&decide (t<P.types.size))=true)(hres:f.resultTypes = #[tb])(htb:P.underlying tb=some .bool)(hv:s.vars=[])
  {W:World} {base:Nat} {args:Array Value} {ds gs:List (DataW H)} {before:List MemPlace}
  (hfn:∀ds:List (DataW H),ds.length=f.params.toList.length->s.fn H ds={ results:=[.lit (.bool true)],args:=ds })
  (hval:∀ (j:Nat) t v,f.params[j]?=some t->args[j]?=some v->Value.okWide P W .any base t v)
  (hW:DataW.Whole enc P f.params.toList s.vars false W args.toList ds gs before) (hG:GOK g0 W)
  (h:∀css,TyAll P f.params.toList css->bulkPss css<=bulkDs ds->(Ob.pur fid (argPVs P f.params.toList css) (.ret (.bool true))).ok P) :
  Calls P fid args W fun e W'=>∃v,e = .returned v/\s.post enc P f false true false false W args v W':=by
 have hW':=hW
 obtain ⟨p,q,hA,hV,rfl,hfz,hnd⟩:=hW
 rw [hv] at hV
 obtain ⟨rfl,rfl⟩:=trodVars_none hV
 have hp':=List.all_eq_true.1 hp
 obtain ⟨css,h1,h2,h3⟩:=args_rep (base:=base) hts (fun t ht=>by have:=hp' t ht; simp only [Bool.and_eq_true] at this; simpa using this.1.1) (fun j t v ht hv=>hval j t v (by simpa using ht) (by simpa using hv)) hA
 have hent:Ent [] g0 ⟨fun _=>none,fun _=>none,fun _=>none⟩ W:={ ex:=fun x cs hx=>(by simp [lk] at hx),olt:=fun b o ho=>(by cases ho),uo:=fun p b hb=>(by cases hb),fresh:=⟨fun _ _=>rfl,fun _ _=>rfl,fun _ _ _=>rfl⟩,xlt:=fun n b hb=>(by cases hb),only:=fun b o ho=>(by cases ho),glb:=hG }
 have hc:=(h css h1 h3).2 [] args.toList g0 _ W h2 hent
 rw [Array.toArray_toList] at hc
 refine hc.mono ?_
 rintro en W' ⟨r,e1,g',l',⟨rfl,-⟩,hr,-,-,hsz,hfr,-,os,tape,output⟩
 cases en with
 | returned v=>
  have hvt:v = .bool true:=by
   have hr':Rep g' W' (.bool true) v:=hr
   cases hr'; rfl
  subst hvt
  have hb:Below W.heap.size W W':=⟨os,tape,output,hsz,fun k hk=>(hfr k hk rfl).1⟩
  refine ⟨_,rfl,ds,[],p++[],[],p,[],hW',?_,?_,?_,⟨os,output,fun i hi=>?_⟩,fun h=>by cases h⟩
  ·rw [List.append_nil,hfn ds (trodAll_length hA),hres]
   exact trodAll_mk1 (shut_bool htb _)
  ·rw [List.append_nil,hfn ds (trodAll_length hA)]
   exact below_trodAll hl hb (fun t ht=>by have:=hp' t ht; simp only [Bool.and_eq_true,decide_eq_true_eq] at this; exact ⟨this.1.2,this.2⟩) (fun x hx=>by simpa using hW'.lt x (by simpa using hx)) hA
  ·rw [List.append_nil,hfn ds (trodAll_length hA),hv]
   exact rfl
  ·have:=(hfr i hi rfl).1
   rw [this]
   cases hi':W.heap[i]? with
   | none=>rfl
   | some o=>cases o <;> simp
 | panicked ch=>exact hr.elim
 | outgrown=>exact hr.elim
end
open Go.RowKit
section
variable {P:Program} {cx:Cx} {s:S} {Q:PExit->S->Prop} {o:Oper} {all:Array Oper} {rest:List Oper}
theorem PL_moveV{t d:Nat}{p:PV}(hg:o.guard=none)(ho:o.op = .move (.tmp t))(hd:o.dst=some d)(hn:d<cx.n)(hl:lk s.tmps t=some (.v p))(hk:PL P cx all rest { s with tmps:=put s.tmps d (.v p) } Q):PL P cx all (o::rest) s Q:=fun g l a w hs=>by
 refine wpList_plain hg fun K hK=>?_
 unfold Oper.wp
 rw [show (execOp a.eval o).run P w = .ok (.value (a.eval (.tmp t))) w by simp only [execOp,ho]; rfl,Oper.upon_value,hd]
 exact hK _ _ (hk g l _ w (hs.set hn (hs.tm t _ hl)))
theorem PL_nilcmp{t d z:Nat}{es:List (List PV)}{ty yt el:TypeId}(hg:o.guard=none)(ho:o.op = .binOp .eql ty (.tmp t) (.const (.slice none 0 0)) yt)(hd:o.dst=some d)(hn:d<cx.n)(hty:P.underlying ty=some (.slice el))(hl:lk s.tmps t=some (.v (.sl z es)))
  (hk:∀b,(b=true->es=[])->PL P cx all rest { s with tmps:=put s.tmps d (.v (.bool b)) } Q):PL P cx all (o::rest) s Q:=fun g l a w hs=>by
 refine wpList_plain hg fun K hK=>?_
 have hr:Rep g w (.sl z es) (a.eval (.tmp t)):=hs.tm t _ hl
 have hex:∀v,(eqGuard .eql ty (.tmp t) (.const (.slice none 0 0)) (a.eval (.tmp t)) (.slice none 0 0)).run P w = .ok () w->(binOp .eql ty (a.eval (.tmp t)) (.slice none 0 0)).run P w = .ok v w->(execOp a.eval o).run P w = .ok (.value v) w:=by
  intro v hg hv
  simp only [execOp,ho,Sem.run_bind]
  rw [show a.eval (.const (.slice none 0 0)) = .slice none 0 0 from rfl,hg]
  simp only [Result.andThen_ok,hv,Sem.run_pure]
 have go:∀b,(b=true->es=[])->(execOp a.eval o).run P w = .ok (.value (.bool b)) w->o.wp P a w K (post cx Q):=by
  intro b hb he
  unfold Oper.wp
  rw [he,Oper.upon_value,hd]
  exact hK _ _ (hk b hb g l _ w (hs.set hn (.bool b)))
 generalize a.eval (.tmp t)=v at hr hex
 cases hr with
 | slnil _=>exact go true (fun _=>rfl) (hex _ (run_eqGuard_plain sM sM) (by
   have:(Op.equal ty (.slice none 0 0) (.slice none 0 0)).run P w = .ok true w:=equal_of fun d=>by simp only [Op.equalIn,Sem.run_bind,run_underlying hty,Result.andThen_ok]; rfl
   unfold binOp
   simp only [this,Sem.run_bind,Result.andThen_ok]
   rfl))
 | sl _ _ ad cap vs hle hcap hsz hc hf ho' k=>exact go false (fun h=>by cases h) (hex _ (run_eqGuard_plain sM sM) (by
   have:(Op.equal ty (.slice (some ad) es.length cap) (.slice none 0 0)).run P w = .ok false w:=equal_of fun d=>by simp only [Op.equalIn,Sem.run_bind,run_underlying hty,Result.andThen_ok]; rfl
   unfold binOp
   simp only [this,Sem.run_bind,Result.andThen_ok]
   rfl))
end
open Go.RowKit Go.Sort Go.Proofs
section
variable {P:Program} {cx:Cx} {s:S} {g:Gh} {l:LG} {a:Act} {w w':World}
theorem Sim.turn(h:Sim cx s g l a w){t:Nat}{e:TypeId}{z:Nat}{es':List (List PV)}{b cap:Nat}{cur cur':Array Value}(hv:a.tmps.getD t undef = .slice (some ⟨b,0,none⟩) es'.length cap)(hU:l.U (.t t)=some b)(hM:g.M b=some 0)
  (hh:w.heap[b]?=some (.cells cur e (0,0))) (hg:w.grownBy w' (some b)) (hh':w'.heap[b]?=some (.cells cur' e (0,0))) (hsz:cur'.size=cur.size) (hcs:cur.size=cap * z) (hrow:Row g w z es' cap cur') :
  ∃g' l',Sim cx { s with tmps:=put s.tmps t (.v (.sl z es')) } g' l' a w':=by
 let g':Gh:=⟨fun x=>if x=b then none else g.M x,g.X,g.Y⟩
 let l':LG:=⟨l.L,fun p=>if p = .t t then none else l.U p,fun x=>if x=b then none else l.O x⟩
 have hO2:=h.uo _ _ hU
 have hsame:∀b',b'<w.heap.size->b'≠b->w'.heap[b']?=w.heap[b']?:=fun b' hlt hne=>hg.block b' hlt (fun e0=>hne (by injection e0))
 have hlt:∀ {b' o},w.heap[b']?=some o->b'<w.heap.size:=fun hb=>(Array.getElem?_eq_some_iff.1 hb).1
 have hm:Mono g w g' w':=by
  refine ⟨fun _ _ e=>e,fun b' o v hc hf=>?_,fun b' c e2 hb'=>?_,fun _ _ _ h=>h⟩
  ·have hne:b'≠b:=by rintro rfl; have:=hf _ hM; omega
   have hl:=World.block_lt_of_cell? w _ hc
   refine ⟨by rw [<-hc]; exact World.cell?_of_block (hsame b' hl hne),fun k hk=>?_⟩
   simp only [g',iN hne] at hk
   exact hf k hk
  ·by_cases hne:b'=b
   ·subst hne
    rw [hh] at hb'
    injection hb' with hb'
    injection hb' with q1 q2
    subst q1 q2
    exact ⟨cur',hh',hsz⟩
   ·exact ⟨c,(hsame b' (hlt hb') hne).trans hb',rfl⟩
 have hO:∀ {b' o},l.O b'=some o->o ≠ .u (.t t)->b'≠b:=fun {b' o} ho hne e0=>by
  subst e0; rw [hO2] at ho; injection ho with ho; exact hne ho.symm
 have hMs:∀ {b'},b'≠b->g'.M b'=g.M b':=fun hne=>by simp only [g',iN hne]
 have hO':∀ {b' o},l.O b'=some o->o ≠ .u (.t t)->l'.O b'=some o:=fun ho hne=>by simp only [l',iN (hO ho hne)]; exact ho
 have hL:∀ {p lv v},p ≠ .t t->RepL g l w p lv v->RepL g' l' w' p lv v:=fun {p lv v} hp hr=>hr.keep hm (fun _ _ _=>rfl) fun b2 hu=>by
  have h2:=h.uo _ _ hu
  have hne:=hO h2 (by intro e0; injection e0 with e0; exact hp e0)
  exact ⟨by simp only [l',iN hp]; exact hu,hMs hne,hsame b2 (h.own _ _ h2).1 hne⟩
 obtain ⟨hle,hcap,hes,hr⟩:=hrow
 have hfl:=flatten_length z es' hes
 refine ⟨g',l',⟨⟨h.hist.mono.trans hm,Nat.le_trans h.hist.size hg.size,fun b' hlt' ho=>?_,hg.os.trans h.hist.os,hg.tape.trans h.hist.tape,hg.output.trans h.hist.output,h.hist.glb.mono hm⟩,h.size,h.defers,fun t' lv ht=>?_,fun j cs' hj=>?_,fun x cs' hx=>?_,fun b' o ho=>?_,fun p b' hu=>?_,⟨fun b' hb'=>?_,h.fresh.2⟩,fun n b' hx=>Nat.lt_of_lt_of_le (h.xlt n b' hx) hg.size⟩⟩
 ·obtain ⟨k1,k2⟩:=h.hist.frame b' hlt' ho
  have hne:b'≠b:=by
   rintro rfl
   rcases (h.own b' _ hO2).2 with h7 | h7
   ·omega
   ·exact ho h7
  exact ⟨(hsame b' (Nat.lt_of_lt_of_le hlt' h.hist.size) hne).trans k1,(hMs hne).trans k2⟩
 ·rw [lk_put] at ht
  split at ht
  ·rename_i e0
   subst e0
   injection ht with ht
   subst ht
   show Rep g' w' (.sl z es') _
   rw [hv]
   have hcl:es'.length * z<=cur'.size:=by rw [hsz,hcs]; exact Nat.mul_le_mul_right _ hle
   have hget:∀j,j<es'.length * z->cur'[j]?=some (cur'.getD j undef):=fun j hj=>by
    have:j<cur'.size:=by omega
    simp [this]
   refine Rep.of_flat (xs:=(List.range (es'.length * z)).map fun j=>cur'.getD j undef) hle hcap hes ⟨by simp [hfl],fun j hj hj'=>?_⟩ fun j u hu=>?_
   ·simp only [List.getElem_map,List.getElem_range]
    exact (hr j hj).2.mono hm
   ·have hj:j<es'.length * z:=by
     have:=(List.getElem?_eq_some_iff.1 hu).1
     simpa using this
    have e1:u=cur'.getD j undef:=by simpa [List.getElem?_range hj] using hu.symm
    subst e1
    refine ⟨?_,fun k hk=>?_,(hr j (by rw [hfl]; exact hj)).1⟩
    ·rw [addr0]
     simp only [World.cell?,hh']
     simpa using hget j hj
    ·simp only [g',if_true] at hk
     cases hk
  ·rename_i hne
   exact hL (fun e0=>hne (by injection e0 with e0; exact e0.symm)) (h.tm t' lv ht)
 ·obtain ⟨b',k1,k2,k3,c2,e2,k4,k5,k6⟩:=h.bx j cs' hj
  have hne:=hO k2 sM
  exact ⟨b',k1,hO' k2 sM,(hMs hne).trans k3,c2,e2,(hsame b' (h.own _ _ k2).1 hne).trans k4,k5,fun j' hj'=>⟨(k6 j' hj').1,(k6 j' hj').2.1,hL sM (k6 j' hj').2.2⟩⟩
 ·obtain ⟨b',k1,k2,hE⟩:=h.ex x cs' hx
  have hne:=hO k2 sM
  refine ⟨b',k1.mono hm,hO' k2 sM,?_⟩
  rcases hE with ⟨k3,c2,e2,k4,k5,k6⟩ | hE
  ·exact .inl ⟨(hMs hne).trans k3,c2,e2,(hsame b' (h.own _ _ k2).1 hne).trans k4,k5,fun j' hj'=>⟨(k6 j' hj').1,(k6 j' hj').2.1,hL sM (k6 j' hj').2.2⟩⟩
  ·exact .inr (hE.keep hm (fun _ _ _ k=>k) (hMs hne) (hsame b' (h.own _ _ k2).1 hne))
 ·simp only [l'] at ho
  split at ho
  ·cases ho
  ·obtain ⟨k1,k2⟩:=h.own b' o ho
   exact ⟨Nat.lt_of_lt_of_le k1 hg.size,k2⟩
 ·simp only [l'] at hu
  split at hu
  ·cases hu
  ·rename_i hp
   exact hO' (h.uo p b' hu) (by intro e0; injection e0 with e0; exact hp e0)
 ·simp only [g']
  split
  ·rfl
  ·exact h.fresh.1 b' (Nat.le_trans hg.size hb')
def strs(l:List ByteArray):List (List PV):=l.map fun x=>[.str x]
theorem strs_flat(l:List ByteArray):(strs l).flatten=l.map .str:=by
 induction l with
 | nil=>rfl
 | cons x r ih=>simp only [strs,List.map_cons,List.flatten_cons] at ih ⊢; rw [ih]; rfl
theorem strs_len(l:List ByteArray):(strs l).length=l.length:=by simp [strs]
theorem enc_toList(x:ByteArray):encStr x.toList = .string x:=by
 simp only [encStr]
 rw [ByteArray.toList_eq]
theorem Sim.know(h:Sim cx s g l a w){t:Nat}{lv:LV}(hr:RepL g l w (.t t) lv (a.tmps.getD t undef)):Sim cx { s with tmps:=put s.tmps t lv } g l a w:=
 ⟨h.hist,h.size,h.defers,fun t' lv' ht=>by
  rw [lk_put] at ht
  split at ht
  ·rename_i e0; subst e0; injection ht with ht; subst ht; exact hr
  ·exact h.tm t' lv' ht,h.bx,h.ex,h.own,h.uo,h.fresh,h.xlt⟩
theorem strs_row{g:Gh}{w:World}{cap:Nat}{cur:Array Value}{ss:List ByteArray}(hle:ss.length<=cap)(hcap:cap<=maxLen)(h:cur.toList.take ss.length=ss.map Value.string):Row g w 1 (strs ss) cap cur:=by
 refine ⟨by rw [strs_len]; exact hle,hcap,fun i hi=>by simp [strs],fun j hj=>?_⟩
 have hj':j<ss.length:=by rw [strs_flat] at hj; simpa using hj
 have h1:(cur.toList.take ss.length)[j]?=(ss.map Value.string)[j]?:=by rw [h]
 rw [List.getElem?_take_of_lt hj',Array.getElem?_toList] at h1
 have h2:cur.getD j undef = .string ss[j]:=by
  rw [Array.getD_eq_getD_getElem?,h1]
  simp [hj']
 rw [h2]
 refine ⟨rfl,?_⟩
 have h3:(strs ss).flatten[j] = .str ss[j]:=by simp [strs_flat]
 rw [h3]
 exact .str _
theorem row_strs{g:Gh}{w:World}{cap:Nat}{cur:Array Value}{ss:List ByteArray}(h:Row g w 1 (strs ss) cap cur)(hs:cur.size=cap * 1):cur.toList.take ss.length=ss.map Value.string:=by
 obtain ⟨hle,-,-,hr⟩:=h
 rw [strs_len] at hle
 apply List.ext_getElem?
 intro j
 by_cases hj:j<ss.length
 ·have hj2:j<(strs ss).flatten.length:=by rw [strs_flat]; simpa using hj
  have h1:=(hr j hj2).2
  have h3:(strs ss).flatten[j] = .str ss[j]:=by simp [strs_flat]
  rw [h3] at h1
  have hc:j<cur.size:=by omega
  have h4:cur.getD j undef = .string ss[j]:=by generalize cur.getD j undef=v at h1; cases h1; rfl
  rw [List.getElem?_take_of_lt hj,Array.getElem?_toList]
  rw [Array.getD_eq_getD_getElem?] at h4
  simp only [Array.getElem?_eq_getElem hc,Option.getD_some] at h4
  rw [Array.getElem?_eq_getElem hc,h4]
  simp [hj]
 ·rw [List.getElem?_take_eq_none oM,List.getElem?_eq_none (by simp; omega)]
theorem map_enc(ss:List ByteArray):(ss.map ByteArray.toList).map encStr=ss.map Value.string:=by
 rw [List.map_map]
 exact List.map_congr_left fun x _=>enc_toList x
end
section
variable {P:Program} {fl:Nat}
noncomputable def evFK (P:Program) (kn:Orc) (md:FuncId->Md) (fl:Nat) (d:Nat):Orc × Dfr:=
 Nat.rec (motive:=fun _=>Orc × Dfr) (fun _ _ _=>none,fun _ _ _ _=>none)
  (fun _ ih=>(fun f args e=>match kn f args e with
   | some r=>some r
   | none=>match okFn P f with
    | true=>(match P.funcs[f]? with
     | some fn=>evFnR P (md f) ih.1 ih.2 fl fn args e
     | none=>none)
    | false=>none,fun f args e m=>match okFn P f with
   | true=>(match P.funcs[f]? with
    | some fn=>evGn P (md f) ih.1 fl fn args e m
    | none=>none)
   | false=>none)) d
theorem evFK_sound{kn:Orc}(hk:OrcOK P kn){md:FuncId->Md}(hm:P.follows .mixedOrders=true):∀d,OrcOK P (evFK P kn md fl d).1/\DfrOK P (evFK P kn md fl d).2
 | 0=>⟨fun f args e r e' h=>(nomatch (show none=some (r,e') from h)),fun f args e m m' e' h=>(nomatch (show none=some (m',e') from h))⟩
 | d+1=>by
  have ih:=evFK_sound hk (md:=md) hm d
  refine ⟨fun f args e r e' h=>?_,fun f args e m m' e' h=>?_⟩
  ·have h:(match kn f args e with
    | some r=>some r
    | none=>match okFn P f with
    | true=>(match P.funcs[f]? with
     | some fn=>evFnR P (md f) (evFK P kn md fl d).1 (evFK P kn md fl d).2 fl fn args e
     | none=>none)
    | false=>none)=some (r,e'):=h
   split at h
   ·rename_i x hx
    injection h with h
    subst h
    exact hk _ _ _ _ _ hx
   ·split at h
    ·rename_i ho
     split at h
     ·rename_i fn hf
      simp only [okFn,hf,Bool.and_eq_true] at ho
      exact ⟨ho.1,evFnR_sound ih.1 ih.2 hm hf ho.2 h⟩
     ·cases h
    ·cases h
  ·have h:(match okFn P f with
    | true=>(match P.funcs[f]? with
     | some fn=>evGn P (md f) (evFK P kn md fl d).1 fl fn args e m
     | none=>none)
    | false=>none)=some (m',e'):=h
   split at h
   ·rename_i ho
    split at h
    ·rename_i fn hf
     simp only [okFn,hf,Bool.and_eq_true] at ho
     exact ⟨ho.1,evGn_sound ih.1 hm hf ho.2 h⟩
    ·cases h
   ·cases h
end
theorem Ob.pur_of_known{P:Program}(kn:Orc)(hk:OrcOK P kn)(md:FuncId->Md)(fl d:Nat){f:FuncId}{args:List PV}{r:CRes}(hm:P.follows .mixedOrders=true)(h:((evFK P kn md fl d).1 f args []).map Prod.fst=some r)(ha:noXs args=true)(hr:r.noX=true):(Ob.pur f args r).ok P:=by
 have:=(evFK_sound (P:=P) hk (md:=md) (fl:=fl) hm d).1
 cases he:(evFK P kn md fl d).1 f args [] with
 | none=>rw [he] at h; cases h
 | some x=>
  obtain ⟨r1,e1⟩:=x
  rw [he] at h
  injection h with h
  subst h
  obtain ⟨h1,h2⟩:=this f args [] _ _ he
  exact Ob.pur_of_eff ha hr ⟨h1,h2⟩
theorem Rep.fixes{g g':Gh}{w:World}{p:PV}{v:Value}(hX:g'.X=g.X)(hY:g'.Y=g.Y)(hF:∀b o,g.Fix b o->g'.Fix b o)(h:Rep g w p v):Rep g' w p v:=
 h.mono ⟨fun n b e=>by rw [hX]; exact e,fun b o v hc hf=>⟨hc,hF b o hf⟩,fun _ cur _ hh=>⟨cur,hh,rfl⟩,fun n c b e=>by rw [hY]; exact e⟩
theorem noXs_app:∀a b:List PV,noXs (a++b)=(noXs a&&noXs b)
 | [],b=>by simp [noXs]
 | x::r,b=>by simp only [List.cons_append,noXs,noXs_app r b,Bool.and_assoc]
theorem noXs_flat:∀es:List (List PV),noXss es=true->noXs es.flatten=true
 | [],_=>rfl
 | x::r,h=>by
  simp only [noXss,Bool.and_eq_true] at h
  rw [List.flatten_cons,noXs_app,h.1,noXs_flat r h.2]
  rfl
theorem CallC.freeze{P:Program}{f:FuncId}{args:List PV}{z:Nat}{es:List (List PV)}{c1 c2:List PV}(ha:noXs args=true)(h1n:noXs c1=true)(h2n:noXs c2=true)(hes:noXss es=true)(hz:∀i (h:i<es.length),es[i].length=z)
  (h:CallC P f args [] fun r e=>r = .ret (.agg (c1 ++ .xsl 0 z es.length::c2))/\e=[(0,es.flatten.map .v)]) (e:Ext):CallC P f args e fun r e'=>r = .ret (.agg (c1 ++ .sl z es::c2))/\e'=e:=by
 intro vs g l w hargs hent
 let g2:Gh:=⟨g.M,fun _=>none,fun _ _=>none⟩
 let l2:LG:=⟨fun _=>none,fun _=>none,fun _=>none⟩
 have h1:RepAll g2 w args vs:=⟨hargs.1,fun j hj hj'=>Rep.names (g:=g) rfl (noXs_mem ha j hj) (hargs.2 j hj hj')⟩
 have h2:Ent [] g2 l2 w:={ ex:=fun x cs hx=>(by simp [lk] at hx),olt:=fun b o ho=>(by cases ho),uo:=fun p b hb=>(by cases hb),fresh:=⟨hent.fresh.1,fun _ _=>rfl,fun _ _ _=>rfl⟩,xlt:=fun n b hb=>(by cases hb),only:=fun b o ho=>(by cases ho),glb:=hent.glb.names rfl }
 refine (h vs g2 l2 w h1 h2).mono ?_
 rintro en w' ⟨r,e2,g',l',⟨rfl,rfl⟩,hres,hent',hmono,hsz,hfr,hown,os,tape,output⟩
 obtain ⟨b,hx,hO,hE⟩:=hent'.ex 0 _ rfl
 have hb:w.heap.size<=b:=by
  rcases hown b _ hO with h | h
  ·exact h
  ·cases h
 have hX:g'.X 0=some b:=hx.plain fun c ps e=>by
  cases hf:es.flatten with
  | nil=>rw [hf] at e; cases e
  | cons q r=>rw [hf] at e; cases e
 obtain ⟨hM,cur,te,hh,hlen,hcell⟩:g'.M b=some 0/\∃cur te,w'.heap[b]?=some (.cells cur te (0,0))/\(es.flatten.map LV.v).length<=cur.size/\∀j (h:j<(es.flatten.map LV.v).length),(es.flatten.map LV.v)[j].nolp=true/\(cur.getD j undef).oneCell'=true/\RepL g' l' w' (.x 0 j) (es.flatten.map LV.v)[j] (cur.getD j undef):=by
  rcases hE with ⟨k1,cur,te,k2,k3,k4⟩ | ⟨es2,hi,-⟩ | ⟨n0,c0,ps0,-,e0,-⟩
  ·exact ⟨k1,cur,te,k2,k3,k4⟩
  ·exfalso
   cases hf:es.flatten with
   | nil=>rw [hf] at hi; exact hi
   | cons q r=>rw [hf] at hi; exact hi
  ·exfalso
   cases hf:es.flatten with
   | nil=>rw [hf] at e0; cases e0
   | cons q r=>rw [hf] at e0; cases e0
 let g3:Gh:=⟨fun x=>if x=b then none else g'.M x,g.X,g.Y⟩
 let g4:Gh:=⟨fun x=>if x=b then none else g'.M x,g'.X,g'.Y⟩
 have hF:∀c o,g'.Fix c o->g4.Fix c o:=fun c o hf k hk=>by
  simp only [g4] at hk
  split at hk
  ·cases hk
  ·exact hf k hk
 have hkeep:∀c,c<w.heap.size->w'.heap[c]?=w.heap[c]?/\g3.M c=g.M c:=fun c hc=>by
  obtain ⟨k1,k2⟩:=hfr c hc rfl
  refine ⟨k1,?_⟩
  show (if c=b then none else g'.M c)=g.M c
  rw [iN oM]
  exact k2
 have hm3:Mono g w g3 w':=⟨fun n b hb=>hb,fun c o v hc hf=>by
   obtain ⟨k1,k2⟩:=hmono.cell c o v hc (fun k hk=>hf k hk)
   exact ⟨k1,fun k hk=>hF c o k2 k hk⟩,fun c cur t hc=>hmono.len c cur t hc,fun _ _ _ h=>h⟩
 have hq:∀ {p:PV} {v:Value},p.noX=true->Rep g' w' p v->Rep g3 w' p v:=fun hn hr=>Rep.names (g:=g4) rfl hn (Rep.fixes (g:=g') (g':=g4) rfl rfl hF hr)
 refine ⟨.ret (.agg (c1 ++ .sl z es::c2)),e,g3,l,⟨rfl,rfl⟩,?_,?_,hm3,hsz,fun c hc _=>hkeep c hc,fun b o ho => .inr (by rw [ho]; rfl),os,tape,output⟩
 ·cases en <;> first | exact hres.elim | skip
  rename_i v
  have hr:Rep g' w' (.agg (c1 ++ .xsl 0 z es.length::c2)) v:=hres
  show Rep g3 w' (.agg (c1 ++ .sl z es::c2)) v
  cases hr with
  | agg _ us hl ho hall=>
   refine .agg _ us (by simpa using hl) ho fun j hj hj'=>?_
   have hj2:j<(c1 ++ .xsl 0 z es.length::c2).length:=by simpa using hj
   have hr:=hall j hj2 hj'
   by_cases k1:j<c1.length
   ·rw [List.getElem_append_left k1] at hr ⊢
    exact hq (noXs_mem h1n j k1) hr
   ·rw [List.getElem_append_right oM] at hr ⊢
    by_cases k2:j=c1.length
    ·subst k2
     simp only [Nat.sub_self,List.getElem_cons_zero] at hr ⊢
     generalize us[c1.length]=u at hr
     cases hr with
     | xsl _ _ _ b1 cap cur1 e1 k3 k4 k5 k6 k7=>
      rw [hX] at k3
      injection k3 with k3
      subst k3
      rw [hh] at k4
      injection k4 with k4
      injection k4 with k4 _
      subst k4
      have hfl:=flatten_length z es hz
      have hget:∀j,j<es.flatten.length->cur[j]?=some (cur.getD j undef):=fun j hj=>by
       have:j<cur.size:=by rw [List.length_map] at hlen; omega
       simp [this]
      refine Rep.of_flat (xs:=(List.range es.flatten.length).map fun j=>cur.getD j undef) k6 k7 hz ⟨by simp,fun j hj hj'=>?_⟩ fun j u hu=>?_
      ·simp only [List.getElem_map,List.getElem_range]
       have h6:=(hcell j (by rw [List.length_map]; exact hj)).2.2
       rw [List.getElem_map] at h6
       exact hq (noXs_mem (noXs_flat es hes) j hj) h6
      ·have hj:j<es.flatten.length:=by
        have:=(List.getElem?_eq_some_iff.1 hu).1
        rw [List.length_map,List.length_range] at this
        exact this
       have e1:u=cur.getD j undef:=by
        rw [List.getElem?_map,List.getElem?_range hj] at hu
        injection hu with hu
        exact hu.symm
       subst e1
       refine ⟨?_,fun k hk=>?_,(hcell j (by rw [List.length_map]; exact hj)).2.1⟩
       ·rw [addr0]
        simp only [World.cell?,hh]
        exact hget j hj
       ·simp only [g3,if_true] at hk
        cases hk
    ·obtain ⟨i,hi⟩:∃i,j - c1.length=i+1:=⟨j - c1.length - 1,by omega⟩
     have hi2:i<c2.length:=by simp at hj; omega
     simp only [hi,List.getElem_cons_succ] at hr ⊢
     exact hq (noXs_mem h2n i hi2) hr
 ·refine ⟨fun x cs hx=>?_,fun b o ho=>Nat.lt_of_lt_of_le (hent.olt b o ho) hsz,hent.uo,⟨fun c hc=>?_,hent.fresh.2⟩,fun n b hb=>Nat.lt_of_lt_of_le (hent.xlt n b hb) hsz,hent.only,hent.glb.mono hm3⟩
  ·obtain ⟨b,k1,k2,hE⟩:=hent.ex x cs hx
   have hb:=hkeep b (hent.olt b _ k2)
   refine ⟨b,k1.mono hm3,k2,?_⟩
   rcases hE with ⟨k3,cur,t,k4,k5,k6⟩ | hE
   rotate_left
   ·exact .inr (hE.keep hm3 (fun _ _ _ h=>h) hb.2 hb.1)
   refine .inl ⟨hb.2.trans k3,cur,t,hb.1.trans k4,k5,fun j hj=>⟨(k6 j hj).1,(k6 j hj).2.1,?_⟩⟩
   refine (k6 j hj).2.2.keep hm3 (fun _ _ _=>rfl) fun b' hb'=>?_
   have hlt:=hent.olt b' _ (hent.uo _ _ hb')
   exact ⟨hb',(hkeep b' hlt).2,(hkeep b' hlt).1⟩
  ·show (if c=b then none else g'.M c)=none
   split
   ·rfl
   ·exact hent'.fresh.1 c hc
theorem Ob.pur_freeze{P:Program}{f:FuncId}{args:List PV}{z:Nat}{es:List (List PV)}{c1 c2:List PV}(ha:noXs args=true)(h1n:noXs c1=true)(h2n:noXs c2=true)(hes:noXss es=true)(hz:∀i (h:i<es.length),es[i].length=z)
  (h:(Ob.eff f args [] (.ret (.agg (c1 ++ .xsl 0 z es.length::c2))) [(0,es.flatten.map .v)]).ok P):(Ob.pur f args (.ret (.agg (c1 ++ .sl z es::c2)))).ok P:=⟨h.1,fun e=>CallC.freeze ha h1n h2n hes hz h.2 e⟩
section
variable {P:Program} {f:FuncId} {fn:Func} {c:Code} {n:Nat} {args:List PV} {k:Nat} {te:TypeId} {z:Nat} {es:List (List PV)} {e e':Ext} {r:CRes}
theorem Ob.own_frag{pe:PExit}{s1:S}(hf:P.funcs[f]?=some fn)(hb:fn.body=some c)(hnn:fn.ntmps=n)(hn:args.length<=n)(hok:isFn P f=true)(h:(Ob.frag n c ⟨put (argT 0 args) k (.uniq te z es),[],e⟩ pe s1).ok P)
  (hx:endV P fn.results.toList pe s1=some (r,e')):(Ob.own f args k te z es e r e').ok P:=by
 subst hnn
 refine ⟨hok,CallO.enter hf hb hn fun cx hcx hds=>(h cx hcx).mono ?_⟩
 rintro pe' s' ⟨rfl,rfl⟩
 have:=endV_sound (r:=r) (e:=e') hx
 cases pe' with
 | panic p=>obtain ⟨h3,h4⟩:=this; exact ⟨h3,h4⟩
 | exit i=>exact this
 | normal=>obtain ⟨q,h3,h4,h5⟩:=this; exact ⟨q,h3,h4,h5⟩
 | ret=>
  rcases this with ⟨q,h3,h4,h5⟩ | ⟨t,e0,z,es,h3,h4,h5,h6⟩
  ·exact .inl ⟨q,h3,h4,h5⟩
  ·exact .inr ⟨t,e0,z,es,h3,h4,h5,h6⟩
theorem CallO.nil{R:CRes->Ext->Prop}(h:CallO P f args k te z [] e R)(hk:args[k]?=some .nilsl):CallC P f args e R:=fun vs g l w ha he=>by
 obtain ⟨hlt,hk⟩:=List.getElem?_eq_some_iff.1 hk
 have hkv:k<vs.length:=by rw [<-ha.1]; exact hlt
 refine h vs g l w hkv ⟨ha.1,fun j hj hj' _=>ha.2 j hj hj'⟩ he ?_
 have h1:=ha.2 k hlt hkv
 rw [hk] at h1
 refine .inl (.inl ⟨?_,rfl⟩)
 generalize vs[k]=v at h1
 cases h1
 rfl
theorem Ob.pur_nil(h:∀e,(Ob.own f args k te z [] e r e).ok P)(hk:args[k]?=some .nilsl):(Ob.pur f args r).ok P:=⟨(h []).1,fun e=>(h e).2.nil hk⟩
theorem Ob.loop_post{n:Nat}{c:Code}{s0 s1 t:S}{pe:PExit}(h:(Ob.loop n c s0 pe s1).ok P)(hl:LeX t s1):(Ob.loop n c s0 pe t).ok P:=fun cx hcx g l a w hs=>
 wp_mono (h cx hcx g l a w hs) fun _ _ _ ⟨pe',_,g',l',⟨h1,h2⟩,er,sm⟩=>⟨pe',t,g',l',⟨h1,rfl⟩,er,by subst h2; exact sm.leX hl⟩
end
end Go.Pv
