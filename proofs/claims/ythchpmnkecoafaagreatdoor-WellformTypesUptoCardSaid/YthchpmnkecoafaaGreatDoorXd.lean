/- Values of Go as plain data, an evaluator over them, and what the functions of the program return; part Xd. -/
import Derived.Test.YthchpmnkecoafaaGreatDoorXc
set_option linter.unusedVariables false
set_option linter.unusedSimpArgs false
set_option linter.unusedSectionVars false
namespace Go.Pv
open Go.RowKit
def RM.run{α:Type}:RM α->S->Option α
 | .ret a,_=>some a
 | .fail,_=>none
 | .It t k,s=>match lk s.tmps t with
  | some v=>(k v).run s
  | none=>none
 | .Iu i k,s=>match lk s.boxes i with
  | some v=>(k v).run s
  | none=>none
 | .E6 n k,s=>match lk s.ext n with
  | some v=>(k v).run s
  | none=>none
 | .assume p k,s=>match p with
  | true=>k.run s
  | false=>none
theorem RM.Fw{α:Type}{s:S}{K:α->Prop}{a:α}:∀ {r:RM α},r.run s=some a->K a->r.wp s K
 | .ret _,h,k=>by simp only [RM.run,Option.some.injEq] at h; subst h; exact k
 | .fail,h,_=>by cases h
 | .It t f,h,k=>by
  simp only [RM.run] at h
  simp only [RM.wp]
  split at h
  ·rename_i hv; rw [hv]; exact RM.Fw h k
  ·cases h
 | .Iu t f,h,k=>by
  simp only [RM.run] at h
  simp only [RM.wp]
  split at h
  ·rename_i hv; rw [hv]; exact RM.Fw h k
  ·cases h
 | .E6 t f,h,k=>by
  simp only [RM.run] at h
  simp only [RM.wp]
  split at h
  ·rename_i hv; rw [hv]; exact RM.Fw h k
  ·cases h
 | .assume p f,h,k=>by
  simp only [RM.run] at h
  cases p with
  | true=>exact ⟨rfl,RM.Fw h k⟩
  | false=>cases h
def RM.Hr{α:Type}:RM α->S->Option (α × List Loc)
 | .ret a,_=>some (a,[])
 | .fail,_=>none
 | .It t k,s=>match lk s.tmps t with
  | some v=>match (k v).Hr s with
   | some (a,r)=>some (a,.t t::r)
   | none=>none
  | none=>none
 | .Iu i k,s=>match lk s.boxes i with
  | some v=>match (k v).Hr s with
   | some (a,r)=>some (a,.b i::r)
   | none=>none
  | none=>none
 | .E6 n k,s=>match lk s.ext n with
  | some v=>match (k v).Hr s with
   | some (a,r)=>some (a,.x n::r)
   | none=>none
  | none=>none
 | .assume p k,s=>match p with
  | true=>k.Hr s
  | false=>none
theorem RM.Hs{α:Type}{s:S}{a:α}:∀ {r:RM α} {K:α->List Loc->Prop} {rd:List Loc},r.Hr s=some (a,rd)->K a rd->r.I1 s K
 | .ret _,K,rd,h,k=>by simp only [RM.Hr,Option.some.injEq,Prod.mk.injEq] at h; obtain ⟨rfl,rfl⟩:=h; exact k
 | .fail,_,_,h,_=>by cases h
 | .It t f,K,rd,h,k=>by
  simp only [RM.Hr] at h
  simp only [RM.I1]
  split at h
  ·rename_i v hv
   rw [hv]
   split at h
   ·rename_i h2
    simp only [Option.some.injEq,Prod.mk.injEq] at h
    obtain ⟨rfl,rfl⟩:=h
    exact RM.Hs (K:=fun a r=>K a (.t t::r)) h2 k
   ·cases h
  ·cases h
 | .Iu t f,K,rd,h,k=>by
  simp only [RM.Hr] at h
  simp only [RM.I1]
  split at h
  ·rename_i v hv
   rw [hv]
   split at h
   ·rename_i h2
    simp only [Option.some.injEq,Prod.mk.injEq] at h
    obtain ⟨rfl,rfl⟩:=h
    exact RM.Hs (K:=fun a r=>K a (.b t::r)) h2 k
   ·cases h
  ·cases h
 | .E6 t f,K,rd,h,k=>by
  simp only [RM.Hr] at h
  simp only [RM.I1]
  split at h
  ·rename_i v hv
   rw [hv]
   split at h
   ·rename_i h2
    simp only [Option.some.injEq,Prod.mk.injEq] at h
    obtain ⟨rfl,rfl⟩:=h
    exact RM.Hs (K:=fun a r=>K a (.x t::r)) h2 k
   ·cases h
  ·cases h
 | .assume p f,K,rd,h,k=>by
  simp only [RM.Hr] at h
  cases p with
  | true=>exact ⟨rfl,RM.Hs h k⟩
  | false=>cases h
abbrev Jk:=FuncId->List PV->Ext->Option (Cr × Ext)
def Et(P:Program)(CF:Jk):Prop:=∀f args e r e',CF f args e=some (r,e')->Fu P f=true/\C3 P f args e fun r1 e1=>r1=r/\e1=e'
structure Md where
 ro:TypeId->Option Bool
 row:TypeId->Bool
mutual
def PV.HT:PV->Bool
 | .xp _ _=>false
 | .mp _=>false
 | .TH _ _ _=>false
 | .LR _ _ _=>false
 | .yp _ _ _=>false
 | .VF _ _ _=>false
 | .Su p=>p.HT
 | .ro cs _=>Ec cs
 | .sl _ es=>EN es
 | .fn _ a b=>Ec a&&Ec b
 | .iface _ p=>p.HT
 | .agg cs=>Ec cs
 | .AE cs=>Ec cs
 | _=>true
def Ec:List PV->Bool
 | []=>true
 | p::r=>p.HT&&Ec r
def EN:List (List PV)->Bool
 | []=>true
 | p::r=>Ec p&&EN r
end
theorem Eu:∀ {l:List PV},Ec l=true->∀ (j:Nat) (h:j<l.length),l[j].HT=true
 | [],_,j,h=>absurd h sM
 | p::r,h,0,_=>by simp only [Ec,Bool.and_eq_true] at h; exact h.1
 | p::r,h,j+1,hj=>by simp only [Ec,Bool.and_eq_true] at h; exact Eu h.2 j (by simpa using hj)
theorem OZ:∀ {l:List (List PV)},EN l=true->∀ (j:Nat) (h:j<l.length),Ec l[j]=true
 | [],_,j,h=>absurd h sM
 | p::r,h,0,_=>by simp only [EN,Bool.and_eq_true] at h; exact h.1
 | p::r,h,j+1,hj=>by simp only [EN,Bool.and_eq_true] at h; exact OZ h.2 j (by simpa using hj)
theorem BJ.names{g g':Gh}{w:World}{p:PV}{v:Value}(hM:g'.M=g.M)(hn:p.HT=true)(h:BJ g w p v):BJ g' w p v:=by
 have A0s:∀b o,g.Fix b o->g'.Fix b o:=fun b o hf k hk=>hf k (by rw [<-hM]; exact hk)
 induction h with
 | bool b=>exact .bool b
 | int k n=>exact .int k n
 | str s=>exact .str s
 | Gf=>exact .Gf
 | ro cs off b o vs hc hf h1 hr ih=>
  simp only [PV.HT] at hn
  exact .ro cs off b o vs hc (fun j hj=>A0s _ _ (hf j hj)) h1 fun j hj=>ih j hj (Eu hn j hj)
 | xp n off b hx=>cases hn
 | A4=>exact .A4
 | slnil size=>exact .slnil size
 | sl size es a cap vs hle Di Bq hc hf h1 hr ih=>
  simp only [PV.HT] at hn
  exact .sl size es a cap vs hle Di Bq hc (fun i j hi hj=>A0s _ _ (hf i j hi hj)) h1 fun i j hi hj=>ih i j hi hj (Eu (OZ hn i hi) j hj)
 | TH n size len b cap cur e h hh hs hle Di=>cases hn
 | fn f first captured fv cv h1 h2 hf hc ih1 ih2=>
  simp only [PV.HT,Bool.and_eq_true] at hn
  exact .fn f first captured fv cv h1 h2 (fun j h h'=>ih1 j h h' (Eu hn.1 j h)) fun j h h'=>ih2 j h h' (Eu hn.2 j h)
 | Mb=>exact .Mb
 | iface t p v h ih=>exact .iface t p v (ih (by simpa [PV.HT] using hn))
 | Fz=>exact .Fz
 | agg cs vs h1 ho h ih=>
  simp only [PV.HT] at hn
  exact .agg cs vs h1 ho fun j h h'=>ih j h h' (Eu hn j h)
 | AE cs vs h1 h ih=>
  simp only [PV.HT] at hn
  exact .AE cs vs h1 fun j h h'=>ih j h h' (Eu hn j h)
 | X3=>exact .X3
 | mp n b h=>cases hn
 | LR n c len b cap cur e h=>cases hn
 | yp n c off b h=>cases hn
 | VF t f p v h ih=>cases hn
 | Su p v h1 h ih=>
  simp only [PV.HT] at hn
  exact .Su p v h1 (ih hn)
theorem gI:(GLB.all fun x=>Ec x.2)=true:=by rfl
theorem Y7{α:Type}{k:Nat}{v:α}:∀ {l:List (Nat × α)},lk l k=some v->(k,v)∈l
 | [],h=>by cases h
 | (a,b)::r,h=>by
  simp only [lk] at h
  split at h
  ·rename_i e; subst e; injection h with h; subst h; exact List.mem_cons_self
  ·exact List.mem_cons_of_mem _ (Y7 h)
theorem X4.names{g g':Gh}{w:World}(h:X4 g w)(hM:g'.M=g.M):X4 g' w:=fun k cs e=>by
 have h1:Ec cs=true:=List.all_eq_true.1 gI _ (Y7 e)
 exact BJ.names hM (by simpa [PV.HT] using h1) (h k cs e)
def Cr.HT:Cr->Bool
 | .ret p=>p.HT
 | .own _ _ es=>EN es
 | .panic p=>p.HT
theorem C3.frame{P:Program}{f:FuncId}{args:List PV}{res:Cr}(ha:Ec args=true)(hr:res.HT=true)(h:C3 P f args [] fun r e=>r=res/\e=[])(e:Ext):C3 P f args e fun r e'=>r=res/\e'=e:=by
 intro vs g l w IM E9
 let g2:Gh:=⟨g.M,fun _=>none,fun _ _=>none⟩
 let l2:LG:=⟨fun _=>none,fun _=>none,fun _=>none⟩
 have h1:AG g2 w args vs:=⟨IM.1,fun j hj Cu=>BJ.names (g:=g) rfl (Eu ha j hj) (IM.2 j hj Cu)⟩
 have h2:So [] g2 l2 w:={ ex:=fun x cs hx=>(by simp [lk] at hx),Q1:=fun b o ho=>(by cases ho),uo:=fun p b hb=>(by cases hb),fresh:=⟨E9.fresh.1,fun _ _=>rfl,fun _ _ _=>rfl⟩,Gg:=fun n b hb=>(by cases hb),only:=fun b o ho=>(by cases ho),JH:=E9.JH.names rfl }
 refine (h vs g2 l2 w h1 h2).mono ?_
 rintro en w' ⟨r,e1,g',l',⟨rfl,rfl⟩,At,Rm,P0,Bq,VY,Q2,os,tape,output⟩
 have hX:∀n,g'.X n=none:=fun n=>Rm.fresh.2.1 n (by simp [DN])
 have OP:∀b o,l'.O b=some o->w.heap.size<=b:=fun b o ho=>by
  rcases Q2 b o ho with h | h
  ·exact h
  ·cases h
 let g3:Gh:=⟨g'.M,g.X,g.Y⟩
 have Hj:∀b,b<w.heap.size->w'.heap[b]?=w.heap[b]?/\g'.M b=g.M b:=fun b hb=>VY b hb rfl
 have Y8:C0 g w g3 w':=⟨fun n b hb=>hb,fun b o v hc hf=>by
   obtain ⟨k1,k2⟩:=P0.cell b o v hc (fun k hk=>hf k hk)
   exact ⟨k1,fun k hk=>k2 k hk⟩,fun b cur t hb=>P0.len b cur t hb,fun _ _ _ h=>h⟩
 refine ⟨r,e,g3,l,⟨rfl,rfl⟩,?_,?_,Y8,Bq,fun b hb _=>Hj b hb,fun b o ho => .inr (by rw [ho]; rfl),os,tape,output⟩
 ·cases r with
  | ret p=>
   cases en <;> first | exact At.elim | skip
   exact BJ.names (g:=g') rfl hr At
  | own te z es=>
   cases en <;> first | exact At.elim | skip
   obtain ⟨KX,At⟩:=At
   refine ⟨KX,?_⟩
   rcases At with (h | ⟨a,h,h'⟩) | ⟨b,cap,cur,k1,k2,k3,k4,k5,k6,k7,k8⟩
   ·exact .inl (.inl h)
   ·exact .inl (.inr ⟨a,h,BJ.names (g:=g') rfl (by simpa [PV.HT,Cr.HT] using hr) h'⟩)
   ·have hb:w.heap.size<=b:=by
     rcases k2 with h | h
     ·exact h
     ·cases h
    refine .inr ⟨b,cap,cur,k1,.inl hb,k3,?_,k5,k6,k7,BJ.names (g:=g') rfl (by simpa [PV.HT,Cr.HT] using hr) k8⟩
    cases GY:l.O b with
    | none=>rfl
    | some o=>exact absurd (E9.Q1 b o GY) oM
  | panic p=>
   cases en <;> first | exact At.elim | skip
   obtain ⟨v,hv,pO⟩:=At
   exact ⟨v,hv,BJ.names (g:=g') rfl hr pO⟩
 ·refine ⟨fun x cs hx=>?_,fun b o ho=>Nat.lt_of_lt_of_le (E9.Q1 b o ho) Bq,E9.uo,⟨Rm.fresh.1,E9.fresh.2⟩,fun n b hb=>Nat.lt_of_lt_of_le (E9.Gg n b hb) Bq,E9.only,E9.JH.mono Y8⟩
  obtain ⟨b,k1,k2,hE⟩:=E9.ex x cs hx
  have hb:=Hj b (E9.Q1 b _ k2)
  refine ⟨b,k1.mono Y8,k2,?_⟩
  rcases hE with ⟨k3,cur,t,k4,k5,k6⟩ | hE
  rotate_left
  ·exact .inr (hE.BN Y8 (fun _ _ _ h=>h) hb.2 hb.1)
  refine .inl ⟨hb.2.trans k3,cur,t,hb.1.trans k4,k5,fun j hj=>⟨(k6 j hj).1,(k6 j hj).2.1,?_⟩⟩
  refine (k6 j hj).2.2.BN Y8 (fun _ _ _=>rfl) fun b' GY=>?_
  have Ag:=E9.Q1 b' _ (E9.uo _ _ GY)
  exact ⟨GY,(Hj b' Ag).2,(Hj b' Ag).1⟩
def Rn(CF:Jk)(o:Oper)(r:RM (FuncId × List PV))(s:S):Option (A5 × S):=match r.run s with
 | some (f,args)=>match CF f args s.ext with
  | some (.ret p,e)=>some (.normal,s.LX o.dst (.v p) e)
  | some (.own te z es,e)=>some (.normal,s.LX o.dst (.uniq te z es) e)
  | some (.panic p,e)=>some (.panic p,{ s with ext:=e })
  | none=>none
 | none=>none
def Ro(P:Program)(ro:TypeId->Option Bool)(n:Nat)(all:List Oper)(o:Oper)(s:S):Option (A5 × S):=match (act P ro n all o).run s with
 | some wr=>some (.normal,s.HY wr)
 | none=>none
def Wb(n:Nat)(o:Oper)(cs:List PV)(s:S):Option (A5 × S):=match o.dst with
 | some d=>if d<n then some (.normal,{ s with tmps:=put s.tmps d (.v (.xp (DN s.ext) 0)),ext:=put s.ext (DN s.ext) (cs.map .v) }) else none
 | none=>none
def qJ(e z:Nat)(x y:Operand):RM (List (List PV)):=ev x fun lx=>ev y fun ly=>match lx,OJ ly with
 | .v .A4,some (y0::ys)=>if okZ z ly=true then .ret (y0::ys) else .fail
 | _,_ => .fail
def qK(P:Program)(n:Nat)(o:Oper)(ty:TypeId)(x y:Operand)(s:S):Option (A5 × S):=match Gj P ty,o.dst with
 | some e,some d=>match KW P e,Fq P e,TK P e with
  | some (m+1),some (B+1),some zs=>if d<n/\zs.length=m+1 then (match (qJ e (m+1) x y).run s with
   | some ys=>if ys.length * (B+1)<=140737488355328 then some (.normal,{ s with tmps:=put s.tmps d (.v (.TH (DN s.ext) (m+1) ys.length)),ext:=put s.ext (DN s.ext) (ys.flatten.map .v) }) else none
   | none=>none) else none
  | _,_,_=>none
 | _,_=>none
def A0t(x:Operand):RM PV:=Fm x fun p=>match p with
 | .iface t q => .ret (PV.iface t q)
 | _ => .fail
def A0u(x:Operand):RM (List PV):=Fm x fun p=>match p.cel with
 | some cs => .ret cs
 | none => .fail
def A0v(P:Program)(ty:TypeId)(n:Nat)(o:Oper)(s:S):Option (A5 × S):=match o.dst with
 | some d=>if d<n then some (.normal,{ s with tmps:=put s.tmps d (.v (.mp (DN s.ext))),ext:=put s.ext (DN s.ext) [.mm (T3 (T2 P ty))] }) else none
 | none=>none
def A0w(P:Program)(ty:TypeId)(n:Nat)(o:Oper)(m:Operand)(s:S):Option (A5 × S):=match (PU P ty).isSome,o.dst with
 | true,some d=>if d<n then (match (fX m).run s with
  | some i=>some (.normal,{ s with tmps:=put s.tmps d (.v (.xp (DN s.ext) 0)),ext:=put s.ext (DN s.ext) [.mm (.it i)] })
  | none=>none) else none
 | _,_=>none
def gJ(P:Program)(md:Md)(CF:Jk)(n:Nat)(all:List Oper)(o:Oper)(s:S):Option (A5 × S):=match callee P o with
 | some r=>Rn CF o r s
 | none=>match o.op with
  | .alloc ty=>if (md.ro ty).isNone=true then (match TK P ty with | some zs=>Wb n o zs s | none=>none) else Ro P md.ro n all o s
  | .box ty x=>if (md.ro ty).isNone=true then (match (A0u x).run s with | some cs=>Wb n o cs s | none=>none) else Ro P md.ro n all o s
  | .panic x=>match (A0t x).run s with
   | some p=>some (.panic p,s)
   | none=>none
  | .makeMap ty none=>A0v P ty n o s
  | .range ty m=>A0w P ty n o m s
  | .call ⟨.builtin .append,⟨[x,y]⟩,⟨[ty,fZ]⟩⟩=>if md.row ty=true/\ty=fZ then qK P n o ty x y s else Ro P md.ro n all o s
  | _=>Ro P md.ro n all o s
section
variable {P:Program} {cx:Cx} {s s':S} {Q:A5->S->Prop} {K:S->Prop} {o:Oper} {pe:A5} {md:Md} {CF:Jk} {all:List Oper}
def Ox(P:Program)(cx:Cx)(s:S)(o:Oper)(K:S->Prop)(Q:A5->S->Prop):Prop:=
 ∀g l a w,Bb cx s g l a w->o.wp P a w (fun a' w'=>∃s' g' l',K s'/\Bb cx s' g' l' a' w') (post cx Q)
theorem Rp{r:RM (FuncId × List PV)}(C4:Et P CF)(ho:callee P o=some r)(hd:∀d,o.dst=some d->d<cx.n)(h:Rn CF o r s=some (pe,s'))(hk:Ic K Q pe s'):Ox P cx s o K Q:=fun g l a w hs=>by
 unfold Rn at h
 split at h
 ·rename_i f args hr
  refine FJ ho hd hs (RM.Fw hr ?_)
  split at h
  ·rename_i p e he
   obtain ⟨h1,h2⟩:=C4 _ _ _ _ _ he
   refine ⟨h1,h2.mono ?_⟩
   rintro _ _ ⟨rfl,rfl⟩
   simp only [Option.some.injEq,Prod.mk.injEq] at h
   obtain ⟨rfl,rfl⟩:=h
   exact hk
  ·rename_i p e he
   obtain ⟨h1,h2⟩:=C4 _ _ _ _ _ he
   refine ⟨h1,h2.mono ?_⟩
   rintro _ _ ⟨rfl,rfl⟩
   simp only [Option.some.injEq,Prod.mk.injEq] at h
   obtain ⟨rfl,rfl⟩:=h
   exact hk
  ·rename_i p e he
   obtain ⟨h1,h2⟩:=C4 _ _ _ _ _ he
   refine ⟨h1,h2.mono ?_⟩
   rintro _ _ ⟨rfl,rfl⟩
   simp only [Option.some.injEq,Prod.mk.injEq] at h
   obtain ⟨rfl,rfl⟩:=h
   exact hk
  ·cases h
 ·cases h
theorem I2{ro:TypeId->Option Bool}(h:Ro P ro cx.n all o s=some (pe,s'))(hk:Ic K Q pe s'):Ox P cx s o K Q:=fun g l a w hs=>by
 unfold Ro at h
 split at h
 ·rename_i wr hr
  simp only [Option.some.injEq,Prod.mk.injEq] at h
  obtain ⟨rfl,rfl⟩:=h
  refine Cz ?_ (FO (K:=fun x=>x=wr) hs (RM.Fw hr rfl) (post cx Q))
  rintro a' w' ⟨wr',g',l',rfl,sm⟩
  exact ⟨_,g',l',hk,sm⟩
 ·cases h
theorem I3{cs:List PV}{cur:Array Value}{ty:TypeId}{g:Gh}{l:LG}{a:Act}{w:World}(hs:Bb cx s g l a w)(hr:AG g w cs cur.toList)(Ce:∀u∈cur.toList,u.oneCell'=true)
  (Bz:(execOp a.eval o).run P w = .ok (.value (.pointer (some ⟨w.heap.size,0,none⟩))) (w.alloc (.cells cur ty)))
  (h:Wb cx.n o cs s=some (pe,s')) (hk:Ic K Q pe s'):o.wp P a w (fun a' w'=>∃s' g' l',K s'/\Bb cx s' g' l' a' w') (post cx Q):=by
 unfold Wb at h
 split at h
 ·rename_i d hd
  split at h
  ·rename_i hn
   simp only [Option.some.injEq,Prod.mk.injEq] at h
   obtain ⟨rfl,rfl⟩:=h
   unfold Oper.wp
   rw [Bz,Oper.upon_value,hd]
   obtain ⟨k1,-⟩:=hs.XX cur ty (cs.map .v) (by simp [hr.1]) (fun j hj => .inr ⟨cs[j]'(by simpa using hj),by simp,by
    have Sl:j<cs.length:=by simpa using hj
    have Ib:j<cur.toList.length:=by rw [<-hr.1]; exact Sl
    have:=hr.2 j Sl Ib
    have WK:j<cur.size:=by simpa using Ib
    simpa [WK] using this⟩) Ce
   exact ⟨_,_,_,hk,k1.set hn (.xp _ _ _ (Bt _ _ _))⟩
  ·cases h
 ·cases h
theorem U2{ty e:TypeId}{x y:Operand}{d m B:Nat}{zs:List PV}{g:Gh}{l:LG}{a:Act}{w:World}(ho:o.op = .call ⟨.builtin .append,#[x,y],#[ty,ty]⟩)(hd:o.dst=some d)(hn:d<cx.n)
  (he:Gj P ty=some e) (hm:KW P e=some (m+1)) (hB:Fq P e=some (B+1)) (hz:TK P e=some zs) (Rb:zs.length=m+1) (hs:Bb cx s g l a w)
  (h:(qJ e (m+1) x y).wp s fun ys=>ys.length * (B+1)<=140737488355328/\K { s with tmps:=put s.tmps d (.v (.TH (DN s.ext) (m+1) ys.length)),ext:=put s.ext (DN s.ext) (ys.flatten.map .v) }) :
  o.wp P a w (fun a' w'=>∃s' g' l',K s'/\Bb cx s' g' l' a' w') (post cx Q):=by
 have hu:=Eh he
 obtain ⟨i,zv,z1,z2,z3⟩:=F4 hz
 have Bq:i.size=m+1:=by simpa [KW,z1] using hm
 have WQ:i.bytes=B+1:=by simpa [Fq,z1] using hB
 have Od:zv.cells.size=m+1:=by rw [<-Array.length_toList,<-EX z3]; exact Rb
 obtain ⟨-,U3,-⟩:=En (g:=g) (w:=w) z3
 obtain ⟨lx,ux,h1,r1,-⟩:=C2 hs h
 obtain ⟨ly,uy,h2,r2,-⟩:=C2 hs h1
 split at h2
 ·rename_i y0 ys Kj
  split at h2
  ·rename_i E5
   obtain ⟨hb,h2⟩:=h2
   have kV:a.eval x = .slice none 0 0:=by generalize a.eval x=v at r1; cases r1; rfl
   obtain ⟨ay,c,VT,eO⟩:∃ay c,a.eval y = .slice (some ay) (y0::ys).length c/\BJ g w (.sl (m+1) (y0::ys)) (a.eval y):=by
    rcases M7 Kj E5 r2 with ⟨h,-⟩ | h
    ·cases h
    ·exact h
   rw [VT] at eO
   obtain ⟨-,-,-,hyz,news,Y9,IE,Xu⟩:=eO.flat
   generalize hY:(y0::ys)=Y at *
   have Hi:0<Y.length:=by rw [<-hY]; simp
   have M4:∀u∈news,u.oneCell'=true:=fun u hu=>by
    obtain ⟨j,hj,e⟩:=List.getElem_of_mem hu
    exact (Xu j u (by rw [List.getElem?_eq_getElem hj,e])).2.2
   have hlen:Y.length<=140737488355328:=by
    have:=Nat.le_mul_of_pos_right Y.length (Nat.succ_pos B)
    simp only [Nat.succ_eq_add_one] at this
    omega
   have WR:Y.length<=maxLen:=by simp only [maxLen]; omega
   have hr:=run_append_nil (P:=P) w ty o.type e i zv hu z1 z2 ay Y.length c news (by rw [Bq]; exact IE) (fun j v hj=>(Xu j v hj).1) Hi oM (by rw [WQ]; omega)
   have CO:=grownCap_ge w Y.length 0 e
   have VU:=grownCap_le_maxLen w Y.length 0 e (by simpa using WR)
   have hex:∀v' w',(Builtin.append_ #[ty,ty] o.type #[a.eval x,a.eval y]).run P w = .ok v' w'->(execOp a.eval o).run P w = .ok (.value v') w':=by
    intro v' w' hr
    simp only [execOp,ho,resolve,invoke,builtin,Sem.run_bind,Sem.run_pure,Result.andThen_ok,List.map_toArray,List.map_cons,List.map_nil,hr]
   rw [<-kV,<-VT] at hr
   unfold Oper.wp
   rw [hex _ _ hr,Oper.upon_value,hd]
   obtain ⟨PK,eN⟩:=hs.drew
   have MO:w.drew.heap.size=w.heap.size:=rfl
   obtain ⟨k1,-⟩:=PK.XX (news.toArray++Builtin.zeroCells zv.cells (grownCap w Y.length 0 e - Y.length)) e (Y.flatten.map .v)
    (by simp only [Array.size_append,List.size_toArray,size_zeroCells,Od,IE,List.length_map,BR _ Y hyz]; omega) (fun j hj=>by
     have Ag:j<Y.flatten.length:=by rw [List.length_map] at hj; exact hj
     refine .inr ⟨Y.flatten[j],List.getElem_map _,?_⟩
     have CE:j<news.length:=by rw [<-Y9.1]; exact Ag
     have:=(Y9.2 j Ag CE).mono eN
     simpa [Array.getD_eq_getD_getElem?,Array.getElem?_append,CE] using this) (fun u hu=>by
     simp only [Array.toList_append,List.mem_append] at hu
     rcases hu with hu | hu
     ·exact M4 u hu
     ·exact U3 u (MN hu))
   rw [MO] at k1
   refine ⟨_,_,_,h2,k1.set hn (.TH _ _ _ _ _ _ _ (Bt _ _ _) (heap_alloc_new w.drew _) ?_ (by simpa using CO) VU)⟩
   simp only [Array.size_append,List.size_toArray,size_zeroCells,Od,IE,<-Nat.add_mul]
   congr 1
   omega
  ·exact h2.elim
 ·exact h2.elim
theorem T4{ty:TypeId}{x y:Operand}(ho:o.op = .call ⟨.builtin .append,#[x,y],#[ty,ty]⟩)(h:qK P cx.n o ty x y s=some (pe,s'))(hk:Ic K Q pe s'):Ox P cx s o K Q:=fun g l a w hs=>by
 unfold qK at h
 split at h
 ·rename_i e d he hd
  split at h
  ·rename_i m B zs hm hB hz
   split at h
   ·rename_i hc
    obtain ⟨hn,Rb⟩:=hc
    split at h
    ·rename_i ys Kj
     split at h
     ·rename_i hb
      simp only [Option.some.injEq,Prod.mk.injEq] at h
      obtain ⟨rfl,rfl⟩:=h
      exact U2 ho hd hn he hm hB hz Rb hs (RM.Fw Kj ⟨hb,hk⟩)
     ·cases h
    ·cases h
   ·cases h
  ·cases h
 ·cases h
theorem L8(C4:Et P CF)(hd:∀d,o.dst=some d->d<cx.n)(h:gJ P md CF cx.n all o s=some (pe,s'))(hk:Ic K Q pe s'):Ox P cx s o K Q:=by
 unfold gJ at h
 split at h
 ·rename_i r hr; exact Rp C4 hr hd h hk
 ·split at h
  ·rename_i ty Jc
   split at h
   ·split at h
    ·rename_i zs hz
     intro g l a w hs
     obtain ⟨i,z,h1,h2,h3⟩:=F4 hz
     obtain ⟨hr,Ce,-⟩:=En (g:=g) (w:=w) h3
     exact I3 (ty:=ty) hs hr Ce (by simp [execOp,Jc,Instr.alloc,zeroValue,typeInfo,h1,h2,newVar,newRow]) h hk
    ·cases h
   ·exact I2 h hk
  ·rename_i ty x Jc
   split at h
   ·split at h
    ·rename_i cs CS
     intro g l a w hs
     obtain ⟨p,h1,r1⟩:=AL hs (RM.Fw (K:=fun x=>x=cs) CS rfl)
     split at h1
     ·rename_i Ki hc
      have TN:Ki=cs:=h1
      subst TN
      obtain ⟨hr,Ce⟩:=Ja hc r1
      exact I3 (ty:=ty) hs hr Ce (by simp [execOp,Jc,Instr.box,newVar,newRow]) h hk
     ·exact h1.elim
    ·cases h
   ·exact I2 h hk
  ·rename_i x Jc
   split at h
   ·rename_i p hp
    simp only [Option.some.injEq,Prod.mk.injEq] at h
    obtain ⟨rfl,rfl⟩:=h
    intro g l a w hs
    obtain ⟨p',h1,r1⟩:=AL hs (RM.Fw (K:=fun x=>x=p) hp rfl)
    split at h1
    ·rename_i t q
     have TN:PV.iface t q=p:=h1
     subst TN
     have Bz:∀v,a.eval x = .iface t v->(execOp a.eval o).run P w = .halt (.panic (.iface t v)) w:=fun v hv=>by
      simp [execOp,Jc,hv,Instr.panic,goPanic]
     generalize a.eval x=vx at r1 Bz
     cases r1 with
     | iface _ _ v hv=>
      unfold Oper.wp
      rw [Bz v rfl,Oper.upon_panic]
      exact ⟨.panic (.iface t q),s,g,l,hk,⟨_,rfl,.iface _ _ _ hv⟩,hs⟩
    ·exact h1.elim
   ·cases h
  ·rename_i ty Jc
   unfold A0v at h
   intro g l a w hs
   split at h
   ·rename_i d eS
    split at h
    ·rename_i hn
     simp only [Option.some.injEq,Prod.mk.injEq] at h
     obtain ⟨rfl,rfl⟩:=h
     unfold Oper.wp
     rw [show (execOp a.eval o).run P w = .ok (.value (.map (some w.heap.size))) (w.alloc (.map #[] 0)) by simp [execOp,Jc,Instr.makeMap,Result.andThen],Oper.upon_value,eS]
     obtain ⟨k1,-⟩:=hs.XZ (T2 P ty)
     exact ⟨_,_,_,hk,k1.set hn (.mp _ _ (Bt _ _ _))⟩
    ·cases h
   ·cases h
  ·rename_i ty m Jc
   unfold A0w at h
   intro g l a w hs
   split at h
   ·rename_i d hT eS
    split at h
    ·rename_i hn
     split at h
     ·rename_i i hi
      simp only [Option.some.injEq,Prod.mk.injEq] at h
      obtain ⟨rfl,rfl⟩:=h
      obtain ⟨i',bm,clock,rfl,hX,Ag,Bz⟩:=TX Jc hT hs (RM.Fw (K:=fun j=>j=i) hi rfl)
      unfold Oper.wp
      rw [Bz,Oper.upon_value,eS]
      obtain ⟨k1,-⟩:=hs.kP hX Ag
      exact ⟨_,_,_,hk,k1.set hn (.xp _ _ _ (Bt _ _ _))⟩
     ·cases h
    ·cases h
   ·cases h
  ·rename_i x y ty fZ Jc
   split at h
   ·rename_i hc
    obtain ⟨-,rfl⟩:=hc
    exact T4 Jc h hk
   ·exact I2 h hk
  ·exact I2 h hk
def LD(all:List Oper)(o:Oper)(s:S):Option Bool:=match o.guard with
 | none=>some true
 | some (j,want)=>match (all[j]?).bind (·.dst) with
  | some dj=>(lk s.tmps dj).bind (ME want)
  | none=>none
def evL(P:Program)(md:Md)(CF:Jk)(n:Nat)(all:List Oper):List Oper->S->Option (A5 × S)
 | [],s=>some (.normal,s)
 | o::rest,s=>match LD all o s with
  | some true=>match gJ P md CF n all o s with
   | some (.normal,s')=>evL P md CF n all rest s'
   | r=>r
  | some false=>evL P md CF n all rest (s.skip o)
  | none=>none
theorem DH{b:Bool}{g:Gh}{l:LG}{a:Act}{w:World}(Bw:Er cx.n all=true)(h:LD all o s=some b)(hs:Bb cx s g l a w):Region.wanted o (yielded all.toArray a.tmps)=b:=by
 unfold LD at h
 split at h
 ·rename_i hg
  simp only [Option.some.injEq] at h
  subst h
  simp [Region.wanted,hg]
 ·rename_i j want hg
  split at h
  ·rename_i dj T1
   simp only [Option.bind_eq_some_iff] at h
   obtain ⟨lv,h1,h2⟩:=h
   have XV:dj<cx.n:=by
    simp only [Option.bind_eq_some_iff] at T1
    obtain ⟨oj,h1,h2⟩:=T1
    exact Dk Bw (List.mem_of_getElem? h1) dj h2
   simp only [Region.wanted,hg]
   exact JL (by simpa using T1) XV hs h1 h2
  ·cases h
theorem L9(C4:Et P CF)(Bw:Er cx.n all=true):∀ {ls:List Oper} {s:S},(∀o∈ls,o∈all)->evL P md CF cx.n all ls s=some (pe,s')->Q pe s'->PL P cx all.toArray ls s Q
 | [],s,_,h,hq=>by
  simp only [evL,Option.some.injEq,Prod.mk.injEq] at h
  obtain ⟨rfl,rfl⟩:=h
  exact MD hq
 | o::rest,s,hm,h,hq=>by
  have hd:∀d,o.dst=some d->d<cx.n:=Dk Bw (hm o sM)
  have EM:∀o∈rest,o∈all:=fun o ho=>hm o (List.mem_cons_of_mem _ ho)
  intro g l a w hs
  simp only [evL] at h
  split at h
  ·rename_i hw
   have DG:=DH Bw hw hs
   refine wpList_step fun K hK=>?_
   rw [iP DG]
   split at h
   ·rename_i s1 h1
    refine Cz ?_ (L8 (Q:=Q) (K:=fun s'=>PL P cx all.toArray rest s' Q) C4 hd h1 (L9 C4 Bw EM h hq) g l a w hs)
    rintro a' w' ⟨s',g',l',hp,sm⟩
    exact hK _ _ (hp g' l' a' w' sm)
   ·rename_i D4
    refine Cz ?_ (L8 (Q:=Q) (K:=fun s'=>PL P cx all.toArray rest s' Q) C4 hd h (by
     cases pe with
     | normal=>exact absurd h (D4 _)
     | _=>exact hq) g l a w hs)
    rintro a' w' ⟨s',g',l',hp,sm⟩
    exact hK _ _ (hp g' l' a' w' sm)
  ·rename_i hw
   have DG:=DH Bw hw hs
   refine wpList_step fun K hK=>?_
   rw [iN (by rw [DG]; simp)]
   refine hK _ _ (L9 C4 Bw EM h hq g l _ w ?_)
   cases FA:o.dst with
   | none=>simp only [S.skip,FA,Act.put]; exact hs
   | some d=>
    simp only [S.skip,FA]
    exact hs.set (hd d FA) (.AE [] [] rfl fun j h=>by simp at h)
  ·cases h
def kW(CF:Jk)(f:FuncId)(args:List PV):Option LV:=match Ec args with
 | true=>match CF f args [] with
  | some (r,[])=>match r.HT with
   | true=>r.lv
   | false=>none
  | _=>none
 | false=>none
def U4(P:Program)(ro:TypeId->Option Bool)(CF:Jk)(n:Nat)(all:List Oper)(o:Oper)(gr:List Loc)(s:S):Option (DS × Option Ext × S):=match callee P o with
 | some r=>match r.Hr s with
  | some ((f,args),rd)=>match kW CF f args with
   | some lv=>some (⟨gr++rd,Dn o lv,false⟩,none,s.Dm (Dn o lv))
   | none=>match CF f args s.ext with
    | some (res,e')=>match res.lv with
     | some lv=>some (⟨gr++rd,Dn o lv,true⟩,some e',{ s.Dm (Dn o lv) with ext:=e' })
     | none=>none
    | none=>none
  | none=>none
 | none=>match (act P ro n all o).Hr s with
  | some (wr,rd)=>if wr.any Q7=true then some (⟨gr++rd,wr.filter CY,true⟩,some (Iv s.ext wr),{ s.Dm (wr.filter CY) with ext:=Iv s.ext wr })
   else some (⟨gr++rd,wr,false⟩,none,s.Dm wr)
  | none=>none
theorem LF{ro:TypeId->Option Bool}{n:Nat}{gr:List Loc}{d:DS}{x:Option Ext}{K:DS->Option Ext->S->Prop}(C4:Et P CF)(h:U4 P ro CF n all o gr s=some (d,x,s'))(hk:K d x s'):FU P ro n all o gr s K:=by
 unfold U4 at h
 unfold FU
 split at h
 ·rename_i r hr
  split at h
  ·rename_i f args rd Bz
   rw [hr]
   refine RM.Hs Bz ?_
   split at h
   ·rename_i lv Gc
    simp only [Option.some.injEq,Prod.mk.injEq] at h
    obtain ⟨rfl,rfl,rfl⟩:=h
    unfold kW at Gc
    split at Gc
    ·rename_i hna
     split at Gc
     ·rename_i res ho
      split at Gc
      ·rename_i Y9
       obtain ⟨h1,h2⟩:=C4 _ _ _ _ _ ho
       exact ⟨h1,.inl ⟨res,lv,Gc,fun e=>C3.frame hna Y9 h2 e,hk⟩⟩
      ·cases Gc
     ·cases Gc
    ·cases Gc
   ·split at h
    ·rename_i res e' ho
     split at h
     ·rename_i lv Gc
      simp only [Option.some.injEq,Prod.mk.injEq] at h
      obtain ⟨rfl,rfl,rfl⟩:=h
      obtain ⟨h1,h2⟩:=C4 _ _ _ _ _ ho
      exact ⟨h1,.inr ⟨res,lv,e',Gc,h2,hk⟩⟩
     ·cases h
    ·cases h
  ·cases h
 ·rename_i hr
  split at h
  ·rename_i wr rd Bz
   rw [hr]
   refine RM.Hs Bz ?_
   split at h
   ·rename_i hx
    simp only [Option.some.injEq,Prod.mk.injEq] at h
    obtain ⟨rfl,rfl,rfl⟩:=h
    rw [iP hx]
    exact hk
   ·rename_i hx
    simp only [Option.some.injEq,Prod.mk.injEq] at h
    obtain ⟨rfl,rfl,rfl⟩:=h
    rw [iN hx]
    exact hk
  ·cases h
def qL(P:Program)(ro:TypeId->Option Bool)(CF:Jk)(n:Nat)(all:List Oper):List Oper->S->Option (List DS × List Ext × S)
 | [],s=>some ([],[],s)
 | o::rest,s=>match o.guard with
  | none=>match U4 P ro CF n all o [] s with
   | some (d,x,s')=>match qL P ro CF n all rest s' with
    | some (ds,xs,t)=>some (d::ds,x.toList++xs,t)
    | none=>none
   | none=>none
  | some (j,want)=>match (all[j]?).bind (·.dst) with
   | some dj=>match (lk s.tmps dj).bind (ME want) with
    | some true=>match U4 P ro CF n all o [.t dj] s with
     | some (d,x,s')=>match qL P ro CF n all rest s' with
      | some (ds,xs,t)=>some (d::ds,x.toList++xs,t)
      | none=>none
     | none=>none
    | some false=>match qL P ro CF n all rest (s.Dm (Dn o (.v (.AE [])))) with
     | some (ds,xs,t)=>some (⟨[.t dj],Dn o (.v (.AE [])),false⟩::ds,xs,t)
     | none=>none
    | none=>none
   | none=>none
theorem Je{ro:TypeId->Option Bool}{n:Nat}(C4:Et P CF):∀ {ls:List Oper} {s t:S} {ds:List DS} {xs:List Ext} {K:List DS->List Ext->S->Prop},qL P ro CF n all ls s=some (ds,xs,t)->K ds xs t->kN P ro n all ls s K
 | [],s,t,ds,xs,K,h,hk=>by
  simp only [qL,Option.some.injEq,Prod.mk.injEq] at h
  obtain ⟨rfl,rfl,rfl⟩:=h
  exact hk
 | o::rest,s,t,ds,xs,K,h,hk=>by
  simp only [qL] at h
  simp only [kN]
  split at h
  ·rename_i hg
   rw [hg]
   split at h
   ·rename_i d x s1 h1
    split at h
    ·rename_i ds1 xs1 t1 h2
     simp only [Option.some.injEq,Prod.mk.injEq] at h
     obtain ⟨rfl,rfl,rfl⟩:=h
     exact LF C4 h1 (Je C4 (K:=fun ds xs t=>K (d::ds) (x.toList++xs) t) h2 hk)
    ·cases h
   ·cases h
  ·rename_i j want hg
   rw [hg]
   split at h
   ·rename_i dj T1
    simp only [T1]
    split at h
    ·rename_i hb
     simp only [hb,if_true]
     split at h
     ·rename_i d x s1 h1
      split at h
      ·rename_i ds1 xs1 t1 h2
       simp only [Option.some.injEq,Prod.mk.injEq] at h
       obtain ⟨rfl,rfl,rfl⟩:=h
       exact LF C4 h1 (Je C4 (K:=fun ds xs t=>K (d::ds) (x.toList++xs) t) h2 hk)
      ·cases h
     ·cases h
    ·rename_i hb
     simp only [hb,Bool.false_eq_true,if_false]
     split at h
     ·rename_i ds1 xs1 t1 h2
      simp only [Option.some.injEq,Prod.mk.injEq] at h
      obtain ⟨rfl,rfl,rfl⟩:=h
      exact Je C4 (K:=fun ds xs t=>K (⟨[.t dj],Dn o (.v (.AE [])),false⟩::ds) xs t) h2 hk
     ·cases h
    ·cases h
   ·cases h
def evR(P:Program)(md:Md)(CF:Jk)(n:Nat)(ops:List Oper)(draw:Bool)(s:S):Option (A5 × S):=match draw with
 | false=>evL P md CF n ops ops s
 | true=>match qL P md.ro CF n ops ops s with
  | some (B7,_,t)=>if WS ops B7 s.tmps=true then some (.normal,t) else none
  | none=>none
theorem P1{id:Nat}{ops:Array Oper}{draw:Bool}(C4:Et P CF)(hm:P.follows .mixedOrders=true)(Bw:Er cx.n ops.toList=true)(h:evR P md CF cx.n ops.toList draw s=some (pe,s'))(hq:Q pe s'):PW P cx (.region id ops draw) s Q:=by
 obtain ⟨ops⟩:=ops
 cases draw with
 | false=>exact fun g l a w hs=>wp_region_lit (L9 C4 Bw (fun _ h=>h) h hq g l a w hs)
 | true=>
  simp only [evR] at h
  split at h
  ·rename_i B7 xs t hd
   split at h
   ·rename_i hc
    simp only [Option.some.injEq,Prod.mk.injEq] at h
    obtain ⟨rfl,rfl⟩:=h
    exact XW md.ro cx.n hm rfl Bw (Je C4 hd ⟨hc,hq⟩)
   ·cases h
  ·cases h
end
def MP(body:S->Option (A5 × S)):Nat->S->Option (A5 × S)
 | 0,_=>none
 | n+1,s=>match body s with
  | some (.normal,s')=>MP body n s'
  | r=>r
def La(P:Program)(md:Md)(CF:Jk)(n fl:Nat):Code->S->Option (A5 × S)
 | .skip,s=>some (.normal,s)
 | .region _ ops draw,s=>evR P md CF n ops.toList draw s
 | .seq a b,s=>match La P md CF n fl a s with
  | some (.normal,s')=>La P md CF n fl b s'
  | r=>r
 | .cond (.tmp t) x y,s=>match lk s.tmps t with
  | some (.v (.bool true))=>La P md CF n fl x s
  | some (.v (.bool false))=>La P md CF n fl y s
  | _=>none
 | .block id c,s=>match La P md CF n fl c s with
  | some (.exit QT,s')=>if QT=id then some (.normal,s') else some (.exit QT,s')
  | r=>r
 | .loop c,s=>MP (La P md CF n fl c) fl s
 | .exit id,s=>some (.exit id,s)
 | .ret,s=>some (.ret,s)
 | _,_=>none
def BS(n:Nat):Code->Bool
 | .region _ ops _=>Er n ops.toList
 | .seq a b=>BS n a&&BS n b
 | .cond _ x y=>BS n x&&BS n y
 | .block _ c=>BS n c
 | .loop c=>BS n c
 | _=>true
section
variable {P:Program} {cx:Cx} {md:Md} {CF:Jk} {fl:Nat}
theorem MQ{α:Type}{c:Code}{s:S}{Q:A5->S->Prop}(I:α->S)(μ:α->Nat)(x₀:α)(h₀:I x₀=s)
  (round:∀x,PW P cx c (I x) (Ic (fun s'=>∃y,μ y<μ x/\I y=s') Q)):PW P cx (.loop c) s Q:=fun g l a w hs=>by
 refine wp_loop_ghost (fun n a w=>∃x g l,μ x=n/\Bb cx (I x) g l a w) (μ x₀) ⟨x₀,g,l,rfl,by rw [h₀]; exact hs⟩ ?_
 rintro n a w ⟨x,g,l,rfl,sm⟩
 refine wp_mono (round x g l a w sm) ?_
 rintro e a' w' ⟨pe,s',g',l',q,er,sm'⟩
 cases pe <;> cases e <;> first | exact er.elim | skip
 ·obtain ⟨y,Ag,rfl⟩:=q
  exact ⟨μ y,Ag,y,g',l',rfl,sm'⟩
 ·exact ⟨_,s',g',l',q,er,sm'⟩
 ·exact ⟨_,s',g',l',q,er,sm'⟩
 ·exact ⟨_,s',g',l',q,er,sm'⟩
theorem LH{c:Code}{body:S->Option (A5 × S)}(U5:∀ {s:S} {pe:A5} {s':S} {Q:A5->S->Prop},body s=some (pe,s')->Q pe s'->PW P cx c s Q){n:Nat}{s s':S}{pe:A5}{Q:A5->S->Prop}
  (h:MP body n s=some (pe,s')) (hq:Q pe s'):PW P cx (.loop c) s Q:=by
 refine MQ (α:={ x:Nat × S // MP body x.1 x.2=some (pe,s') }) (fun x=>x.1.2) (fun x=>x.1.1) ⟨(n,s),h⟩ rfl ?_
 rintro ⟨⟨n,s⟩,h⟩
 cases n with
 | zero=>cases h
 | succ n=>
  simp only [MP] at h
  split at h
  ·rename_i s1 h1
   exact U5 h1 ⟨⟨(n,s1),h⟩,Nat.lt_succ_self _,rfl⟩
  ·rename_i D4
   refine U5 h ?_
   cases pe with
   | normal=>exact absurd h (D4 _)
   | _=>exact hq
theorem Co(C4:Et P CF)(hm:P.follows .mixedOrders=true):∀ (c:Code) {s s':S} {pe:A5} {Q:A5->S->Prop},BS cx.n c=true->La P md CF cx.n fl c s=some (pe,s')->Q pe s'->PW P cx c s Q
 | .skip,s,s',pe,Q,_,h,hq=>by
  simp only [La,Option.some.injEq,Prod.mk.injEq] at h
  obtain ⟨rfl,rfl⟩:=h
  exact PA hq
 | .region _ ops draw,s,s',pe,Q,hc,h,hq=>P1 C4 hm hc h hq
 | .seq a b,s,s',pe,Q,hc,h,hq=>by
  simp only [BS,Bool.and_eq_true] at hc
  simp only [La] at h
  refine HX ?_
  split at h
  ·rename_i s1 h1
   exact Co C4 hm a hc.1 h1 (Co C4 hm b hc.2 h hq)
  ·rename_i D4
   refine Co C4 hm a hc.1 h ?_
   cases pe with
   | normal=>exact absurd h (D4 _)
   | _=>exact hq
 | .cond x a b,s,s',pe,Q,hc,h,hq=>by
  simp only [BS,Bool.and_eq_true] at hc
  cases x with
  | tmp t=>
   simp only [La] at h
   split at h
   ·rename_i ht
    exact Kg ht (fun _=>Co C4 hm a hc.1 h hq) (fun e=>by cases e)
   ·rename_i ht
    exact Kg ht (fun e=>by cases e) (fun _=>Co C4 hm b hc.2 h hq)
   ·cases h
  | const _=>simp only [La] at h; cases h
  | global _=>simp only [La] at h; cases h
  | func _=>simp only [La] at h; cases h
 | .block id c,s,s',pe,Q,hc,h,hq=>by
  simp only [BS] at hc
  simp only [La] at h
  refine Mg ?_
  split at h
  ·rename_i QT s1 h1
   refine Co C4 hm c hc h1 ?_
   simp only [Mf]
   split at h
   ·rename_i e
    simp only [Option.some.injEq,Prod.mk.injEq] at h
    obtain ⟨rfl,rfl⟩:=h
    rw [iP e]
    exact hq
   ·rename_i e
    simp only [Option.some.injEq,Prod.mk.injEq] at h
    obtain ⟨rfl,rfl⟩:=h
    rw [iN e]
    exact hq
  ·rename_i D4
   refine Co C4 hm c hc h ?_
   cases pe with
   | exit i=>exact absurd h (D4 _ _)
   | _=>exact hq
 | .loop c,s,s',pe,Q,hc,h,hq=>by
  simp only [BS] at hc
  simp only [La] at h
  exact LH (fun h hq=>Co C4 hm c hc h hq) h hq
 | .exit id,s,s',pe,Q,_,h,hq=>by
  simp only [La,Option.some.injEq,Prod.mk.injEq] at h
  obtain ⟨rfl,rfl⟩:=h
  exact PB hq
 | .ret,s,s',pe,Q,_,h,hq=>by
  simp only [La,Option.some.injEq,Prod.mk.injEq] at h
  obtain ⟨rfl,rfl⟩:=h
  exact SA hq
 | .rangeFunc _ _ _ _,_,_,_,_,_,h,_=>by simp only [La] at h; cases h
 | .scope _,_,_,_,_,_,h,_=>by simp only [La] at h; cases h
 | .label _,_,_,_,_,_,h,_=>by simp only [La] at h; cases h
 | .goto _,_,_,_,_,_,h,_=>by simp only [La] at h; cases h
 | .refuse _,_,_,_,_,_,h,_=>by simp only [La] at h; cases h
end
def T5(P:Program)(res:List ResultVar):A5->S->Option (Cr × Ext)
 | .panic p,s=>some (.panic p,s.ext)
 | .exit _,_=>none
 | .normal,s=>match F9 P s res with
  | some p=>some (.ret p,s.ext)
  | none=>none
 | .ret,s=>match res with
  | [.tmp t]=>match lk s.tmps t with
   | some (.uniq e z es)=>if e<1000000 then some (.own e z es,s.ext) else none
   | some lv=>match WN lv with
    | some p=>some (.ret p,s.ext)
    | none=>none
   | none=>none
  | res=>match F9 P s res with
   | some p=>some (.ret p,s.ext)
   | none=>none
theorem JR{P:Program}{res:List ResultVar}{pe:A5}{s:S}{r:Cr}{e:Ext}(h:T5 P res pe s=some (r,e)):A0l P res (fun r1 e1=>r1=r/\e1=e) pe s:=by
 cases pe with
 | panic p=>
  simp only [T5,Option.some.injEq,Prod.mk.injEq] at h
  obtain ⟨rfl,rfl⟩:=h
  exact ⟨rfl,rfl⟩
 | exit _=>cases h
 | normal=>
  simp only [T5] at h
  split at h
  ·rename_i p hp
   simp only [Option.some.injEq,Prod.mk.injEq] at h
   obtain ⟨rfl,rfl⟩:=h
   exact ⟨p,hp,rfl,rfl⟩
  ·cases h
 | ret=>
  simp only [T5] at h
  split at h
  ·rename_i t
   split at h
   ·rename_i e0 z es hl
    split at h
    case isFalse=>cases h
    rename_i KX
    simp only [Option.some.injEq,Prod.mk.injEq] at h
    obtain ⟨rfl,rfl⟩:=h
    exact .inr ⟨t,e0,z,es,rfl,hl,KX,rfl,rfl⟩
   ·rename_i lv _ hl
    split at h
    ·rename_i p hp
     simp only [Option.some.injEq,Prod.mk.injEq] at h
     obtain ⟨rfl,rfl⟩:=h
     exact .inl ⟨p,by simp [F9,OQ,XL,hl,hp],rfl,rfl⟩
    ·cases h
   ·cases h
  ·split at h
   ·rename_i p hp
    simp only [Option.some.injEq,Prod.mk.injEq] at h
    obtain ⟨rfl,rfl⟩:=h
    exact .inl ⟨p,hp,rfl,rfl⟩
   ·cases h
abbrev eT:=FuncId->List PV->Ext->PM->Option (PM × Ext)
def U6(P:Program)(Oe:eT):Prop:=∀f args e m m' e',Oe f args e m=some (m',e')->Fu P f=true/\Eb P f args e m fun m1 e1=>m1=m'/\e1=e'
inductive Shape where
 | plain
 | defers (r0:Code) (mk df:Oper) (t:Nat) (y:Code)
def shape:Code->Shape
 | .seq r0 (.seq (.region _ ⟨[mk,df]⟩ false) y)=>match df.op with
  | .defer ⟨.value (.tmp t),⟨[]⟩,_⟩ => .defers r0 mk df t y
  | _ => .plain
 | _ => .plain
theorem Wc{c r0 y:Code}{mk df:Oper}{t:Nat}(h:shape c = .defers r0 mk df t y):∃id ts,c = .seq r0 (.seq (.region id #[mk,df] false) y)/\df.op = .defer ⟨.value (.tmp t),#[],ts⟩:=by
 unfold shape at h
 split at h
 ·split at h
  ·rename_i Jc
   simp only [Shape.defers.injEq] at h
   obtain ⟨rfl,rfl,rfl,rfl,rfl⟩:=h
   exact ⟨_,_,rfl,Jc⟩
  ·cases h
 ·cases h
def gK(P:Program)(res:List ResultVar)(s:S)(e:Ext):Option (Cr × Ext):=match F9 P { s with ext:=e } res with
 | some q=>some (.ret q,e)
 | none=>none
def gL(P:Program)(md:Md)(CF:Jk)(Oe:eT)(fl:Nat)(fn:Func)(args:List PV)(e:Ext):Option (Cr × Ext):=match fn.body with
 | none=>none
 | some c=>if args.length<=fn.ntmps then (match shape c with
  | .plain=>match La P md CF fn.ntmps fl c (Fv args e) with
   | some (pe,s)=>T5 P fn.results.toList pe s
   | none=>none
  | .defers r0 mk df t y=>if mk.guard.isNone&&df.guard.isNone&&df.dst.isNone then (match La P md CF fn.ntmps fl r0 (Fv args e) with
   | some (.normal,s)=>match (act P md.ro fn.ntmps [mk,df] mk).run s with
    | some wr=>match lk (s.HY wr).tmps t with
     | some (.v (.fn (.func EK) first cap))=>match La P md CF fn.ntmps fl y (s.HY wr) with
      | some (.panic p,s2)=>match Oe EK (first++cap) s2.ext (.pan p) with
       | some (.gF,e')=>gK P fn.results.toList s2 e'
       | _=>none
      | some (.exit _,_)=>none
      | some (_,s2)=>match Oe EK (first++cap) s2.ext .ret with
       | some (.ret,e')=>gK P fn.results.toList s2 e'
       | _=>none
      | none=>none
     | _=>none
    | none=>none
   | _=>none) else none) else none
def MR:Code->Option (Nat × Nat × Code)
 | .seq (.region _ ⟨[o0,o1]⟩ false) y=>match o0.op,o1.op,o0.dst,o1.dst with
  | .call ⟨.builtin .recover,⟨[]⟩,_⟩,.assign (.tmp t),some t0,some t1=>if t=t0/\o0.guard.isNone=true/\o1.guard.isNone=true then some (t0,t1,y) else none
  | _,_,_,_=>none
 | _=>none
def T6(P:Program)(md:Md)(CF:Jk)(fl:Nat)(fn:Func)(args:List PV)(e:Ext)(m:PM):Option (PM × Ext):=match fn.body with
 | none=>none
 | some c=>match MR c with
  | none=>none
  | some (t0,t1,y)=>if args.length<=fn.ntmps/\t0<fn.ntmps/\t1<fn.ntmps then (match m with
   | .gF=>none
   | .ret=>match La P md CF fn.ntmps fl y ⟨put (put (Ri 0 args) t0 (.v .Fz)) t1 (.v .Fz),[],e⟩ with
    | some (.normal,s)=>if (F9 P s fn.results.toList).isSome=true then some (.ret,s.ext) else none
    | some (.ret,s)=>if (F9 P s fn.results.toList).isSome=true then some (.ret,s.ext) else none
    | _=>none
   | .pan p=>match La P md CF fn.ntmps fl y ⟨put (put (Ri 0 args) t0 (.v p)) t1 (.v p),[],e⟩ with
    | some (.normal,s)=>if (F9 P s fn.results.toList).isSome=true then some (.gF,s.ext) else none
    | some (.ret,s)=>if (F9 P s fn.results.toList).isSome=true then some (.gF,s.ext) else none
    | _=>none) else none
section
variable {P:Program} {md:Md} {CF:Jk} {Oe:eT} {fl:Nat} {f:FuncId} {fn:Func} {args:List PV} {e e':Ext} {r:Cr}
def Kt(fn:Func):Bool:=match fn.body with
 | some c=>BS fn.ntmps c
 | none=>false
theorem T7(C4:Et P CF)(Ya:U6 P Oe)(hm:P.follows .mixedOrders=true)(hf:P.funcs[f]?=some fn)(E5:Kt fn=true)(h:gL P md CF Oe fl fn args e=some (r,e')):C3 P f args e fun r1 e1=>r1=r/\e1=e':=by
 unfold gL at h
 unfold Kt at E5
 split at h
 ·cases h
 ·rename_i c hb
  rw [hb] at E5
  simp only at E5
  split at h
  ·rename_i hn
   split at h
   ·split at h
    ·rename_i pe s he
     refine C3.enter hf hb hn fun cx Ar Mv=>?_
     rw [<-Ar] at E5 he
     exact Co C4 hm c E5 he (JR h)
    ·cases h
   ·rename_i r0 mk df t y pQ
    obtain ⟨id,ts,rfl,qG⟩:=Wc pQ
    simp only [BS,Bool.and_eq_true] at E5
    split at h
    ·rename_i hg
     simp only [Bool.and_eq_true,Option.isNone_iff_eq_none] at hg
     split at h
     ·rename_i s he
      split at h
      ·rename_i wr PN
       split at h
       ·rename_i EK first cap g9
        have hgo:∀ {m:PM} {m':PM} {e1:Ext},Oe EK (first++cap) e1 m=some (m',e')->Fu P EK=true:=fun h=>(Ya _ _ _ _ _ _ h).1
        have key:Fu P EK=true/\∀Y2:Cx,Y2.n=fn.ntmps->PW P Y2 y (s.HY wr) (qE P fn.results.toList (fun r1 e1=>r1=r/\e1=e') EK (first++cap)):=by
         have At:∀ {s2:S} {e1:Ext},gK P fn.results.toList s2 e1=some (r,e')->∃q,F9 P { s2 with ext:=e1 } fn.results.toList=some q/\r = .ret q/\e'=e1:=by
          intro s2 e1 h
          unfold gK at h
          split at h
          ·rename_i q hq
           simp only [Option.some.injEq,Prod.mk.injEq] at h
           exact ⟨q,hq,h.1.symm,h.2.symm⟩
          ·cases h
         split at h
         ·rename_i p s2 hy
          split at h
          ·rename_i e1 hd
           obtain ⟨q,h1,rfl,rfl⟩:=At h
           obtain ⟨k1,k2⟩:=Ya _ _ _ _ _ _ hd
           refine ⟨k1,fun Y2 Yb=>?_⟩
           rw [<-Yb] at E5 hy
           refine Co C4 hm y E5.2.2 hy ?_
           exact fun vs g l w u ha he hu=>(k2 vs g l w u ha he hu).mono fun en u' w' ⟨v,m',e2,g',l',k3,⟨k4,k5⟩,k6⟩=>⟨v,m',e2,g',l',k3,⟨k4,q,by rw [k5]; exact h1,rfl,k5⟩,k6⟩
          ·cases h
         ·cases h
         ·rename_i pe s2 A9r A9s hy
          split at h
          ·rename_i e1 hd
           obtain ⟨q,h1,rfl,rfl⟩:=At h
           obtain ⟨k1,k2⟩:=Ya _ _ _ _ _ _ hd
           refine ⟨k1,fun Y2 Yb=>?_⟩
           rw [<-Yb] at E5 hy
           refine Co C4 hm y E5.2.2 hy ?_
           have A0x:Eb P EK (first++cap) s2.ext .ret fun m qM=>m = .ret/\∃q',F9 P { s2 with ext:=qM } fn.results.toList=some q'/\(Cr.ret q' = .ret q/\qM=e'):=
            fun vs g l w u ha he hu=>(k2 vs g l w u ha he hu).mono fun en u' w' ⟨v,m',e2,g',l',k3,⟨k4,k5⟩,k6⟩=>⟨v,m',e2,g',l',k3,⟨k4,q,by rw [k5]; exact h1,rfl,k5⟩,k6⟩
           cases pe with
           | normal=>exact A0x
           | ret=>exact A0x
           | exit i=>exact absurd rfl (A9s i)
           | panic p=>exact absurd rfl (A9r p)
          ·cases h
         ·cases h
        refine C3.qF md.ro hf hb hn qG hg.1.1 hg.1.2 hg.2 fun cx Ar Mv=>?_
        have fU:=he
        rw [<-Ar] at fU
        have A0y:=E5.1
        rw [<-Ar] at A0y
        refine Co C4 hm r0 A0y fU ⟨rfl,RM.Fw PN ⟨EK,first,cap,g9,key.1,key.2⟩⟩
       ·cases h
      ·cases h
     ·cases h
    ·cases h
  ·cases h
theorem Q8{c y:Code}{t0 t1:Nat}(h:MR c=some (t0,t1,y)):∃id o0 o1 ts,c = .seq (.region id #[o0,o1] false) y/\o0.op = .call ⟨.builtin .recover,#[],ts⟩/\o1.op = .assign (.tmp t0)/\o0.dst=some t0/\o1.dst=some t1/\o0.guard=none/\o1.guard=none:=by
 unfold MR at h
 split at h
 ·rename_i id o0 o1 y'
  split at h
  ·rename_i ts t a b h0 h1 h2 h3
   split at h
   ·rename_i hc
    obtain ⟨rfl,g0,g1⟩:=hc
    simp only [Option.some.injEq,Prod.mk.injEq] at h
    obtain ⟨rfl,rfl,rfl⟩:=h
    exact ⟨id,o0,o1,ts,rfl,h0,h1,h2,h3,by simpa using g0,by simpa using g1⟩
   ·cases h
  ·cases h
 ·cases h
theorem MS{m m':PM}(C4:Et P CF)(hm:P.follows .mixedOrders=true)(hf:P.funcs[f]?=some fn)(E5:Kt fn=true)(h:T6 P md CF fl fn args e m=some (m',e')):Eb P f args e m fun m1 e1=>m1=m'/\e1=e':=by
 unfold T6 at h
 unfold Kt at E5
 split at h
 ·cases h
 ·rename_i c hb
  rw [hb] at E5
  simp only at E5
  split at h
  ·cases h
  ·rename_i t0 t1 y pQ
   obtain ⟨id,o0,o1,ts,rfl,h0,h1,h2,h3,g0,g1⟩:=Q8 pQ
   simp only [BS,Bool.and_eq_true] at E5
   split at h
   ·rename_i hc
    obtain ⟨c1,c2,c3⟩:=hc
    split at h
    ·cases h
    ·refine Eb.enter hf hb c1 h0 g0 h2 h1 g1 h3 c2 c3 .Fz .ret (.inl ⟨rfl,rfl,rfl⟩) fun cx Ar Mv=>?_
     split at h
     ·rename_i s hs
      split at h
      ·rename_i At
       simp only [Option.some.injEq,Prod.mk.injEq] at h
       obtain ⟨rfl,rfl⟩:=h
       rw [<-Ar] at E5 hs
       exact Co C4 hm y E5.2 hs ⟨.inl rfl,Option.isSome_iff_exists.1 At,rfl,rfl⟩
      ·cases h
     ·rename_i s hs
      split at h
      ·rename_i At
       simp only [Option.some.injEq,Prod.mk.injEq] at h
       obtain ⟨rfl,rfl⟩:=h
       rw [<-Ar] at E5 hs
       exact Co C4 hm y E5.2 hs ⟨.inr rfl,Option.isSome_iff_exists.1 At,rfl,rfl⟩
      ·cases h
     ·cases h
    ·rename_i p
     refine Eb.enter hf hb c1 h0 g0 h2 h1 g1 h3 c2 c3 p .gF (.inr ⟨rfl,rfl⟩) fun cx Ar Mv=>?_
     split at h
     ·rename_i s hs
      split at h
      ·rename_i At
       simp only [Option.some.injEq,Prod.mk.injEq] at h
       obtain ⟨rfl,rfl⟩:=h
       rw [<-Ar] at E5 hs
       exact Co C4 hm y E5.2 hs ⟨.inl rfl,Option.isSome_iff_exists.1 At,rfl,rfl⟩
      ·cases h
     ·rename_i s hs
      split at h
      ·rename_i At
       simp only [Option.some.injEq,Prod.mk.injEq] at h
       obtain ⟨rfl,rfl⟩:=h
       rw [<-Ar] at E5 hs
       exact Co C4 hm y E5.2 hs ⟨.inr rfl,Option.isSome_iff_exists.1 At,rfl,rfl⟩
      ·cases h
     ·cases h
   ·cases h
end
mutual
def eU(P:Program)(ok:FuncId->Bool)(md:FuncId->Md)(fl:Nat):Nat->Jk
 | 0,_,_,_=>none
 | d+1,f,args,e=>match ok f with
  | false=>none
  | true=>match P.funcs[f]? with
   | some fn=>gL P (md f) (eU P ok md fl d) (evG P ok md fl d) fl fn args e
   | none=>none
def evG(P:Program)(ok:FuncId->Bool)(md:FuncId->Md)(fl:Nat):Nat->eT
 | 0,_,_,_,_=>none
 | d+1,f,args,e,m=>match ok f with
  | false=>none
  | true=>match P.funcs[f]? with
   | some fn=>T6 P (md f) (eU P ok md fl d) fl fn args e m
   | none=>none
end
def LY(P:Program)(f:FuncId):Bool:=match P.funcs[f]? with
 | some fn=>Fu P f&&Kt fn
 | none=>false
section
variable {P:Program} {cx:Cx} {s t:S} {g:Gh} {l:LG} {a:Act} {w:World} {o:Oper}
theorem Lb(t ty e e':TypeId)(i:TypeInfo)(ht:P.underlying t=some (.slice e))(hi:P.info? e=some i)
  (g T8 qN:Nat) (cur:Array Value) (hg:w.heap[g]?=some (.cells cur e' (0,0)))
  (a:Addr) (m c:Nat) (news:List Value) (hl:news.length=m * i.size) (Ko:∀j u,news[j]?=some u->w.cell? (a.add j)=some u) (h1:∀u∈news,u.oneCell'=true)
  (Gi:T8+m<=qN) (LS:T8 * i.size+news.length<=cur.size) :
  (Builtin.append_ #[t,t] ty #[.slice (some ⟨g,0,none⟩) T8 qN,.slice (some a) m c]).run P w =
   .ok (.slice (some ⟨g,0,none⟩) (T8+m) qN) (w.setRow g (cur.toList.take (T8 * i.size)++news++cur.toList.drop (T8 * i.size+news.length)).toArray):=by
 have hf:=run_firstCells_some (P:=P) w i.size m a m c news hl Ko
 have IF:=run_storeCells_at P g (T8 * i.size) e' news 0 cur w hg (by simpa using LS) h1
 simp only [Nat.add_zero] at IF
 simp [Builtin.append_,run_underlying ht,sizeOf,typeInfo,hi,Builtin.lenOf,Gi,hf,Addr.add_lit,IF]
def Wd:List PV->Option (List Int)
 | []=>some []
 | .int .i64 k::r=>(Wd r).map (k :: ·)
 | _::_=>none
theorem MT:∀ {l:List PV} {ks:List Int},Wd l=some ks->l=ks.map (.int .i64)
 | [],ks,h=>by simp only [Wd,Option.some.injEq] at h; subst h; rfl
 | x::r,ks,h=>by
  unfold Wd at h
  split at h
  ·cases ‹_=[]›
  ·rename_i k r' e0
   injection e0 with e1 e2
   subst e1 e2
   simp only [Option.map_eq_some_iff] at h
   obtain ⟨qs,hq,rfl⟩:=h
   rw [MT hq]; rfl
  ·cases h
def A0z(x y:Operand):RM ((Nat × Nat × List Int) × List Int):=ev x fun lx=>match OI lx with
 | some (n,c,len) => .E6 n fun cs=>match rowOf cs with
  | some (c',ps) => .assume (decide (c=c'/\len=ps.length)) (ev y fun ly=>match OJ ly with
   | some (y0::ys)=>if okZ 1 ly=true then (match Wd (y0::ys).flatten with | some ks => .ret ((n,c,ps),ks) | none => .fail) else .fail
   | _ => .fail)
  | none => .fail
 | none => .fail
theorem P2(hs:Bb cx s g l a w){n c len:Nat}{cs:List LV}{ps:List Int}{v:Value}(hr:BJ g w (.LR n c len) v)(hx:lk s.ext n=some cs)(hp:rowOf cs=some (c,ps))(hl:len=ps.length) :
  ∃b cap cur e,v = .slice (some ⟨b,0,none⟩) len cap/\g.Y n c=some b/\l.O b=some (.x n)/\(∀c',c<c'->g.Y n c'=none)/\g.M b=some 0/\w.heap[b]?=some (.cells cur e (0,0))/\cur.size=cap/\len<=cap/\cap<=maxLen /\
   AG g w (ps.map (.int .i64)) (cur.toList.take len)/\∀u∈cur.toList.take len,u.oneCell'=true:=by
 subst hl
 cases hr with
 | LR _ _ _ b cap cur e hY hh Bq hle Di=>
  obtain ⟨b',k1,k2,k3,kM,fP,e2,k4,k5,k6⟩:=SE hs hx hp
  rw [hY] at k1
  injection k1 with k1
  subst k1
  rw [hh] at k4
  injection k4 with k4
  injection k4 with k4 _ _
  subst k4
  refine ⟨b,cap,cur,e,rfl,hY,k2,k3,kM,hh,Bq.symm,hle,Di,⟨by simp only [List.length_map,List.length_take,Array.length_toList]; omega,fun j hj Cu=>?_⟩,fun u hu=>?_⟩
  ·have hjp:j<ps.length:=by rw [List.length_map] at hj; exact hj
   have h6:=(k6 j hjp).2
   rw [List.getElem_map]
   have WK:j<cur.size:=by omega
   have:cur.getD j undef=(cur.toList.take ps.length)[j]:=by simp [WK]
   rw [<-this]
   exact h6
  ·obtain ⟨j,hj,e0⟩:=List.getElem_of_mem hu
   have Sl:j<ps.length:=by rw [List.length_take] at hj; omega
   have h6:=(k6 j Sl).1
   have WK:j<cur.size:=by omega
   have:cur.getD j undef=(cur.toList.take ps.length)[j]:=by simp [WK]
   rw [this,e0] at h6
   exact h6
theorem P3{b:Nat}{cur:Array Value}{e:TypeId}{len j:Nat}{v:Value}(hh:w.heap[b]?=some (.cells cur e (0,0)))(hj:(cur.toList.take len)[j]?=some v):w.cell? ((⟨b,0,none⟩:Addr).add j)=some v:=by
 rw [List.getElem?_take] at hj
 split at hj
 ·have e1:(⟨b,0,none⟩:Addr).add j=⟨b,j,none⟩:=by simp [Addr.add_lit]
  rw [e1]
  have hj4:cur[j]?=some v:=by simpa using hj
  simp [World.cell?,hh,hj4]
 ·cases hj
theorem gM{K:S->Prop}{Q:A5->S->Prop}{ty e:TypeId}{x y:Operand}{d B:Nat}{zs:List PV}(ho:o.op = .call ⟨.builtin .append,#[x,y],#[ty,ty]⟩)(hd:o.dst=some d)(hn:d<cx.n)
  (he:Gj P ty=some e) (hm:KW P e=some 1) (hB:Fq P e=some (B+1)) (hz:TK P e=some zs) (Rb:zs.length=1) (hs:Bb cx s g l a w)
  (h:(A0z x y).wp s fun r=>(r.1.2.2.length+r.2.length) * (B+1)<=140737488355328 /\
   K { s with tmps:=put s.tmps d (.v (.LR r.1.1 (r.1.2.1+1) (r.1.2.2.length+r.2.length))),ext:=put s.ext r.1.1 [.row (r.1.2.1+1) (r.1.2.2++r.2)] }) :
  o.wp P a w (fun a' w'=>∃s' g' l',K s'/\Bb cx s' g' l' a' w') (post cx Q):=by
 have hu:=Eh he
 obtain ⟨i,zv,z1,z2,z3⟩:=F4 hz
 have Bq:i.size=1:=by simpa [KW,z1] using hm
 have WQ:i.bytes=B+1:=by simpa [Fq,z1] using hB
 have Od:zv.cells.size=1:=by rw [<-Array.length_toList,<-EX z3]; exact Rb
 obtain ⟨-,U3,-⟩:=En (g:=g) (w:=w) z3
 obtain ⟨lx,ux,h1,r1,-⟩:=C2 hs h
 split at h1
 ·rename_i n c len Q9
  have hlx:lx = .v (.LR n c len):=by
   unfold OI at Q9
   split at Q9
   ·injection Q9 with q0; injection q0 with q1 q0; injection q0 with q2 q3; subst q1 q2 q3; rfl
   ·cases Q9
  subst hlx
  simp only [RM.wp] at h1
  split at h1
  ·rename_i cs CS
   split at h1
   ·rename_i c' ps SJ
    simp only [RM.wp] at h1
    obtain ⟨jW,h1⟩:=h1
    obtain ⟨rfl,kF⟩:=of_decide_eq_true jW
    obtain ⟨ly,uy,h2,r2,-⟩:=C2 hs h1
    split at h2
    ·rename_i y0 ys Kj
     split at h2
     ·rename_i E5
      split at h2
      rotate_left
      ·exact h2.elim
      rename_i ks hks
      obtain ⟨hb,h2⟩:=h2
      simp only at hb h2
      obtain ⟨b,cap,cur,e',kV,hY,hO,hF,hM,hh,gN,hle,Di,hR,Ce⟩:=P2 hs r1 CS SJ kF
      have JI:=J9 SJ
      subst JI
      obtain ⟨ay,cc,VT,eO⟩:∃ay cc,a.eval y = .slice (some ay) (y0::ys).length cc/\BJ g w (.sl 1 (y0::ys)) (a.eval y):=by
       rcases M7 Kj E5 r2 with ⟨h,-⟩ | h
       ·cases h
       ·exact h
      rw [VT] at eO
      obtain ⟨-,-,-,hyz,news,Y9,IE,Xu⟩:=eO.flat
      have hkY:=MT hks
      rw [hkY] at Y9
      generalize hYY:(y0::ys)=Y at *
      have Hi:0<Y.length:=by rw [<-hYY]; simp
      rw [Nat.mul_one] at IE
      have WJ:Y.flatten.length=Y.length:=by rw [BR _ Y hyz,Nat.mul_one]
      have hkl:ks.length=Y.length:=by rw [<-WJ,hkY,List.length_map]
      rw [hkl] at hb h2
      have M4:∀u∈news,u.oneCell'=true:=fun u hu=>by
       obtain ⟨j,hj,e⟩:=List.getElem_of_mem hu
       exact (Xu j u (by rw [List.getElem?_eq_getElem hj,e])).2.2
      rw [<-kF] at hb h2
      have hlen:len+Y.length<=140737488355328:=by
       have:=Nat.le_mul_of_pos_right (len+Y.length) (Nat.succ_pos B)
       simp only [Nat.succ_eq_add_one] at this
       omega
      have WR:len+Y.length<=maxLen:=by simp only [maxLen]; omega
      have PR:news.length=Y.length * i.size:=by rw [Bq,Nat.mul_one]; exact IE
      have Ko:∀j v,news[j]?=some v->w.cell? (ay.add j)=some v:=fun j v hj=>(Xu j v hj).1
      have hex:∀v' w',(Builtin.append_ #[ty,ty] o.type #[a.eval x,a.eval y]).run P w = .ok v' w'->(execOp a.eval o).run P w = .ok (.value v') w':=by
       intro v' w' hr
       simp only [execOp,ho,resolve,invoke,builtin,Sem.run_bind,Sem.run_pure,Result.andThen_ok,List.map_toArray,List.map_cons,List.map_nil,hr]
      have TR:(cur.toList.take len).length=len:=by rw [List.length_take,Array.length_toList]; omega
      have Yc:=hR.app Y9
      rw [<-List.map_append] at Yc
      have hRl:(ps++ks).length=(cur.toList.take len++news).length:=by rw [<-Yc.1,List.length_map]
      have hRg:∀j (hj:j<(ps++ks).length) (Ib:j<(cur.toList.take len++news).length),BJ g w (.int .i64 (ps++ks)[j]) (cur.toList.take len++news)[j]:=fun j hj Ib=>by
       have:=Yc.2 j (by rw [List.length_map]; exact hj) Ib
       rw [List.getElem_map] at this
       exact this
      have kX:∀u∈cur.toList.take len++news,u.oneCell'=true:=fun u hu=>by
       rcases List.mem_append.1 hu with hu | hu
       ·exact Ce u hu
       ·exact M4 u hu
      have A10:(ps++ks).length=len+Y.length:=by rw [List.length_append,hkl,kF]
      by_cases Gi:len+Y.length<=cap
      ·have hr:=Lb (P:=P) ty o.type e e' i hu z1 b len cap cur hh ay Y.length cc news PR Ko M4 Gi (by rw [Bq,IE,Nat.mul_one,gN]; exact Gi)
       rw [Bq,Nat.mul_one,<-kV,<-VT] at hr
       unfold Oper.wp
       rw [hex _ _ hr,Oper.upon_value,hd]
       have jW:(cur.toList.take len++news++cur.toList.drop (len+news.length)).toArray.size=cur.size:=by
        simp only [List.size_toArray,List.length_append,List.length_take,List.length_drop,Array.length_toList,IE]; omega
       have fL:∀j,j<(ps++ks).length->((cur.toList.take len++news++cur.toList.drop (len+news.length)).toArray.getD j undef)=(cur.toList.take len++news).getD j undef:=fun j hj=>by
        have Cu:j<(cur.toList.take len++news).length:=by rw [<-hRl]; exact hj
        simp only [Array.getD_eq_getD_getElem?,List.getElem?_toArray,List.getD_eq_getElem?_getD]
        rw [List.getElem?_append_left Cu]
       have k1:=hs.X9 (c2:=c+1) (ps':=ps++ks) CS hY hO hF hM hh jW (.inr (Nat.lt_succ_self c)) (by rw [jW,A10,gN]; exact Gi) (fun j hj=>by
         have Ib:j<(cur.toList.take len++news).length:=by rw [<-hRl]; exact hj
         rw [fL j hj]
         simp only [List.getD_eq_getElem?_getD,List.getElem?_eq_getElem Ib,Option.getD_some]
         exact ⟨kX _ (List.getElem_mem Ib),hRg j hj Ib⟩)
       refine ⟨_,_,_,h2,k1.set hn (.LR _ _ _ b cap _ e' (EV _ _ _ _) (setRow_heap w b cur _ e' _ hh) ?_ Gi Di)⟩
       rw [jW]; exact gN.symm
      ·have My:(len+Y.length) * i.bytes<=140737488355328:=by rw [WQ]; exact hb
       have hr:=run_append_grow (P:=P) w ty o.type e i zv hu z1 z2 ⟨b,0,none⟩ len cap (cur.toList.take len) (by rw [Bq,Nat.mul_one]; exact TR) (fun j v hj=>P3 hh hj) ay Y.length cc news PR Ko oM (by simp only [maxLen] at WR; omega) (growslice_fits oM My)
       rw [<-kV,<-VT] at hr
       have CO:=grownCap_ge w (len+Y.length) cap e
       have VU:=grownCap_le_maxLen w (len+Y.length) cap e WR
       unfold Oper.wp
       rw [hex _ _ hr,Oper.upon_value,hd]
       obtain ⟨PK,eN⟩:=hs.drew
       have MO:w.drew.heap.size=w.heap.size:=rfl
       have k1:=PK.SF n (c+1) (fun c' QF=>hF c' oM) (Nat.le_of_lt (JG CS)) ((cur.toList.take len).toArray++news.toArray++Builtin.zeroCells zv.cells (grownCap w (len+Y.length) cap e - (len+Y.length))) e (ps++ks)
        (by simp only [Array.size_append,List.size_toArray,size_zeroCells,Od,IE,TR,A10]; omega) (fun j hj=>by
         have Ib:j<(cur.toList.take len++news).length:=by rw [<-hRl]; exact hj
         have h3:=(hRg j hj Ib).mono eN
         have e2:(((cur.toList.take len).toArray++news.toArray++Builtin.zeroCells zv.cells (grownCap w (len+Y.length) cap e - (len+Y.length))).getD j undef)=(cur.toList.take len++news)[j]:=by
          have hj4:j<((cur.toList.take len).toArray++news.toArray).size:=by simp only [Array.size_append,List.size_toArray]; rw [List.length_append] at Ib; exact Ib
          rw [Array.getD_eq_getD_getElem?,Array.getElem?_append_left hj4,List.append_toArray,List.getElem?_toArray,List.getElem?_eq_getElem Ib]; rfl
         rw [e2]
         exact ⟨kX _ (List.getElem_mem Ib),h3⟩)
       rw [MO] at k1
       refine ⟨_,_,_,h2,k1.set hn (.LR _ _ _ _ _ _ _ (EV _ _ _ _) (heap_alloc_new w.drew _) ?_ CO VU)⟩
       simp only [Array.size_append,List.size_toArray,size_zeroCells,Od,IE,TR,Nat.mul_one]
       omega
     ·exact h2.elim
    ·exact h2.elim
   ·exact h1.elim
  ·exact h1.elim
 ·exact h1.elim
def A11(x y:Operand):RM (Nat × Nat × List Int):=ev x fun lx=>match lx with
 | .v .A4=>ev y fun ly=>match OI ly with
  | some (n,c,len) => .E6 n fun cs=>match rowOf cs with
   | some (c',ps) => .assume (decide (c=c'/\len=ps.length/\0<len)) (.ret (n,c,ps))
   | none => .fail
  | none => .fail
 | _ => .fail
theorem gO{K:S->Prop}{Q:A5->S->Prop}{ty e:TypeId}{x y:Operand}{d B:Nat}{zs:List PV}(ho:o.op = .call ⟨.builtin .append,#[x,y],#[ty,ty]⟩)(hd:o.dst=some d)(hn:d<cx.n)
  (he:Gj P ty=some e) (hm:KW P e=some 1) (hB:Fq P e=some (B+1)) (hz:TK P e=some zs) (Rb:zs.length=1) (hs:Bb cx s g l a w)
  (h:(A11 x y).wp s fun r=>r.2.2.length * (B+1)<=140737488355328 /\
   K { s with tmps:=put s.tmps d (.v (.LR r.1 (r.2.1+1) r.2.2.length)),ext:=put s.ext r.1 [.row (r.2.1+1) r.2.2] }) :
  o.wp P a w (fun a' w'=>∃s' g' l',K s'/\Bb cx s' g' l' a' w') (post cx Q):=by
 have hu:=Eh he
 obtain ⟨i,zv,z1,z2,z3⟩:=F4 hz
 have Bq:i.size=1:=by simpa [KW,z1] using hm
 have WQ:i.bytes=B+1:=by simpa [Fq,z1] using hB
 have Od:zv.cells.size=1:=by rw [<-Array.length_toList,<-EX z3]; exact Rb
 obtain ⟨-,U3,-⟩:=En (g:=g) (w:=w) z3
 obtain ⟨lx,ux,h1,r1,-⟩:=C2 hs h
 split at h1
 ·have kV:a.eval x = .slice none 0 0:=by generalize a.eval x=v at r1; cases r1; rfl
  obtain ⟨ly,uy,h2,r2,-⟩:=C2 hs h1
  split at h2
  ·rename_i n c len Q9
   have hlx:ly = .v (.LR n c len):=by
    unfold OI at Q9
    split at Q9
    ·injection Q9 with q0; injection q0 with q1 q0; injection q0 with q2 q3; subst q1 q2 q3; rfl
    ·cases Q9
   subst hlx
   simp only [RM.wp] at h2
   split at h2
   ·rename_i cs CS
    split at h2
    ·rename_i c' ps SJ
     simp only [RM.wp] at h2
     obtain ⟨jW,hb,h2⟩:=h2
     obtain ⟨rfl,kF,Hi⟩:=of_decide_eq_true jW
     replace hb:ps.length * (B+1)<=140737488355328:=hb
     replace h2:K { s with tmps:=put s.tmps d (.v (.LR n (c+1) ps.length)),ext:=put s.ext n [.row (c+1) ps] }:=h2
     obtain ⟨b,cap,cur,e',VT,hY,hO,hF,hM,hh,gN,hle,Di,hR,Ce⟩:=P2 hs r2 CS SJ kF
     have JI:=J9 SJ
     subst JI
     rw [<-kF] at hb h2
     have TR:(cur.toList.take len).length=len:=by rw [List.length_take,Array.length_toList]; omega
     have hlen:len<=140737488355328:=by
      have:=Nat.le_mul_of_pos_right len (Nat.succ_pos B)
      simp only [Nat.succ_eq_add_one] at this
      omega
     have WR:len<=maxLen:=by simp only [maxLen]; omega
     have hex:∀v' w',(Builtin.append_ #[ty,ty] o.type #[a.eval x,a.eval y]).run P w = .ok v' w'->(execOp a.eval o).run P w = .ok (.value v') w':=by
      intro v' w' hr
      simp only [execOp,ho,resolve,invoke,builtin,Sem.run_bind,Sem.run_pure,Result.andThen_ok,List.map_toArray,List.map_cons,List.map_nil,hr]
     have hr:=run_append_nil (P:=P) w ty o.type e i zv hu z1 z2 ⟨b,0,none⟩ len cap (cur.toList.take len) (by rw [Bq,Nat.mul_one]; exact TR) (fun j v hj=>P3 hh hj) Hi oM (by rw [WQ]; omega)
     rw [<-kV,<-VT] at hr
     have CO:=grownCap_ge w len 0 e
     have VU:=grownCap_le_maxLen w len 0 e (by simpa using WR)
     unfold Oper.wp
     rw [hex _ _ hr,Oper.upon_value,hd]
     obtain ⟨PK,eN⟩:=hs.drew
     have MO:w.drew.heap.size=w.heap.size:=rfl
     have k1:=PK.SF n (c+1) (fun c' QF=>hF c' oM) (Nat.le_of_lt (JG CS)) ((cur.toList.take len).toArray++Builtin.zeroCells zv.cells (grownCap w len 0 e - len)) e ps
      (by simp only [Array.size_append,List.size_toArray,size_zeroCells,Od,TR]; omega) (fun j hj=>by
       have Ib:j<(cur.toList.take len).length:=by rw [<-hR.1,List.length_map]; exact hj
       have h3:=(hR.2 j (by rw [List.length_map]; exact hj) Ib).mono eN
       rw [List.getElem_map] at h3
       have e2:(((cur.toList.take len).toArray++Builtin.zeroCells zv.cells (grownCap w len 0 e - len)).getD j undef)=(cur.toList.take len)[j]:=by
        rw [Array.getD_eq_getD_getElem?,Array.getElem?_append_left (by rw [List.size_toArray]; exact Ib),List.getElem?_toArray,List.getElem?_eq_getElem Ib]; rfl
       rw [e2]
       exact ⟨Ce _ (List.getElem_mem Ib),h3⟩)
     rw [MO] at k1
     refine ⟨_,_,_,h2,k1.set hn (.LR _ _ _ _ _ _ _ (EV _ _ _ _) (heap_alloc_new w.drew _) ?_ CO VU)⟩
     simp only [Array.size_append,List.size_toArray,size_zeroCells,Od,TR,Nat.mul_one]
     omega
    ·exact h2.elim
   ·exact h2.elim
  ·exact h2.elim
 ·exact h1.elim
def A12(x y:Operand):RM (List Int):=ev x fun lx=>ev y fun ly=>match lx,OJ ly with
 | .v .A4,some (y0::ys)=>if okZ 1 ly=true then (match Wd (y0::ys).flatten with | some ks => .ret ks | none => .fail) else .fail
 | _,_ => .fail
theorem gP{K:S->Prop}{Q:A5->S->Prop}{ty e:TypeId}{x y:Operand}{d B:Nat}{zs:List PV}(ho:o.op = .call ⟨.builtin .append,#[x,y],#[ty,ty]⟩)(hd:o.dst=some d)(hn:d<cx.n)
  (he:Gj P ty=some e) (hm:KW P e=some 1) (hB:Fq P e=some (B+1)) (hz:TK P e=some zs) (Rb:zs.length=1) (hs:Bb cx s g l a w)
  (h:(A12 x y).wp s fun ks=>ks.length * (B+1)<=140737488355328/\K { s with tmps:=put s.tmps d (.v (.LR (DN s.ext) 0 ks.length)),ext:=put s.ext (DN s.ext) [.row 0 ks] }) :
  o.wp P a w (fun a' w'=>∃s' g' l',K s'/\Bb cx s' g' l' a' w') (post cx Q):=by
 have hu:=Eh he
 obtain ⟨i,zv,z1,z2,z3⟩:=F4 hz
 have Bq:i.size=1:=by simpa [KW,z1] using hm
 have WQ:i.bytes=B+1:=by simpa [Fq,z1] using hB
 have Od:zv.cells.size=1:=by rw [<-Array.length_toList,<-EX z3]; exact Rb
 obtain ⟨-,U3,-⟩:=En (g:=g) (w:=w) z3
 obtain ⟨lx,ux,h1,r1,-⟩:=C2 hs h
 obtain ⟨ly,uy,h2,r2,-⟩:=C2 hs h1
 split at h2
 ·rename_i y0 ys Kj
  split at h2
  ·rename_i E5
   split at h2
   rotate_left
   ·exact h2.elim
   rename_i ks hks
   obtain ⟨hb,h2⟩:=h2
   have kV:a.eval x = .slice none 0 0:=by generalize a.eval x=v at r1; cases r1; rfl
   obtain ⟨ay,c,VT,eO⟩:∃ay c,a.eval y = .slice (some ay) (y0::ys).length c/\BJ g w (.sl 1 (y0::ys)) (a.eval y):=by
    rcases M7 Kj E5 r2 with ⟨h,-⟩ | h
    ·cases h
    ·exact h
   rw [VT] at eO
   obtain ⟨-,-,-,hyz,news,Y9,IE,Xu⟩:=eO.flat
   have hkY:=MT hks
   rw [hkY] at Y9
   generalize hY:(y0::ys)=Y at *
   have Hi:0<Y.length:=by rw [<-hY]; simp
   rw [Nat.mul_one] at IE
   have WJ:Y.flatten.length=Y.length:=by rw [BR _ Y hyz,Nat.mul_one]
   have hkl:ks.length=Y.length:=by rw [<-WJ,hkY,List.length_map]
   rw [hkl] at hb h2
   have M4:∀u∈news,u.oneCell'=true:=fun u hu=>by
    obtain ⟨j,hj,e⟩:=List.getElem_of_mem hu
    exact (Xu j u (by rw [List.getElem?_eq_getElem hj,e])).2.2
   have hlen:Y.length<=140737488355328:=by
    have:=Nat.le_mul_of_pos_right Y.length (Nat.succ_pos B)
    simp only [Nat.succ_eq_add_one] at this
    omega
   have WR:Y.length<=maxLen:=by simp only [maxLen]; omega
   have hr:=run_append_nil (P:=P) w ty o.type e i zv hu z1 z2 ay Y.length c news (by rw [Bq,Nat.mul_one]; exact IE) (fun j v hj=>(Xu j v hj).1) Hi oM (by rw [WQ]; omega)
   have CO:=grownCap_ge w Y.length 0 e
   have VU:=grownCap_le_maxLen w Y.length 0 e (by simpa using WR)
   have hex:∀v' w',(Builtin.append_ #[ty,ty] o.type #[a.eval x,a.eval y]).run P w = .ok v' w'->(execOp a.eval o).run P w = .ok (.value v') w':=by
    intro v' w' hr
    simp only [execOp,ho,resolve,invoke,builtin,Sem.run_bind,Sem.run_pure,Result.andThen_ok,List.map_toArray,List.map_cons,List.map_nil,hr]
   rw [<-kV,<-VT] at hr
   unfold Oper.wp
   rw [hex _ _ hr,Oper.upon_value,hd]
   obtain ⟨PK,eN⟩:=hs.drew
   have MO:w.drew.heap.size=w.heap.size:=rfl
   have k1:=PK.SF (DN s.ext) 0 (fun c' _=>hs.fresh.2.2 _ c' (Nat.le_refl _)) (Nat.le_refl _) (news.toArray++Builtin.zeroCells zv.cells (grownCap w Y.length 0 e - Y.length)) e ks
    (by simp only [Array.size_append,List.size_toArray,size_zeroCells,Od,IE,hkl]; omega) (fun j hj=>by
     have CE:j<news.length:=by rw [<-Y9.1,List.length_map]; exact hj
     have h3:=(Y9.2 j (by rw [List.length_map]; exact hj) CE).mono eN
     rw [List.getElem_map] at h3
     have e2:((news.toArray++Builtin.zeroCells zv.cells (grownCap w Y.length 0 e - Y.length)).getD j undef)=news[j]:=by
      rw [Array.getD_eq_getD_getElem?,Array.getElem?_append_left (by rw [List.size_toArray]; exact CE),List.getElem?_toArray,List.getElem?_eq_getElem CE]; rfl
     rw [e2]
     exact ⟨M4 _ (List.getElem_mem CE),h3⟩)
   rw [MO] at k1
   refine ⟨_,_,_,h2,k1.set hn (.LR _ _ _ _ _ _ _ (EV _ _ _ _) (heap_alloc_new w.drew _) ?_ (by simpa using CO) VU)⟩
   simp only [Array.size_append,List.size_toArray,size_zeroCells,Od,IE,Nat.mul_one]
   omega
  ·exact h2.elim
 ·exact h2.elim
end
end Go.Pv
