/- Values of Go as plain data, an evaluator over them, and what the functions of the program return; part Xd. -/
import Derived.Test.YthchpmnkecoafaaGreatDoorXc
set_option linter.unusedVariables false
set_option linter.unusedSimpArgs false
set_option linter.unusedSectionVars false
namespace Go.Pv
open Go.RowKit
def RM.run{α:Type}:RM α->S->Option α
 | .ret a,_=>some a
 | .fail,_=>none
 | .IN t k,s=>match lk s.tmps t with
  | some v=>(k v).run s
  | none=>none
 | .IP i k,s=>match lk s.boxes i with
  | some v=>(k v).run s
  | none=>none
 | .EB n k,s=>match lk s.ext n with
  | some v=>(k v).run s
  | none=>none
 | .assume p k,s=>match p with
  | true=>k.run s
  | false=>none
theorem RM.FT{α:Type}{s:S}{K:α->Prop}{a:α}:∀ {r:RM α},r.run s=some a->K a->r.wp s K
 | .ret _,h,k=>by simp only [RM.run,Option.some.injEq] at h; subst h; exact k
 | .fail,h,_=>by cases h
 | .IN t f,h,k=>by
  simp only [RM.run] at h
  simp only [RM.wp]
  split at h
  ·rename_i hv; rw [hv]; exact RM.FT h k
  ·cases h
 | .IP t f,h,k=>by
  simp only [RM.run] at h
  simp only [RM.wp]
  split at h
  ·rename_i hv; rw [hv]; exact RM.FT h k
  ·cases h
 | .EB t f,h,k=>by
  simp only [RM.run] at h
  simp only [RM.wp]
  split at h
  ·rename_i hv; rw [hv]; exact RM.FT h k
  ·cases h
 | .assume p f,h,k=>by
  simp only [RM.run] at h
  cases p with
  | true=>exact ⟨rfl,RM.FT h k⟩
  | false=>cases h
def RM.Hu{α:Type}:RM α->S->Option (α × List Loc)
 | .ret a,_=>some (a,[])
 | .fail,_=>none
 | .IN t k,s=>match lk s.tmps t with
  | some v=>match (k v).Hu s with
   | some (a,r)=>some (a,.t t::r)
   | none=>none
  | none=>none
 | .IP i k,s=>match lk s.boxes i with
  | some v=>match (k v).Hu s with
   | some (a,r)=>some (a,.b i::r)
   | none=>none
  | none=>none
 | .EB n k,s=>match lk s.ext n with
  | some v=>match (k v).Hu s with
   | some (a,r)=>some (a,.x n::r)
   | none=>none
  | none=>none
 | .assume p k,s=>match p with
  | true=>k.Hu s
  | false=>none
theorem RM.Hv{α:Type}{s:S}{a:α}:∀ {r:RM α} {K:α->List Loc->Prop} {rd:List Loc},r.Hu s=some (a,rd)->K a rd->r.Ic s K
 | .ret _,K,rd,h,k=>by simp only [RM.Hu,Option.some.injEq,Prod.mk.injEq] at h; obtain ⟨rfl,rfl⟩:=h; exact k
 | .fail,_,_,h,_=>by cases h
 | .IN t f,K,rd,h,k=>by
  simp only [RM.Hu] at h
  simp only [RM.Ic]
  split at h
  ·rename_i v hv
   rw [hv]
   split at h
   ·rename_i h2
    simp only [Option.some.injEq,Prod.mk.injEq] at h
    obtain ⟨rfl,rfl⟩:=h
    exact RM.Hv (K:=fun a r=>K a (.t t::r)) h2 k
   ·cases h
  ·cases h
 | .IP t f,K,rd,h,k=>by
  simp only [RM.Hu] at h
  simp only [RM.Ic]
  split at h
  ·rename_i v hv
   rw [hv]
   split at h
   ·rename_i h2
    simp only [Option.some.injEq,Prod.mk.injEq] at h
    obtain ⟨rfl,rfl⟩:=h
    exact RM.Hv (K:=fun a r=>K a (.b t::r)) h2 k
   ·cases h
  ·cases h
 | .EB t f,K,rd,h,k=>by
  simp only [RM.Hu] at h
  simp only [RM.Ic]
  split at h
  ·rename_i v hv
   rw [hv]
   split at h
   ·rename_i h2
    simp only [Option.some.injEq,Prod.mk.injEq] at h
    obtain ⟨rfl,rfl⟩:=h
    exact RM.Hv (K:=fun a r=>K a (.x t::r)) h2 k
   ·cases h
  ·cases h
 | .assume p f,K,rd,h,k=>by
  simp only [RM.Hu] at h
  cases p with
  | true=>exact ⟨rfl,RM.Hv h k⟩
  | false=>cases h
abbrev JK:=FuncId->List PV->Ext->Option (Ct × Ext)
def F2(P:Program)(CF:JK):Prop:=∀f args e r e',CF f args e=some (r,e')->FQ P f=true/\C7 P f args e fun r1 e1=>r1=r/\e1=e'
structure Md where
 ro:TypeId->Option Bool
 row:TypeId->Bool
mutual
def PV.I4:PV->Bool
 | .xp _ _=>false
 | .mp _=>false
 | .UK _ _ _=>false
 | .N6 _ _ _=>false
 | .yp _ _ _=>false
 | .Wi _ _ _=>false
 | .Tx p=>p.I4
 | .ro cs _=>EH cs
 | .sl _ es=>Fl es
 | .fn _ a b=>EH a&&EH b
 | .iface _ p=>p.I4
 | .agg cs=>EH cs
 | .Bf cs=>EH cs
 | _=>true
def EH:List PV->Bool
 | []=>true
 | p::r=>p.I4&&EH r
def Fl:List (List PV)->Bool
 | []=>true
 | p::r=>EH p&&Fl r
end
theorem F3:∀ {l:List PV},EH l=true->∀ (j:Nat) (h:j<l.length),l[j].I4=true
 | [],_,j,h=>absurd h sM
 | p::r,h,0,_=>by simp only [EH,Bool.and_eq_true] at h; exact h.1
 | p::r,h,j+1,hj=>by simp only [EH,Bool.and_eq_true] at h; exact F3 h.2 j (by simpa using hj)
theorem PU:∀ {l:List (List PV)},Fl l=true->∀ (j:Nat) (h:j<l.length),EH l[j]=true
 | [],_,j,h=>absurd h sM
 | p::r,h,0,_=>by simp only [Fl,Bool.and_eq_true] at h; exact h.1
 | p::r,h,j+1,hj=>by simp only [Fl,Bool.and_eq_true] at h; exact PU h.2 j (by simpa using hj)
theorem BN.names{g g':Gh}{w:World}{p:PV}{v:Value}(hM:g'.M=g.M)(hn:p.I4=true)(h:BN g w p v):BN g' w p v:=by
 have A6s:∀b o,g.Fix b o->g'.Fix b o:=fun b o hf k hk=>hf k (by rw [<-hM]; exact hk)
 induction h with
 | bool b=>exact .bool b
 | int k n=>exact .int k n
 | str s=>exact .str s
 | GG=>exact .GG
 | ro cs off b o vs hc hf h1 hr ih=>
  simp only [PV.I4] at hn
  exact .ro cs off b o vs hc (fun j hj=>A6s _ _ (hf j hj)) h1 fun j hj=>ih j hj (F3 hn j hj)
 | xp n off b hx=>cases hn
 | A2=>exact .A2
 | slnil size=>exact .slnil size
 | sl size es a cap vs hle Dv Bk hc hf h1 hr ih=>
  simp only [PV.I4] at hn
  exact .sl size es a cap vs hle Dv Bk hc (fun i j hi hj=>A6s _ _ (hf i j hi hj)) h1 fun i j hi hj=>ih i j hi hj (F3 (PU hn i hi) j hj)
 | UK n size len b cap cur e h hh hs hle Dv=>cases hn
 | fn f first captured fv cv h1 h2 hf hc ih1 ih2=>
  simp only [PV.I4,Bool.and_eq_true] at hn
  exact .fn f first captured fv cv h1 h2 (fun j h h'=>ih1 j h h' (F3 hn.1 j h)) fun j h h'=>ih2 j h h' (F3 hn.2 j h)
 | Nt=>exact .Nt
 | iface t p v h ih=>exact .iface t p v (ih (by simpa [PV.I4] using hn))
 | FY=>exact .FY
 | agg cs vs h1 ho h ih=>
  simp only [PV.I4] at hn
  exact .agg cs vs h1 ho fun j h h'=>ih j h h' (F3 hn j h)
 | Bf cs vs h1 h ih=>
  simp only [PV.I4] at hn
  exact .Bf cs vs h1 fun j h h'=>ih j h h' (F3 hn j h)
 | XM=>exact .XM
 | mp n b h=>cases hn
 | N6 n c len b cap cur e h=>cases hn
 | yp n c off b h=>cases hn
 | Wi t f p v h ih=>cases hn
 | Tx p v h1 h ih=>
  simp only [PV.I4] at hn
  exact .Tx p v h1 (ih hn)
theorem lI:(GLB.all fun x=>EH x.2)=true:=by rfl
theorem YS{α:Type}{k:Nat}{v:α}:∀ {l:List (Nat × α)},lk l k=some v->(k,v)∈l
 | [],h=>by cases h
 | (a,b)::r,h=>by
  simp only [lk] at h
  split at h
  ·rename_i e; subst e; injection h with h; subst h; exact List.mem_cons_self
  ·exact List.mem_cons_of_mem _ (YS h)
theorem XN.names{g g':Gh}{w:World}(h:XN g w)(hM:g'.M=g.M):XN g' w:=fun k cs e=>by
 have h1:EH cs=true:=List.all_eq_true.1 lI _ (YS e)
 exact BN.names hM (by simpa [PV.I4] using h1) (h k cs e)
def Ct.I4:Ct->Bool
 | .ret p=>p.I4
 | .own _ _ es=>Fl es
 | .panic p=>p.I4
theorem C7.frame{P:Program}{f:FuncId}{args:List PV}{res:Ct}(ha:EH args=true)(hr:res.I4=true)(h:C7 P f args [] fun r e=>r=res/\e=[])(e:Ext):C7 P f args e fun r e'=>r=res/\e'=e:=by
 intro vs g l w J1 EE
 let g2:Gh:=⟨g.M,fun _=>none,fun _ _=>none⟩
 let l2:LG:=⟨fun _=>none,fun _=>none,fun _=>none⟩
 have h1:AG g2 w args vs:=⟨J1.1,fun j hj Cu=>BN.names (g:=g) rfl (F3 ha j hj) (J1.2 j hj Cu)⟩
 have h2:Tq [] g2 l2 w:={ ex:=fun x cs hx=>(by simp [lk] at hx),R2:=fun b o ho=>(by cases ho),uo:=fun p b hb=>(by cases hb),fresh:=⟨EE.fresh.1,fun _ _=>rfl,fun _ _ _=>rfl⟩,GH:=fun n b hb=>(by cases hb),only:=fun b o ho=>(by cases ho),Kf:=EE.Kf.names rfl }
 refine (h vs g2 l2 w h1 h2).mono ?_
 rintro en w' ⟨r,e1,g',l',⟨rfl,rfl⟩,Be,Sj,PX,Bk,WG,R3,os,tape,output⟩
 have hX:∀n,g'.X n=none:=fun n=>Sj.fresh.2.1 n (by simp [Eg])
 have PF:∀b o,l'.O b=some o->w.heap.size<=b:=fun b o ho=>by
  rcases R3 b o ho with h | h
  ·exact h
  ·cases h
 let g3:Gh:=⟨g'.M,g.X,g.Y⟩
 have Hq:∀b,b<w.heap.size->w'.heap[b]?=w.heap[b]?/\g'.M b=g.M b:=fun b hb=>WG b hb rfl
 have YT:C3 g w g3 w':=⟨fun n b hb=>hb,fun b o v hc hf=>by
   obtain ⟨k1,k2⟩:=PX.cell b o v hc (fun k hk=>hf k hk)
   exact ⟨k1,fun k hk=>k2 k hk⟩,fun b cur t hb=>PX.len b cur t hb,fun _ _ _ h=>h⟩
 refine ⟨r,e,g3,l,⟨rfl,rfl⟩,?_,?_,YT,Bk,fun b hb _=>Hq b hb,fun b o ho => .inr (by rw [ho]; rfl),os,tape,output⟩
 ·cases r with
  | ret p=>
   cases en <;> first | exact Be.elim | skip
   exact BN.names (g:=g') rfl hr Be
  | own te z es=>
   cases en <;> first | exact Be.elim | skip
   obtain ⟨Lv,Be⟩:=Be
   refine ⟨Lv,?_⟩
   rcases Be with (h | ⟨a,h,h'⟩) | ⟨b,cap,cur,k1,k2,k3,k4,k5,k6,k7,k8⟩
   ·exact .inl (.inl h)
   ·exact .inl (.inr ⟨a,h,BN.names (g:=g') rfl (by simpa [PV.I4,Ct.I4] using hr) h'⟩)
   ·have hb:w.heap.size<=b:=by
     rcases k2 with h | h
     ·exact h
     ·cases h
    refine .inr ⟨b,cap,cur,k1,.inl hb,k3,?_,k5,k6,k7,BN.names (g:=g') rfl (by simpa [PV.I4,Ct.I4] using hr) k8⟩
    cases GZ:l.O b with
    | none=>rfl
    | some o=>exact absurd (EE.R2 b o GZ) oM
  | panic p=>
   cases en <;> first | exact Be.elim | skip
   obtain ⟨v,hv,xU⟩:=Be
   exact ⟨v,hv,BN.names (g:=g') rfl hr xU⟩
 ·refine ⟨fun x cs hx=>?_,fun b o ho=>Nat.lt_of_lt_of_le (EE.R2 b o ho) Bk,EE.uo,⟨Sj.fresh.1,EE.fresh.2⟩,fun n b hb=>Nat.lt_of_lt_of_le (EE.GH n b hb) Bk,EE.only,EE.Kf.mono YT⟩
  obtain ⟨b,k1,k2,hE⟩:=EE.ex x cs hx
  have hb:=Hq b (EE.R2 b _ k2)
  refine ⟨b,k1.mono YT,k2,?_⟩
  rcases hE with ⟨k3,cur,t,k4,k5,k6⟩ | hE
  rotate_left
  ·exact .inr (hE.BR YT (fun _ _ _ h=>h) hb.2 hb.1)
  refine .inl ⟨hb.2.trans k3,cur,t,hb.1.trans k4,k5,fun j hj=>⟨(k6 j hj).1,(k6 j hj).2.1,?_⟩⟩
  refine (k6 j hj).2.2.BR YT (fun _ _ _=>rfl) fun b' GZ=>?_
  have Ac:=EE.R2 b' _ (EE.uo _ _ GZ)
  exact ⟨GZ,(Hq b' Ac).2,(Hq b' Ac).1⟩
def Sk(CF:JK)(o:Oper)(r:RM (FuncId × List PV))(s:S):Option (A4 × S):=match r.run s with
 | some (f,args)=>match CF f args s.ext with
  | some (.ret p,e)=>some (.normal,s.Nb o.dst (.v p) e)
  | some (.own te z es,e)=>some (.normal,s.Nb o.dst (.uniq te z es) e)
  | some (.panic p,e)=>some (.panic p,{ s with ext:=e })
  | none=>none
 | none=>none
def Sl(P:Program)(ro:TypeId->Option Bool)(n:Nat)(all:List Oper)(o:Oper)(s:S):Option (A4 × S):=match (act P ro n all o).run s with
 | some wr=>some (.normal,s.I9 wr)
 | none=>none
def WQ(n:Nat)(o:Oper)(cs:List PV)(s:S):Option (A4 × S):=match o.dst with
 | some d=>if d<n then some (.normal,{ s with tmps:=put s.tmps d (.v (.xp (Eg s.ext) 0)),ext:=put s.ext (Eg s.ext) (cs.map .v) }) else none
 | none=>none
def yK(e z:Nat)(x y:Operand):RM (List (List PV)):=ev x fun lx=>ev y fun ly=>match lx,Pz ly with
 | .v .A2,some (y0::ys)=>if okZ z ly=true then .ret (y0::ys) else .fail
 | _,_ => .fail
def yL(P:Program)(n:Nat)(o:Oper)(ty:TypeId)(x y:Operand)(s:S):Option (A4 × S):=match GJ P ty,o.dst with
 | some e,some d=>match Lu P e,FO P e,UO P e with
  | some (m+1),some (B+1),some zs=>if d<n/\zs.length=m+1 then (match (yK e (m+1) x y).run s with
   | some ys=>if ys.length * (B+1)<=140737488355328 then some (.normal,{ s with tmps:=put s.tmps d (.v (.UK (Eg s.ext) (m+1) ys.length)),ext:=put s.ext (Eg s.ext) (ys.flatten.map .v) }) else none
   | none=>none) else none
  | _,_,_=>none
 | _,_=>none
def A6t(x:Operand):RM PV:=FL x fun p=>match p with
 | .iface t q => .ret (PV.iface t q)
 | _ => .fail
def A6u(x:Operand):RM (List PV):=FL x fun p=>match p.cel with
 | some cs => .ret cs
 | none => .fail
def A6v(P:Program)(ty:TypeId)(n:Nat)(o:Oper)(s:S):Option (A4 × S):=match o.dst with
 | some d=>if d<n then some (.normal,{ s with tmps:=put s.tmps d (.v (.mp (Eg s.ext))),ext:=put s.ext (Eg s.ext) [.mm (lE (lD P ty))] }) else none
 | none=>none
def A6w(P:Program)(ty:TypeId)(n:Nat)(o:Oper)(m:Operand)(s:S):Option (A4 × S):=match (QW P ty).isSome,o.dst with
 | true,some d=>if d<n then (match (kW m).run s with
  | some i=>some (.normal,{ s with tmps:=put s.tmps d (.v (.xp (Eg s.ext) 0)),ext:=put s.ext (Eg s.ext) [.mm (.it i)] })
  | none=>none) else none
 | _,_=>none
def lJ(P:Program)(md:Md)(CF:JK)(n:Nat)(all:List Oper)(o:Oper)(s:S):Option (A4 × S):=match callee P o with
 | some r=>Sk CF o r s
 | none=>match o.op with
  | .alloc ty=>if (md.ro ty).isNone=true then (match UO P ty with | some zs=>WQ n o zs s | none=>none) else Sl P md.ro n all o s
  | .box ty x=>if (md.ro ty).isNone=true then (match (A6u x).run s with | some cs=>WQ n o cs s | none=>none) else Sl P md.ro n all o s
  | .panic x=>match (A6t x).run s with
   | some p=>some (.panic p,s)
   | none=>none
  | .makeMap ty none=>A6v P ty n o s
  | .range ty m=>A6w P ty n o m s
  | .call ⟨.builtin .append,⟨[x,y]⟩,⟨[ty,kY]⟩⟩=>if md.row ty=true/\ty=kY then yL P n o ty x y s else Sl P md.ro n all o s
  | _=>Sl P md.ro n all o s
section
variable {P:Program} {cx:Cx} {s s':S} {Q:A4->S->Prop} {K:S->Prop} {o:Oper} {pe:A4} {md:Md} {CF:JK} {all:List Oper}
def Pe(P:Program)(cx:Cx)(s:S)(o:Oper)(K:S->Prop)(Q:A4->S->Prop):Prop:=
 ∀g l a w,B4 cx s g l a w->o.wp P a w (fun a' w'=>∃s' g' l',K s'/\B4 cx s' g' l' a' w') (post cx Q)
theorem Sm{r:RM (FuncId × List PV)}(C8:F2 P CF)(ho:callee P o=some r)(hd:∀d,o.dst=some d->d<cx.n)(h:Sk CF o r s=some (pe,s'))(hk:Im K Q pe s'):Pe P cx s o K Q:=fun g l a w hs=>by
 unfold Sk at h
 split at h
 ·rename_i f args hr
  refine Gc ho hd hs (RM.FT hr ?_)
  split at h
  ·rename_i p e he
   obtain ⟨h1,h2⟩:=C8 _ _ _ _ _ he
   refine ⟨h1,h2.mono ?_⟩
   rintro _ _ ⟨rfl,rfl⟩
   simp only [Option.some.injEq,Prod.mk.injEq] at h
   obtain ⟨rfl,rfl⟩:=h
   exact hk
  ·rename_i p e he
   obtain ⟨h1,h2⟩:=C8 _ _ _ _ _ he
   refine ⟨h1,h2.mono ?_⟩
   rintro _ _ ⟨rfl,rfl⟩
   simp only [Option.some.injEq,Prod.mk.injEq] at h
   obtain ⟨rfl,rfl⟩:=h
   exact hk
  ·rename_i p e he
   obtain ⟨h1,h2⟩:=C8 _ _ _ _ _ he
   refine ⟨h1,h2.mono ?_⟩
   rintro _ _ ⟨rfl,rfl⟩
   simp only [Option.some.injEq,Prod.mk.injEq] at h
   obtain ⟨rfl,rfl⟩:=h
   exact hk
  ·cases h
 ·cases h
theorem Ie{ro:TypeId->Option Bool}(h:Sl P ro cx.n all o s=some (pe,s'))(hk:Im K Q pe s'):Pe P cx s o K Q:=fun g l a w hs=>by
 unfold Sl at h
 split at h
 ·rename_i wr hr
  simp only [Option.some.injEq,Prod.mk.injEq] at h
  obtain ⟨rfl,rfl⟩:=h
  refine CA ?_ (Gl (K:=fun x=>x=wr) hs (RM.FT hr rfl) (post cx Q))
  rintro a' w' ⟨wr',g',l',rfl,sm⟩
  exact ⟨_,g',l',hk,sm⟩
 ·cases h
theorem Ig{cs:List PV}{cur:Array Value}{ty:TypeId}{g:Gh}{l:LG}{a:Act}{w:World}(hs:B4 cx s g l a w)(hr:AG g w cs cur.toList)(Cg:∀u∈cur.toList,u.oneCell'=true)
  (By:(execOp a.eval o).run P w = .ok (.value (.pointer (some ⟨w.heap.size,0,none⟩))) (w.alloc (.cells cur ty)))
  (h:WQ cx.n o cs s=some (pe,s')) (hk:Im K Q pe s'):o.wp P a w (fun a' w'=>∃s' g' l',K s'/\B4 cx s' g' l' a' w') (post cx Q):=by
 unfold WQ at h
 split at h
 ·rename_i d hd
  split at h
  ·rename_i hn
   simp only [Option.some.injEq,Prod.mk.injEq] at h
   obtain ⟨rfl,rfl⟩:=h
   unfold Oper.wp
   rw [By,Oper.upon_value,hd]
   obtain ⟨k1,-⟩:=hs.YG cur ty (cs.map .v) (by simp [hr.1]) (fun j hj => .inr ⟨cs[j]'(by simpa using hj),by simp,by
    have To:j<cs.length:=by simpa using hj
    have Il:j<cur.toList.length:=by rw [<-hr.1]; exact To
    have:=hr.2 j To Il
    have Xq:j<cur.size:=by simpa using Il
    simpa [Xq] using this⟩) Cg
   exact ⟨_,_,_,hk,k1.set hn (.xp _ _ _ (Bl _ _ _))⟩
  ·cases h
 ·cases h
theorem V7{ty e:TypeId}{x y:Operand}{d m B:Nat}{zs:List PV}{g:Gh}{l:LG}{a:Act}{w:World}(ho:o.op = .call ⟨.builtin .append,#[x,y],#[ty,ty]⟩)(hd:o.dst=some d)(hn:d<cx.n)
  (he:GJ P ty=some e) (hm:Lu P e=some (m+1)) (hB:FO P e=some (B+1)) (hz:UO P e=some zs) (S8:zs.length=m+1) (hs:B4 cx s g l a w)
  (h:(yK e (m+1) x y).wp s fun ys=>ys.length * (B+1)<=140737488355328/\K { s with tmps:=put s.tmps d (.v (.UK (Eg s.ext) (m+1) ys.length)),ext:=put s.ext (Eg s.ext) (ys.flatten.map .v) }) :
  o.wp P a w (fun a' w'=>∃s' g' l',K s'/\B4 cx s' g' l' a' w') (post cx Q):=by
 have hu:=EL he
 obtain ⟨i,zv,z1,z2,z3⟩:=FA hz
 have Bk:i.size=m+1:=by simpa [Lu,z1] using hm
 have Xu:i.bytes=B+1:=by simpa [FO,z1] using hB
 have P0:zv.cells.size=m+1:=by rw [<-Array.length_toList,<-Fq z3]; exact S8
 obtain ⟨-,V8,-⟩:=EX (g:=g) (w:=w) z3
 obtain ⟨lx,ux,h1,r1,-⟩:=C6 hs h
 obtain ⟨ly,uy,h2,r2,-⟩:=C6 hs h1
 split at h2
 ·rename_i y0 ys KN
  split at h2
  ·rename_i EA
   obtain ⟨hb,h2⟩:=h2
   have p4:a.eval x = .slice none 0 0:=by generalize a.eval x=v at r1; cases r1; rfl
   obtain ⟨ay,c,WA,jP⟩:∃ay c,a.eval y = .slice (some ay) (y0::ys).length c/\BN g w (.sl (m+1) (y0::ys)) (a.eval y):=by
    rcases Nn KN EA r2 with ⟨h,-⟩ | h
    ·cases h
    ·exact h
   rw [WA] at jP
   obtain ⟨-,-,-,hyz,news,YU,IV,Ye⟩:=jP.flat
   generalize hY:(y0::ys)=Y at *
   have Hp:0<Y.length:=by rw [<-hY]; simp
   have Nk:∀u∈news,u.oneCell'=true:=fun u hu=>by
    obtain ⟨j,hj,e⟩:=List.getElem_of_mem hu
    exact (Ye j u (by rw [List.getElem?_eq_getElem hj,e])).2.2
   have hlen:Y.length<=140737488355328:=by
    have:=Nat.le_mul_of_pos_right Y.length (Nat.succ_pos B)
    simp only [Nat.succ_eq_add_one] at this
    omega
   have Xv:Y.length<=maxLen:=by simp only [maxLen]; omega
   have hr:=run_append_nil (P:=P) w ty o.type e i zv hu z1 z2 ay Y.length c news (by rw [Bk]; exact IV) (fun j v hj=>(Ye j v hj).1) Hp oM (by rw [Xu]; omega)
   have Cm:=grownCap_ge w Y.length 0 e
   have WB:=grownCap_le_maxLen w Y.length 0 e (by simpa using Xv)
   have hex:∀v' w',(Builtin.append_ #[ty,ty] o.type #[a.eval x,a.eval y]).run P w = .ok v' w'->(execOp a.eval o).run P w = .ok (.value v') w':=by
    intro v' w' hr
    simp only [execOp,ho,resolve,invoke,builtin,Sem.run_bind,Sem.run_pure,Result.andThen_ok,List.map_toArray,List.map_cons,List.map_nil,hr]
   rw [<-p4,<-WA] at hr
   unfold Oper.wp
   rw [hex _ _ hr,Oper.upon_value,hd]
   obtain ⟨QN,jO⟩:=hs.drew
   have O4:w.drew.heap.size=w.heap.size:=rfl
   obtain ⟨k1,-⟩:=QN.YG (news.toArray++Builtin.zeroCells zv.cells (grownCap w Y.length 0 e - Y.length)) e (Y.flatten.map .v)
    (by simp only [Array.size_append,List.size_toArray,size_zeroCells,P0,IV,List.length_map,BT _ Y hyz]; omega) (fun j hj=>by
     have Ac:j<Y.flatten.length:=by rw [List.length_map] at hj; exact hj
     refine .inr ⟨Y.flatten[j],List.getElem_map _,?_⟩
     have CE:j<news.length:=by rw [<-YU.1]; exact Ac
     have:=(YU.2 j Ac CE).mono jO
     simpa [Array.getD_eq_getD_getElem?,Array.getElem?_append,CE] using this) (fun u hu=>by
     simp only [Array.toList_append,List.mem_append] at hu
     rcases hu with hu | hu
     ·exact Nk u hu
     ·exact V8 u (O3 hu))
   rw [O4] at k1
   refine ⟨_,_,_,h2,k1.set hn (.UK _ _ _ _ _ _ _ (Bl _ _ _) (heap_alloc_new w.drew _) ?_ (by simpa using Cm) WB)⟩
   simp only [Array.size_append,List.size_toArray,size_zeroCells,P0,IV,<-Nat.add_mul]
   congr 1
   omega
  ·exact h2.elim
 ·exact h2.elim
theorem U4{ty:TypeId}{x y:Operand}(ho:o.op = .call ⟨.builtin .append,#[x,y],#[ty,ty]⟩)(h:yL P cx.n o ty x y s=some (pe,s'))(hk:Im K Q pe s'):Pe P cx s o K Q:=fun g l a w hs=>by
 unfold yL at h
 split at h
 ·rename_i e d he hd
  split at h
  ·rename_i m B zs hm hB hz
   split at h
   ·rename_i hc
    obtain ⟨hn,S8⟩:=hc
    split at h
    ·rename_i ys KN
     split at h
     ·rename_i hb
      simp only [Option.some.injEq,Prod.mk.injEq] at h
      obtain ⟨rfl,rfl⟩:=h
      exact V7 ho hd hn he hm hB hz S8 hs (RM.FT KN ⟨hb,hk⟩)
     ·cases h
    ·cases h
   ·cases h
  ·cases h
 ·cases h
theorem LL(C8:F2 P CF)(hd:∀d,o.dst=some d->d<cx.n)(h:lJ P md CF cx.n all o s=some (pe,s'))(hk:Im K Q pe s'):Pe P cx s o K Q:=by
 unfold lJ at h
 split at h
 ·rename_i r hr; exact Sm C8 hr hd h hk
 ·split at h
  ·rename_i ty JA
   split at h
   ·split at h
    ·rename_i zs hz
     intro g l a w hs
     obtain ⟨i,z,h1,h2,h3⟩:=FA hz
     obtain ⟨hr,Cg,-⟩:=EX (g:=g) (w:=w) h3
     exact Ig (ty:=ty) hs hr Cg (by simp [execOp,JA,Instr.alloc,zeroValue,typeInfo,h1,h2,newVar,newRow]) h hk
    ·cases h
   ·exact Ie h hk
  ·rename_i ty x JA
   split at h
   ·split at h
    ·rename_i cs D3
     intro g l a w hs
     obtain ⟨p,h1,r1⟩:=AH hs (RM.FT (K:=fun x=>x=cs) D3 rfl)
     split at h1
     ·rename_i KM hc
      have UR:KM=cs:=h1
      subst UR
      obtain ⟨hr,Cg⟩:=Jy hc r1
      exact Ig (ty:=ty) hs hr Cg (by simp [execOp,JA,Instr.box,newVar,newRow]) h hk
     ·exact h1.elim
    ·cases h
   ·exact Ie h hk
  ·rename_i x JA
   split at h
   ·rename_i p hp
    simp only [Option.some.injEq,Prod.mk.injEq] at h
    obtain ⟨rfl,rfl⟩:=h
    intro g l a w hs
    obtain ⟨p',h1,r1⟩:=AH hs (RM.FT (K:=fun x=>x=p) hp rfl)
    split at h1
    ·rename_i t q
     have UR:PV.iface t q=p:=h1
     subst UR
     have By:∀v,a.eval x = .iface t v->(execOp a.eval o).run P w = .halt (.panic (.iface t v)) w:=fun v hv=>by
      simp [execOp,JA,hv,Instr.panic,goPanic]
     generalize a.eval x=vx at r1 By
     cases r1 with
     | iface _ _ v hv=>
      unfold Oper.wp
      rw [By v rfl,Oper.upon_panic]
      exact ⟨.panic (.iface t q),s,g,l,hk,⟨_,rfl,.iface _ _ _ hv⟩,hs⟩
    ·exact h1.elim
   ·cases h
  ·rename_i ty JA
   unfold A6v at h
   intro g l a w hs
   split at h
   ·rename_i d jS
    split at h
    ·rename_i hn
     simp only [Option.some.injEq,Prod.mk.injEq] at h
     obtain ⟨rfl,rfl⟩:=h
     unfold Oper.wp
     rw [show (execOp a.eval o).run P w = .ok (.value (.map (some w.heap.size))) (w.alloc (.map #[] 0)) by simp [execOp,JA,Instr.makeMap,Result.andThen],Oper.upon_value,jS]
     obtain ⟨k1,-⟩:=hs.YI (lD P ty)
     exact ⟨_,_,_,hk,k1.set hn (.mp _ _ (Bl _ _ _))⟩
    ·cases h
   ·cases h
  ·rename_i ty m JA
   unfold A6w at h
   intro g l a w hs
   split at h
   ·rename_i d hT jS
    split at h
    ·rename_i hn
     split at h
     ·rename_i i hi
      simp only [Option.some.injEq,Prod.mk.injEq] at h
      obtain ⟨rfl,rfl⟩:=h
      obtain ⟨i',bm,clock,rfl,hX,Ac,By⟩:=V2 JA hT hs (RM.FT (K:=fun j=>j=i) hi rfl)
      unfold Oper.wp
      rw [By,Oper.upon_value,jS]
      obtain ⟨k1,-⟩:=hs.oW hX Ac
      exact ⟨_,_,_,hk,k1.set hn (.xp _ _ _ (Bl _ _ _))⟩
     ·cases h
    ·cases h
   ·cases h
  ·rename_i x y ty kY JA
   split at h
   ·rename_i hc
    obtain ⟨-,rfl⟩:=hc
    exact U4 JA h hk
   ·exact Ie h hk
  ·exact Ie h hk
def Mq(all:List Oper)(o:Oper)(s:S):Option Bool:=match o.guard with
 | none=>some true
 | some (j,want)=>match (all[j]?).bind (·.dst) with
  | some dj=>(lk s.tmps dj).bind (NV want)
  | none=>none
def evL(P:Program)(md:Md)(CF:JK)(n:Nat)(all:List Oper):List Oper->S->Option (A4 × S)
 | [],s=>some (.normal,s)
 | o::rest,s=>match Mq all o s with
  | some true=>match lJ P md CF n all o s with
   | some (.normal,s')=>evL P md CF n all rest s'
   | r=>r
  | some false=>evL P md CF n all rest (s.skip o)
  | none=>none
theorem E4{b:Bool}{g:Gh}{l:LG}{a:Act}{w:World}(Bv:F0 cx.n all=true)(h:Mq all o s=some b)(hs:B4 cx s g l a w):Region.wanted o (yielded all.toArray a.tmps)=b:=by
 unfold Mq at h
 split at h
 ·rename_i hg
  simp only [Option.some.injEq] at h
  subst h
  simp [Region.wanted,hg]
 ·rename_i j want hg
  split at h
  ·rename_i dj U3
   simp only [Option.bind_eq_some_iff] at h
   obtain ⟨lv,h1,h2⟩:=h
   have YE:dj<cx.n:=by
    simp only [Option.bind_eq_some_iff] at U3
    obtain ⟨oj,h1,h2⟩:=U3
    exact DA Bv (List.mem_of_getElem? h1) dj h2
   simp only [Region.wanted,hg]
   exact Kj (by simpa using U3) YE hs h1 h2
  ·cases h
theorem LM(C8:F2 P CF)(Bv:F0 cx.n all=true):∀ {ls:List Oper} {s:S},(∀o∈ls,o∈all)->evL P md CF cx.n all ls s=some (pe,s')->Q pe s'->PL P cx all.toArray ls s Q
 | [],s,_,h,hq=>by
  simp only [evL,Option.some.injEq,Prod.mk.injEq] at h
  obtain ⟨rfl,rfl⟩:=h
  exact NU hq
 | o::rest,s,hm,h,hq=>by
  have hd:∀d,o.dst=some d->d<cx.n:=DA Bv (hm o sM)
  have Fk:∀o∈rest,o∈all:=fun o ho=>hm o (List.mem_cons_of_mem _ ho)
  intro g l a w hs
  simp only [evL] at h
  split at h
  ·rename_i hw
   have E3:=E4 Bv hw hs
   refine wpList_step fun K hK=>?_
   rw [iP E3]
   split at h
   ·rename_i s1 h1
    refine CA ?_ (LL (Q:=Q) (K:=fun s'=>PL P cx all.toArray rest s' Q) C8 hd h1 (LM C8 Bv Fk h hq) g l a w hs)
    rintro a' w' ⟨s',g',l',hp,sm⟩
    exact hK _ _ (hp g' l' a' w' sm)
   ·rename_i De
    refine CA ?_ (LL (Q:=Q) (K:=fun s'=>PL P cx all.toArray rest s' Q) C8 hd h (by
     cases pe with
     | normal=>exact absurd h (De _)
     | _=>exact hq) g l a w hs)
    rintro a' w' ⟨s',g',l',hp,sm⟩
    exact hK _ _ (hp g' l' a' w' sm)
  ·rename_i hw
   have E3:=E4 Bv hw hs
   refine wpList_step fun K hK=>?_
   rw [iN (by rw [E3]; simp)]
   refine hK _ _ (LM C8 Bv Fk h hq g l _ w ?_)
   cases FZ:o.dst with
   | none=>simp only [S.skip,FZ,Act.put]; exact hs
   | some d=>
    simp only [S.skip,FZ]
    exact hs.set (hd d FZ) (.Bf [] [] rfl fun j h=>by simp at h)
  ·cases h
def p5(CF:JK)(f:FuncId)(args:List PV):Option LV:=match EH args with
 | true=>match CF f args [] with
  | some (r,[])=>match r.I4 with
   | true=>r.lv
   | false=>none
  | _=>none
 | false=>none
def V9(P:Program)(ro:TypeId->Option Bool)(CF:JK)(n:Nat)(all:List Oper)(o:Oper)(gr:List Loc)(s:S):Option (DS × Option Ext × S):=match callee P o with
 | some r=>match r.Hu s with
  | some ((f,args),rd)=>match p5 CF f args with
   | some lv=>some (⟨gr++rd,DC o lv,false⟩,none,s.DB (DC o lv))
   | none=>match CF f args s.ext with
    | some (res,e')=>match res.lv with
     | some lv=>some (⟨gr++rd,DC o lv,true⟩,some e',{ s.DB (DC o lv) with ext:=e' })
     | none=>none
    | none=>none
  | none=>none
 | none=>match (act P ro n all o).Hu s with
  | some (wr,rd)=>if wr.any R8=true then some (⟨gr++rd,wr.filter D9,true⟩,some (IQ s.ext wr),{ s.DB (wr.filter D9) with ext:=IQ s.ext wr })
   else some (⟨gr++rd,wr,false⟩,none,s.DB wr)
  | none=>none
theorem Mr{ro:TypeId->Option Bool}{n:Nat}{gr:List Loc}{d:DS}{x:Option Ext}{K:DS->Option Ext->S->Prop}(C8:F2 P CF)(h:V9 P ro CF n all o gr s=some (d,x,s'))(hk:K d x s'):Gs P ro n all o gr s K:=by
 unfold V9 at h
 unfold Gs
 split at h
 ·rename_i r hr
  split at h
  ·rename_i f args rd By
   rw [hr]
   refine RM.Hv By ?_
   split at h
   ·rename_i lv GD
    simp only [Option.some.injEq,Prod.mk.injEq] at h
    obtain ⟨rfl,rfl,rfl⟩:=h
    unfold p5 at GD
    split at GD
    ·rename_i hna
     split at GD
     ·rename_i res ho
      split at GD
      ·rename_i YU
       obtain ⟨h1,h2⟩:=C8 _ _ _ _ _ ho
       exact ⟨h1,.inl ⟨res,lv,GD,fun e=>C7.frame hna YU h2 e,hk⟩⟩
      ·cases GD
     ·cases GD
    ·cases GD
   ·split at h
    ·rename_i res e' ho
     split at h
     ·rename_i lv GD
      simp only [Option.some.injEq,Prod.mk.injEq] at h
      obtain ⟨rfl,rfl,rfl⟩:=h
      obtain ⟨h1,h2⟩:=C8 _ _ _ _ _ ho
      exact ⟨h1,.inr ⟨res,lv,e',GD,h2,hk⟩⟩
     ·cases h
    ·cases h
  ·cases h
 ·rename_i hr
  split at h
  ·rename_i wr rd By
   rw [hr]
   refine RM.Hv By ?_
   split at h
   ·rename_i hx
    simp only [Option.some.injEq,Prod.mk.injEq] at h
    obtain ⟨rfl,rfl,rfl⟩:=h
    rw [iP hx]
    exact hk
   ·rename_i hx
    simp only [Option.some.injEq,Prod.mk.injEq] at h
    obtain ⟨rfl,rfl,rfl⟩:=h
    rw [iN hx]
    exact hk
  ·cases h
def yM(P:Program)(ro:TypeId->Option Bool)(CF:JK)(n:Nat)(all:List Oper):List Oper->S->Option (List DS × List Ext × S)
 | [],s=>some ([],[],s)
 | o::rest,s=>match o.guard with
  | none=>match V9 P ro CF n all o [] s with
   | some (d,x,s')=>match yM P ro CF n all rest s' with
    | some (ds,xs,t)=>some (d::ds,x.toList++xs,t)
    | none=>none
   | none=>none
  | some (j,want)=>match (all[j]?).bind (·.dst) with
   | some dj=>match (lk s.tmps dj).bind (NV want) with
    | some true=>match V9 P ro CF n all o [.t dj] s with
     | some (d,x,s')=>match yM P ro CF n all rest s' with
      | some (ds,xs,t)=>some (d::ds,x.toList++xs,t)
      | none=>none
     | none=>none
    | some false=>match yM P ro CF n all rest (s.DB (DC o (.v (.Bf [])))) with
     | some (ds,xs,t)=>some (⟨[.t dj],DC o (.v (.Bf [])),false⟩::ds,xs,t)
     | none=>none
    | none=>none
   | none=>none
theorem JC{ro:TypeId->Option Bool}{n:Nat}(C8:F2 P CF):∀ {ls:List Oper} {s t:S} {ds:List DS} {xs:List Ext} {K:List DS->List Ext->S->Prop},yM P ro CF n all ls s=some (ds,xs,t)->K ds xs t->oU P ro n all ls s K
 | [],s,t,ds,xs,K,h,hk=>by
  simp only [yM,Option.some.injEq,Prod.mk.injEq] at h
  obtain ⟨rfl,rfl,rfl⟩:=h
  exact hk
 | o::rest,s,t,ds,xs,K,h,hk=>by
  simp only [yM] at h
  simp only [oU]
  split at h
  ·rename_i hg
   rw [hg]
   split at h
   ·rename_i d x s1 h1
    split at h
    ·rename_i ds1 xs1 t1 h2
     simp only [Option.some.injEq,Prod.mk.injEq] at h
     obtain ⟨rfl,rfl,rfl⟩:=h
     exact Mr C8 h1 (JC C8 (K:=fun ds xs t=>K (d::ds) (x.toList++xs) t) h2 hk)
    ·cases h
   ·cases h
  ·rename_i j want hg
   rw [hg]
   split at h
   ·rename_i dj U3
    simp only [U3]
    split at h
    ·rename_i hb
     simp only [hb,if_true]
     split at h
     ·rename_i d x s1 h1
      split at h
      ·rename_i ds1 xs1 t1 h2
       simp only [Option.some.injEq,Prod.mk.injEq] at h
       obtain ⟨rfl,rfl,rfl⟩:=h
       exact Mr C8 h1 (JC C8 (K:=fun ds xs t=>K (d::ds) (x.toList++xs) t) h2 hk)
      ·cases h
     ·cases h
    ·rename_i hb
     simp only [hb,Bool.false_eq_true,if_false]
     split at h
     ·rename_i ds1 xs1 t1 h2
      simp only [Option.some.injEq,Prod.mk.injEq] at h
      obtain ⟨rfl,rfl,rfl⟩:=h
      exact JC C8 (K:=fun ds xs t=>K (⟨[.t dj],DC o (.v (.Bf [])),false⟩::ds) xs t) h2 hk
     ·cases h
    ·cases h
   ·cases h
def evR(P:Program)(md:Md)(CF:JK)(n:Nat)(ops:List Oper)(draw:Bool)(s:S):Option (A4 × S):=match draw with
 | false=>evL P md CF n ops ops s
 | true=>match yM P md.ro CF n ops ops s with
  | some (B2,_,t)=>if Xw ops B2 s.tmps=true then some (.normal,t) else none
  | none=>none
theorem PY{id:Nat}{ops:Array Oper}{draw:Bool}(C8:F2 P CF)(hm:P.follows .mixedOrders=true)(Bv:F0 cx.n ops.toList=true)(h:evR P md CF cx.n ops.toList draw s=some (pe,s'))(hq:Q pe s'):PW P cx (.region id ops draw) s Q:=by
 obtain ⟨ops⟩:=ops
 cases draw with
 | false=>exact fun g l a w hs=>wp_region_lit (LM C8 Bv (fun _ h=>h) h hq g l a w hs)
 | true=>
  simp only [evR] at h
  split at h
  ·rename_i B2 xs t hd
   split at h
   ·rename_i hc
    simp only [Option.some.injEq,Prod.mk.injEq] at h
    obtain ⟨rfl,rfl⟩:=h
    exact YF md.ro cx.n hm rfl Bv (JC C8 hd ⟨hc,hq⟩)
   ·cases h
  ·cases h
end
def O5(body:S->Option (A4 × S)):Nat->S->Option (A4 × S)
 | 0,_=>none
 | n+1,s=>match body s with
  | some (.normal,s')=>O5 body n s'
  | r=>r
def LN(P:Program)(md:Md)(CF:JK)(n fl:Nat):Code->S->Option (A4 × S)
 | .skip,s=>some (.normal,s)
 | .region _ ops draw,s=>evR P md CF n ops.toList draw s
 | .seq a b,s=>match LN P md CF n fl a s with
  | some (.normal,s')=>LN P md CF n fl b s'
  | r=>r
 | .cond (.tmp t) x y,s=>match lk s.tmps t with
  | some (.v (.bool true))=>LN P md CF n fl x s
  | some (.v (.bool false))=>LN P md CF n fl y s
  | _=>none
 | .block id c,s=>match LN P md CF n fl c s with
  | some (.exit RR,s')=>if RR=id then some (.normal,s') else some (.exit RR,s')
  | r=>r
 | .loop c,s=>O5 (LN P md CF n fl c) fl s
 | .exit id,s=>some (.exit id,s)
 | .ret,s=>some (.ret,s)
 | _,_=>none
def BU(n:Nat):Code->Bool
 | .region _ ops _=>F0 n ops.toList
 | .seq a b=>BU n a&&BU n b
 | .cond _ x y=>BU n x&&BU n y
 | .block _ c=>BU n c
 | .loop c=>BU n c
 | _=>true
section
variable {P:Program} {cx:Cx} {md:Md} {CF:JK} {fl:Nat}
theorem O6{α:Type}{c:Code}{s:S}{Q:A4->S->Prop}(I:α->S)(μ:α->Nat)(x₀:α)(h₀:I x₀=s)
  (round:∀x,PW P cx c (I x) (Im (fun s'=>∃y,μ y<μ x/\I y=s') Q)):PW P cx (.loop c) s Q:=fun g l a w hs=>by
 refine wp_loop_ghost (fun n a w=>∃x g l,μ x=n/\B4 cx (I x) g l a w) (μ x₀) ⟨x₀,g,l,rfl,by rw [h₀]; exact hs⟩ ?_
 rintro n a w ⟨x,g,l,rfl,sm⟩
 refine wp_mono (round x g l a w sm) ?_
 rintro e a' w' ⟨pe,s',g',l',q,er,sm'⟩
 cases pe <;> cases e <;> first | exact er.elim | skip
 ·obtain ⟨y,Ac,rfl⟩:=q
  exact ⟨μ y,Ac,y,g',l',rfl,sm'⟩
 ·exact ⟨_,s',g',l',q,er,sm'⟩
 ·exact ⟨_,s',g',l',q,er,sm'⟩
 ·exact ⟨_,s',g',l',q,er,sm'⟩
theorem Mt{c:Code}{body:S->Option (A4 × S)}(Va:∀ {s:S} {pe:A4} {s':S} {Q:A4->S->Prop},body s=some (pe,s')->Q pe s'->PW P cx c s Q){n:Nat}{s s':S}{pe:A4}{Q:A4->S->Prop}
  (h:O5 body n s=some (pe,s')) (hq:Q pe s'):PW P cx (.loop c) s Q:=by
 refine O6 (α:={ x:Nat × S // O5 body x.1 x.2=some (pe,s') }) (fun x=>x.1.2) (fun x=>x.1.1) ⟨(n,s),h⟩ rfl ?_
 rintro ⟨⟨n,s⟩,h⟩
 cases n with
 | zero=>cases h
 | succ n=>
  simp only [O5] at h
  split at h
  ·rename_i s1 h1
   exact Va h1 ⟨⟨(n,s1),h⟩,Nat.lt_succ_self _,rfl⟩
  ·rename_i De
   refine Va h ?_
   cases pe with
   | normal=>exact absurd h (De _)
   | _=>exact hq
theorem Cq(C8:F2 P CF)(hm:P.follows .mixedOrders=true):∀ (c:Code) {s s':S} {pe:A4} {Q:A4->S->Prop},BU cx.n c=true->LN P md CF cx.n fl c s=some (pe,s')->Q pe s'->PW P cx c s Q
 | .skip,s,s',pe,Q,_,h,hq=>by
  simp only [LN,Option.some.injEq,Prod.mk.injEq] at h
  obtain ⟨rfl,rfl⟩:=h
  exact QE hq
 | .region _ ops draw,s,s',pe,Q,hc,h,hq=>PY C8 hm hc h hq
 | .seq a b,s,s',pe,Q,hc,h,hq=>by
  simp only [BU,Bool.and_eq_true] at hc
  simp only [LN] at h
  refine I8 ?_
  split at h
  ·rename_i s1 h1
   exact Cq C8 hm a hc.1 h1 (Cq C8 hm b hc.2 h hq)
  ·rename_i De
   refine Cq C8 hm a hc.1 h ?_
   cases pe with
   | normal=>exact absurd h (De _)
   | _=>exact hq
 | .cond x a b,s,s',pe,Q,hc,h,hq=>by
  simp only [BU,Bool.and_eq_true] at hc
  cases x with
  | tmp t=>
   simp only [LN] at h
   split at h
   ·rename_i ht
    exact KK ht (fun _=>Cq C8 hm a hc.1 h hq) (fun e=>by cases e)
   ·rename_i ht
    exact KK ht (fun e=>by cases e) (fun _=>Cq C8 hm b hc.2 h hq)
   ·cases h
  | const _=>simp only [LN] at h; cases h
  | global _=>simp only [LN] at h; cases h
  | func _=>simp only [LN] at h; cases h
 | .block id c,s,s',pe,Q,hc,h,hq=>by
  simp only [BU] at hc
  simp only [LN] at h
  refine Ny ?_
  split at h
  ·rename_i RR s1 h1
   refine Cq C8 hm c hc h1 ?_
   simp only [Nx]
   split at h
   ·rename_i e
    simp only [Option.some.injEq,Prod.mk.injEq] at h
    obtain ⟨rfl,rfl⟩:=h
    rw [iP e]
    exact hq
   ·rename_i e
    simp only [Option.some.injEq,Prod.mk.injEq] at h
    obtain ⟨rfl,rfl⟩:=h
    rw [iN e]
    exact hq
  ·rename_i De
   refine Cq C8 hm c hc h ?_
   cases pe with
   | exit i=>exact absurd h (De _ _)
   | _=>exact hq
 | .loop c,s,s',pe,Q,hc,h,hq=>by
  simp only [BU] at hc
  simp only [LN] at h
  exact Mt (fun h hq=>Cq C8 hm c hc h hq) h hq
 | .exit id,s,s',pe,Q,_,h,hq=>by
  simp only [LN,Option.some.injEq,Prod.mk.injEq] at h
  obtain ⟨rfl,rfl⟩:=h
  exact QF hq
 | .ret,s,s',pe,Q,_,h,hq=>by
  simp only [LN,Option.some.injEq,Prod.mk.injEq] at h
  obtain ⟨rfl,rfl⟩:=h
  exact TF hq
 | .rangeFunc _ _ _ _,_,_,_,_,_,h,_=>by simp only [LN] at h; cases h
 | .scope _,_,_,_,_,_,h,_=>by simp only [LN] at h; cases h
 | .label _,_,_,_,_,_,h,_=>by simp only [LN] at h; cases h
 | .goto _,_,_,_,_,_,h,_=>by simp only [LN] at h; cases h
 | .refuse _,_,_,_,_,_,h,_=>by simp only [LN] at h; cases h
end
def U5(P:Program)(res:List ResultVar):A4->S->Option (Ct × Ext)
 | .panic p,s=>some (.panic p,s.ext)
 | .exit _,_=>none
 | .normal,s=>match FC P s res with
  | some p=>some (.ret p,s.ext)
  | none=>none
 | .ret,s=>match res with
  | [.tmp t]=>match lk s.tmps t with
   | some (.uniq e z es)=>if e<1000000 then some (.own e z es,s.ext) else none
   | some lv=>match Xs lv with
    | some p=>some (.ret p,s.ext)
    | none=>none
   | none=>none
  | res=>match FC P s res with
   | some p=>some (.ret p,s.ext)
   | none=>none
theorem Kq{P:Program}{res:List ResultVar}{pe:A4}{s:S}{r:Ct}{e:Ext}(h:U5 P res pe s=some (r,e)):A6l P res (fun r1 e1=>r1=r/\e1=e) pe s:=by
 cases pe with
 | panic p=>
  simp only [U5,Option.some.injEq,Prod.mk.injEq] at h
  obtain ⟨rfl,rfl⟩:=h
  exact ⟨rfl,rfl⟩
 | exit _=>cases h
 | normal=>
  simp only [U5] at h
  split at h
  ·rename_i p hp
   simp only [Option.some.injEq,Prod.mk.injEq] at h
   obtain ⟨rfl,rfl⟩:=h
   exact ⟨p,hp,rfl,rfl⟩
  ·cases h
 | ret=>
  simp only [U5] at h
  split at h
  ·rename_i t
   split at h
   ·rename_i e0 z es hl
    split at h
    case isFalse=>cases h
    rename_i Lv
    simp only [Option.some.injEq,Prod.mk.injEq] at h
    obtain ⟨rfl,rfl⟩:=h
    exact .inr ⟨t,e0,z,es,rfl,hl,Lv,rfl,rfl⟩
   ·rename_i lv _ hl
    split at h
    ·rename_i p hp
     simp only [Option.some.injEq,Prod.mk.injEq] at h
     obtain ⟨rfl,rfl⟩:=h
     exact .inl ⟨p,by simp [FC,PG,Yv,hl,hp],rfl,rfl⟩
    ·cases h
   ·cases h
  ·split at h
   ·rename_i p hp
    simp only [Option.some.injEq,Prod.mk.injEq] at h
    obtain ⟨rfl,rfl⟩:=h
    exact .inl ⟨p,hp,rfl,rfl⟩
   ·cases h
abbrev jT:=FuncId->List PV->Ext->PM->Option (PM × Ext)
def Vb(P:Program)(P1:jT):Prop:=∀f args e m m' e',P1 f args e m=some (m',e')->FQ P f=true/\EG P f args e m fun m1 e1=>m1=m'/\e1=e'
inductive Shape where
 | plain
 | defers (r0:Code) (mk df:Oper) (t:Nat) (y:Code)
def shape:Code->Shape
 | .seq r0 (.seq (.region _ ⟨[mk,df]⟩ false) y)=>match df.op with
  | .defer ⟨.value (.tmp t),⟨[]⟩,_⟩ => .defers r0 mk df t y
  | _ => .plain
 | _ => .plain
theorem WR{c r0 y:Code}{mk df:Oper}{t:Nat}(h:shape c = .defers r0 mk df t y):∃id ts,c = .seq r0 (.seq (.region id #[mk,df] false) y)/\df.op = .defer ⟨.value (.tmp t),#[],ts⟩:=by
 unfold shape at h
 split at h
 ·split at h
  ·rename_i JA
   simp only [Shape.defers.injEq] at h
   obtain ⟨rfl,rfl,rfl,rfl,rfl⟩:=h
   exact ⟨_,_,rfl,JA⟩
  ·cases h
 ·cases h
def lK(P:Program)(res:List ResultVar)(s:S)(e:Ext):Option (Ct × Ext):=match FC P { s with ext:=e } res with
 | some q=>some (.ret q,e)
 | none=>none
def lM(P:Program)(md:Md)(CF:JK)(P1:jT)(fl:Nat)(fn:Func)(args:List PV)(e:Ext):Option (Ct × Ext):=match fn.body with
 | none=>none
 | some c=>if args.length<=fn.ntmps then (match shape c with
  | .plain=>match LN P md CF fn.ntmps fl c (FR args e) with
   | some (pe,s)=>U5 P fn.results.toList pe s
   | none=>none
  | .defers r0 mk df t y=>if mk.guard.isNone&&df.guard.isNone&&df.dst.isNone then (match LN P md CF fn.ntmps fl r0 (FR args e) with
   | some (.normal,s)=>match (act P md.ro fn.ntmps [mk,df] mk).run s with
    | some wr=>match lk (s.I9 wr).tmps t with
     | some (.v (.fn (.func Fi) first cap))=>match LN P md CF fn.ntmps fl y (s.I9 wr) with
      | some (.panic p,s2)=>match P1 Fi (first++cap) s2.ext (.pan p) with
       | some (.lF,e')=>lK P fn.results.toList s2 e'
       | _=>none
      | some (.exit _,_)=>none
      | some (_,s2)=>match P1 Fi (first++cap) s2.ext .ret with
       | some (.ret,e')=>lK P fn.results.toList s2 e'
       | _=>none
      | none=>none
     | _=>none
    | none=>none
   | _=>none) else none) else none
def O7:Code->Option (Nat × Nat × Code)
 | .seq (.region _ ⟨[o0,o1]⟩ false) y=>match o0.op,o1.op,o0.dst,o1.dst with
  | .call ⟨.builtin .recover,⟨[]⟩,_⟩,.assign (.tmp t),some t0,some t1=>if t=t0/\o0.guard.isNone=true/\o1.guard.isNone=true then some (t0,t1,y) else none
  | _,_,_,_=>none
 | _=>none
def U6(P:Program)(md:Md)(CF:JK)(fl:Nat)(fn:Func)(args:List PV)(e:Ext)(m:PM):Option (PM × Ext):=match fn.body with
 | none=>none
 | some c=>match O7 c with
  | none=>none
  | some (t0,t1,y)=>if args.length<=fn.ntmps/\t0<fn.ntmps/\t1<fn.ntmps then (match m with
   | .lF=>none
   | .ret=>match LN P md CF fn.ntmps fl y ⟨put (put (Sf 0 args) t0 (.v .FY)) t1 (.v .FY),[],e⟩ with
    | some (.normal,s)=>if (FC P s fn.results.toList).isSome=true then some (.ret,s.ext) else none
    | some (.ret,s)=>if (FC P s fn.results.toList).isSome=true then some (.ret,s.ext) else none
    | _=>none
   | .pan p=>match LN P md CF fn.ntmps fl y ⟨put (put (Sf 0 args) t0 (.v p)) t1 (.v p),[],e⟩ with
    | some (.normal,s)=>if (FC P s fn.results.toList).isSome=true then some (.lF,s.ext) else none
    | some (.ret,s)=>if (FC P s fn.results.toList).isSome=true then some (.lF,s.ext) else none
    | _=>none) else none
section
variable {P:Program} {md:Md} {CF:JK} {P1:jT} {fl:Nat} {f:FuncId} {fn:Func} {args:List PV} {e e':Ext} {r:Ct}
def KW(fn:Func):Bool:=match fn.body with
 | some c=>BU fn.ntmps c
 | none=>false
theorem U7(C8:F2 P CF)(YV:Vb P P1)(hm:P.follows .mixedOrders=true)(hf:P.funcs[f]?=some fn)(EA:KW fn=true)(h:lM P md CF P1 fl fn args e=some (r,e')):C7 P f args e fun r1 e1=>r1=r/\e1=e':=by
 unfold lM at h
 unfold KW at EA
 split at h
 ·cases h
 ·rename_i c hb
  rw [hb] at EA
  simp only at EA
  split at h
  ·rename_i hn
   split at h
   ·split at h
    ·rename_i pe s he
     refine C7.enter hf hb hn fun cx Aw NM=>?_
     rw [<-Aw] at EA he
     exact Cq C8 hm c EA he (Kq h)
    ·cases h
   ·rename_i r0 mk df t y KF
    obtain ⟨id,ts,rfl,yH⟩:=WR KF
    simp only [BU,Bool.and_eq_true] at EA
    split at h
    ·rename_i hg
     simp only [Bool.and_eq_true,Option.isNone_iff_eq_none] at hg
     split at h
     ·rename_i s he
      split at h
      ·rename_i wr QO
       split at h
       ·rename_i Fi first cap l7
        have hgo:∀ {m:PM} {m':PM} {e1:Ext},P1 Fi (first++cap) e1 m=some (m',e')->FQ P Fi=true:=fun h=>(YV _ _ _ _ _ _ h).1
        have key:FQ P Fi=true/\∀YL:Cx,YL.n=fn.ntmps->PW P YL y (s.I9 wr) (yF P fn.results.toList (fun r1 e1=>r1=r/\e1=e') Fi (first++cap)):=by
         have Be:∀ {s2:S} {e1:Ext},lK P fn.results.toList s2 e1=some (r,e')->∃q,FC P { s2 with ext:=e1 } fn.results.toList=some q/\r = .ret q/\e'=e1:=by
          intro s2 e1 h
          unfold lK at h
          split at h
          ·rename_i q hq
           simp only [Option.some.injEq,Prod.mk.injEq] at h
           exact ⟨q,hq,h.1.symm,h.2.symm⟩
          ·cases h
         split at h
         ·rename_i p s2 hy
          split at h
          ·rename_i e1 hd
           obtain ⟨q,h1,rfl,rfl⟩:=Be h
           obtain ⟨k1,k2⟩:=YV _ _ _ _ _ _ hd
           refine ⟨k1,fun YL YW=>?_⟩
           rw [<-YW] at EA hy
           refine Cq C8 hm y EA.2.2 hy ?_
           exact fun vs g l w u ha he hu=>(k2 vs g l w u ha he hu).mono fun en u' w' ⟨v,m',e2,g',l',k3,⟨k4,k5⟩,k6⟩=>⟨v,m',e2,g',l',k3,⟨k4,q,by rw [k5]; exact h1,rfl,k5⟩,k6⟩
          ·cases h
         ·cases h
         ·rename_i pe s2 Afg Afh hy
          split at h
          ·rename_i e1 hd
           obtain ⟨q,h1,rfl,rfl⟩:=Be h
           obtain ⟨k1,k2⟩:=YV _ _ _ _ _ _ hd
           refine ⟨k1,fun YL YW=>?_⟩
           rw [<-YW] at EA hy
           refine Cq C8 hm y EA.2.2 hy ?_
           have A6x:EG P Fi (first++cap) s2.ext .ret fun m yN=>m = .ret/\∃q',FC P { s2 with ext:=yN } fn.results.toList=some q'/\(Ct.ret q' = .ret q/\yN=e'):=
            fun vs g l w u ha he hu=>(k2 vs g l w u ha he hu).mono fun en u' w' ⟨v,m',e2,g',l',k3,⟨k4,k5⟩,k6⟩=>⟨v,m',e2,g',l',k3,⟨k4,q,by rw [k5]; exact h1,rfl,k5⟩,k6⟩
           cases pe with
           | normal=>exact A6x
           | ret=>exact A6x
           | exit i=>exact absurd rfl (Afh i)
           | panic p=>exact absurd rfl (Afg p)
          ·cases h
         ·cases h
        refine C7.yG md.ro hf hb hn yH hg.1.1 hg.1.2 hg.2 fun cx Aw NM=>?_
        have kT:=he
        rw [<-Aw] at kT
        have A6y:=EA.1
        rw [<-Aw] at A6y
        refine Cq C8 hm r0 A6y kT ⟨rfl,RM.FT QO ⟨Fi,first,cap,l7,key.1,key.2⟩⟩
       ·cases h
      ·cases h
     ·cases h
    ·cases h
  ·cases h
theorem R9{c y:Code}{t0 t1:Nat}(h:O7 c=some (t0,t1,y)):∃id o0 o1 ts,c = .seq (.region id #[o0,o1] false) y/\o0.op = .call ⟨.builtin .recover,#[],ts⟩/\o1.op = .assign (.tmp t0)/\o0.dst=some t0/\o1.dst=some t1/\o0.guard=none/\o1.guard=none:=by
 unfold O7 at h
 split at h
 ·rename_i id o0 o1 y'
  split at h
  ·rename_i ts t a b h0 h1 h2 h3
   split at h
   ·rename_i hc
    obtain ⟨rfl,g0,g1⟩:=hc
    simp only [Option.some.injEq,Prod.mk.injEq] at h
    obtain ⟨rfl,rfl,rfl⟩:=h
    exact ⟨id,o0,o1,ts,rfl,h0,h1,h2,h3,by simpa using g0,by simpa using g1⟩
   ·cases h
  ·cases h
 ·cases h
theorem O8{m m':PM}(C8:F2 P CF)(hm:P.follows .mixedOrders=true)(hf:P.funcs[f]?=some fn)(EA:KW fn=true)(h:U6 P md CF fl fn args e m=some (m',e')):EG P f args e m fun m1 e1=>m1=m'/\e1=e':=by
 unfold U6 at h
 unfold KW at EA
 split at h
 ·cases h
 ·rename_i c hb
  rw [hb] at EA
  simp only at EA
  split at h
  ·cases h
  ·rename_i t0 t1 y KF
   obtain ⟨id,o0,o1,ts,rfl,h0,h1,h2,h3,g0,g1⟩:=R9 KF
   simp only [BU,Bool.and_eq_true] at EA
   split at h
   ·rename_i hc
    obtain ⟨c1,c2,c3⟩:=hc
    split at h
    ·cases h
    ·refine EG.enter hf hb c1 h0 g0 h2 h1 g1 h3 c2 c3 .FY .ret (.inl ⟨rfl,rfl,rfl⟩) fun cx Aw NM=>?_
     split at h
     ·rename_i s hs
      split at h
      ·rename_i Be
       simp only [Option.some.injEq,Prod.mk.injEq] at h
       obtain ⟨rfl,rfl⟩:=h
       rw [<-Aw] at EA hs
       exact Cq C8 hm y EA.2 hs ⟨.inl rfl,Option.isSome_iff_exists.1 Be,rfl,rfl⟩
      ·cases h
     ·rename_i s hs
      split at h
      ·rename_i Be
       simp only [Option.some.injEq,Prod.mk.injEq] at h
       obtain ⟨rfl,rfl⟩:=h
       rw [<-Aw] at EA hs
       exact Cq C8 hm y EA.2 hs ⟨.inr rfl,Option.isSome_iff_exists.1 Be,rfl,rfl⟩
      ·cases h
     ·cases h
    ·rename_i p
     refine EG.enter hf hb c1 h0 g0 h2 h1 g1 h3 c2 c3 p .lF (.inr ⟨rfl,rfl⟩) fun cx Aw NM=>?_
     split at h
     ·rename_i s hs
      split at h
      ·rename_i Be
       simp only [Option.some.injEq,Prod.mk.injEq] at h
       obtain ⟨rfl,rfl⟩:=h
       rw [<-Aw] at EA hs
       exact Cq C8 hm y EA.2 hs ⟨.inl rfl,Option.isSome_iff_exists.1 Be,rfl,rfl⟩
      ·cases h
     ·rename_i s hs
      split at h
      ·rename_i Be
       simp only [Option.some.injEq,Prod.mk.injEq] at h
       obtain ⟨rfl,rfl⟩:=h
       rw [<-Aw] at EA hs
       exact Cq C8 hm y EA.2 hs ⟨.inr rfl,Option.isSome_iff_exists.1 Be,rfl,rfl⟩
      ·cases h
     ·cases h
   ·cases h
end
mutual
def PZ(P:Program)(ok:FuncId->Bool)(md:FuncId->Md)(fl:Nat):Nat->JK
 | 0,_,_,_=>none
 | d+1,f,args,e=>match ok f with
  | false=>none
  | true=>match P.funcs[f]? with
   | some fn=>lM P (md f) (PZ P ok md fl d) (evG P ok md fl d) fl fn args e
   | none=>none
def evG(P:Program)(ok:FuncId->Bool)(md:FuncId->Md)(fl:Nat):Nat->jT
 | 0,_,_,_,_=>none
 | d+1,f,args,e,m=>match ok f with
  | false=>none
  | true=>match P.funcs[f]? with
   | some fn=>U6 P (md f) (PZ P ok md fl d) fl fn args e m
   | none=>none
end
def Nc(P:Program)(f:FuncId):Bool:=match P.funcs[f]? with
 | some fn=>FQ P f&&KW fn
 | none=>false
section
variable {P:Program} {cx:Cx} {s t:S} {g:Gh} {l:LG} {a:Act} {w:World} {o:Oper}
theorem LO(t ty e e':TypeId)(i:TypeInfo)(ht:P.underlying t=some (.slice e))(hi:P.info? e=some i)
  (g U8 yO:Nat) (cur:Array Value) (hg:w.heap[g]?=some (.cells cur e' (0,0)))
  (a:Addr) (m c:Nat) (news:List Value) (hl:news.length=m * i.size) (KS:∀j u,news[j]?=some u->w.cell? (a.add j)=some u) (h1:∀u∈news,u.oneCell'=true)
  (GI:U8+m<=yO) (N7:U8 * i.size+news.length<=cur.size) :
  (Builtin.append_ #[t,t] ty #[.slice (some ⟨g,0,none⟩) U8 yO,.slice (some a) m c]).run P w =
   .ok (.slice (some ⟨g,0,none⟩) (U8+m) yO) (w.setRow g (cur.toList.take (U8 * i.size)++news++cur.toList.drop (U8 * i.size+news.length)).toArray):=by
 have hf:=run_firstCells_some (P:=P) w i.size m a m c news hl KS
 have Cw:=run_storeCells_at P g (U8 * i.size) e' news 0 cur w hg (by simpa using N7) h1
 simp only [Nat.add_zero] at Cw
 simp [Builtin.append_,run_underlying ht,sizeOf,typeInfo,hi,Builtin.lenOf,GI,hf,Addr.add_lit,Cw]
def WS:List PV->Option (List Int)
 | []=>some []
 | .int .i64 k::r=>(WS r).map (k :: ·)
 | _::_=>none
theorem O9:∀ {l:List PV} {ks:List Int},WS l=some ks->l=ks.map (.int .i64)
 | [],ks,h=>by simp only [WS,Option.some.injEq] at h; subst h; rfl
 | x::r,ks,h=>by
  unfold WS at h
  split at h
  ·cases ‹_=[]›
  ·rename_i k r' e0
   injection e0 with e1 e2
   subst e1 e2
   simp only [Option.map_eq_some_iff] at h
   obtain ⟨qs,hq,rfl⟩:=h
   rw [O9 hq]; rfl
  ·cases h
def A6z(x y:Operand):RM ((Nat × Nat × List Int) × List Int):=ev x fun lx=>match Py lx with
 | some (n,c,len) => .EB n fun cs=>match rowOf cs with
  | some (c',ps) => .assume (decide (c=c'/\len=ps.length)) (ev y fun ly=>match Pz ly with
   | some (y0::ys)=>if okZ 1 ly=true then (match WS (y0::ys).flatten with | some ks => .ret ((n,c,ps),ks) | none => .fail) else .fail
   | _ => .fail)
  | none => .fail
 | none => .fail
theorem Q0(hs:B4 cx s g l a w){n c len:Nat}{cs:List LV}{ps:List Int}{v:Value}(hr:BN g w (.N6 n c len) v)(hx:lk s.ext n=some cs)(hp:rowOf cs=some (c,ps))(hl:len=ps.length) :
  ∃b cap cur e,v = .slice (some ⟨b,0,none⟩) len cap/\g.Y n c=some b/\l.O b=some (.x n)/\(∀c',c<c'->g.Y n c'=none)/\g.M b=some 0/\w.heap[b]?=some (.cells cur e (0,0))/\cur.size=cap/\len<=cap/\cap<=maxLen /\
   AG g w (ps.map (.int .i64)) (cur.toList.take len)/\∀u∈cur.toList.take len,u.oneCell'=true:=by
 subst hl
 cases hr with
 | N6 _ _ _ b cap cur e hY hh Bk hle Dv=>
  obtain ⟨b',k1,k2,k3,kM,kK,e2,k4,k5,k6⟩:=TJ hs hx hp
  rw [hY] at k1
  injection k1 with k1
  subst k1
  rw [hh] at k4
  injection k4 with k4
  injection k4 with k4 _ _
  subst k4
  refine ⟨b,cap,cur,e,rfl,hY,k2,k3,kM,hh,Bk.symm,hle,Dv,⟨by simp only [List.length_map,List.length_take,Array.length_toList]; omega,fun j hj Cu=>?_⟩,fun u hu=>?_⟩
  ·have hjp:j<ps.length:=by rw [List.length_map] at hj; exact hj
   have h6:=(k6 j hjp).2
   rw [List.getElem_map]
   have Xq:j<cur.size:=by omega
   have:cur.getD j undef=(cur.toList.take ps.length)[j]:=by simp [Xq]
   rw [<-this]
   exact h6
  ·obtain ⟨j,hj,e0⟩:=List.getElem_of_mem hu
   have To:j<ps.length:=by rw [List.length_take] at hj; omega
   have h6:=(k6 j To).1
   have Xq:j<cur.size:=by omega
   have:cur.getD j undef=(cur.toList.take ps.length)[j]:=by simp [Xq]
   rw [this,e0] at h6
   exact h6
theorem Q1{b:Nat}{cur:Array Value}{e:TypeId}{len j:Nat}{v:Value}(hh:w.heap[b]?=some (.cells cur e (0,0)))(hj:(cur.toList.take len)[j]?=some v):w.cell? ((⟨b,0,none⟩:Addr).add j)=some v:=by
 rw [List.getElem?_take] at hj
 split at hj
 ·have e1:(⟨b,0,none⟩:Addr).add j=⟨b,j,none⟩:=by simp [Addr.add_lit]
  rw [e1]
  have hj4:cur[j]?=some v:=by simpa using hj
  simp [World.cell?,hh,hj4]
 ·cases hj
theorem lO{K:S->Prop}{Q:A4->S->Prop}{ty e:TypeId}{x y:Operand}{d B:Nat}{zs:List PV}(ho:o.op = .call ⟨.builtin .append,#[x,y],#[ty,ty]⟩)(hd:o.dst=some d)(hn:d<cx.n)
  (he:GJ P ty=some e) (hm:Lu P e=some 1) (hB:FO P e=some (B+1)) (hz:UO P e=some zs) (S8:zs.length=1) (hs:B4 cx s g l a w)
  (h:(A6z x y).wp s fun r=>(r.1.2.2.length+r.2.length) * (B+1)<=140737488355328 /\
   K { s with tmps:=put s.tmps d (.v (.N6 r.1.1 (r.1.2.1+1) (r.1.2.2.length+r.2.length))),ext:=put s.ext r.1.1 [.row (r.1.2.1+1) (r.1.2.2++r.2)] }) :
  o.wp P a w (fun a' w'=>∃s' g' l',K s'/\B4 cx s' g' l' a' w') (post cx Q):=by
 have hu:=EL he
 obtain ⟨i,zv,z1,z2,z3⟩:=FA hz
 have Bk:i.size=1:=by simpa [Lu,z1] using hm
 have Xu:i.bytes=B+1:=by simpa [FO,z1] using hB
 have P0:zv.cells.size=1:=by rw [<-Array.length_toList,<-Fq z3]; exact S8
 obtain ⟨-,V8,-⟩:=EX (g:=g) (w:=w) z3
 obtain ⟨lx,ux,h1,r1,-⟩:=C6 hs h
 split at h1
 ·rename_i n c len Ra
  have hlx:lx = .v (.N6 n c len):=by
   unfold Py at Ra
   split at Ra
   ·injection Ra with q0; injection q0 with q1 q0; injection q0 with q2 q3; subst q1 q2 q3; rfl
   ·cases Ra
  subst hlx
  simp only [RM.wp] at h1
  split at h1
  ·rename_i cs D3
   split at h1
   ·rename_i c' ps TO
    simp only [RM.wp] at h1
    obtain ⟨o7,h1⟩:=h1
    obtain ⟨rfl,oL⟩:=of_decide_eq_true o7
    obtain ⟨ly,uy,h2,r2,-⟩:=C6 hs h1
    split at h2
    ·rename_i y0 ys KN
     split at h2
     ·rename_i EA
      split at h2
      rotate_left
      ·exact h2.elim
      rename_i ks hks
      obtain ⟨hb,h2⟩:=h2
      simp only at hb h2
      obtain ⟨b,cap,cur,e',p4,hY,hO,hF,hM,hh,lP,hle,Dv,hR,Cg⟩:=Q0 hs r1 D3 TO oL
      have Kg:=Jw TO
      subst Kg
      obtain ⟨ay,cc,WA,jP⟩:∃ay cc,a.eval y = .slice (some ay) (y0::ys).length cc/\BN g w (.sl 1 (y0::ys)) (a.eval y):=by
       rcases Nn KN EA r2 with ⟨h,-⟩ | h
       ·cases h
       ·exact h
      rw [WA] at jP
      obtain ⟨-,-,-,hyz,news,YU,IV,Ye⟩:=jP.flat
      have hkY:=O9 hks
      rw [hkY] at YU
      generalize hYY:(y0::ys)=Y at *
      have Hp:0<Y.length:=by rw [<-hYY]; simp
      rw [Nat.mul_one] at IV
      have Xp:Y.flatten.length=Y.length:=by rw [BT _ Y hyz,Nat.mul_one]
      have hkl:ks.length=Y.length:=by rw [<-Xp,hkY,List.length_map]
      rw [hkl] at hb h2
      have Nk:∀u∈news,u.oneCell'=true:=fun u hu=>by
       obtain ⟨j,hj,e⟩:=List.getElem_of_mem hu
       exact (Ye j u (by rw [List.getElem?_eq_getElem hj,e])).2.2
      rw [<-oL] at hb h2
      have hlen:len+Y.length<=140737488355328:=by
       have:=Nat.le_mul_of_pos_right (len+Y.length) (Nat.succ_pos B)
       simp only [Nat.succ_eq_add_one] at this
       omega
      have Xv:len+Y.length<=maxLen:=by simp only [maxLen]; omega
      have QT:news.length=Y.length * i.size:=by rw [Bk,Nat.mul_one]; exact IV
      have KS:∀j v,news[j]?=some v->w.cell? (ay.add j)=some v:=fun j v hj=>(Ye j v hj).1
      have hex:∀v' w',(Builtin.append_ #[ty,ty] o.type #[a.eval x,a.eval y]).run P w = .ok v' w'->(execOp a.eval o).run P w = .ok (.value v') w':=by
       intro v' w' hr
       simp only [execOp,ho,resolve,invoke,builtin,Sem.run_bind,Sem.run_pure,Result.andThen_ok,List.map_toArray,List.map_cons,List.map_nil,hr]
      have UW:(cur.toList.take len).length=len:=by rw [List.length_take,Array.length_toList]; omega
      have YX:=hR.app YU
      rw [<-List.map_append] at YX
      have hRl:(ps++ks).length=(cur.toList.take len++news).length:=by rw [<-YX.1,List.length_map]
      have hRg:∀j (hj:j<(ps++ks).length) (Il:j<(cur.toList.take len++news).length),BN g w (.int .i64 (ps++ks)[j]) (cur.toList.take len++news)[j]:=fun j hj Il=>by
       have:=YX.2 j (by rw [List.length_map]; exact hj) Il
       rw [List.getElem_map] at this
       exact this
      have p6:∀u∈cur.toList.take len++news,u.oneCell'=true:=fun u hu=>by
       rcases List.mem_append.1 hu with hu | hu
       ·exact Cg u hu
       ·exact Nk u hu
      have A70:(ps++ks).length=len+Y.length:=by rw [List.length_append,hkl,oL]
      by_cases GI:len+Y.length<=cap
      ·have hr:=LO (P:=P) ty o.type e e' i hu z1 b len cap cur hh ay Y.length cc news QT KS Nk GI (by rw [Bk,IV,Nat.mul_one,lP]; exact GI)
       rw [Bk,Nat.mul_one,<-p4,<-WA] at hr
       unfold Oper.wp
       rw [hex _ _ hr,Oper.upon_value,hd]
       have o7:(cur.toList.take len++news++cur.toList.drop (len+news.length)).toArray.size=cur.size:=by
        simp only [List.size_toArray,List.length_append,List.length_take,List.length_drop,Array.length_toList,IV]; omega
       have kG:∀j,j<(ps++ks).length->((cur.toList.take len++news++cur.toList.drop (len+news.length)).toArray.getD j undef)=(cur.toList.take len++news).getD j undef:=fun j hj=>by
        have Cu:j<(cur.toList.take len++news).length:=by rw [<-hRl]; exact hj
        simp only [Array.getD_eq_getD_getElem?,List.getElem?_toArray,List.getD_eq_getElem?_getD]
        rw [List.getElem?_append_left Cu]
       have k1:=hs.XT (c2:=c+1) (ps':=ps++ks) D3 hY hO hF hM hh o7 (.inr (Nat.lt_succ_self c)) (by rw [o7,A70,lP]; exact GI) (fun j hj=>by
         have Il:j<(cur.toList.take len++news).length:=by rw [<-hRl]; exact hj
         rw [kG j hj]
         simp only [List.getD_eq_getElem?_getD,List.getElem?_eq_getElem Il,Option.getD_some]
         exact ⟨p6 _ (List.getElem_mem Il),hRg j hj Il⟩)
       refine ⟨_,_,_,h2,k1.set hn (.N6 _ _ _ b cap _ e' (Fo _ _ _ _) (setRow_heap w b cur _ e' _ hh) ?_ GI Dv)⟩
       rw [o7]; exact lP.symm
      ·have NP:(len+Y.length) * i.bytes<=140737488355328:=by rw [Xu]; exact hb
       have hr:=run_append_grow (P:=P) w ty o.type e i zv hu z1 z2 ⟨b,0,none⟩ len cap (cur.toList.take len) (by rw [Bk,Nat.mul_one]; exact UW) (fun j v hj=>Q1 hh hj) ay Y.length cc news QT KS oM (by simp only [maxLen] at Xv; omega) (growslice_fits oM NP)
       rw [<-p4,<-WA] at hr
       have Cm:=grownCap_ge w (len+Y.length) cap e
       have WB:=grownCap_le_maxLen w (len+Y.length) cap e Xv
       unfold Oper.wp
       rw [hex _ _ hr,Oper.upon_value,hd]
       obtain ⟨QN,jO⟩:=hs.drew
       have O4:w.drew.heap.size=w.heap.size:=rfl
       have k1:=QN.TK n (c+1) (fun c' RH=>hF c' oM) (Nat.le_of_lt (Kc D3)) ((cur.toList.take len).toArray++news.toArray++Builtin.zeroCells zv.cells (grownCap w (len+Y.length) cap e - (len+Y.length))) e (ps++ks)
        (by simp only [Array.size_append,List.size_toArray,size_zeroCells,P0,IV,UW,A70]; omega) (fun j hj=>by
         have Il:j<(cur.toList.take len++news).length:=by rw [<-hRl]; exact hj
         have h3:=(hRg j hj Il).mono jO
         have e2:(((cur.toList.take len).toArray++news.toArray++Builtin.zeroCells zv.cells (grownCap w (len+Y.length) cap e - (len+Y.length))).getD j undef)=(cur.toList.take len++news)[j]:=by
          have hj4:j<((cur.toList.take len).toArray++news.toArray).size:=by simp only [Array.size_append,List.size_toArray]; rw [List.length_append] at Il; exact Il
          rw [Array.getD_eq_getD_getElem?,Array.getElem?_append_left hj4,List.append_toArray,List.getElem?_toArray,List.getElem?_eq_getElem Il]; rfl
         rw [e2]
         exact ⟨p6 _ (List.getElem_mem Il),h3⟩)
       rw [O4] at k1
       refine ⟨_,_,_,h2,k1.set hn (.N6 _ _ _ _ _ _ _ (Fo _ _ _ _) (heap_alloc_new w.drew _) ?_ Cm WB)⟩
       simp only [Array.size_append,List.size_toArray,size_zeroCells,P0,IV,UW,Nat.mul_one]
       omega
     ·exact h2.elim
    ·exact h2.elim
   ·exact h1.elim
  ·exact h1.elim
 ·exact h1.elim
def A71(x y:Operand):RM (Nat × Nat × List Int):=ev x fun lx=>match lx with
 | .v .A2=>ev y fun ly=>match Py ly with
  | some (n,c,len) => .EB n fun cs=>match rowOf cs with
   | some (c',ps) => .assume (decide (c=c'/\len=ps.length/\0<len)) (.ret (n,c,ps))
   | none => .fail
  | none => .fail
 | _ => .fail
theorem lQ{K:S->Prop}{Q:A4->S->Prop}{ty e:TypeId}{x y:Operand}{d B:Nat}{zs:List PV}(ho:o.op = .call ⟨.builtin .append,#[x,y],#[ty,ty]⟩)(hd:o.dst=some d)(hn:d<cx.n)
  (he:GJ P ty=some e) (hm:Lu P e=some 1) (hB:FO P e=some (B+1)) (hz:UO P e=some zs) (S8:zs.length=1) (hs:B4 cx s g l a w)
  (h:(A71 x y).wp s fun r=>r.2.2.length * (B+1)<=140737488355328 /\
   K { s with tmps:=put s.tmps d (.v (.N6 r.1 (r.2.1+1) r.2.2.length)),ext:=put s.ext r.1 [.row (r.2.1+1) r.2.2] }) :
  o.wp P a w (fun a' w'=>∃s' g' l',K s'/\B4 cx s' g' l' a' w') (post cx Q):=by
 have hu:=EL he
 obtain ⟨i,zv,z1,z2,z3⟩:=FA hz
 have Bk:i.size=1:=by simpa [Lu,z1] using hm
 have Xu:i.bytes=B+1:=by simpa [FO,z1] using hB
 have P0:zv.cells.size=1:=by rw [<-Array.length_toList,<-Fq z3]; exact S8
 obtain ⟨-,V8,-⟩:=EX (g:=g) (w:=w) z3
 obtain ⟨lx,ux,h1,r1,-⟩:=C6 hs h
 split at h1
 ·have p4:a.eval x = .slice none 0 0:=by generalize a.eval x=v at r1; cases r1; rfl
  obtain ⟨ly,uy,h2,r2,-⟩:=C6 hs h1
  split at h2
  ·rename_i n c len Ra
   have hlx:ly = .v (.N6 n c len):=by
    unfold Py at Ra
    split at Ra
    ·injection Ra with q0; injection q0 with q1 q0; injection q0 with q2 q3; subst q1 q2 q3; rfl
    ·cases Ra
   subst hlx
   simp only [RM.wp] at h2
   split at h2
   ·rename_i cs D3
    split at h2
    ·rename_i c' ps TO
     simp only [RM.wp] at h2
     obtain ⟨o7,hb,h2⟩:=h2
     obtain ⟨rfl,oL,Hp⟩:=of_decide_eq_true o7
     replace hb:ps.length * (B+1)<=140737488355328:=hb
     replace h2:K { s with tmps:=put s.tmps d (.v (.N6 n (c+1) ps.length)),ext:=put s.ext n [.row (c+1) ps] }:=h2
     obtain ⟨b,cap,cur,e',WA,hY,hO,hF,hM,hh,lP,hle,Dv,hR,Cg⟩:=Q0 hs r2 D3 TO oL
     have Kg:=Jw TO
     subst Kg
     rw [<-oL] at hb h2
     have UW:(cur.toList.take len).length=len:=by rw [List.length_take,Array.length_toList]; omega
     have hlen:len<=140737488355328:=by
      have:=Nat.le_mul_of_pos_right len (Nat.succ_pos B)
      simp only [Nat.succ_eq_add_one] at this
      omega
     have Xv:len<=maxLen:=by simp only [maxLen]; omega
     have hex:∀v' w',(Builtin.append_ #[ty,ty] o.type #[a.eval x,a.eval y]).run P w = .ok v' w'->(execOp a.eval o).run P w = .ok (.value v') w':=by
      intro v' w' hr
      simp only [execOp,ho,resolve,invoke,builtin,Sem.run_bind,Sem.run_pure,Result.andThen_ok,List.map_toArray,List.map_cons,List.map_nil,hr]
     have hr:=run_append_nil (P:=P) w ty o.type e i zv hu z1 z2 ⟨b,0,none⟩ len cap (cur.toList.take len) (by rw [Bk,Nat.mul_one]; exact UW) (fun j v hj=>Q1 hh hj) Hp oM (by rw [Xu]; omega)
     rw [<-p4,<-WA] at hr
     have Cm:=grownCap_ge w len 0 e
     have WB:=grownCap_le_maxLen w len 0 e (by simpa using Xv)
     unfold Oper.wp
     rw [hex _ _ hr,Oper.upon_value,hd]
     obtain ⟨QN,jO⟩:=hs.drew
     have O4:w.drew.heap.size=w.heap.size:=rfl
     have k1:=QN.TK n (c+1) (fun c' RH=>hF c' oM) (Nat.le_of_lt (Kc D3)) ((cur.toList.take len).toArray++Builtin.zeroCells zv.cells (grownCap w len 0 e - len)) e ps
      (by simp only [Array.size_append,List.size_toArray,size_zeroCells,P0,UW]; omega) (fun j hj=>by
       have Il:j<(cur.toList.take len).length:=by rw [<-hR.1,List.length_map]; exact hj
       have h3:=(hR.2 j (by rw [List.length_map]; exact hj) Il).mono jO
       rw [List.getElem_map] at h3
       have e2:(((cur.toList.take len).toArray++Builtin.zeroCells zv.cells (grownCap w len 0 e - len)).getD j undef)=(cur.toList.take len)[j]:=by
        rw [Array.getD_eq_getD_getElem?,Array.getElem?_append_left (by rw [List.size_toArray]; exact Il),List.getElem?_toArray,List.getElem?_eq_getElem Il]; rfl
       rw [e2]
       exact ⟨Cg _ (List.getElem_mem Il),h3⟩)
     rw [O4] at k1
     refine ⟨_,_,_,h2,k1.set hn (.N6 _ _ _ _ _ _ _ (Fo _ _ _ _) (heap_alloc_new w.drew _) ?_ Cm WB)⟩
     simp only [Array.size_append,List.size_toArray,size_zeroCells,P0,UW,Nat.mul_one]
     omega
    ·exact h2.elim
   ·exact h2.elim
  ·exact h2.elim
 ·exact h1.elim
def A72(x y:Operand):RM (List Int):=ev x fun lx=>ev y fun ly=>match lx,Pz ly with
 | .v .A2,some (y0::ys)=>if okZ 1 ly=true then (match WS (y0::ys).flatten with | some ks => .ret ks | none => .fail) else .fail
 | _,_ => .fail
theorem lR{K:S->Prop}{Q:A4->S->Prop}{ty e:TypeId}{x y:Operand}{d B:Nat}{zs:List PV}(ho:o.op = .call ⟨.builtin .append,#[x,y],#[ty,ty]⟩)(hd:o.dst=some d)(hn:d<cx.n)
  (he:GJ P ty=some e) (hm:Lu P e=some 1) (hB:FO P e=some (B+1)) (hz:UO P e=some zs) (S8:zs.length=1) (hs:B4 cx s g l a w)
  (h:(A72 x y).wp s fun ks=>ks.length * (B+1)<=140737488355328/\K { s with tmps:=put s.tmps d (.v (.N6 (Eg s.ext) 0 ks.length)),ext:=put s.ext (Eg s.ext) [.row 0 ks] }) :
  o.wp P a w (fun a' w'=>∃s' g' l',K s'/\B4 cx s' g' l' a' w') (post cx Q):=by
 have hu:=EL he
 obtain ⟨i,zv,z1,z2,z3⟩:=FA hz
 have Bk:i.size=1:=by simpa [Lu,z1] using hm
 have Xu:i.bytes=B+1:=by simpa [FO,z1] using hB
 have P0:zv.cells.size=1:=by rw [<-Array.length_toList,<-Fq z3]; exact S8
 obtain ⟨-,V8,-⟩:=EX (g:=g) (w:=w) z3
 obtain ⟨lx,ux,h1,r1,-⟩:=C6 hs h
 obtain ⟨ly,uy,h2,r2,-⟩:=C6 hs h1
 split at h2
 ·rename_i y0 ys KN
  split at h2
  ·rename_i EA
   split at h2
   rotate_left
   ·exact h2.elim
   rename_i ks hks
   obtain ⟨hb,h2⟩:=h2
   have p4:a.eval x = .slice none 0 0:=by generalize a.eval x=v at r1; cases r1; rfl
   obtain ⟨ay,c,WA,jP⟩:∃ay c,a.eval y = .slice (some ay) (y0::ys).length c/\BN g w (.sl 1 (y0::ys)) (a.eval y):=by
    rcases Nn KN EA r2 with ⟨h,-⟩ | h
    ·cases h
    ·exact h
   rw [WA] at jP
   obtain ⟨-,-,-,hyz,news,YU,IV,Ye⟩:=jP.flat
   have hkY:=O9 hks
   rw [hkY] at YU
   generalize hY:(y0::ys)=Y at *
   have Hp:0<Y.length:=by rw [<-hY]; simp
   rw [Nat.mul_one] at IV
   have Xp:Y.flatten.length=Y.length:=by rw [BT _ Y hyz,Nat.mul_one]
   have hkl:ks.length=Y.length:=by rw [<-Xp,hkY,List.length_map]
   rw [hkl] at hb h2
   have Nk:∀u∈news,u.oneCell'=true:=fun u hu=>by
    obtain ⟨j,hj,e⟩:=List.getElem_of_mem hu
    exact (Ye j u (by rw [List.getElem?_eq_getElem hj,e])).2.2
   have hlen:Y.length<=140737488355328:=by
    have:=Nat.le_mul_of_pos_right Y.length (Nat.succ_pos B)
    simp only [Nat.succ_eq_add_one] at this
    omega
   have Xv:Y.length<=maxLen:=by simp only [maxLen]; omega
   have hr:=run_append_nil (P:=P) w ty o.type e i zv hu z1 z2 ay Y.length c news (by rw [Bk,Nat.mul_one]; exact IV) (fun j v hj=>(Ye j v hj).1) Hp oM (by rw [Xu]; omega)
   have Cm:=grownCap_ge w Y.length 0 e
   have WB:=grownCap_le_maxLen w Y.length 0 e (by simpa using Xv)
   have hex:∀v' w',(Builtin.append_ #[ty,ty] o.type #[a.eval x,a.eval y]).run P w = .ok v' w'->(execOp a.eval o).run P w = .ok (.value v') w':=by
    intro v' w' hr
    simp only [execOp,ho,resolve,invoke,builtin,Sem.run_bind,Sem.run_pure,Result.andThen_ok,List.map_toArray,List.map_cons,List.map_nil,hr]
   rw [<-p4,<-WA] at hr
   unfold Oper.wp
   rw [hex _ _ hr,Oper.upon_value,hd]
   obtain ⟨QN,jO⟩:=hs.drew
   have O4:w.drew.heap.size=w.heap.size:=rfl
   have k1:=QN.TK (Eg s.ext) 0 (fun c' _=>hs.fresh.2.2 _ c' (Nat.le_refl _)) (Nat.le_refl _) (news.toArray++Builtin.zeroCells zv.cells (grownCap w Y.length 0 e - Y.length)) e ks
    (by simp only [Array.size_append,List.size_toArray,size_zeroCells,P0,IV,hkl]; omega) (fun j hj=>by
     have CE:j<news.length:=by rw [<-YU.1,List.length_map]; exact hj
     have h3:=(YU.2 j (by rw [List.length_map]; exact hj) CE).mono jO
     rw [List.getElem_map] at h3
     have e2:((news.toArray++Builtin.zeroCells zv.cells (grownCap w Y.length 0 e - Y.length)).getD j undef)=news[j]:=by
      rw [Array.getD_eq_getD_getElem?,Array.getElem?_append_left (by rw [List.size_toArray]; exact CE),List.getElem?_toArray,List.getElem?_eq_getElem CE]; rfl
     rw [e2]
     exact ⟨Nk _ (List.getElem_mem CE),h3⟩)
   rw [O4] at k1
   refine ⟨_,_,_,h2,k1.set hn (.N6 _ _ _ _ _ _ _ (Fo _ _ _ _) (heap_alloc_new w.drew _) ?_ (by simpa using Cm) WB)⟩
   simp only [Array.size_append,List.size_toArray,size_zeroCells,P0,IV,Nat.mul_one]
   omega
  ·exact h2.elim
 ·exact h2.elim
end
end Go.Pv
