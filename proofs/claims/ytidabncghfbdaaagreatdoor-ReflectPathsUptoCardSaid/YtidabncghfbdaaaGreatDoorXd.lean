/- Values of Go as plain data, an evaluator over them, and what the functions of the program return; part Xd. -/
import Derived.Test.YtidabncghfbdaaaGreatDoorXc
set_option linter.unusedVariables false
set_option linter.unusedSimpArgs false
set_option linter.unusedSectionVars false
namespace Go.Pv
open Go.RowKit
def RM.run{α:Type}:RM α->S->Option α
 | .ret a,_=>some a
 | .fail,_=>none
 | .getT t k,s=>match lk s.tmps t with
  | some v=>(k v).run s
  | none=>none
 | .getB i k,s=>match lk s.boxes i with
  | some v=>(k v).run s
  | none=>none
 | .getX n k,s=>match lk s.ext n with
  | some v=>(k v).run s
  | none=>none
 | .assume p k,s=>match p with
  | true=>k.run s
  | false=>none
theorem RM.run_wp{α:Type}{s:S}{K:α->Prop}{a:α}:∀ {r:RM α},r.run s=some a->K a->r.wp s K
 | .ret _,h,k=>by simp only [RM.run,Option.some.injEq] at h; subst h; exact k
 | .fail,h,_=>by cases h
 | .getT t f,h,k=>by
  simp only [RM.run] at h
  simp only [RM.wp]
  split at h
  ·rename_i hv; rw [hv]; exact RM.run_wp h k
  ·cases h
 | .getB t f,h,k=>by
  simp only [RM.run] at h
  simp only [RM.wp]
  split at h
  ·rename_i hv; rw [hv]; exact RM.run_wp h k
  ·cases h
 | .getX t f,h,k=>by
  simp only [RM.run] at h
  simp only [RM.wp]
  split at h
  ·rename_i hv; rw [hv]; exact RM.run_wp h k
  ·cases h
 | .assume p f,h,k=>by
  simp only [RM.run] at h
  cases p with
  | true=>exact ⟨rfl,RM.run_wp h k⟩
  | false=>cases h
def RM.runR{α:Type}:RM α->S->Option (α × List Loc)
 | .ret a,_=>some (a,[])
 | .fail,_=>none
 | .getT t k,s=>match lk s.tmps t with
  | some v=>match (k v).runR s with
   | some (a,r)=>some (a,.t t::r)
   | none=>none
  | none=>none
 | .getB i k,s=>match lk s.boxes i with
  | some v=>match (k v).runR s with
   | some (a,r)=>some (a,.b i::r)
   | none=>none
  | none=>none
 | .getX n k,s=>match lk s.ext n with
  | some v=>match (k v).runR s with
   | some (a,r)=>some (a,.x n::r)
   | none=>none
  | none=>none
 | .assume p k,s=>match p with
  | true=>k.runR s
  | false=>none
theorem RM.runR_wpR{α:Type}{s:S}{a:α}:∀ {r:RM α} {K:α->List Loc->Prop} {rd:List Loc},r.runR s=some (a,rd)->K a rd->r.wpR s K
 | .ret _,K,rd,h,k=>by simp only [RM.runR,Option.some.injEq,Prod.mk.injEq] at h; obtain ⟨rfl,rfl⟩:=h; exact k
 | .fail,_,_,h,_=>by cases h
 | .getT t f,K,rd,h,k=>by
  simp only [RM.runR] at h
  simp only [RM.wpR]
  split at h
  ·rename_i v hv
   rw [hv]
   split at h
   ·rename_i h2
    simp only [Option.some.injEq,Prod.mk.injEq] at h
    obtain ⟨rfl,rfl⟩:=h
    exact RM.runR_wpR (K:=fun a r=>K a (.t t::r)) h2 k
   ·cases h
  ·cases h
 | .getB t f,K,rd,h,k=>by
  simp only [RM.runR] at h
  simp only [RM.wpR]
  split at h
  ·rename_i v hv
   rw [hv]
   split at h
   ·rename_i h2
    simp only [Option.some.injEq,Prod.mk.injEq] at h
    obtain ⟨rfl,rfl⟩:=h
    exact RM.runR_wpR (K:=fun a r=>K a (.b t::r)) h2 k
   ·cases h
  ·cases h
 | .getX t f,K,rd,h,k=>by
  simp only [RM.runR] at h
  simp only [RM.wpR]
  split at h
  ·rename_i v hv
   rw [hv]
   split at h
   ·rename_i h2
    simp only [Option.some.injEq,Prod.mk.injEq] at h
    obtain ⟨rfl,rfl⟩:=h
    exact RM.runR_wpR (K:=fun a r=>K a (.x t::r)) h2 k
   ·cases h
  ·cases h
 | .assume p f,K,rd,h,k=>by
  simp only [RM.runR] at h
  cases p with
  | true=>exact ⟨rfl,RM.runR_wpR h k⟩
  | false=>cases h
abbrev Orc:=FuncId->List PV->Ext->Option (CRes × Ext)
def OrcOK(P:Program)(orc:Orc):Prop:=∀f args e r e',orc f args e=some (r,e')->isFn P f=true/\CallC P f args e fun r1 e1=>r1=r/\e1=e'
structure Md where
 ro:TypeId->Option Bool
 row:TypeId->Bool
mutual
def PV.noX:PV->Bool
 | .xp _ _=>false
 | .mp _=>false
 | .xsl _ _ _=>false
 | .ysl _ _ _=>false
 | .yp _ _ _=>false
 | .ifm _ _ _=>false
 | .opq p=>p.noX
 | .ro cs _=>noXs cs
 | .sl _ es=>noXss es
 | .fn _ a b=>noXs a&&noXs b
 | .iface _ p=>p.noX
 | .agg cs=>noXs cs
 | .fm _ vs=>noXs vs
 | .tup cs=>noXs cs
 | _=>true
def noXs:List PV->Bool
 | []=>true
 | p::r=>p.noX&&noXs r
def noXss:List (List PV)->Bool
 | []=>true
 | p::r=>noXs p&&noXss r
end
theorem noXs_mem:∀ {l:List PV},noXs l=true->∀ (j:Nat) (h:j<l.length),l[j].noX=true
 | [],_,j,h=>absurd h sM
 | p::r,h,0,_=>by simp only [noXs,Bool.and_eq_true] at h; exact h.1
 | p::r,h,j+1,hj=>by simp only [noXs,Bool.and_eq_true] at h; exact noXs_mem h.2 j (by simpa using hj)
theorem noXss_mem:∀ {l:List (List PV)},noXss l=true->∀ (j:Nat) (h:j<l.length),noXs l[j]=true
 | [],_,j,h=>absurd h sM
 | p::r,h,0,_=>by simp only [noXss,Bool.and_eq_true] at h; exact h.1
 | p::r,h,j+1,hj=>by simp only [noXss,Bool.and_eq_true] at h; exact noXss_mem h.2 j (by simpa using hj)
theorem noXs_in{l:List PV}{p:PV}(h:noXs l=true)(hp:p∈l):p.noX=true:=by
 obtain ⟨j,hj,rfl⟩:=List.getElem_of_mem hp
 exact noXs_mem h j hj
theorem Rep.names{g g':Gh}{w:World}{p:PV}{v:Value}(hM:g'.M=g.M)(hn:p.noX=true)(h:Rep g w p v):Rep g' w p v:=by
 have hfix:∀b o,g.Fix b o->g'.Fix b o:=fun b o hf k hk=>hf k (by rw [<-hM]; exact hk)
 induction h with
 | bool b=>exact .bool b
 | int k n=>exact .int k n
 | str s=>exact .str s
 | nilp=>exact .nilp
 | ro cs off b o vs hc hf h1 hr ih=>
  simp only [PV.noX] at hn
  exact .ro cs off b o vs hc (fun j hj=>hfix _ _ (hf j hj)) h1 fun j hj=>ih j hj (noXs_mem hn j hj)
 | xp n off b hx=>cases hn
 | nilsl=>exact .nilsl
 | slnil size=>exact .slnil size
 | sl size es a cap vs hle hcap hsz hc hf h1 hr ih=>
  simp only [PV.noX] at hn
  exact .sl size es a cap vs hle hcap hsz hc (fun i j hi hj=>hfix _ _ (hf i j hi hj)) h1 fun i j hi hj=>ih i j hi hj (noXs_mem (noXss_mem hn i hi) j hj)
 | xsl n size len b cap cur e h hh hs hle hcap=>cases hn
 | fn f first captured fv cv h1 h2 hf hc ih1 ih2=>
  simp only [PV.noX,Bool.and_eq_true] at hn
  exact .fn f first captured fv cv h1 h2 (fun j h h'=>ih1 j h h' (noXs_mem hn.1 j h)) fun j h h'=>ih2 j h h' (noXs_mem hn.2 j h)
 | nilfn=>exact .nilfn
 | iface t p v h ih=>exact .iface t p v (ih (by simpa [PV.noX] using hn))
 | nilif=>exact .nilif
 | agg cs vs h1 ho h ih=>
  simp only [PV.noX] at hn
  exact .agg cs vs h1 ho fun j h h'=>ih j h h' (noXs_mem hn j h)
 | tup cs vs h1 h ih=>
  simp only [PV.noX] at hn
  exact .tup cs vs h1 fun j h h'=>ih j h h' (noXs_mem hn j h)
 | mpn=>exact .mpn
 | mp n b h=>cases hn
 | fm ks vs es b arr clock hp hl hM' hh hst hz hk hr ih=>
  simp only [PV.noX] at hn
  exact .fm ks vs es b arr clock hp hl (by rw [hM]; exact hM') hh hst hz hk fun j h h'=>ih j h h' (noXs_in hn (List.of_mem_zip (hp.mem_iff.1 (List.getElem_mem h))).2)
 | ysl n c len b cap cur e h=>cases hn
 | yp n c off b h=>cases hn
 | ifm t f p v h ih=>cases hn
 | opq p v h1 h ih=>
  simp only [PV.noX] at hn
  exact .opq p v h1 (ih hn)
theorem GLB_noX:(GLB.all fun x=>noXs x.2)=true:=by rfl
theorem lk_mem{α:Type}{k:Nat}{v:α}:∀ {l:List (Nat × α)},lk l k=some v->(k,v)∈l
 | [],h=>by cases h
 | (a,b)::r,h=>by
  simp only [lk] at h
  split at h
  ·rename_i e; subst e; injection h with h; subst h; exact List.mem_cons_self
  ·exact List.mem_cons_of_mem _ (lk_mem h)
theorem GOK.names{g g':Gh}{w:World}(h:GOK g w)(hM:g'.M=g.M):GOK g' w:=fun k cs e=>by
 have h1:noXs cs=true:=List.all_eq_true.1 GLB_noX _ (lk_mem e)
 exact Rep.names hM (by simpa [PV.noX] using h1) (h k cs e)
def CRes.noX:CRes->Bool
 | .ret p=>p.noX
 | .own _ _ es=>noXss es
 | .panic p=>p.noX
theorem noXss_flat{es:List (List PV)}(h:noXss es=true)(j:Nat)(hj:j<es.flatten.length):es.flatten[j].noX=true:=by
 obtain ⟨x,hx,hm⟩:=List.mem_flatten.1 (List.getElem_mem hj)
 obtain ⟨i,hi,rfl⟩:=List.getElem_of_mem hx
 obtain ⟨q,hq,e0⟩:=List.getElem_of_mem hm
 rw [<-e0]
 exact noXs_mem (noXss_mem h i hi) q hq
theorem CallC.frame{P:Program}{f:FuncId}{args:List PV}{res:CRes}(ha:noXs args=true)(hr:res.noX=true)(h:CallC P f args [] fun r e=>r=res/\e=[])(e:Ext):CallC P f args e fun r e'=>r=res/\e'=e:=by
 intro vs g l w hargs hent
 let g2:Gh:=⟨g.M,fun _=>none,fun _ _=>none⟩
 let l2:LG:=⟨fun _=>none,fun _=>none,fun _=>none⟩
 have h1:RepAll g2 w args vs:=⟨hargs.1,fun j hj hj'=>Rep.names (g:=g) rfl (noXs_mem ha j hj) (hargs.2 j hj hj')⟩
 have h2:Ent [] g2 l2 w:={ ex:=fun x cs hx=>(by simp [lk] at hx),olt:=fun b o ho=>(by cases ho),uo:=fun p b hb=>(by cases hb),fresh:=⟨hent.fresh.1,fun _ _=>rfl,fun _ _ _=>rfl⟩,xlt:=fun n b hb=>(by cases hb),only:=fun b o ho=>(by cases ho),glb:=hent.glb.names rfl }
 refine (h vs g2 l2 w h1 h2).mono ?_
 rintro en w' ⟨r,e1,g',l',⟨rfl,rfl⟩,hres,hent',hmono,hsz,hfr,hown,os,tape,output⟩
 have hX:∀n,g'.X n=none:=fun n=>hent'.fresh.2.1 n (by simp [cnt])
 have hl':∀b o,l'.O b=some o->w.heap.size<=b:=fun b o ho=>by
  rcases hown b o ho with h | h
  ·exact h
  ·cases h
 let g3:Gh:=⟨g'.M,g.X,g.Y⟩
 have hkeep:∀b,b<w.heap.size->w'.heap[b]?=w.heap[b]?/\g'.M b=g.M b:=fun b hb=>hfr b hb rfl
 have hm3:Mono g w g3 w':=⟨fun n b hb=>hb,fun b o v hc hf=>by
   obtain ⟨k1,k2⟩:=hmono.cell b o v hc (fun k hk=>hf k hk)
   exact ⟨k1,fun k hk=>k2 k hk⟩,fun b cur t hb=>hmono.len b cur t hb,fun _ _ _ h=>h,fun b arr c hh hn=>hmono.map b arr c hh hn⟩
 refine ⟨r,e,g3,l,⟨rfl,rfl⟩,?_,?_,hm3,hsz,fun b hb _=>hkeep b hb,fun b o ho => .inr (by rw [ho]; rfl),os,tape,output⟩
 ·cases r with
  | ret p=>
   cases en <;> first | exact hres.elim | skip
   exact Rep.names (g:=g') rfl hr hres
  | own te z es=>
   cases en <;> first | exact hres.elim | skip
   rcases hres with (h | ⟨a,h,h',heK⟩) | ⟨b,off,cap,cur,k1,k2,k3,k4,k5,k6,k7,k8⟩
   ·exact .inl (.inl h)
   ·exact .inl (.inr ⟨a,h,Rep.names (g:=g') rfl (by simpa [PV.noX,CRes.noX] using hr) h',heK⟩)
   ·have hb:w.heap.size<=b:=by
     rcases k2 with h | h
     ·exact h
     ·cases h
    refine .inr ⟨b,off,cap,cur,k1,.inl hb,k3,?_,k5,k6,k7,fun he=>Rep.names (g:=g') rfl (by simpa [PV.noX,CRes.noX] using hr) (k8.1 he),fun he=>⟨(k8.2 he).1,(k8.2 he).2.1,(k8.2 he).2.2.1,(k8.2 he).2.2.2.1,fun j hj=>⟨((k8.2 he).2.2.2.2 j hj).1,Rep.names (g:=g') rfl (noXss_flat hr j hj) ((k8.2 he).2.2.2.2 j hj).2⟩⟩⟩
    cases hb':l.O b with
    | none=>rfl
    | some o=>exact absurd (hent.olt b o hb') oM
  | panic p=>
   cases en <;> first | exact hres.elim | skip
   obtain ⟨v,hv,hrv⟩:=hres
   exact ⟨v,hv,Rep.names (g:=g') rfl hr hrv⟩
 ·refine ⟨fun x cs hx=>?_,fun b o ho=>Nat.lt_of_lt_of_le (hent.olt b o ho) hsz,hent.uo,⟨hent'.fresh.1,hent.fresh.2⟩,fun n b hb=>Nat.lt_of_lt_of_le (hent.xlt n b hb) hsz,hent.only,hent.glb.mono hm3⟩
  obtain ⟨b,k1,k2,hE⟩:=hent.ex x cs hx
  have hb:=hkeep b (hent.olt b _ k2)
  refine ⟨b,k1.mono hm3,k2,?_⟩
  rcases hE with ⟨k3,cur,t,k4,k5,k6⟩ | hE
  rotate_left
  ·exact .inr (hE.keep hm3 (fun _ _ _ h=>h) hb.2 hb.1)
  refine .inl ⟨hb.2.trans k3,cur,t,hb.1.trans k4,k5,fun j hj=>⟨(k6 j hj).1,(k6 j hj).2.1,?_⟩⟩
  refine (k6 j hj).2.2.keep hm3 (fun _ _ _=>rfl) fun b' hb'=>?_
  have hlt:=hent.olt b' _ (hent.uo _ _ hb')
  exact ⟨hb',(hkeep b' hlt).2,(hkeep b' hlt).1⟩
def callR(orc:Orc)(o:Oper)(r:RM (FuncId × List PV))(s:S):Option (PExit × S):=match r.run s with
 | some (f,args)=>match orc f args s.ext with
  | some (.ret p,e)=>some (.normal,s.setD o.dst (.v p) e)
  | some (.own te z es,e)=>some (.normal,s.setD o.dst (.uniq te z es) e)
  | some (.panic p,e)=>some (.panic p,{ s with ext:=e })
  | none=>none
 | none=>none
def actR(P:Program)(ro:TypeId->Option Bool)(n:Nat)(all:List Oper)(o:Oper)(s:S):Option (PExit × S):=match (act P ro n all o).run s with
 | some wr=>some (.normal,s.wrs wr)
 | none=>none
def newX(n:Nat)(o:Oper)(cs:List PV)(s:S):Option (PExit × S):=match o.dst with
 | some d=>if d<n then some (.normal,{ s with tmps:=put s.tmps d (.v (.xp (cnt s.ext) 0)),ext:=put s.ext (cnt s.ext) (cs.map .v) }) else none
 | none=>none
def emp0:LV->Bool
 | .v .nilsl=>true
 | .full _ []=>true
 | _=>false
theorem emp0_rep{g:Gh}{l:LG}{w:World}{u:UL}{lx:LV}{v:Value}(h:emp0 lx=true)(hr:RepL g l w u lx v):v = .slice none 0 0∨∃a,v = .slice (some a) 0 0:=by
 unfold emp0 at h
 split at h
 ·cases hr; exact .inl rfl
 ·rcases hr with ⟨rfl,-⟩ | ⟨a,rfl,-⟩
  ·exact .inl rfl
  ·exact .inr ⟨a,rfl⟩
 ·cases h
theorem run_append_emp{P:Program}(w:World)(t ty e:TypeId)(i:TypeInfo)(z:Value)(ht:P.underlying t=some (.slice e))(hi:P.info? e=some i)(hz:i.zero=some z){vx:Value}(hx:vx = .slice none 0 0∨∃a,vx = .slice (some a) 0 0)
  (a:Addr) (n c:Nat) (news:List Value) (hl:news.length=n * i.size) (hnews:∀j v,news[j]?=some v->w.cell? (a.add j)=some v) (h0:0<n) (h63:n<=maxLen) (h48:n * i.bytes<=140737488355328) :
  (Builtin.append_ #[t,t] ty #[vx,.slice (some a) n c]).run P w = .ok (.slice (some ⟨w.heap.size,0,none⟩) n (grownCap w n 0 e)) (w.drew.alloc (.cells (news.toArray++Builtin.zeroCells z.cells (grownCap w n 0 e - n)) e)):=by
 simp only [maxLen] at h63
 rcases hx with rfl | ⟨b,rfl⟩
 ·exact run_append_nil (P:=P) w t ty e i z ht hi hz a n c news hl hnews h0 oM oM
 ·have:=run_append_grow (P:=P) w t ty e i z ht hi hz b 0 0 [] sM (fun j v h=>by simp at h) a n c news hl hnews oM oM (growslice_fits oM (by simpa using h48))
  simpa using this
def appR(e z:Nat)(x y:Operand):RM (List (List PV)):=ev x fun lx=>ev y fun ly=>match emp0 lx,elsOf ly with
 | true,some (y0::ys)=>if okZ z ly=true then .ret (y0::ys) else .fail
 | _,_ => .fail
def appX(P:Program)(n:Nat)(o:Oper)(ty:TypeId)(x y:Operand)(s:S):Option (PExit × S):=match elemT P ty,o.dst with
 | some e,some d=>match csz P e,cbytes P e,zro P e with
  | some (m+1),some (B+1),some zs=>if d<n/\zs.length=m+1 then (match (appR e (m+1) x y).run s with
   | some ys=>if ys.length * (B+1)<=140737488355328 then some (.normal,{ s with tmps:=put s.tmps d (.v (.xsl (cnt s.ext) (m+1) ys.length)),ext:=put s.ext (cnt s.ext) (ys.flatten.map .v) }) else none
   | none=>none) else none
  | _,_,_=>none
 | _,_=>none
def panR(x:Operand):RM PV:=evP x fun p=>match p with
 | .iface t q => .ret (PV.iface t q)
 | _ => .fail
def boxR(x:Operand):RM (List PV):=evP x fun p=>match p.cel with
 | some cs => .ret cs
 | none => .fail
def mapN(P:Program)(ty:TypeId)(n:Nat)(o:Oper)(s:S):Option (PExit × S):=match o.dst with
 | some d=>if d<n then some (.normal,{ s with tmps:=put s.tmps d (.v (.mp (cnt s.ext))),ext:=put s.ext (cnt s.ext) [.mm (newS (strK P ty))] }) else none
 | none=>none
def rngN(P:Program)(ty:TypeId)(n:Nat)(o:Oper)(m:Operand)(s:S):Option (PExit × S):=match (mapT P ty).isSome,o.dst with
 | true,some d=>if d<n then (match (rngR m).run s with
  | some i=>some (.normal,{ s with tmps:=put s.tmps d (.v (.xp (cnt s.ext) 0)),ext:=put s.ext (cnt s.ext) [.mm (.it i)] })
  | none=>none) else none
 | _,_=>none
def opL(P:Program)(md:Md)(orc:Orc)(n:Nat)(all:List Oper)(o:Oper)(s:S):Option (PExit × S):=match callee P o with
 | some r=>callR orc o r s
 | none=>match o.op with
  | .alloc ty=>if (md.ro ty).isNone=true then (match zro P ty with | some zs=>newX n o zs s | none=>none) else actR P md.ro n all o s
  | .box ty x=>if (md.ro ty).isNone=true then (match (boxR x).run s with | some cs=>newX n o cs s | none=>none) else actR P md.ro n all o s
  | .panic x=>match (panR x).run s with
   | some p=>some (.panic p,s)
   | none=>none
  | .makeMap ty none=>mapN P ty n o s
  | .range ty m=>rngN P ty n o m s
  | .call ⟨.builtin .append,⟨[x,y]⟩,⟨[ty,ty']⟩⟩=>if md.row ty=true/\ty=ty' then appX P n o ty x y s else actR P md.ro n all o s
  | _=>actR P md.ro n all o s
section
variable {P:Program} {cx:Cx} {s s':S} {Q:PExit->S->Prop} {K:S->Prop} {o:Oper} {pe:PExit} {md:Md} {orc:Orc} {all:List Oper}
def OpK(P:Program)(cx:Cx)(s:S)(o:Oper)(K:S->Prop)(Q:PExit->S->Prop):Prop:=
 ∀g l a w,Sim cx s g l a w->o.wp P a w (fun a' w'=>∃s' g' l',K s'/\Sim cx s' g' l' a' w') (post cx Q)
theorem callR_sound{r:RM (FuncId × List PV)}(horc:OrcOK P orc)(ho:callee P o=some r)(hd:∀d,o.dst=some d->d<cx.n)(h:callR orc o r s=some (pe,s'))(hk:thenQ K Q pe s'):OpK P cx s o K Q:=fun g l a w hs=>by
 unfold callR at h
 split at h
 ·rename_i f args hr
  refine callee_sound ho hd hs (RM.run_wp hr ?_)
  split at h
  ·rename_i p e he
   obtain ⟨h1,h2⟩:=horc _ _ _ _ _ he
   refine ⟨h1,h2.mono ?_⟩
   rintro _ _ ⟨rfl,rfl⟩
   simp only [Option.some.injEq,Prod.mk.injEq] at h
   obtain ⟨rfl,rfl⟩:=h
   exact hk
  ·rename_i p e he
   obtain ⟨h1,h2⟩:=horc _ _ _ _ _ he
   refine ⟨h1,h2.mono ?_⟩
   rintro _ _ ⟨rfl,rfl⟩
   simp only [Option.some.injEq,Prod.mk.injEq] at h
   obtain ⟨rfl,rfl⟩:=h
   exact hk
  ·rename_i p e he
   obtain ⟨h1,h2⟩:=horc _ _ _ _ _ he
   refine ⟨h1,h2.mono ?_⟩
   rintro _ _ ⟨rfl,rfl⟩
   simp only [Option.some.injEq,Prod.mk.injEq] at h
   obtain ⟨rfl,rfl⟩:=h
   exact hk
  ·cases h
 ·cases h
theorem actR_sound{ro:TypeId->Option Bool}(h:actR P ro cx.n all o s=some (pe,s'))(hk:thenQ K Q pe s'):OpK P cx s o K Q:=fun g l a w hs=>by
 unfold actR at h
 split at h
 ·rename_i wr hr
  simp only [Option.some.injEq,Prod.mk.injEq] at h
  obtain ⟨rfl,rfl⟩:=h
  refine upon_mono ?_ (act_sound (K:=fun x=>x=wr) hs (RM.run_wp hr rfl) (post cx Q))
  rintro a' w' ⟨wr',g',l',rfl,sm⟩
  exact ⟨_,g',l',hk,sm⟩
 ·cases h
theorem newX_sound{cs:List PV}{cur:Array Value}{ty:TypeId}{g:Gh}{l:LG}{a:Act}{w:World}(hs:Sim cx s g l a w)(hr:RepAll g w cs cur.toList)(hone:∀u∈cur.toList,u.oneCell'=true)
  (hrun:(execOp a.eval o).run P w = .ok (.value (.pointer (some ⟨w.heap.size,0,none⟩))) (w.alloc (.cells cur ty)))
  (h:newX cx.n o cs s=some (pe,s')) (hk:thenQ K Q pe s'):o.wp P a w (fun a' w'=>∃s' g' l',K s'/\Sim cx s' g' l' a' w') (post cx Q):=by
 unfold newX at h
 split at h
 ·rename_i d hd
  split at h
  ·rename_i hn
   simp only [Option.some.injEq,Prod.mk.injEq] at h
   obtain ⟨rfl,rfl⟩:=h
   unfold Oper.wp
   rw [hrun,Oper.upon_value,hd]
   obtain ⟨k1,-⟩:=hs.newext cur ty (cs.map .v) (by simp [hr.1]) (fun j hj => .inr ⟨cs[j]'(by simpa using hj),by simp,by
    have hj1:j<cs.length:=by simpa using hj
    have hj2:j<cur.toList.length:=by rw [<-hr.1]; exact hj1
    have:=hr.2 j hj1 hj2
    have hj3:j<cur.size:=by simpa using hj2
    simpa [hj3] using this⟩) hone
   exact ⟨_,_,_,hk,k1.set hn (.xp _ _ _ (upd_same _ _ _))⟩
  ·cases h
 ·cases h
theorem appX_go{ty e:TypeId}{x y:Operand}{d m B:Nat}{zs:List PV}{g:Gh}{l:LG}{a:Act}{w:World}(ho:o.op = .call ⟨.builtin .append,#[x,y],#[ty,ty]⟩)(hd:o.dst=some d)(hn:d<cx.n)
  (he:elemT P ty=some e) (hm:csz P e=some (m+1)) (hB:cbytes P e=some (B+1)) (hz:zro P e=some zs) (hzl:zs.length=m+1) (hs:Sim cx s g l a w)
  (h:(appR e (m+1) x y).wp s fun ys=>ys.length * (B+1)<=140737488355328/\K { s with tmps:=put s.tmps d (.v (.xsl (cnt s.ext) (m+1) ys.length)),ext:=put s.ext (cnt s.ext) (ys.flatten.map .v) }) :
  o.wp P a w (fun a' w'=>∃s' g' l',K s'/\Sim cx s' g' l' a' w') (post cx Q):=by
 have hu:=elemT_inv he
 obtain ⟨i,zv,z1,z2,z3⟩:=zro_inv hz
 have hsz:i.size=m+1:=by simpa [csz,z1] using hm
 have hby:i.bytes=B+1:=by simpa [cbytes,z1] using hB
 have hzs:zv.cells.size=m+1:=by rw [<-Array.length_toList,<-cvs_length z3]; exact hzl
 obtain ⟨-,hzone,-⟩:=cvs_rep (g:=g) (w:=w) z3
 obtain ⟨lx,ux,h1,r1,-⟩:=ev_sound hs h
 obtain ⟨ly,uy,h2,r2,-⟩:=ev_sound hs h1
 split at h2
 ·rename_i y0 ys hem hys
  split at h2
  ·rename_i hok
   obtain ⟨hb,h2⟩:=h2
   have hvx:=emp0_rep hem r1
   obtain ⟨ay,c,hvy,hYR⟩:∃ay c,a.eval y = .slice (some ay) (y0::ys).length c/\Rep g w (.sl (m+1) (y0::ys)) (a.eval y):=by
    rcases els_rep hys hok r2 with ⟨h,-⟩ | h
    ·cases h
    ·exact h
   rw [hvy] at hYR
   obtain ⟨-,-,-,hyz,news,hnr,hnl,hnc⟩:=hYR.flat
   generalize hY:(y0::ys)=Y at *
   have hpos:0<Y.length:=by rw [<-hY]; simp
   have hn1:∀u∈news,u.oneCell'=true:=fun u hu=>by
    obtain ⟨j,hj,e⟩:=List.getElem_of_mem hu
    exact (hnc j u (by rw [List.getElem?_eq_getElem hj,e])).2.2
   have hlen:Y.length<=140737488355328:=by
    have:=Nat.le_mul_of_pos_right Y.length (Nat.succ_pos B)
    simp only [Nat.succ_eq_add_one] at this
    omega
   have h63:Y.length<=maxLen:=by simp only [maxLen]; omega
   have hr:=run_append_emp (P:=P) w ty o.type e i zv hu z1 z2 hvx ay Y.length c news (by rw [hsz]; exact hnl) (fun j v hj=>(hnc j v hj).1) hpos h63 (by rw [hby]; omega)
   have hge:=grownCap_ge w Y.length 0 e
   have hcm:=grownCap_le_maxLen w Y.length 0 e (by simpa using h63)
   have hex:∀v' w',(Builtin.append_ #[ty,ty] o.type #[a.eval x,a.eval y]).run P w = .ok v' w'->(execOp a.eval o).run P w = .ok (.value v') w':=by
    intro v' w' hr
    simp only [execOp,ho,resolve,invoke,builtin,Sem.run_bind,Sem.run_pure,Result.andThen_ok,List.map_toArray,List.map_cons,List.map_nil,hr]
   rw [<-hvy] at hr
   unfold Oper.wp
   rw [hex _ _ hr,Oper.upon_value,hd]
   obtain ⟨hs1,hm1⟩:=hs.drew
   have hsize:w.drew.heap.size=w.heap.size:=rfl
   obtain ⟨k1,-⟩:=hs1.newext (news.toArray++Builtin.zeroCells zv.cells (grownCap w Y.length 0 e - Y.length)) e (Y.flatten.map .v)
    (by simp only [Array.size_append,List.size_toArray,size_zeroCells,hzs,hnl,List.length_map,flatten_length _ Y hyz]; omega) (fun j hj=>by
     have hlt:j<Y.flatten.length:=by rw [List.length_map] at hj; exact hj
     refine .inr ⟨Y.flatten[j],List.getElem_map _,?_⟩
     have hlt':j<news.length:=by rw [<-hnr.1]; exact hlt
     have:=(hnr.2 j hlt hlt').mono hm1
     simpa [Array.getD_eq_getD_getElem?,Array.getElem?_append,hlt'] using this) (fun u hu=>by
     simp only [Array.toList_append,List.mem_append] at hu
     rcases hu with hu | hu
     ·exact hn1 u hu
     ·exact hzone u (mem_zeroCells' hu))
   rw [hsize] at k1
   refine ⟨_,_,_,h2,k1.set hn (.xsl _ _ _ _ _ _ _ (upd_same _ _ _) (heap_alloc_new w.drew _) ?_ (by simpa using hge) hcm)⟩
   simp only [Array.size_append,List.size_toArray,size_zeroCells,hzs,hnl,<-Nat.add_mul]
   congr 1
   omega
  ·exact h2.elim
 ·exact h2.elim
theorem appX_sound{ty:TypeId}{x y:Operand}(ho:o.op = .call ⟨.builtin .append,#[x,y],#[ty,ty]⟩)(h:appX P cx.n o ty x y s=some (pe,s'))(hk:thenQ K Q pe s'):OpK P cx s o K Q:=fun g l a w hs=>by
 unfold appX at h
 split at h
 ·rename_i e d he hd
  split at h
  ·rename_i m B zs hm hB hz
   split at h
   ·rename_i hc
    obtain ⟨hn,hzl⟩:=hc
    split at h
    ·rename_i ys hys
     split at h
     ·rename_i hb
      simp only [Option.some.injEq,Prod.mk.injEq] at h
      obtain ⟨rfl,rfl⟩:=h
      exact appX_go ho hd hn he hm hB hz hzl hs (RM.run_wp hys ⟨hb,hk⟩)
     ·cases h
    ·cases h
   ·cases h
  ·cases h
 ·cases h
theorem opL_sound(horc:OrcOK P orc)(hd:∀d,o.dst=some d->d<cx.n)(h:opL P md orc cx.n all o s=some (pe,s'))(hk:thenQ K Q pe s'):OpK P cx s o K Q:=by
 unfold opL at h
 split at h
 ·rename_i r hr; exact callR_sound horc hr hd h hk
 ·split at h
  ·rename_i ty hop
   split at h
   ·split at h
    ·rename_i zs hz
     intro g l a w hs
     obtain ⟨i,z,h1,h2,h3⟩:=zro_inv hz
     obtain ⟨hr,hone,-⟩:=cvs_rep (g:=g) (w:=w) h3
     exact newX_sound (ty:=ty) hs hr hone (by simp [execOp,hop,Instr.alloc,zeroValue,typeInfo,h1,h2,newVar,newRow]) h hk
    ·cases h
   ·exact actR_sound h hk
  ·rename_i ty x hop
   split at h
   ·split at h
    ·rename_i cs hcs
     intro g l a w hs
     obtain ⟨p,h1,r1⟩:=evP_sound hs (RM.run_wp (K:=fun x=>x=cs) hcs rfl)
     split at h1
     ·rename_i cs' hc
      have h1':cs'=cs:=h1
      subst h1'
      obtain ⟨hr,hone⟩:=cel_rep hc r1
      exact newX_sound (ty:=ty) hs hr hone (by simp [execOp,hop,Instr.box,newVar,newRow]) h hk
     ·exact h1.elim
    ·cases h
   ·exact actR_sound h hk
  ·rename_i x hop
   split at h
   ·rename_i p hp
    simp only [Option.some.injEq,Prod.mk.injEq] at h
    obtain ⟨rfl,rfl⟩:=h
    intro g l a w hs
    obtain ⟨p',h1,r1⟩:=evP_sound hs (RM.run_wp (K:=fun x=>x=p) hp rfl)
    split at h1
    ·rename_i t q
     have h1':PV.iface t q=p:=h1
     subst h1'
     have hrun:∀v,a.eval x = .iface t v->(execOp a.eval o).run P w = .halt (.panic (.iface t v)) w:=fun v hv=>by
      simp [execOp,hop,hv,Instr.panic,goPanic]
     generalize a.eval x=vx at r1 hrun
     cases r1 with
     | iface _ _ v hv=>
      unfold Oper.wp
      rw [hrun v rfl,Oper.upon_panic]
      exact ⟨.panic (.iface t q),s,g,l,hk,⟨_,rfl,.iface _ _ _ hv⟩,hs⟩
    ·exact h1.elim
   ·cases h
  ·rename_i ty hop
   unfold mapN at h
   intro g l a w hs
   split at h
   ·rename_i d hd'
    split at h
    ·rename_i hn
     simp only [Option.some.injEq,Prod.mk.injEq] at h
     obtain ⟨rfl,rfl⟩:=h
     unfold Oper.wp
     rw [show (execOp a.eval o).run P w = .ok (.value (.map (some w.heap.size))) (w.alloc (.map #[] 0)) by simp [execOp,hop,Instr.makeMap,Result.andThen],Oper.upon_value,hd']
     obtain ⟨k1,-⟩:=hs.newmap (strK P ty)
     exact ⟨_,_,_,hk,k1.set hn (.mp _ _ (upd_same _ _ _))⟩
    ·cases h
   ·cases h
  ·rename_i ty m hop
   unfold rngN at h
   intro g l a w hs
   split at h
   ·rename_i d hT hd'
    split at h
    ·rename_i hn
     split at h
     ·rename_i i hi
      simp only [Option.some.injEq,Prod.mk.injEq] at h
      obtain ⟨rfl,rfl⟩:=h
      obtain ⟨i',bm,clock,rfl,hX,hlt,hrun⟩:=rngR_wp hop hT hs (RM.run_wp (K:=fun j=>j=i) hi rfl)
      unfold Oper.wp
      rw [hrun,Oper.upon_value,hd']
      obtain ⟨k1,-⟩:=hs.newit hX hlt
      exact ⟨_,_,_,hk,k1.set hn (.xp _ _ _ (upd_same _ _ _))⟩
     ·cases h
    ·cases h
   ·cases h
  ·rename_i x y ty ty' hop
   split at h
   ·rename_i hc
    obtain ⟨-,rfl⟩:=hc
    exact appX_sound hop h hk
   ·exact actR_sound h hk
  ·exact actR_sound h hk
def wantS(all:List Oper)(o:Oper)(s:S):Option Bool:=match o.guard with
 | none=>some true
 | some (j,want)=>match (all[j]?).bind (·.dst) with
  | some dj=>(lk s.tmps dj).bind (wantP want)
  | none=>none
def evL(P:Program)(md:Md)(orc:Orc)(n:Nat)(all:List Oper):List Oper->S->Option (PExit × S)
 | [],s=>some (.normal,s)
 | o::rest,s=>match wantS all o s with
  | some true=>match opL P md orc n all o s with
   | some (.normal,s')=>evL P md orc n all rest s'
   | r=>r
  | some false=>evL P md orc n all rest (s.skip o)
  | none=>none
theorem wantS_sound{b:Bool}{g:Gh}{l:LG}{a:Act}{w:World}(hall:dstOK cx.n all=true)(h:wantS all o s=some b)(hs:Sim cx s g l a w):Region.wanted o (yielded all.toArray a.tmps)=b:=by
 unfold wantS at h
 split at h
 ·rename_i hg
  simp only [Option.some.injEq] at h
  subst h
  simp [Region.wanted,hg]
 ·rename_i j want hg
  split at h
  ·rename_i dj hdj
   simp only [Option.bind_eq_some_iff] at h
   obtain ⟨lv,h1,h2⟩:=h
   have hdjn:dj<cx.n:=by
    simp only [Option.bind_eq_some_iff] at hdj
    obtain ⟨oj,h1,h2⟩:=hdj
    exact dstOK_mem hall (List.mem_of_getElem? h1) dj h2
   simp only [Region.wanted,hg]
   exact yielded_of (by simpa using hdj) hdjn hs h1 h2
  ·cases h
theorem evL_sound(horc:OrcOK P orc)(hall:dstOK cx.n all=true):∀ {ls:List Oper} {s:S},(∀o∈ls,o∈all)->evL P md orc cx.n all ls s=some (pe,s')->Q pe s'->PL P cx all.toArray ls s Q
 | [],s,_,h,hq=>by
  simp only [evL,Option.some.injEq,Prod.mk.injEq] at h
  obtain ⟨rfl,rfl⟩:=h
  exact PL_nil hq
 | o::rest,s,hm,h,hq=>by
  have hd:∀d,o.dst=some d->d<cx.n:=dstOK_mem hall (hm o sM)
  have hm':∀o∈rest,o∈all:=fun o ho=>hm o (List.mem_cons_of_mem _ ho)
  intro g l a w hs
  simp only [evL] at h
  split at h
  ·rename_i hw
   have hwant:=wantS_sound hall hw hs
   refine wpList_step fun K hK=>?_
   rw [iP hwant]
   split at h
   ·rename_i s1 h1
    refine upon_mono ?_ (opL_sound (Q:=Q) (K:=fun s'=>PL P cx all.toArray rest s' Q) horc hd h1 (evL_sound horc hall hm' h hq) g l a w hs)
    rintro a' w' ⟨s',g',l',hp,sm⟩
    exact hK _ _ (hp g' l' a' w' sm)
   ·rename_i hne
    refine upon_mono ?_ (opL_sound (Q:=Q) (K:=fun s'=>PL P cx all.toArray rest s' Q) horc hd h (by
     cases pe with
     | normal=>exact absurd h (hne _)
     | _=>exact hq) g l a w hs)
    rintro a' w' ⟨s',g',l',hp,sm⟩
    exact hK _ _ (hp g' l' a' w' sm)
  ·rename_i hw
   have hwant:=wantS_sound hall hw hs
   refine wpList_step fun K hK=>?_
   rw [iN (by rw [hwant]; simp)]
   refine hK _ _ (evL_sound horc hall hm' h hq g l _ w ?_)
   cases hdd:o.dst with
   | none=>simp only [S.skip,hdd,Act.put]; exact hs
   | some d=>
    simp only [S.skip,hdd]
    exact hs.set (hd d hdd) (.tup [] [] rfl fun j h=>by simp at h)
  ·cases h
def pureR(orc:Orc)(f:FuncId)(args:List PV):Option LV:=match noXs args with
 | true=>match orc f args [] with
  | some (r,[])=>match r.noX with
   | true=>r.lv
   | false=>none
  | _=>none
 | false=>none
def stepD(P:Program)(ro:TypeId->Option Bool)(orc:Orc)(n:Nat)(all:List Oper)(o:Oper)(gr:List Loc)(s:S):Option (DS × Option Ext × S):=match callee P o with
 | some r=>match r.runR s with
  | some ((f,args),rd)=>match pureR orc f args with
   | some lv=>some (⟨gr++rd,dstW o lv,false⟩,none,s.wqs (dstW o lv))
   | none=>match orc f args s.ext with
    | some (res,e')=>match res.lv with
     | some lv=>some (⟨gr++rd,dstW o lv,true⟩,some e',{ s.wqs (dstW o lv) with ext:=e' })
     | none=>none
    | none=>none
  | none=>none
 | none=>match (act P ro n all o).runR s with
  | some (wr,rd)=>if wr.any isXW=true then some (⟨gr++rd,wr.filter plainW,true⟩,some (extW s.ext wr),{ s.wqs (wr.filter plainW) with ext:=extW s.ext wr })
   else some (⟨gr++rd,wr,false⟩,none,s.wqs wr)
  | none=>none
theorem stepD_sound{ro:TypeId->Option Bool}{n:Nat}{gr:List Loc}{d:DS}{x:Option Ext}{K:DS->Option Ext->S->Prop}(horc:OrcOK P orc)(h:stepD P ro orc n all o gr s=some (d,x,s'))(hk:K d x s'):stepR P ro n all o gr s K:=by
 unfold stepD at h
 unfold stepR
 split at h
 ·rename_i r hr
  split at h
  ·rename_i f args rd hrun
   rw [hr]
   refine RM.runR_wpR hrun ?_
   split at h
   ·rename_i lv hlv
    simp only [Option.some.injEq,Prod.mk.injEq] at h
    obtain ⟨rfl,rfl,rfl⟩:=h
    unfold pureR at hlv
    split at hlv
    ·rename_i hna
     split at hlv
     ·rename_i res ho
      split at hlv
      ·rename_i hnr
       obtain ⟨h1,h2⟩:=horc _ _ _ _ _ ho
       exact ⟨h1,.inl ⟨res,lv,hlv,fun e=>CallC.frame hna hnr h2 e,hk⟩⟩
      ·cases hlv
     ·cases hlv
    ·cases hlv
   ·split at h
    ·rename_i res e' ho
     split at h
     ·rename_i lv hlv
      simp only [Option.some.injEq,Prod.mk.injEq] at h
      obtain ⟨rfl,rfl,rfl⟩:=h
      obtain ⟨h1,h2⟩:=horc _ _ _ _ _ ho
      exact ⟨h1,.inr ⟨res,lv,e',hlv,h2,hk⟩⟩
     ·cases h
    ·cases h
  ·cases h
 ·rename_i hr
  split at h
  ·rename_i wr rd hrun
   rw [hr]
   refine RM.runR_wpR hrun ?_
   split at h
   ·rename_i hx
    simp only [Option.some.injEq,Prod.mk.injEq] at h
    obtain ⟨rfl,rfl,rfl⟩:=h
    rw [iP hx]
    exact hk
   ·rename_i hx
    simp only [Option.some.injEq,Prod.mk.injEq] at h
    obtain ⟨rfl,rfl,rfl⟩:=h
    rw [iN hx]
    exact hk
  ·cases h
def evD(P:Program)(ro:TypeId->Option Bool)(orc:Orc)(n:Nat)(all:List Oper):List Oper->S->Option (List DS × List Ext × S)
 | [],s=>some ([],[],s)
 | o::rest,s=>match o.guard with
  | none=>match stepD P ro orc n all o [] s with
   | some (d,x,s')=>match evD P ro orc n all rest s' with
    | some (ds,xs,t)=>some (d::ds,x.toList++xs,t)
    | none=>none
   | none=>none
  | some (j,want)=>match (all[j]?).bind (·.dst) with
   | some dj=>match (lk s.tmps dj).bind (wantP want) with
    | some true=>match stepD P ro orc n all o [.t dj] s with
     | some (d,x,s')=>match evD P ro orc n all rest s' with
      | some (ds,xs,t)=>some (d::ds,x.toList++xs,t)
      | none=>none
     | none=>none
    | some false=>match evD P ro orc n all rest (s.wqs (dstW o (.v (.tup [])))) with
     | some (ds,xs,t)=>some (⟨[.t dj],dstW o (.v (.tup [])),false⟩::ds,xs,t)
     | none=>none
    | none=>none
   | none=>none
theorem evD_sound{ro:TypeId->Option Bool}{n:Nat}(horc:OrcOK P orc):∀ {ls:List Oper} {s t:S} {ds:List DS} {xs:List Ext} {K:List DS->List Ext->S->Prop},evD P ro orc n all ls s=some (ds,xs,t)->K ds xs t->drL P ro n all ls s K
 | [],s,t,ds,xs,K,h,hk=>by
  simp only [evD,Option.some.injEq,Prod.mk.injEq] at h
  obtain ⟨rfl,rfl,rfl⟩:=h
  exact hk
 | o::rest,s,t,ds,xs,K,h,hk=>by
  simp only [evD] at h
  simp only [drL]
  split at h
  ·rename_i hg
   rw [hg]
   split at h
   ·rename_i d x s1 h1
    split at h
    ·rename_i ds1 xs1 t1 h2
     simp only [Option.some.injEq,Prod.mk.injEq] at h
     obtain ⟨rfl,rfl,rfl⟩:=h
     exact stepD_sound horc h1 (evD_sound horc (K:=fun ds xs t=>K (d::ds) (x.toList++xs) t) h2 hk)
    ·cases h
   ·cases h
  ·rename_i j want hg
   rw [hg]
   split at h
   ·rename_i dj hdj
    simp only [hdj]
    split at h
    ·rename_i hb
     simp only [hb,if_true]
     split at h
     ·rename_i d x s1 h1
      split at h
      ·rename_i ds1 xs1 t1 h2
       simp only [Option.some.injEq,Prod.mk.injEq] at h
       obtain ⟨rfl,rfl,rfl⟩:=h
       exact stepD_sound horc h1 (evD_sound horc (K:=fun ds xs t=>K (d::ds) (x.toList++xs) t) h2 hk)
      ·cases h
     ·cases h
    ·rename_i hb
     simp only [hb,Bool.false_eq_true,if_false]
     split at h
     ·rename_i ds1 xs1 t1 h2
      simp only [Option.some.injEq,Prod.mk.injEq] at h
      obtain ⟨rfl,rfl,rfl⟩:=h
      exact evD_sound horc (K:=fun ds xs t=>K (⟨[.t dj],dstW o (.v (.tup [])),false⟩::ds) xs t) h2 hk
     ·cases h
    ·cases h
   ·cases h
def evR(P:Program)(md:Md)(orc:Orc)(n:Nat)(ops:List Oper)(draw:Bool)(s:S):Option (PExit × S):=match draw with
 | false=>evL P md orc n ops ops s
 | true=>match evD P md.ro orc n ops ops s with
  | some (sts,_,t)=>if chk ops sts s.tmps=true then some (.normal,t) else none
  | none=>none
theorem evR_sound{id:Nat}{ops:Array Oper}{draw:Bool}(horc:OrcOK P orc)(hm:P.follows .mixedOrders=true)(hall:dstOK cx.n ops.toList=true)(h:evR P md orc cx.n ops.toList draw s=some (pe,s'))(hq:Q pe s'):PW P cx (.region id ops draw) s Q:=by
 obtain ⟨ops⟩:=ops
 cases draw with
 | false=>exact fun g l a w hs=>wp_region_lit (evL_sound horc hall (fun _ h=>h) h hq g l a w hs)
 | true=>
  simp only [evR] at h
  split at h
  ·rename_i sts xs t hd
   split at h
   ·rename_i hc
    simp only [Option.some.injEq,Prod.mk.injEq] at h
    obtain ⟨rfl,rfl⟩:=h
    exact PW_drawn md.ro cx.n hm rfl hall (evD_sound horc hd ⟨hc,hq⟩)
   ·cases h
  ·cases h
end
def loopN(body:S->Option (PExit × S)):Nat->S->Option (PExit × S)
 | 0,_=>none
 | n+1,s=>match body s with
  | some (.normal,s')=>loopN body n s'
  | r=>r
def evC(P:Program)(md:Md)(orc:Orc)(n fl:Nat):Code->S->Option (PExit × S)
 | .skip,s=>some (.normal,s)
 | .region _ ops draw,s=>evR P md orc n ops.toList draw s
 | .seq a b,s=>match evC P md orc n fl a s with
  | some (.normal,s')=>evC P md orc n fl b s'
  | r=>r
 | .cond (.tmp t) x y,s=>match lk s.tmps t with
  | some (.v (.bool true))=>evC P md orc n fl x s
  | some (.v (.bool false))=>evC P md orc n fl y s
  | _=>none
 | .block id c,s=>match evC P md orc n fl c s with
  | some (.exit id',s')=>if id'=id then some (.normal,s') else some (.exit id',s')
  | r=>r
 | .loop c,s=>loopN (evC P md orc n fl c) fl s
 | .exit id,s=>some (.exit id,s)
 | .ret,s=>some (.ret,s)
 | _,_=>none
def codeOK(n:Nat):Code->Bool
 | .region _ ops _=>dstOK n ops.toList
 | .seq a b=>codeOK n a&&codeOK n b
 | .cond _ x y=>codeOK n x&&codeOK n y
 | .block _ c=>codeOK n c
 | .loop c=>codeOK n c
 | _=>true
section
variable {P:Program} {cx:Cx} {md:Md} {orc:Orc} {fl:Nat}
theorem PW_loopE{α:Type}{c:Code}{s:S}{Q:PExit->S->Prop}(I:α->S)(μ:α->Nat)(x₀:α)(h₀:I x₀=s)
  (round:∀x,PW P cx c (I x) (thenQ (fun s'=>∃y,μ y<μ x/\I y=s') Q)):PW P cx (.loop c) s Q:=fun g l a w hs=>by
 refine wp_loop_ghost (fun n a w=>∃x g l,μ x=n/\Sim cx (I x) g l a w) (μ x₀) ⟨x₀,g,l,rfl,by rw [h₀]; exact hs⟩ ?_
 rintro n a w ⟨x,g,l,rfl,sm⟩
 refine wp_mono (round x g l a w sm) ?_
 rintro e a' w' ⟨pe,s',g',l',q,er,sm'⟩
 cases pe <;> cases e <;> first | exact er.elim | skip
 ·obtain ⟨y,hlt,rfl⟩:=q
  exact ⟨μ y,hlt,y,g',l',rfl,sm'⟩
 ·exact ⟨_,s',g',l',q,er,sm'⟩
 ·exact ⟨_,s',g',l',q,er,sm'⟩
 ·exact ⟨_,s',g',l',q,er,sm'⟩
theorem loopN_sound{c:Code}{body:S->Option (PExit × S)}(hbody:∀ {s:S} {pe:PExit} {s':S} {Q:PExit->S->Prop},body s=some (pe,s')->Q pe s'->PW P cx c s Q){n:Nat}{s s':S}{pe:PExit}{Q:PExit->S->Prop}
  (h:loopN body n s=some (pe,s')) (hq:Q pe s'):PW P cx (.loop c) s Q:=by
 refine PW_loopE (α:={ x:Nat × S // loopN body x.1 x.2=some (pe,s') }) (fun x=>x.1.2) (fun x=>x.1.1) ⟨(n,s),h⟩ rfl ?_
 rintro ⟨⟨n,s⟩,h⟩
 cases n with
 | zero=>cases h
 | succ n=>
  simp only [loopN] at h
  split at h
  ·rename_i s1 h1
   exact hbody h1 ⟨⟨(n,s1),h⟩,Nat.lt_succ_self _,rfl⟩
  ·rename_i hne
   refine hbody h ?_
   cases pe with
   | normal=>exact absurd h (hne _)
   | _=>exact hq
theorem evC_sound(horc:OrcOK P orc)(hm:P.follows .mixedOrders=true):∀ (c:Code) {s s':S} {pe:PExit} {Q:PExit->S->Prop},codeOK cx.n c=true->evC P md orc cx.n fl c s=some (pe,s')->Q pe s'->PW P cx c s Q
 | .skip,s,s',pe,Q,_,h,hq=>by
  simp only [evC,Option.some.injEq,Prod.mk.injEq] at h
  obtain ⟨rfl,rfl⟩:=h
  exact PW_skip hq
 | .region _ ops draw,s,s',pe,Q,hc,h,hq=>evR_sound horc hm hc h hq
 | .seq a b,s,s',pe,Q,hc,h,hq=>by
  simp only [codeOK,Bool.and_eq_true] at hc
  simp only [evC] at h
  refine PW_seq ?_
  split at h
  ·rename_i s1 h1
   exact evC_sound horc hm a hc.1 h1 (evC_sound horc hm b hc.2 h hq)
  ·rename_i hne
   refine evC_sound horc hm a hc.1 h ?_
   cases pe with
   | normal=>exact absurd h (hne _)
   | _=>exact hq
 | .cond x a b,s,s',pe,Q,hc,h,hq=>by
  simp only [codeOK,Bool.and_eq_true] at hc
  cases x with
  | tmp t=>
   simp only [evC] at h
   split at h
   ·rename_i ht
    exact PW_cond ht (fun _=>evC_sound horc hm a hc.1 h hq) (fun e=>by cases e)
   ·rename_i ht
    exact PW_cond ht (fun e=>by cases e) (fun _=>evC_sound horc hm b hc.2 h hq)
   ·cases h
  | const _=>simp only [evC] at h; cases h
  | global _=>simp only [evC] at h; cases h
  | func _=>simp only [evC] at h; cases h
 | .block id c,s,s',pe,Q,hc,h,hq=>by
  simp only [codeOK] at hc
  simp only [evC] at h
  refine PW_block ?_
  split at h
  ·rename_i id' s1 h1
   refine evC_sound horc hm c hc h1 ?_
   simp only [blockQ]
   split at h
   ·rename_i e
    simp only [Option.some.injEq,Prod.mk.injEq] at h
    obtain ⟨rfl,rfl⟩:=h
    rw [iP e]
    exact hq
   ·rename_i e
    simp only [Option.some.injEq,Prod.mk.injEq] at h
    obtain ⟨rfl,rfl⟩:=h
    rw [iN e]
    exact hq
  ·rename_i hne
   refine evC_sound horc hm c hc h ?_
   cases pe with
   | exit i=>exact absurd h (hne _ _)
   | _=>exact hq
 | .loop c,s,s',pe,Q,hc,h,hq=>by
  simp only [codeOK] at hc
  simp only [evC] at h
  exact loopN_sound (fun h hq=>evC_sound horc hm c hc h hq) h hq
 | .exit id,s,s',pe,Q,_,h,hq=>by
  simp only [evC,Option.some.injEq,Prod.mk.injEq] at h
  obtain ⟨rfl,rfl⟩:=h
  exact PW_exit hq
 | .ret,s,s',pe,Q,_,h,hq=>by
  simp only [evC,Option.some.injEq,Prod.mk.injEq] at h
  obtain ⟨rfl,rfl⟩:=h
  exact PW_ret hq
 | .rangeFunc _ _ _ _,_,_,_,_,_,h,_=>by simp only [evC] at h; cases h
 | .scope _,_,_,_,_,_,h,_=>by simp only [evC] at h; cases h
 | .label _,_,_,_,_,_,h,_=>by simp only [evC] at h; cases h
 | .goto _,_,_,_,_,_,h,_=>by simp only [evC] at h; cases h
 | .refuse _,_,_,_,_,_,h,_=>by simp only [evC] at h; cases h
end
def endV(P:Program)(res:List ResultVar):PExit->S->Option (CRes × Ext)
 | .panic p,s=>some (.panic p,s.ext)
 | .exit _,_=>none
 | .normal,s=>match resP P s res with
  | some p=>some (.ret p,s.ext)
  | none=>none
 | .ret,s=>match res with
  | [.tmp t]=>match lk s.tmps t with
   | some (.uniq e z es)=>some (.own e z es,s.ext)
   | some lv=>match toP lv with
    | some p=>some (.ret p,s.ext)
    | none=>none
   | none=>none
  | res=>match resP P s res with
   | some p=>some (.ret p,s.ext)
   | none=>none
theorem endV_sound{P:Program}{res:List ResultVar}{pe:PExit}{s:S}{r:CRes}{e:Ext}(h:endV P res pe s=some (r,e)):endQ P res (fun r1 e1=>r1=r/\e1=e) pe s:=by
 cases pe with
 | panic p=>
  simp only [endV,Option.some.injEq,Prod.mk.injEq] at h
  obtain ⟨rfl,rfl⟩:=h
  exact ⟨rfl,rfl⟩
 | exit _=>cases h
 | normal=>
  simp only [endV] at h
  split at h
  ·rename_i p hp
   simp only [Option.some.injEq,Prod.mk.injEq] at h
   obtain ⟨rfl,rfl⟩:=h
   exact ⟨p,hp,rfl,rfl⟩
  ·cases h
 | ret=>
  simp only [endV] at h
  split at h
  ·rename_i t
   split at h
   ·rename_i e0 z es hl
    simp only [Option.some.injEq,Prod.mk.injEq] at h
    obtain ⟨rfl,rfl⟩:=h
    exact .inr ⟨t,e0,z,es,rfl,hl,rfl,rfl⟩
   ·rename_i lv _ hl
    split at h
    ·rename_i p hp
     simp only [Option.some.injEq,Prod.mk.injEq] at h
     obtain ⟨rfl,rfl⟩:=h
     exact .inl ⟨p,by simp [resP,resVs,resV,hl,hp],rfl,rfl⟩
    ·cases h
   ·cases h
  ·split at h
   ·rename_i p hp
    simp only [Option.some.injEq,Prod.mk.injEq] at h
    obtain ⟨rfl,rfl⟩:=h
    exact .inl ⟨p,hp,rfl,rfl⟩
   ·cases h
abbrev Dfr:=FuncId->List PV->Ext->PM->Option (PM × Ext)
def DfrOK(P:Program)(dfr:Dfr):Prop:=∀f args e m m' e',dfr f args e m=some (m',e')->isFn P f=true/\CallCD P f args e m fun m1 e1=>m1=m'/\e1=e'
inductive Shape where
 | plain
 | defers (r0:Code) (mk df:Oper) (t:Nat) (y:Code)
def shape:Code->Shape
 | .seq r0 (.seq (.region _ ⟨[mk,df]⟩ false) y)=>match df.op with
  | .defer ⟨.value (.tmp t),⟨[]⟩,_⟩ => .defers r0 mk df t y
  | _ => .plain
 | _ => .plain
theorem shape_inv{c r0 y:Code}{mk df:Oper}{t:Nat}(h:shape c = .defers r0 mk df t y):∃id ts,c = .seq r0 (.seq (.region id #[mk,df] false) y)/\df.op = .defer ⟨.value (.tmp t),#[],ts⟩:=by
 unfold shape at h
 split at h
 ·split at h
  ·rename_i hop
   simp only [Shape.defers.injEq] at h
   obtain ⟨rfl,rfl,rfl,rfl,rfl⟩:=h
   exact ⟨_,_,rfl,hop⟩
  ·cases h
 ·cases h
def resD(P:Program)(res:List ResultVar)(s:S)(e:Ext):Option (CRes × Ext):=match resP P { s with ext:=e } res with
 | some q=>some (.ret q,e)
 | none=>none
def evFn(P:Program)(md:Md)(orc:Orc)(dfr:Dfr)(fl:Nat)(fn:Func)(args:List PV)(e:Ext):Option (CRes × Ext):=match fn.body with
 | none=>none
 | some c=>if args.length<=fn.ntmps then (match shape c with
  | .plain=>match evC P md orc fn.ntmps fl c (enterS args e) with
   | some (pe,s)=>endV P fn.results.toList pe s
   | none=>none
  | .defers r0 mk df t y=>if mk.guard.isNone&&df.guard.isNone&&df.dst.isNone then (match evC P md orc fn.ntmps fl r0 (enterS args e) with
   | some (.normal,s)=>match (act P md.ro fn.ntmps [mk,df] mk).run s with
    | some wr=>match lk (s.wrs wr).tmps t with
     | some (.v (.fn (.func fid) first cap))=>match evC P md orc fn.ntmps fl y (s.wrs wr) with
      | some (.panic p,s2)=>match dfr fid (first++cap) s2.ext (.pan p) with
       | some (.rcv,e')=>resD P fn.results.toList s2 e'
       | _=>none
      | some (.exit _,_)=>none
      | some (_,s2)=>match dfr fid (first++cap) s2.ext .ret with
       | some (.ret,e')=>resD P fn.results.toList s2 e'
       | _=>none
      | none=>none
     | _=>none
    | none=>none
   | _=>none) else none) else none
def recShape:Code->Option (Nat × Nat × Code)
 | .seq (.region _ ⟨[o0,o1]⟩ false) y=>match o0.op,o1.op,o0.dst,o1.dst with
  | .call ⟨.builtin .recover,⟨[]⟩,_⟩,.assign (.tmp t),some t0,some t1=>if t=t0/\o0.guard.isNone=true/\o1.guard.isNone=true then some (t0,t1,y) else none
  | _,_,_,_=>none
 | _=>none
def evGn(P:Program)(md:Md)(orc:Orc)(fl:Nat)(fn:Func)(args:List PV)(e:Ext)(m:PM):Option (PM × Ext):=match fn.body with
 | none=>none
 | some c=>match recShape c with
  | none=>none
  | some (t0,t1,y)=>if args.length<=fn.ntmps/\t0<fn.ntmps/\t1<fn.ntmps then (match m with
   | .rcv=>none
   | .ret=>match evC P md orc fn.ntmps fl y ⟨put (put (argT 0 args) t0 (.v .nilif)) t1 (.v .nilif),[],e⟩ with
    | some (.normal,s)=>if (resP P s fn.results.toList).isSome=true then some (.ret,s.ext) else none
    | some (.ret,s)=>if (resP P s fn.results.toList).isSome=true then some (.ret,s.ext) else none
    | _=>none
   | .pan p=>match evC P md orc fn.ntmps fl y ⟨put (put (argT 0 args) t0 (.v p)) t1 (.v p),[],e⟩ with
    | some (.normal,s)=>if (resP P s fn.results.toList).isSome=true then some (.rcv,s.ext) else none
    | some (.ret,s)=>if (resP P s fn.results.toList).isSome=true then some (.rcv,s.ext) else none
    | _=>none) else none
section
variable {P:Program} {md:Md} {orc:Orc} {dfr:Dfr} {fl:Nat} {f:FuncId} {fn:Func} {args:List PV} {e e':Ext} {r:CRes}
def fnOK(fn:Func):Bool:=match fn.body with
 | some c=>codeOK fn.ntmps c
 | none=>false
theorem evFn_sound(horc:OrcOK P orc)(hdfr:DfrOK P dfr)(hm:P.follows .mixedOrders=true)(hf:P.funcs[f]?=some fn)(hok:fnOK fn=true)(h:evFn P md orc dfr fl fn args e=some (r,e')):CallC P f args e fun r1 e1=>r1=r/\e1=e':=by
 unfold evFn at h
 unfold fnOK at hok
 split at h
 ·cases h
 ·rename_i c hb
  rw [hb] at hok
  simp only at hok
  split at h
  ·rename_i hn
   split at h
   ·split at h
    ·rename_i pe s he
     refine CallC.enter hf hb hn fun cx hcx hds=>?_
     rw [<-hcx] at hok he
     exact evC_sound horc hm c hok he (endV_sound h)
    ·cases h
   ·rename_i r0 mk df t y hsh
    obtain ⟨id,ts,rfl,hdf⟩:=shape_inv hsh
    simp only [codeOK,Bool.and_eq_true] at hok
    split at h
    ·rename_i hg
     simp only [Bool.and_eq_true,Option.isNone_iff_eq_none] at hg
     split at h
     ·rename_i s he
      split at h
      ·rename_i wr hwr
       split at h
       ·rename_i fid first cap hlk
        have hgo:∀ {m:PM} {m':PM} {e1:Ext},dfr fid (first++cap) e1 m=some (m',e')->isFn P fid=true:=fun h=>(hdfr _ _ _ _ _ _ h).1
        have key:isFn P fid=true/\∀cx':Cx,cx'.n=fn.ntmps->PW P cx' y (s.wrs wr) (endD P fn.results.toList (fun r1 e1=>r1=r/\e1=e') fid (first++cap)):=by
         have hres:∀ {s2:S} {e1:Ext},resD P fn.results.toList s2 e1=some (r,e')->∃q,resP P { s2 with ext:=e1 } fn.results.toList=some q/\r = .ret q/\e'=e1:=by
          intro s2 e1 h
          unfold resD at h
          split at h
          ·rename_i q hq
           simp only [Option.some.injEq,Prod.mk.injEq] at h
           exact ⟨q,hq,h.1.symm,h.2.symm⟩
          ·cases h
         split at h
         ·rename_i p s2 hy
          split at h
          ·rename_i e1 hd
           obtain ⟨q,h1,rfl,rfl⟩:=hres h
           obtain ⟨k1,k2⟩:=hdfr _ _ _ _ _ _ hd
           refine ⟨k1,fun cx' hcx'=>?_⟩
           rw [<-hcx'] at hok hy
           refine evC_sound horc hm y hok.2.2 hy ?_
           exact fun vs g l w u ha he hu=>(k2 vs g l w u ha he hu).mono fun en u' w' ⟨v,m',e2,g',l',k3,⟨k4,k5⟩,k6⟩=>⟨v,m',e2,g',l',k3,⟨k4,q,by rw [k5]; exact h1,rfl,k5⟩,k6⟩
          ·cases h
         ·cases h
         ·rename_i pe s2 hne1 hne2 hy
          split at h
          ·rename_i e1 hd
           obtain ⟨q,h1,rfl,rfl⟩:=hres h
           obtain ⟨k1,k2⟩:=hdfr _ _ _ _ _ _ hd
           refine ⟨k1,fun cx' hcx'=>?_⟩
           rw [<-hcx'] at hok hy
           refine evC_sound horc hm y hok.2.2 hy ?_
           have hend:CallCD P fid (first++cap) s2.ext .ret fun m e1'=>m = .ret/\∃q',resP P { s2 with ext:=e1' } fn.results.toList=some q'/\(CRes.ret q' = .ret q/\e1'=e'):=
            fun vs g l w u ha he hu=>(k2 vs g l w u ha he hu).mono fun en u' w' ⟨v,m',e2,g',l',k3,⟨k4,k5⟩,k6⟩=>⟨v,m',e2,g',l',k3,⟨k4,q,by rw [k5]; exact h1,rfl,k5⟩,k6⟩
           cases pe with
           | normal=>exact hend
           | ret=>exact hend
           | exit i=>exact absurd rfl (hne2 i)
           | panic p=>exact absurd rfl (hne1 p)
          ·cases h
         ·cases h
        refine CallC.enterD md.ro hf hb hn hdf hg.1.1 hg.1.2 hg.2 fun cx hcx hds=>?_
        have he':=he
        rw [<-hcx] at he'
        have hok1:=hok.1
        rw [<-hcx] at hok1
        refine evC_sound horc hm r0 hok1 he' ⟨rfl,RM.run_wp hwr ⟨fid,first,cap,hlk,key.1,key.2⟩⟩
       ·cases h
      ·cases h
     ·cases h
    ·cases h
  ·cases h
theorem recShape_inv{c y:Code}{t0 t1:Nat}(h:recShape c=some (t0,t1,y)):∃id o0 o1 ts,c = .seq (.region id #[o0,o1] false) y/\o0.op = .call ⟨.builtin .recover,#[],ts⟩/\o1.op = .assign (.tmp t0)/\o0.dst=some t0/\o1.dst=some t1/\o0.guard=none/\o1.guard=none:=by
 unfold recShape at h
 split at h
 ·rename_i id o0 o1 y'
  split at h
  ·rename_i ts t a b h0 h1 h2 h3
   split at h
   ·rename_i hc
    obtain ⟨rfl,g0,g1⟩:=hc
    simp only [Option.some.injEq,Prod.mk.injEq] at h
    obtain ⟨rfl,rfl,rfl⟩:=h
    exact ⟨id,o0,o1,ts,rfl,h0,h1,h2,h3,by simpa using g0,by simpa using g1⟩
   ·cases h
  ·cases h
 ·cases h
theorem evGn_sound{m m':PM}(horc:OrcOK P orc)(hm:P.follows .mixedOrders=true)(hf:P.funcs[f]?=some fn)(hok:fnOK fn=true)(h:evGn P md orc fl fn args e m=some (m',e')):CallCD P f args e m fun m1 e1=>m1=m'/\e1=e':=by
 unfold evGn at h
 unfold fnOK at hok
 split at h
 ·cases h
 ·rename_i c hb
  rw [hb] at hok
  simp only at hok
  split at h
  ·cases h
  ·rename_i t0 t1 y hsh
   obtain ⟨id,o0,o1,ts,rfl,h0,h1,h2,h3,g0,g1⟩:=recShape_inv hsh
   simp only [codeOK,Bool.and_eq_true] at hok
   split at h
   ·rename_i hc
    obtain ⟨c1,c2,c3⟩:=hc
    split at h
    ·cases h
    ·refine CallCD.enter hf hb c1 h0 g0 h2 h1 g1 h3 c2 c3 .nilif .ret (.inl ⟨rfl,rfl,rfl⟩) fun cx hcx hds=>?_
     split at h
     ·rename_i s hs
      split at h
      ·rename_i hres
       simp only [Option.some.injEq,Prod.mk.injEq] at h
       obtain ⟨rfl,rfl⟩:=h
       rw [<-hcx] at hok hs
       exact evC_sound horc hm y hok.2 hs ⟨.inl rfl,Option.isSome_iff_exists.1 hres,rfl,rfl⟩
      ·cases h
     ·rename_i s hs
      split at h
      ·rename_i hres
       simp only [Option.some.injEq,Prod.mk.injEq] at h
       obtain ⟨rfl,rfl⟩:=h
       rw [<-hcx] at hok hs
       exact evC_sound horc hm y hok.2 hs ⟨.inr rfl,Option.isSome_iff_exists.1 hres,rfl,rfl⟩
      ·cases h
     ·cases h
    ·rename_i p
     refine CallCD.enter hf hb c1 h0 g0 h2 h1 g1 h3 c2 c3 p .rcv (.inr ⟨rfl,rfl⟩) fun cx hcx hds=>?_
     split at h
     ·rename_i s hs
      split at h
      ·rename_i hres
       simp only [Option.some.injEq,Prod.mk.injEq] at h
       obtain ⟨rfl,rfl⟩:=h
       rw [<-hcx] at hok hs
       exact evC_sound horc hm y hok.2 hs ⟨.inl rfl,Option.isSome_iff_exists.1 hres,rfl,rfl⟩
      ·cases h
     ·rename_i s hs
      split at h
      ·rename_i hres
       simp only [Option.some.injEq,Prod.mk.injEq] at h
       obtain ⟨rfl,rfl⟩:=h
       rw [<-hcx] at hok hs
       exact evC_sound horc hm y hok.2 hs ⟨.inr rfl,Option.isSome_iff_exists.1 hres,rfl,rfl⟩
      ·cases h
     ·cases h
   ·cases h
end
def okFn(P:Program)(f:FuncId):Bool:=match P.funcs[f]? with
 | some fn=>isFn P f&&fnOK fn
 | none=>false
section
variable {P:Program} {cx:Cx} {s t:S} {g:Gh} {l:LG} {a:Act} {w:World} {o:Oper}
theorem run_append_room'(t ty e e':TypeId)(i:TypeInfo)(ht:P.underlying t=some (.slice e))(hi:P.info? e=some i)
  (g sLen sCap:Nat) (cur:Array Value) (hg:w.heap[g]?=some (.cells cur e' (0,0)))
  (a:Addr) (m c:Nat) (news:List Value) (hl:news.length=m * i.size) (hnews:∀j u,news[j]?=some u->w.cell? (a.add j)=some u) (h1:∀u∈news,u.oneCell'=true)
  (hroom:sLen+m<=sCap) (hfit:sLen * i.size+news.length<=cur.size) :
  (Builtin.append_ #[t,t] ty #[.slice (some ⟨g,0,none⟩) sLen sCap,.slice (some a) m c]).run P w =
   .ok (.slice (some ⟨g,0,none⟩) (sLen+m) sCap) (w.setRow g (cur.toList.take (sLen * i.size)++news++cur.toList.drop (sLen * i.size+news.length)).toArray):=by
 have hf:=run_firstCells_some (P:=P) w i.size m a m c news hl hnews
 have hst:=run_storeCells_at P g (sLen * i.size) e' news 0 cur w hg (by simpa using hfit) h1
 simp only [Nat.add_zero] at hst
 simp [Builtin.append_,run_underlying ht,sizeOf,typeInfo,hi,Builtin.lenOf,hroom,hf,Addr.add_lit,hst]
def intL:List PV->Option (List Int)
 | []=>some []
 | .int .i64 k::r=>(intL r).map (k :: ·)
 | _::_=>none
theorem intL_inv:∀ {l:List PV} {ks:List Int},intL l=some ks->l=ks.map (.int .i64)
 | [],ks,h=>by simp only [intL,Option.some.injEq] at h; subst h; rfl
 | x::r,ks,h=>by
  unfold intL at h
  split at h
  ·cases ‹_=[]›
  ·rename_i k r' e0
   injection e0 with e1 e2
   subst e1 e2
   simp only [Option.map_eq_some_iff] at h
   obtain ⟨qs,hq,rfl⟩:=h
   rw [intL_inv hq]; rfl
  ·cases h
def appY(x y:Operand):RM ((Nat × Nat × List Int) × List Int):=ev x fun lx=>match yslOf lx with
 | some (n,c,len) => .getX n fun cs=>match rowOf cs with
  | some (c',ps) => .assume (decide (c=c'/\len=ps.length)) (ev y fun ly=>match elsOf ly with
   | some (y0::ys)=>if okZ 1 ly=true then (match intL (y0::ys).flatten with | some ks => .ret ((n,c,ps),ks) | none => .fail) else .fail
   | _ => .fail)
  | none => .fail
 | none => .fail
theorem row_cells(hs:Sim cx s g l a w){n c len:Nat}{cs:List LV}{ps:List Int}{v:Value}(hr:Rep g w (.ysl n c len) v)(hx:lk s.ext n=some cs)(hp:rowOf cs=some (c,ps))(hl:len=ps.length) :
  ∃b cap cur e,v = .slice (some ⟨b,0,none⟩) len cap/\g.Y n c=some b/\l.O b=some (.x n)/\(∀c',c<c'->g.Y n c'=none)/\g.M b=some 0/\w.heap[b]?=some (.cells cur e (0,0))/\cur.size=cap/\len<=cap/\cap<=maxLen /\
   RepAll g w (ps.map (.int .i64)) (cur.toList.take len)/\∀u∈cur.toList.take len,u.oneCell'=true:=by
 subst hl
 cases hr with
 | ysl _ _ _ b cap cur e hY hh hsz hle hcap=>
  obtain ⟨b',k1,k2,k3,kM,cur2,e2,k4,k5,k6⟩:=row_at hs hx hp
  rw [hY] at k1
  injection k1 with k1
  subst k1
  rw [hh] at k4
  injection k4 with k4
  injection k4 with k4 _ _
  subst k4
  refine ⟨b,cap,cur,e,rfl,hY,k2,k3,kM,hh,hsz.symm,hle,hcap,⟨by simp only [List.length_map,List.length_take,Array.length_toList]; omega,fun j hj hj'=>?_⟩,fun u hu=>?_⟩
  ·have hjp:j<ps.length:=by rw [List.length_map] at hj; exact hj
   have h6:=(k6 j hjp).2
   rw [List.getElem_map]
   have hj3:j<cur.size:=by omega
   have:cur.getD j undef=(cur.toList.take ps.length)[j]:=by simp [hj3]
   rw [<-this]
   exact h6
  ·obtain ⟨j,hj,e0⟩:=List.getElem_of_mem hu
   have hj1:j<ps.length:=by rw [List.length_take] at hj; omega
   have h6:=(k6 j hj1).1
   have hj3:j<cur.size:=by omega
   have:cur.getD j undef=(cur.toList.take ps.length)[j]:=by simp [hj3]
   rw [this,e0] at h6
   exact h6
theorem cell_take{b:Nat}{cur:Array Value}{e:TypeId}{len j:Nat}{v:Value}(hh:w.heap[b]?=some (.cells cur e (0,0)))(hj:(cur.toList.take len)[j]?=some v):w.cell? ((⟨b,0,none⟩:Addr).add j)=some v:=by
 rw [List.getElem?_take] at hj
 split at hj
 ·have e1:(⟨b,0,none⟩:Addr).add j=⟨b,j,none⟩:=by simp [Addr.add_lit]
  rw [e1]
  have hj4:cur[j]?=some v:=by simpa using hj
  simp [World.cell?,hh,hj4]
 ·cases hj
theorem appY_go{K:S->Prop}{Q:PExit->S->Prop}{ty e:TypeId}{x y:Operand}{d B:Nat}{zs:List PV}(ho:o.op = .call ⟨.builtin .append,#[x,y],#[ty,ty]⟩)(hd:o.dst=some d)(hn:d<cx.n)
  (he:elemT P ty=some e) (hm:csz P e=some 1) (hB:cbytes P e=some (B+1)) (hz:zro P e=some zs) (hzl:zs.length=1) (hs:Sim cx s g l a w)
  (h:(appY x y).wp s fun r=>(r.1.2.2.length+r.2.length) * (B+1)<=140737488355328 /\
   K { s with tmps:=put s.tmps d (.v (.ysl r.1.1 (r.1.2.1+1) (r.1.2.2.length+r.2.length))),ext:=put s.ext r.1.1 [.row (r.1.2.1+1) (r.1.2.2++r.2)] }) :
  o.wp P a w (fun a' w'=>∃s' g' l',K s'/\Sim cx s' g' l' a' w') (post cx Q):=by
 have hu:=elemT_inv he
 obtain ⟨i,zv,z1,z2,z3⟩:=zro_inv hz
 have hsz:i.size=1:=by simpa [csz,z1] using hm
 have hby:i.bytes=B+1:=by simpa [cbytes,z1] using hB
 have hzs:zv.cells.size=1:=by rw [<-Array.length_toList,<-cvs_length z3]; exact hzl
 obtain ⟨-,hzone,-⟩:=cvs_rep (g:=g) (w:=w) z3
 obtain ⟨lx,ux,h1,r1,-⟩:=ev_sound hs h
 split at h1
 ·rename_i n c len hys0
  have hlx:lx = .v (.ysl n c len):=by
   unfold yslOf at hys0
   split at hys0
   ·injection hys0 with q0; injection q0 with q1 q0; injection q0 with q2 q3; subst q1 q2 q3; rfl
   ·cases hys0
  subst hlx
  simp only [RM.wp] at h1
  split at h1
  ·rename_i cs hcs
   split at h1
   ·rename_i c' ps hps
    simp only [RM.wp] at h1
    obtain ⟨hcl,h1⟩:=h1
    obtain ⟨rfl,hpl⟩:=of_decide_eq_true hcl
    obtain ⟨ly,uy,h2,r2,-⟩:=ev_sound hs h1
    split at h2
    ·rename_i y0 ys hys
     split at h2
     ·rename_i hok
      split at h2
      rotate_left
      ·exact h2.elim
      rename_i ks hks
      obtain ⟨hb,h2⟩:=h2
      simp only at hb h2
      obtain ⟨b,cap,cur,e',hvx,hY,hO,hF,hM,hh,hcs2,hle,hcap,hR,hone⟩:=row_cells hs r1 hcs hps hpl
      have hrow:=rowOf_inv hps
      subst hrow
      obtain ⟨ay,cc,hvy,hYR⟩:∃ay cc,a.eval y = .slice (some ay) (y0::ys).length cc/\Rep g w (.sl 1 (y0::ys)) (a.eval y):=by
       rcases els_rep hys hok r2 with ⟨h,-⟩ | h
       ·cases h
       ·exact h
      rw [hvy] at hYR
      obtain ⟨-,-,-,hyz,news,hnr,hnl,hnc⟩:=hYR.flat
      have hkY:=intL_inv hks
      rw [hkY] at hnr
      generalize hYY:(y0::ys)=Y at *
      have hpos:0<Y.length:=by rw [<-hYY]; simp
      rw [Nat.mul_one] at hnl
      have hfl:Y.flatten.length=Y.length:=by rw [flatten_length _ Y hyz,Nat.mul_one]
      have hkl:ks.length=Y.length:=by rw [<-hfl,hkY,List.length_map]
      rw [hkl] at hb h2
      have hn1:∀u∈news,u.oneCell'=true:=fun u hu=>by
       obtain ⟨j,hj,e⟩:=List.getElem_of_mem hu
       exact (hnc j u (by rw [List.getElem?_eq_getElem hj,e])).2.2
      rw [<-hpl] at hb h2
      have hlen:len+Y.length<=140737488355328:=by
       have:=Nat.le_mul_of_pos_right (len+Y.length) (Nat.succ_pos B)
       simp only [Nat.succ_eq_add_one] at this
       omega
      have h63:len+Y.length<=maxLen:=by simp only [maxLen]; omega
      have hnl':news.length=Y.length * i.size:=by rw [hsz,Nat.mul_one]; exact hnl
      have hnews:∀j v,news[j]?=some v->w.cell? (ay.add j)=some v:=fun j v hj=>(hnc j v hj).1
      have hex:∀v' w',(Builtin.append_ #[ty,ty] o.type #[a.eval x,a.eval y]).run P w = .ok v' w'->(execOp a.eval o).run P w = .ok (.value v') w':=by
       intro v' w' hr
       simp only [execOp,ho,resolve,invoke,builtin,Sem.run_bind,Sem.run_pure,Result.andThen_ok,List.map_toArray,List.map_cons,List.map_nil,hr]
      have hol:(cur.toList.take len).length=len:=by rw [List.length_take,Array.length_toList]; omega
      have hRall:=hR.app hnr
      rw [<-List.map_append] at hRall
      have hRl:(ps++ks).length=(cur.toList.take len++news).length:=by rw [<-hRall.1,List.length_map]
      have hRg:∀j (hj:j<(ps++ks).length) (hj2:j<(cur.toList.take len++news).length),Rep g w (.int .i64 (ps++ks)[j]) (cur.toList.take len++news)[j]:=fun j hj hj2=>by
       have:=hRall.2 j (by rw [List.length_map]; exact hj) hj2
       rw [List.getElem_map] at this
       exact this
      have hall1:∀u∈cur.toList.take len++news,u.oneCell'=true:=fun u hu=>by
       rcases List.mem_append.1 hu with hu | hu
       ·exact hone u hu
       ·exact hn1 u hu
      have hpsY:(ps++ks).length=len+Y.length:=by rw [List.length_append,hkl,hpl]
      by_cases hroom:len+Y.length<=cap
      ·have hr:=run_append_room' (P:=P) ty o.type e e' i hu z1 b len cap cur hh ay Y.length cc news hnl' hnews hn1 hroom (by rw [hsz,hnl,Nat.mul_one,hcs2]; exact hroom)
       rw [hsz,Nat.mul_one,<-hvx,<-hvy] at hr
       unfold Oper.wp
       rw [hex _ _ hr,Oper.upon_value,hd]
       have hcl:(cur.toList.take len++news++cur.toList.drop (len+news.length)).toArray.size=cur.size:=by
        simp only [List.size_toArray,List.length_append,List.length_take,List.length_drop,Array.length_toList,hnl]; omega
       have hget:∀j,j<(ps++ks).length->((cur.toList.take len++news++cur.toList.drop (len+news.length)).toArray.getD j undef)=(cur.toList.take len++news).getD j undef:=fun j hj=>by
        have hj':j<(cur.toList.take len++news).length:=by rw [<-hRl]; exact hj
        simp only [Array.getD_eq_getD_getElem?,List.getElem?_toArray,List.getD_eq_getElem?_getD]
        rw [List.getElem?_append_left hj']
       have k1:=hs.rowset (c2:=c+1) (ps':=ps++ks) hcs hY hO hF hM hh hcl (.inr (Nat.lt_succ_self c)) (by rw [hcl,hpsY,hcs2]; exact hroom) (fun j hj=>by
         have hj2:j<(cur.toList.take len++news).length:=by rw [<-hRl]; exact hj
         rw [hget j hj]
         simp only [List.getD_eq_getElem?_getD,List.getElem?_eq_getElem hj2,Option.getD_some]
         exact ⟨hall1 _ (List.getElem_mem hj2),hRg j hj hj2⟩)
       refine ⟨_,_,_,h2,k1.set hn (.ysl _ _ _ b cap _ e' (updY_same _ _ _ _) (setRow_heap w b cur _ e' _ hh) ?_ hroom hcap)⟩
       rw [hcl]; exact hcs2.symm
      ·have hbytes:(len+Y.length) * i.bytes<=140737488355328:=by rw [hby]; exact hb
       have hr:=run_append_grow (P:=P) w ty o.type e i zv hu z1 z2 ⟨b,0,none⟩ len cap (cur.toList.take len) (by rw [hsz,Nat.mul_one]; exact hol) (fun j v hj=>cell_take hh hj) ay Y.length cc news hnl' hnews oM (by simp only [maxLen] at h63; omega) (growslice_fits oM hbytes)
       rw [<-hvx,<-hvy] at hr
       have hge:=grownCap_ge w (len+Y.length) cap e
       have hcm:=grownCap_le_maxLen w (len+Y.length) cap e h63
       unfold Oper.wp
       rw [hex _ _ hr,Oper.upon_value,hd]
       obtain ⟨hs1,hm1⟩:=hs.drew
       have hsize:w.drew.heap.size=w.heap.size:=rfl
       have k1:=hs1.rownew n (c+1) (fun c' hc'=>hF c' oM) (Nat.le_of_lt (lt_cnt hcs)) ((cur.toList.take len).toArray++news.toArray++Builtin.zeroCells zv.cells (grownCap w (len+Y.length) cap e - (len+Y.length))) e (ps++ks)
        (by simp only [Array.size_append,List.size_toArray,size_zeroCells,hzs,hnl,hol,hpsY]; omega) (fun j hj=>by
         have hj2:j<(cur.toList.take len++news).length:=by rw [<-hRl]; exact hj
         have h3:=(hRg j hj hj2).mono hm1
         have e2:(((cur.toList.take len).toArray++news.toArray++Builtin.zeroCells zv.cells (grownCap w (len+Y.length) cap e - (len+Y.length))).getD j undef)=(cur.toList.take len++news)[j]:=by
          have hj4:j<((cur.toList.take len).toArray++news.toArray).size:=by simp only [Array.size_append,List.size_toArray]; rw [List.length_append] at hj2; exact hj2
          rw [Array.getD_eq_getD_getElem?,Array.getElem?_append_left hj4,List.append_toArray,List.getElem?_toArray,List.getElem?_eq_getElem hj2]; rfl
         rw [e2]
         exact ⟨hall1 _ (List.getElem_mem hj2),h3⟩)
       rw [hsize] at k1
       refine ⟨_,_,_,h2,k1.set hn (.ysl _ _ _ _ _ _ _ (updY_same _ _ _ _) (heap_alloc_new w.drew _) ?_ hge hcm)⟩
       simp only [Array.size_append,List.size_toArray,size_zeroCells,hzs,hnl,hol,Nat.mul_one]
       omega
     ·exact h2.elim
    ·exact h2.elim
   ·exact h1.elim
  ·exact h1.elim
 ·exact h1.elim
def appZ(x y:Operand):RM (Nat × Nat × List Int):=ev x fun lx=>match lx with
 | .v .nilsl=>ev y fun ly=>match yslOf ly with
  | some (n,c,len) => .getX n fun cs=>match rowOf cs with
   | some (c',ps) => .assume (decide (c=c'/\len=ps.length/\0<len)) (.ret (n,c,ps))
   | none => .fail
  | none => .fail
 | _ => .fail
theorem appZ_go{K:S->Prop}{Q:PExit->S->Prop}{ty e:TypeId}{x y:Operand}{d B:Nat}{zs:List PV}(ho:o.op = .call ⟨.builtin .append,#[x,y],#[ty,ty]⟩)(hd:o.dst=some d)(hn:d<cx.n)
  (he:elemT P ty=some e) (hm:csz P e=some 1) (hB:cbytes P e=some (B+1)) (hz:zro P e=some zs) (hzl:zs.length=1) (hs:Sim cx s g l a w)
  (h:(appZ x y).wp s fun r=>r.2.2.length * (B+1)<=140737488355328 /\
   K { s with tmps:=put s.tmps d (.v (.ysl r.1 (r.2.1+1) r.2.2.length)),ext:=put s.ext r.1 [.row (r.2.1+1) r.2.2] }) :
  o.wp P a w (fun a' w'=>∃s' g' l',K s'/\Sim cx s' g' l' a' w') (post cx Q):=by
 have hu:=elemT_inv he
 obtain ⟨i,zv,z1,z2,z3⟩:=zro_inv hz
 have hsz:i.size=1:=by simpa [csz,z1] using hm
 have hby:i.bytes=B+1:=by simpa [cbytes,z1] using hB
 have hzs:zv.cells.size=1:=by rw [<-Array.length_toList,<-cvs_length z3]; exact hzl
 obtain ⟨-,hzone,-⟩:=cvs_rep (g:=g) (w:=w) z3
 obtain ⟨lx,ux,h1,r1,-⟩:=ev_sound hs h
 split at h1
 ·have hvx:a.eval x = .slice none 0 0:=by generalize a.eval x=v at r1; cases r1; rfl
  obtain ⟨ly,uy,h2,r2,-⟩:=ev_sound hs h1
  split at h2
  ·rename_i n c len hys0
   have hlx:ly = .v (.ysl n c len):=by
    unfold yslOf at hys0
    split at hys0
    ·injection hys0 with q0; injection q0 with q1 q0; injection q0 with q2 q3; subst q1 q2 q3; rfl
    ·cases hys0
   subst hlx
   simp only [RM.wp] at h2
   split at h2
   ·rename_i cs hcs
    split at h2
    ·rename_i c' ps hps
     simp only [RM.wp] at h2
     obtain ⟨hcl,hb,h2⟩:=h2
     obtain ⟨rfl,hpl,hpos⟩:=of_decide_eq_true hcl
     replace hb:ps.length * (B+1)<=140737488355328:=hb
     replace h2:K { s with tmps:=put s.tmps d (.v (.ysl n (c+1) ps.length)),ext:=put s.ext n [.row (c+1) ps] }:=h2
     obtain ⟨b,cap,cur,e',hvy,hY,hO,hF,hM,hh,hcs2,hle,hcap,hR,hone⟩:=row_cells hs r2 hcs hps hpl
     have hrow:=rowOf_inv hps
     subst hrow
     rw [<-hpl] at hb h2
     have hol:(cur.toList.take len).length=len:=by rw [List.length_take,Array.length_toList]; omega
     have hlen:len<=140737488355328:=by
      have:=Nat.le_mul_of_pos_right len (Nat.succ_pos B)
      simp only [Nat.succ_eq_add_one] at this
      omega
     have h63:len<=maxLen:=by simp only [maxLen]; omega
     have hex:∀v' w',(Builtin.append_ #[ty,ty] o.type #[a.eval x,a.eval y]).run P w = .ok v' w'->(execOp a.eval o).run P w = .ok (.value v') w':=by
      intro v' w' hr
      simp only [execOp,ho,resolve,invoke,builtin,Sem.run_bind,Sem.run_pure,Result.andThen_ok,List.map_toArray,List.map_cons,List.map_nil,hr]
     have hr:=run_append_nil (P:=P) w ty o.type e i zv hu z1 z2 ⟨b,0,none⟩ len cap (cur.toList.take len) (by rw [hsz,Nat.mul_one]; exact hol) (fun j v hj=>cell_take hh hj) hpos oM (by rw [hby]; omega)
     rw [<-hvx,<-hvy] at hr
     have hge:=grownCap_ge w len 0 e
     have hcm:=grownCap_le_maxLen w len 0 e (by simpa using h63)
     unfold Oper.wp
     rw [hex _ _ hr,Oper.upon_value,hd]
     obtain ⟨hs1,hm1⟩:=hs.drew
     have hsize:w.drew.heap.size=w.heap.size:=rfl
     have k1:=hs1.rownew n (c+1) (fun c' hc'=>hF c' oM) (Nat.le_of_lt (lt_cnt hcs)) ((cur.toList.take len).toArray++Builtin.zeroCells zv.cells (grownCap w len 0 e - len)) e ps
      (by simp only [Array.size_append,List.size_toArray,size_zeroCells,hzs,hol]; omega) (fun j hj=>by
       have hj2:j<(cur.toList.take len).length:=by rw [<-hR.1,List.length_map]; exact hj
       have h3:=(hR.2 j (by rw [List.length_map]; exact hj) hj2).mono hm1
       rw [List.getElem_map] at h3
       have e2:(((cur.toList.take len).toArray++Builtin.zeroCells zv.cells (grownCap w len 0 e - len)).getD j undef)=(cur.toList.take len)[j]:=by
        rw [Array.getD_eq_getD_getElem?,Array.getElem?_append_left (by rw [List.size_toArray]; exact hj2),List.getElem?_toArray,List.getElem?_eq_getElem hj2]; rfl
       rw [e2]
       exact ⟨hone _ (List.getElem_mem hj2),h3⟩)
     rw [hsize] at k1
     refine ⟨_,_,_,h2,k1.set hn (.ysl _ _ _ _ _ _ _ (updY_same _ _ _ _) (heap_alloc_new w.drew _) ?_ hge hcm)⟩
     simp only [Array.size_append,List.size_toArray,size_zeroCells,hzs,hol,Nat.mul_one]
     omega
    ·exact h2.elim
   ·exact h2.elim
  ·exact h2.elim
 ·exact h1.elim
def appN(x y:Operand):RM (List Int):=ev x fun lx=>ev y fun ly=>match lx,elsOf ly with
 | .v .nilsl,some (y0::ys)=>if okZ 1 ly=true then (match intL (y0::ys).flatten with | some ks => .ret ks | none => .fail) else .fail
 | _,_ => .fail
theorem appN_go{K:S->Prop}{Q:PExit->S->Prop}{ty e:TypeId}{x y:Operand}{d B:Nat}{zs:List PV}(ho:o.op = .call ⟨.builtin .append,#[x,y],#[ty,ty]⟩)(hd:o.dst=some d)(hn:d<cx.n)
  (he:elemT P ty=some e) (hm:csz P e=some 1) (hB:cbytes P e=some (B+1)) (hz:zro P e=some zs) (hzl:zs.length=1) (hs:Sim cx s g l a w)
  (h:(appN x y).wp s fun ks=>ks.length * (B+1)<=140737488355328/\K { s with tmps:=put s.tmps d (.v (.ysl (cnt s.ext) 0 ks.length)),ext:=put s.ext (cnt s.ext) [.row 0 ks] }) :
  o.wp P a w (fun a' w'=>∃s' g' l',K s'/\Sim cx s' g' l' a' w') (post cx Q):=by
 have hu:=elemT_inv he
 obtain ⟨i,zv,z1,z2,z3⟩:=zro_inv hz
 have hsz:i.size=1:=by simpa [csz,z1] using hm
 have hby:i.bytes=B+1:=by simpa [cbytes,z1] using hB
 have hzs:zv.cells.size=1:=by rw [<-Array.length_toList,<-cvs_length z3]; exact hzl
 obtain ⟨-,hzone,-⟩:=cvs_rep (g:=g) (w:=w) z3
 obtain ⟨lx,ux,h1,r1,-⟩:=ev_sound hs h
 obtain ⟨ly,uy,h2,r2,-⟩:=ev_sound hs h1
 split at h2
 ·rename_i y0 ys hys
  split at h2
  ·rename_i hok
   split at h2
   rotate_left
   ·exact h2.elim
   rename_i ks hks
   obtain ⟨hb,h2⟩:=h2
   have hvx:a.eval x = .slice none 0 0:=by generalize a.eval x=v at r1; cases r1; rfl
   obtain ⟨ay,c,hvy,hYR⟩:∃ay c,a.eval y = .slice (some ay) (y0::ys).length c/\Rep g w (.sl 1 (y0::ys)) (a.eval y):=by
    rcases els_rep hys hok r2 with ⟨h,-⟩ | h
    ·cases h
    ·exact h
   rw [hvy] at hYR
   obtain ⟨-,-,-,hyz,news,hnr,hnl,hnc⟩:=hYR.flat
   have hkY:=intL_inv hks
   rw [hkY] at hnr
   generalize hY:(y0::ys)=Y at *
   have hpos:0<Y.length:=by rw [<-hY]; simp
   rw [Nat.mul_one] at hnl
   have hfl:Y.flatten.length=Y.length:=by rw [flatten_length _ Y hyz,Nat.mul_one]
   have hkl:ks.length=Y.length:=by rw [<-hfl,hkY,List.length_map]
   rw [hkl] at hb h2
   have hn1:∀u∈news,u.oneCell'=true:=fun u hu=>by
    obtain ⟨j,hj,e⟩:=List.getElem_of_mem hu
    exact (hnc j u (by rw [List.getElem?_eq_getElem hj,e])).2.2
   have hlen:Y.length<=140737488355328:=by
    have:=Nat.le_mul_of_pos_right Y.length (Nat.succ_pos B)
    simp only [Nat.succ_eq_add_one] at this
    omega
   have h63:Y.length<=maxLen:=by simp only [maxLen]; omega
   have hr:=run_append_nil (P:=P) w ty o.type e i zv hu z1 z2 ay Y.length c news (by rw [hsz,Nat.mul_one]; exact hnl) (fun j v hj=>(hnc j v hj).1) hpos oM (by rw [hby]; omega)
   have hge:=grownCap_ge w Y.length 0 e
   have hcm:=grownCap_le_maxLen w Y.length 0 e (by simpa using h63)
   have hex:∀v' w',(Builtin.append_ #[ty,ty] o.type #[a.eval x,a.eval y]).run P w = .ok v' w'->(execOp a.eval o).run P w = .ok (.value v') w':=by
    intro v' w' hr
    simp only [execOp,ho,resolve,invoke,builtin,Sem.run_bind,Sem.run_pure,Result.andThen_ok,List.map_toArray,List.map_cons,List.map_nil,hr]
   rw [<-hvx,<-hvy] at hr
   unfold Oper.wp
   rw [hex _ _ hr,Oper.upon_value,hd]
   obtain ⟨hs1,hm1⟩:=hs.drew
   have hsize:w.drew.heap.size=w.heap.size:=rfl
   have k1:=hs1.rownew (cnt s.ext) 0 (fun c' _=>hs.fresh.2.2 _ c' (Nat.le_refl _)) (Nat.le_refl _) (news.toArray++Builtin.zeroCells zv.cells (grownCap w Y.length 0 e - Y.length)) e ks
    (by simp only [Array.size_append,List.size_toArray,size_zeroCells,hzs,hnl,hkl]; omega) (fun j hj=>by
     have hlt':j<news.length:=by rw [<-hnr.1,List.length_map]; exact hj
     have h3:=(hnr.2 j (by rw [List.length_map]; exact hj) hlt').mono hm1
     rw [List.getElem_map] at h3
     have e2:((news.toArray++Builtin.zeroCells zv.cells (grownCap w Y.length 0 e - Y.length)).getD j undef)=news[j]:=by
      rw [Array.getD_eq_getD_getElem?,Array.getElem?_append_left (by rw [List.size_toArray]; exact hlt'),List.getElem?_toArray,List.getElem?_eq_getElem hlt']; rfl
     rw [e2]
     exact ⟨hn1 _ (List.getElem_mem hlt'),h3⟩)
   rw [hsize] at k1
   refine ⟨_,_,_,h2,k1.set hn (.ysl _ _ _ _ _ _ _ (updY_same _ _ _ _) (heap_alloc_new w.drew _) ?_ (by simpa using hge) hcm)⟩
   simp only [Array.size_append,List.size_toArray,size_zeroCells,hzs,hnl,Nat.mul_one]
   omega
  ·exact h2.elim
 ·exact h2.elim
end
def frzV:LV->Option PV
 | .v q=>some q
 | .uniq e z es=>if e<1000000 then some (.sl z es) else none
 | .full z es=>some (.sl z es)
 | _=>none
def frzL:List LV->Option (List PV)
 | []=>some []
 | x::r=>match frzV x,frzL r with
  | some q,some qs=>some (q::qs)
  | _,_=>none
def frzT(i:Nat)(qs:List PV):List (Nat × LV)->List (Nat × LV)
 | []=>[]
 | (k,.lp j off)::r=>(k,if j=i then .v (.ro qs off) else .lp j off)::frzT i qs r
 | x::r=>x::frzT i qs r
def frzS(s:S):Operand->S
 | .tmp t=>match lk s.tmps t with
  | some (.lp i _)=>match lk s.boxes i with
   | some cs=>match frzL cs with
    | some qs=>⟨frzT i qs s.tmps,del s.boxes i,s.ext⟩
    | none=>s
   | none=>s
  | _=>s
 | _=>s
def frzA(s:S):List Operand->S
 | []=>s
 | o::r=>frzA (frzS s o) r
theorem frzT_lk(i:Nat)(qs:List PV):∀ (l:List (Nat × LV)) (t:Nat) (lv:LV),lk (frzT i qs l) t=some lv->lk l t=some lv∨∃off,lk l t=some (.lp i off)/\lv = .v (.ro qs off)
 | [],_,_,h=>by cases h
 | (k,x)::r,t,lv,h=>by
  by_cases hk:k=t
  ·cases x
   case lp j off=>
    simp only [frzT,lk,iP hk] at h ⊢
    injection h with h
    by_cases hj:j=i
    ·subst hj; rw [iP rfl] at h; exact .inr ⟨off,rfl,h.symm⟩
    ·rw [iN hj] at h; exact .inl (by rw [<-h])
   all_goals (simp only [frzT,lk,iP hk] at h ⊢; exact .inl h)
  ·have ih:=frzT_lk i qs r t lv
   cases x <;> (simp only [frzT,lk,iN hk] at h ⊢; exact ih h)
theorem frzL_len:∀ {cs:List LV} {qs:List PV},frzL cs=some qs->qs.length=cs.length
 | [],qs,h=>by simp only [frzL] at h; injection h with h; subst h; rfl
 | x::r,qs,h=>by
  simp only [frzL] at h
  split at h
  ·rename_i q qs' h1 h2
   injection h with h; subst h
   simp [frzL_len h2]
  ·cases h
theorem frzL_at:∀ {cs:List LV} {qs:List PV},frzL cs=some qs->∀j (h:j<cs.length) (h':j<qs.length),frzV cs[j]=some qs[j]
 | [],_,_,j,h,_=>absurd h sM
 | x::r,qs,hq,j,h,h'=>by
  simp only [frzL] at hq
  split at hq
  ·rename_i q qs' h1 h2
   injection hq with hq; subst hq
   cases j with
   | zero=>exact h1
   | succ j=>exact frzL_at h2 j (by simpa using h) (by simpa using h')
  ·cases hq
theorem frzV_rep{g:Gh}{l:LG}{w:World}{p:UL}{x:LV}{q:PV}{v:Value}(h:frzV x=some q)(hr:RepL g l w p x v):Rep g w q v:=by
 cases x <;> simp only [frzV] at h <;> first | (cases h; done) | (injection h with h; subst h) | (split at h; rename_i hlt; injection h with h; subst h; rotate_left; cases h)
 ·exact hr
 ·rename_i e z es; exact WL.rep (p:=p) (l:=l) (t := .v (.sl z es)) (s := .uniq e z es) (.inr ⟨rfl,wlE (by assumption)⟩) hr
 ·rename_i z es; exact WL.rep (p:=p) (l:=l) (t := .v (.sl z es)) (s := .full z es) (.inr ⟨rfl,rfl⟩) hr
theorem Sim.frz{cx:Cx}{s:S}{g:Gh}{l:LG}{a:Act}{w:World}(h:Sim cx s g l a w){i:Nat}{cs:List LV}{qs:List PV}(hb:lk s.boxes i=some cs)(hq:frzL cs=some qs) :
  ∃g' l',Sim cx ⟨frzT i qs s.tmps,del s.boxes i,s.ext⟩ g' l' a w:=by
 obtain ⟨b,h1,h2,h3,cur,e,h4,h5,h6⟩:=h.bx i cs hb
 let g':Gh:=⟨fun x=>if x=b then none else g.M x,g.X,g.Y⟩
 let l':LG:=⟨l.L,l.U,fun x=>if x=b then none else l.O x⟩
 have hm:Mono g w g' w:=⟨fun _ _ e=>e,fun b' o v hc hf=>⟨hc,fun k hk=>by
  simp only [g'] at hk
  split at hk
  ·cases hk
  ·exact hf k hk⟩,fun _ cur _ h=>⟨cur,h,rfl⟩,fun _ _ _ h=>h,fun b' arr c hh hn=>⟨hh,if e0:b'=b then (iP e0:(if b'=b then none else g.M b')=none) else (iN e0).trans hn⟩⟩
 have hO:∀ {b' o},l.O b'=some o->o ≠ .l i->b'≠b:=fun {b' o} ho hne e0=>by
  subst e0; rw [h2] at ho; injection ho with ho; exact hne ho.symm
 have hM:∀ {b'},b'≠b->g'.M b'=g.M b':=fun hne=>by simp only [g',iN hne]
 have hO':∀ {b' o},l.O b'=some o->o ≠ .l i->l'.O b'=some o:=fun ho hne=>by simp only [l',iN (hO ho hne)]; exact ho
 have hL:∀ {p lv v},RepL g l w p lv v->RepL g' l' w p lv v:=fun hr=>hr.keep hm (fun _ _ _=>rfl) fun b2 hu=>⟨hu,hM (hO (h.uo _ _ hu) (by intro e0; cases e0)),rfl⟩
 refine ⟨g',l',⟨⟨h.hist.mono.trans hm,h.hist.size,fun b' hlt ho=>?_,h.hist.os,h.hist.tape,h.hist.output,h.hist.glb.mono hm⟩,h.size,h.defers,fun t lv ht=>?_,fun j cs' hj=>?_,fun x cs' hx=>?_,fun b' o ho=>?_,fun p b' hu=>?_,⟨fun b' hb'=>?_,h.fresh.2⟩,h.xlt⟩⟩
 ·obtain ⟨k1,k2⟩:=h.hist.frame b' hlt ho
  refine ⟨k1,?_⟩
  rw [hM]
  ·exact k2
  ·intro e0; subst e0
   rcases (h.own b' _ h2).2 with h7 | h7
   ·omega
   ·exact ho h7
 ·rcases frzT_lk i qs s.tmps t lv ht with ht2 | ⟨off,ht2,rfl⟩
  ·exact hL (h.tm t lv ht2)
  ·obtain ⟨b',k1,k2⟩:=h.tm t (.lp i off) ht2
   rw [h1] at k1; injection k1 with k1; subst k1
   show Rep g' w (.ro qs off) _
   have hlen:=frzL_len hq
   have e9:(Value.pointer (some ⟨b,off,none⟩):Value) = .pointer (some ⟨b,0+off,none⟩):=by rw [Nat.zero_add]
   rw [k2,e9]
   refine .ro qs off b 0 (fun j=>cur.getD j undef) (fun j hj=>?_) (fun j hj k hk=>?_) (fun j hj=>(h6 j oM).2.1) fun j hj=>?_
   ·have hj':j<cur.size:=by omega
    simp only [World.cell?,h4]
    simp [hj']
   ·simp only [g'] at hk
    simp at hk
   ·exact (frzV_rep (frzL_at hq j oM hj) (h6 j oM).2.2).mono hm
 ·rw [lk_del] at hj
  split at hj
  ·cases hj
  ·rename_i hne
   obtain ⟨b',k1,k2,k3,cur',e',k4,k5,k6⟩:=h.bx j cs' hj
   have hnj:(Own.l j) ≠ .l i:=by intro e0; injection e0 with e0; exact hne e0.symm
   exact ⟨b',k1,hO' k2 hnj,(hM (hO k2 hnj)).trans k3,cur',e',k4,k5,fun j' hj'=>⟨(k6 j' hj').1,(k6 j' hj').2.1,hL (k6 j' hj').2.2⟩⟩
 ·obtain ⟨b',k1,k2,hE⟩:=h.ex x cs' hx
  have hnx:(Own.x x) ≠ .l i:=by intro e0; cases e0
  refine ⟨b',k1.mono hm,hO' k2 hnx,?_⟩
  rcases hE with ⟨k3,cur',e',k4,k5,k6⟩ | hE
  ·exact .inl ⟨(hM (hO k2 hnx)).trans k3,cur',e',k4,k5,fun j' hj'=>⟨(k6 j' hj').1,(k6 j' hj').2.1,hL (k6 j' hj').2.2⟩⟩
  ·exact .inr (hE.keep hm (fun _ _ _ k=>k) (hM (hO k2 hnx)) rfl)
 ·simp only [l'] at ho
  split at ho
  ·cases ho
  ·exact h.own b' o ho
 ·exact hO' (h.uo p b' hu) (by intro e0; cases e0)
 ·simp only [g']
  split
  ·rfl
  ·exact h.fresh.1 b' hb'
theorem OpK.frz1{P:Program}{cx:Cx}{s:S}{o:Oper}{K:S->Prop}{Q:PExit->S->Prop}{x:Operand}(h:OpK P cx (frzS s x) o K Q):OpK P cx s o K Q:=fun g l a w hs=>by
 unfold frzS at h
 split at h
 ·split at h
  ·split at h
   ·split at h
    ·rename_i hb _ _ hq
     obtain ⟨g',l',hs'⟩:=hs.frz hb hq
     exact h g' l' a w hs'
    ·exact h g l a w hs
   ·exact h g l a w hs
  ·exact h g l a w hs
 ·exact h g l a w hs
theorem OpK.frz{P:Program}{cx:Cx}{o:Oper}{K:S->Prop}{Q:PExit->S->Prop}:∀ {l:List Operand} {s:S},OpK P cx (frzA s l) o K Q->OpK P cx s o K Q
 | [],_,h=>h
 | _::_,_,h=>OpK.frz1 (OpK.frz h)
def RepX(k:Nat)(g:Gh)(w:World)(ps:List PV)(vs:List Value):Prop:=ps.length=vs.length/\∀j (hj:j<ps.length) (hj':j<vs.length),j≠k->Rep g w ps[j] vs[j]
def CallO(P:Program)(f:FuncId)(args:List PV)(k:Nat)(te:TypeId)(z:Nat)(es:List (List PV))(e:Ext)(R:CRes->Ext->Prop):Prop:=
 ∀ (vs:List Value) (g:Gh) (l:LG) (w:World) (hk:k<vs.length),RepX k g w args vs->Ent e g l w->RepL g l w (.x (cnt e) 0) (.uniq te z es) vs[k]->Calls P f vs.toArray w fun en w'=>∃res e' g' l',R res e'/\ResOK g' l' (fun b=>w.heap.size<=b∨(l.O b).isSome=true) w' res en/\Ent e' g' l' w'/\Mono g w g' w'/\w.heap.size<=w'.heap.size /\
  (∀b,b<w.heap.size->l.O b=none->w'.heap[b]?=w.heap[b]?/\g'.M b=g.M b)/\(∀b o,l'.O b=some o->w.heap.size<=b∨(l.O b).isSome=true)/\w'.os=w.os/\w'.tape=w.tape/\w'.output=w.output
theorem CallO.mono{P:Program}{f:FuncId}{args:List PV}{k:Nat}{te:TypeId}{z:Nat}{es:List (List PV)}{e:Ext}{R R':CRes->Ext->Prop}(h:CallO P f args k te z es e R)(hr:∀res e',R res e'->R' res e'):CallO P f args k te z es e R':=fun vs g l w hk ha he hu=>
 (h vs g l w hk ha he hu).mono fun _ _ ⟨res,e',g',l',h1,h2⟩=>⟨res,e',g',l',hr _ _ h1,h2⟩
def lfO(te:TypeId)(z:Nat)(es:List (List PV)):LV:=if te<1000000 then .v (.sl z es) else .junk
def evO{α:Type}:List Operand->Nat->(List PV->RM α)->RM α
 | [],_,c=>c []
 | _::r,0,c=>evs r fun ps=>c (.nilsl::ps)
 | x::r,k+1,c=>evP x fun p=>evO r k fun ps=>c (p::ps)
section
variable {P:Program} {cx:Cx} {s t:S} {g:Gh} {l:LG} {a:Act} {w:World} {o:Oper}
theorem Sim.slot(h:Sim cx s g l a w){t:Nat}{lv:LV}(hr:RepL g l w (.t t) lv (a.tmps.getD t undef)):Sim cx { s with tmps:=put s.tmps t lv } g l a w:=
 ⟨h.hist,h.size,h.defers,fun t' lv' ht=>by
  rw [lk_put] at ht
  split at ht
  ·rename_i e0; subst e0; injection ht with ht; subst ht; exact hr
  ·exact h.tm t' lv' ht,h.bx,h.ex,h.own,h.uo,h.fresh,h.xlt⟩
theorem evO_sound{α:Type}{K:α->Prop}(h:Sim cx s g l a w):∀ {xs:List Operand} {k:Nat} {c:List PV->RM α},(evO xs k c).wp s K->∃ps,(c ps).wp s K/\RepX k g w ps (xs.map a.eval)
 | [],k,c,hw=>⟨[],hw,rfl,fun j hj=>by simp at hj⟩
 | x::r,0,c,hw=>by
  obtain ⟨ps,h1,r1⟩:=evs_sound h hw
  refine ⟨_,h1,by simp [r1.1],fun j hj hj' hne=>?_⟩
  cases j with
  | zero=>exact (hne rfl).elim
  | succ j=>exact r1.2 j (by simpa using hj) (by simpa using hj')
 | x::r,k+1,c,hw=>by
  obtain ⟨p,h1,r1⟩:=evP_sound h hw
  obtain ⟨ps,h2,r2⟩:=evO_sound h h1
  refine ⟨_,h2,by simp [r2.1],fun j hj hj' hne=>?_⟩
  cases j with
  | zero=>exact r1
  | succ j=>exact r2.2 j (by simpa using hj) (by simpa using hj') oM
theorem entered_own{fid:FuncId}{vl:List Value}{ps:List PV}{K:S->Prop}{Q:PExit->S->Prop}{k i:Nat}{te:TypeId}{z:Nat}{es:List (List PV)}(hrun:(execOp a.eval o).run P w = .ok (.enter fid vl.toArray) w)(hall:RepX k g w ps vl)(hd:∀d,o.dst=some d->d<cx.n)(h:Sim cx s g l a w)
  (ht:lk s.tmps i=some (.uniq te z es)) (hk:k<vl.length) (hv:vl[k]=a.tmps.getD i undef)
  (hc:CallO P fid ps k te z es s.ext (behind K Q { s with tmps:=put s.tmps i (lfO te z es) } o.dst)):o.wp P a w (fun a' w'=>∃s' g' l',K s'/\Sim cx s' g' l' a' w') (post cx Q):=by
 have hr:=h.tm i _ ht
 have hs1:Sim cx { s with tmps:=put s.tmps i (lfO te z es) } g l a w:=h.slot (by
  unfold lfO
  split
  ·rename_i hte
   exact WL.rep (t := .v (.sl z es)) (s := .uniq te z es) (.inr ⟨rfl,wlE hte⟩) hr
  ·trivial)
 obtain ⟨l1,hs2,hr2,-⟩:=hs1.transfer (p := .t i) (q := .x (cnt s.ext) 0) hr (fun e2 z2 es2 hc=>by
  rw [show lk (put s.tmps i (lfO te z es)) i=_ from lk_put_same _ _ _] at hc
  injection hc with hc
  unfold lfO at hc
  split at hc <;> cases hc) (fun cs hc=>by rw [show lk s.ext (cnt s.ext)=none from lk_cnt (Nat.le_refl _)] at hc; cases hc)
 exact entered_sound hrun hd hs2 (hc vl g (lx l1) w hk hall hs2.ent (by rw [hv]; exact RepL.lx rfl hr2))
theorem own_sound{f:FuncId}{args:Array Operand}{ts:Array TypeId}{K:S->Prop}{Q:PExit->S->Prop}{k i:Nat}{te:TypeId}{z:Nat}{es:List (List PV)}(ho:o.op = .call ⟨.value (.func f),args,ts⟩)(hd:∀d,o.dst=some d->d<cx.n)(h:Sim cx s g l a w)
  (hk:args.toList[k]?=some (.tmp i)) (ht:lk s.tmps i=some (.uniq te z es))
  (hw:(evO args.toList k RM.ret).wp s fun ps=>isFn P f=true/\CallO P f ps k te z es s.ext (behind K Q { s with tmps:=put s.tmps i (lfO te z es) } o.dst)) :
  o.wp P a w (fun a' w'=>∃s' g' l',K s'/\Sim cx s' g' l' a' w') (post cx Q):=by
 obtain ⟨ps,⟨hfn,hc⟩,r2⟩:=evO_sound h hw
 have hlt:k<args.toList.length:=(List.getElem?_eq_some_iff.1 hk).1
 have hlt2:k<(args.toList.map a.eval).length:=by simpa using hlt
 refine entered_own (vl:=args.toList.map a.eval) (k:=k) (i:=i) (hk:=hlt2) ?_ r2 hd h ht ?_ hc
 ·have hf:a.eval (.func f) = .func (.func f) #[] #[]:=rfl
  have:((#[]:Array Value)++args.map a.eval) ++ #[]=(args.toList.map a.eval).toArray:=by
   apply Array.ext'
   simp
  rw [<-this]
  simp only [execOp,ho,resolve,hf,Deferred.ofValue,Sem.run_bind,Sem.run_pure,Result.andThen_ok,invoke,run_callFunc hfn]
 ·have h2:args.toList[k] = .tmp i:=(List.getElem?_eq_some_iff.1 hk).2
  rw [List.getElem_map,h2]
  rfl
end
end Go.Pv
