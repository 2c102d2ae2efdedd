/- Values of Go as plain data, an evaluator over them, and what the functions of the program return; part Xd. -/
import Derived.Test.YtmllcplaohkjnaaGreatDoorXc
set_option linter.unusedVariables false
set_option linter.unusedSimpArgs false
set_option linter.unusedSectionVars false
namespace Go.Pv
open Go.RowKit
def RM.run{α:Type}:RM α->S->Option α
 | .ret a,_=>some a
 | .fail,_=>none
 | .Il t k,s=>match lk s.tmps t with
  | some v=>(k v).run s
  | none=>none
 | .Im i k,s=>match lk s.boxes i with
  | some v=>(k v).run s
  | none=>none
 | .G3 n k,s=>match lk s.ext n with
  | some v=>(k v).run s
  | none=>none
 | .assume p k,s=>match p with
  | true=>k.run s
  | false=>none
theorem RM.Gl{α:Type}{s:S}{K:α->Prop}{a:α}:∀ {r:RM α},r.run s=some a->K a->r.wp s K
 | .ret _,h,k=>by simp only [RM.run,Option.some.injEq] at h; subst h; exact k
 | .fail,h,_=>by cases h
 | .Il t f,h,k=>by
  simp only [RM.run] at h
  simp only [RM.wp]
  split at h
  ·rename_i hv; rw [hv]; exact RM.Gl h k
  ·cases h
 | .Im t f,h,k=>by
  simp only [RM.run] at h
  simp only [RM.wp]
  split at h
  ·rename_i hv; rw [hv]; exact RM.Gl h k
  ·cases h
 | .G3 t f,h,k=>by
  simp only [RM.run] at h
  simp only [RM.wp]
  split at h
  ·rename_i hv; rw [hv]; exact RM.Gl h k
  ·cases h
 | .assume p f,h,k=>by
  simp only [RM.run] at h
  cases p with
  | true=>exact ⟨rfl,RM.Gl h k⟩
  | false=>cases h
def RM.Hu{α:Type}:RM α->S->Option (α × List Loc)
 | .ret a,_=>some (a,[])
 | .fail,_=>none
 | .Il t k,s=>match lk s.tmps t with
  | some v=>match (k v).Hu s with
   | some (a,r)=>some (a,.t t::r)
   | none=>none
  | none=>none
 | .Im i k,s=>match lk s.boxes i with
  | some v=>match (k v).Hu s with
   | some (a,r)=>some (a,.b i::r)
   | none=>none
  | none=>none
 | .G3 n k,s=>match lk s.ext n with
  | some v=>match (k v).Hu s with
   | some (a,r)=>some (a,.x n::r)
   | none=>none
  | none=>none
 | .assume p k,s=>match p with
  | true=>k.Hu s
  | false=>none
theorem RM.Hv{α:Type}{s:S}{a:α}:∀ {r:RM α} {K:α->List Loc->Prop} {rd:List Loc},r.Hu s=some (a,rd)->K a rd->r.HP s K
 | .ret _,K,rd,h,k=>by simp only [RM.Hu,Option.some.injEq,Prod.mk.injEq] at h; obtain ⟨rfl,rfl⟩:=h; exact k
 | .fail,_,_,h,_=>by cases h
 | .Il t f,K,rd,h,k=>by
  simp only [RM.Hu] at h
  simp only [RM.HP]
  split at h
  ·rename_i v hv
   rw [hv]
   split at h
   ·rename_i h2
    simp only [Option.some.injEq,Prod.mk.injEq] at h
    obtain ⟨rfl,rfl⟩:=h
    exact RM.Hv (K:=fun a r=>K a (.t t::r)) h2 k
   ·cases h
  ·cases h
 | .Im t f,K,rd,h,k=>by
  simp only [RM.Hu] at h
  simp only [RM.HP]
  split at h
  ·rename_i v hv
   rw [hv]
   split at h
   ·rename_i h2
    simp only [Option.some.injEq,Prod.mk.injEq] at h
    obtain ⟨rfl,rfl⟩:=h
    exact RM.Hv (K:=fun a r=>K a (.b t::r)) h2 k
   ·cases h
  ·cases h
 | .G3 t f,K,rd,h,k=>by
  simp only [RM.Hu] at h
  simp only [RM.HP]
  split at h
  ·rename_i v hv
   rw [hv]
   split at h
   ·rename_i h2
    simp only [Option.some.injEq,Prod.mk.injEq] at h
    obtain ⟨rfl,rfl⟩:=h
    exact RM.Hv (K:=fun a r=>K a (.x t::r)) h2 k
   ·cases h
  ·cases h
 | .assume p f,K,rd,h,k=>by
  simp only [RM.Hu] at h
  cases p with
  | true=>exact ⟨rfl,RM.Hv h k⟩
  | false=>cases h
abbrev LD:=FuncId->List PV->Ext->Option (Cd × Ext)
def Gm(P:Program)(CS:LD):Prop:=∀f args e r e',CS f args e=some (r,e')->Fl P f=true/\BX P f args e fun r1 e1=>r1=r/\e1=e'
structure Md where
 ro:TypeId->Option Bool
 row:TypeId->Bool
mutual
def PV.EN:PV->Bool
 | .xp _ _=>false
 | .mp _=>false
 | .Ue _ _ _=>false
 | .M0 _ _ _=>false
 | .yp _ _ _=>false
 | .VQ _ _ _=>false
 | .T3 p=>p.EN
 | .ro cs _=>Ci cs
 | .sl _ es=>Cq es
 | .fn _ a b=>Ci a&&Ci b
 | .iface _ p=>p.EN
 | .agg cs=>Ci cs
 | .B6 cs=>Ci cs
 | _=>true
def Ci:List PV->Bool
 | []=>true
 | p::r=>p.EN&&Ci r
def Cq:List (List PV)->Bool
 | []=>true
 | p::r=>Ci p&&Cq r
end
theorem F1:∀ {l:List PV},Ci l=true->∀ (j:Nat) (h:j<l.length),l[j].EN=true
 | [],_,j,h=>absurd h sM
 | p::r,h,0,_=>by simp only [Ci,Bool.and_eq_true] at h; exact h.1
 | p::r,h,j+1,hj=>by simp only [Ci,Bool.and_eq_true] at h; exact F1 h.2 j (by simpa using hj)
theorem OU:∀ {l:List (List PV)},Cq l=true->∀ (j:Nat) (h:j<l.length),Ci l[j]=true
 | [],_,j,h=>absurd h sM
 | p::r,h,0,_=>by simp only [Cq,Bool.and_eq_true] at h; exact h.1
 | p::r,h,j+1,hj=>by simp only [Cq,Bool.and_eq_true] at h; exact OU h.2 j (by simpa using hj)
theorem BO.names{g g':Gh}{w:World}{p:PV}{v:Value}(hM:g'.M=g.M)(hn:p.EN=true)(h:BO g w p v):BO g' w p v:=by
 have zZ:∀b o,g.Fix b o->g'.Fix b o:=fun b o hf k hk=>hf k (by rw [<-hM]; exact hk)
 induction h with
 | bool b=>exact .bool b
 | int k n=>exact .int k n
 | str s=>exact .str s
 | Dy=>exact .Dy
 | ro cs off b o vs hc hf h1 hr ih=>
  simp only [PV.EN] at hn
  exact .ro cs off b o vs hc (fun j hj=>zZ _ _ (hf j hj)) h1 fun j hj=>ih j hj (F1 hn j hj)
 | xp n off b hx=>cases hn
 | Ab=>exact .Ab
 | slnil size=>exact .slnil size
 | sl size es a cap vs hle D5 Cb hc hf h1 hr ih=>
  simp only [PV.EN] at hn
  exact .sl size es a cap vs hle D5 Cb hc (fun i j hi hj=>zZ _ _ (hf i j hi hj)) h1 fun i j hi hj=>ih i j hi hj (F1 (OU hn i hi) j hj)
 | Ue n size len b cap cur e h hh hs hle D5=>cases hn
 | fn f first captured fv cv h1 h2 hf hc ih1 ih2=>
  simp only [PV.EN,Bool.and_eq_true] at hn
  exact .fn f first captured fv cv h1 h2 (fun j h h'=>ih1 j h h' (F1 hn.1 j h)) fun j h h'=>ih2 j h h' (F1 hn.2 j h)
 | Mx=>exact .Mx
 | iface t p v h ih=>exact .iface t p v (ih (by simpa [PV.EN] using hn))
 | FW=>exact .FW
 | agg cs vs h1 ho h ih=>
  simp only [PV.EN] at hn
  exact .agg cs vs h1 ho fun j h h'=>ih j h h' (F1 hn j h)
 | B6 cs vs h1 h ih=>
  simp only [PV.EN] at hn
  exact .B6 cs vs h1 fun j h h'=>ih j h h' (F1 hn j h)
 | HJ=>exact .HJ
 | mp n b h=>cases hn
 | M0 n c len b cap cur e h=>cases hn
 | yp n c off b h=>cases hn
 | VQ t f p v h ih=>cases hn
 | T3 p v h1 h ih=>
  simp only [PV.EN] at hn
  exact .T3 p v h1 (ih hn)
theorem gO:(yG.all fun x=>Ci x.2)=true:=by rfl
theorem Yq{α:Type}{k:Nat}{v:α}:∀ {l:List (Nat × α)},lk l k=some v->(k,v)∈l
 | [],h=>by cases h
 | (a,b)::r,h=>by
  simp only [lk] at h
  split at h
  ·rename_i e; subst e; injection h with h; subst h; exact List.mem_cons_self
  ·exact List.mem_cons_of_mem _ (Yq h)
theorem Xt.names{g g':Gh}{w:World}(h:Xt g w)(hM:g'.M=g.M):Xt g' w:=fun k cs e=>by
 have h1:Ci cs=true:=List.all_eq_true.1 gO _ (Yq e)
 exact BO.names hM (by simpa [PV.EN] using h1) (h k cs e)
def Cd.EN:Cd->Bool
 | .ret p=>p.EN
 | .own _ _ es=>Cq es
 | .panic p=>p.EN
theorem BX.frame{P:Program}{f:FuncId}{args:List PV}{res:Cd}(ha:Ci args=true)(hr:res.EN=true)(h:BX P f args [] fun r e=>r=res/\e=[])(e:Ext):BX P f args e fun r e'=>r=res/\e'=e:=by
 intro vs g l w Hq E4
 let g2:Gh:=⟨g.M,fun _=>none,fun _ _=>none⟩
 let l2:LG:=⟨fun _=>none,fun _=>none,fun _=>none⟩
 have h1:AE g2 w args vs:=⟨Hq.1,fun j hj Cj=>BO.names (g:=g) rfl (F1 ha j hj) (Hq.2 j hj Cj)⟩
 have h2:SV [] g2 l2 w:={ ex:=fun x cs hx=>(by simp [lk] at hx),OK:=fun b o ho=>(by cases ho),uo:=fun p b hb=>(by cases hb),fresh:=⟨E4.fresh.1,fun _ _=>rfl,fun _ _ _=>rfl⟩,Gg:=fun n b hb=>(by cases hb),only:=fun b o ho=>(by cases ho),Jj:=E4.Jj.names rfl }
 refine (h vs g2 l2 w h1 h2).mono ?_
 rintro en w' ⟨r,e1,g',l',⟨rfl,rfl⟩,AF,IG,II,Cb,Tq,MU,os,tape,output⟩
 have hX:∀n,g'.X n=none:=fun n=>IG.fresh.2.1 n (by simp [El])
 have Tr:∀b o,l'.O b=some o->w.heap.size<=b:=fun b o ho=>by
  rcases MU b o ho with h | h
  ·exact h
  ·cases h
 let g3:Gh:=⟨g'.M,g.X,g.Y⟩
 have Hp:∀b,b<w.heap.size->w'.heap[b]?=w.heap[b]?/\g'.M b=g.M b:=fun b hb=>Tq b hb rfl
 have Wl:Ch g w g3 w':=⟨fun n b hb=>hb,fun b o v hc hf=>by
   obtain ⟨k1,k2⟩:=II.cell b o v hc (fun k hk=>hf k hk)
   exact ⟨k1,fun k hk=>k2 k hk⟩,fun b cur t hb=>II.len b cur t hb,fun _ _ _ h=>h⟩
 refine ⟨r,e,g3,l,⟨rfl,rfl⟩,?_,?_,Wl,Cb,fun b hb _=>Hp b hb,fun b o ho => .inr (by rw [ho]; rfl),os,tape,output⟩
 ·cases r with
  | ret p=>
   cases en <;> first | exact AF.elim | skip
   exact BO.names (g:=g') rfl hr AF
  | own te z es=>
   cases en <;> first | exact AF.elim | skip
   obtain ⟨K7,AF⟩:=AF
   refine ⟨K7,?_⟩
   rcases AF with (h | ⟨a,h,h'⟩) | ⟨b,cap,cur,k1,k2,k3,k4,k5,k6,k7,k8⟩
   ·exact .inl (.inl h)
   ·exact .inl (.inr ⟨a,h,BO.names (g:=g') rfl (by simpa [PV.EN,Cd.EN] using hr) h'⟩)
   ·have hb:w.heap.size<=b:=by
     rcases k2 with h | h
     ·exact h
     ·cases h
    refine .inr ⟨b,cap,cur,k1,.inl hb,k3,?_,k5,k6,k7,BO.names (g:=g') rfl (by simpa [PV.EN,Cd.EN] using hr) k8⟩
    cases Ga:l.O b with
    | none=>rfl
    | some o=>exact absurd (E4.OK b o Ga) oM
  | panic p=>
   cases en <;> first | exact AF.elim | skip
   obtain ⟨v,hv,fW⟩:=AF
   exact ⟨v,hv,BO.names (g:=g') rfl hr fW⟩
 ·refine ⟨fun x cs hx=>?_,fun b o ho=>Nat.lt_of_lt_of_le (E4.OK b o ho) Cb,E4.uo,⟨IG.fresh.1,E4.fresh.2⟩,fun n b hb=>Nat.lt_of_lt_of_le (E4.Gg n b hb) Cb,E4.only,E4.Jj.mono Wl⟩
  obtain ⟨b,k1,k2,hE⟩:=E4.ex x cs hx
  have hb:=Hp b (E4.OK b _ k2)
  refine ⟨b,k1.mono Wl,k2,?_⟩
  rcases hE with ⟨k3,cur,t,k4,k5,k6⟩ | hE
  rotate_left
  ·exact .inr (hE.BK Wl (fun _ _ _ h=>h) hb.2 hb.1)
  refine .inl ⟨hb.2.trans k3,cur,t,hb.1.trans k4,k5,fun j hj=>⟨(k6 j hj).1,(k6 j hj).2.1,?_⟩⟩
  refine (k6 j hj).2.2.BK Wl (fun _ _ _=>rfl) fun b' Ga=>?_
  have Ad:=E4.OK b' _ (E4.uo _ _ Ga)
  exact ⟨Ga,(Hp b' Ad).2,(Hp b' Ad).1⟩
def RI(CS:LD)(o:Oper)(r:RM (FuncId × List PV))(s:S):Option (A7 × S):=match r.run s with
 | some (f,args)=>match CS f args s.ext with
  | some (.ret p,e)=>some (.normal,s.M5 o.dst (.v p) e)
  | some (.own te z es,e)=>some (.normal,s.M5 o.dst (.uniq te z es) e)
  | some (.panic p,e)=>some (.panic p,{ s with ext:=e })
  | none=>none
 | none=>none
def RJ(P:Program)(ro:TypeId->Option Bool)(n:Nat)(all:List Oper)(o:Oper)(s:S):Option (A7 × S):=match (act P ro n all o).run s with
 | some wr=>some (.normal,s.Io wr)
 | none=>none
def Wm(n:Nat)(o:Oper)(cs:List PV)(s:S):Option (A7 × S):=match o.dst with
 | some d=>if d<n then some (.normal,{ s with tmps:=put s.tmps d (.v (.xp (El s.ext) 0)),ext:=put s.ext (El s.ext) (cs.map .v) }) else none
 | none=>none
def qF(e z:Nat)(x y:Operand):RM (List (List PV)):=ev x fun lx=>ev y fun ly=>match lx,OH ly with
 | .v .Ab,some (y0::ys)=>if wV z ly=true then .ret (y0::ys) else .fail
 | _,_ => .fail
def qG(P:Program)(n:Nat)(o:Oper)(ty:TypeId)(x y:Operand)(s:S):Option (A7 × S):=match GC P ty,o.dst with
 | some e,some d=>match KV P e,FP P e,Uh P e with
  | some (m+1),some (B+1),some zs=>if d<n/\zs.length=m+1 then (match (qF e (m+1) x y).run s with
   | some ys=>if ys.length * (B+1)<=140737488355328 then some (.normal,{ s with tmps:=put s.tmps d (.v (.Ue (El s.ext) (m+1) ys.length)),ext:=put s.ext (El s.ext) (ys.flatten.map .v) }) else none
   | none=>none) else none
  | _,_,_=>none
 | _,_=>none
def A00(x:Operand):RM PV:=Hj x fun p=>match p with
 | .iface t q => .ret (PV.iface t q)
 | _ => .fail
def A01(x:Operand):RM (List PV):=Hj x fun p=>match p.wT with
 | some cs => .ret cs
 | none => .fail
def A02(n:Nat)(o:Oper)(s:S):Option (A7 × S):=match o.dst with
 | some d=>if d<n then some (.normal,{ s with tmps:=put s.tmps d (.v (.mp (El s.ext))),ext:=put s.ext (El s.ext) [.mm []] }) else none
 | none=>none
def gP(P:Program)(md:Md)(CS:LD)(n:Nat)(all:List Oper)(o:Oper)(s:S):Option (A7 × S):=match callee P o with
 | some r=>RI CS o r s
 | none=>match o.op with
  | .alloc ty=>if (md.ro ty).isNone=true then (match Uh P ty with | some zs=>Wm n o zs s | none=>none) else RJ P md.ro n all o s
  | .box ty x=>if (md.ro ty).isNone=true then (match (A01 x).run s with | some cs=>Wm n o cs s | none=>none) else RJ P md.ro n all o s
  | .panic x=>match (A00 x).run s with
   | some p=>some (.panic p,s)
   | none=>none
  | .makeMap _ none=>A02 n o s
  | .call ⟨.builtin .append,⟨[x,y]⟩,⟨[ty,gD]⟩⟩=>if md.row ty=true/\ty=gD then qG P n o ty x y s else RJ P md.ro n all o s
  | _=>RJ P md.ro n all o s
section
variable {P:Program} {cx:Cx} {s s':S} {Q:A7->S->Prop} {K:S->Prop} {o:Oper} {pe:A7} {md:Md} {CS:LD} {all:List Oper}
def Oj(P:Program)(cx:Cx)(s:S)(o:Oper)(K:S->Prop)(Q:A7->S->Prop):Prop:=
 ∀g l a w,Bc cx s g l a w->o.wp P a w (fun a' w'=>∃s' g' l',K s'/\Bc cx s' g' l' a' w') (post cx Q)
theorem RK{r:RM (FuncId × List PV)}(Ce:Gm P CS)(ho:callee P o=some r)(hd:∀d,o.dst=some d->d<cx.n)(h:RI CS o r s=some (pe,s'))(hk:I3 K Q pe s'):Oj P cx s o K Q:=fun g l a w hs=>by
 unfold RI at h
 split at h
 ·rename_i f args hr
  refine G6 ho hd hs (RM.Gl hr ?_)
  split at h
  ·rename_i p e he
   obtain ⟨h1,h2⟩:=Ce _ _ _ _ _ he
   refine ⟨h1,h2.mono ?_⟩
   rintro _ _ ⟨rfl,rfl⟩
   simp only [Option.some.injEq,Prod.mk.injEq] at h
   obtain ⟨rfl,rfl⟩:=h
   exact hk
  ·rename_i p e he
   obtain ⟨h1,h2⟩:=Ce _ _ _ _ _ he
   refine ⟨h1,h2.mono ?_⟩
   rintro _ _ ⟨rfl,rfl⟩
   simp only [Option.some.injEq,Prod.mk.injEq] at h
   obtain ⟨rfl,rfl⟩:=h
   exact hk
  ·rename_i p e he
   obtain ⟨h1,h2⟩:=Ce _ _ _ _ _ he
   refine ⟨h1,h2.mono ?_⟩
   rintro _ _ ⟨rfl,rfl⟩
   simp only [Option.some.injEq,Prod.mk.injEq] at h
   obtain ⟨rfl,rfl⟩:=h
   exact hk
  ·cases h
 ·cases h
theorem HQ{ro:TypeId->Option Bool}(h:RJ P ro cx.n all o s=some (pe,s'))(hk:I3 K Q pe s'):Oj P cx s o K Q:=fun g l a w hs=>by
 unfold RJ at h
 split at h
 ·rename_i wr hr
  simp only [Option.some.injEq,Prod.mk.injEq] at h
  obtain ⟨rfl,rfl⟩:=h
  refine CO ?_ (Gd (K:=fun x=>x=wr) hs (RM.Gl hr rfl) (post cx Q))
  rintro a' w' ⟨wr',g',l',rfl,sm⟩
  exact ⟨_,g',l',hk,sm⟩
 ·cases h
theorem HR{cs:List PV}{cur:Array Value}{ty:TypeId}{g:Gh}{l:LG}{a:Act}{w:World}(hs:Bc cx s g l a w)(hr:AE g w cs cur.toList)(Ck:∀u∈cur.toList,u.oneCell'=true)
  (BW:(execOp a.eval o).run P w = .ok (.value (.pointer (some ⟨w.heap.size,0,none⟩))) (w.alloc (.cells cur ty)))
  (h:Wm cx.n o cs s=some (pe,s')) (hk:I3 K Q pe s'):o.wp P a w (fun a' w'=>∃s' g' l',K s'/\Bc cx s' g' l' a' w') (post cx Q):=by
 unfold Wm at h
 split at h
 ·rename_i d hd
  split at h
  ·rename_i hn
   simp only [Option.some.injEq,Prod.mk.injEq] at h
   obtain ⟨rfl,rfl⟩:=h
   unfold Oper.wp
   rw [BW,Oper.upon_value,hd]
   obtain ⟨k1,-⟩:=hs.Yh cur ty (cs.map .v) (by simp [hr.1]) (fun j hj => .inr ⟨cs[j]'(by simpa using hj),by simp,by
    have SS:j<cs.length:=by simpa using hj
    have HK:j<cur.toList.length:=by rw [<-hr.1]; exact SS
    have:=hr.2 j SS HK
    have Xb:j<cur.size:=by simpa using HK
    simpa [Xb] using this⟩) Ck
   exact ⟨_,_,_,hk,k1.set hn (.xp _ _ _ (BJ _ _ _))⟩
  ·cases h
 ·cases h
theorem Uv{ty e:TypeId}{x y:Operand}{d m B:Nat}{zs:List PV}{g:Gh}{l:LG}{a:Act}{w:World}(ho:o.op = .call ⟨.builtin .append,#[x,y],#[ty,ty]⟩)(hd:o.dst=some d)(hn:d<cx.n)
  (he:GC P ty=some e) (hm:KV P e=some (m+1)) (hB:FP P e=some (B+1)) (hz:Uh P e=some zs) (Rx:zs.length=m+1) (hs:Bc cx s g l a w)
  (h:(qF e (m+1) x y).wp s fun ys=>ys.length * (B+1)<=140737488355328/\K { s with tmps:=put s.tmps d (.v (.Ue (El s.ext) (m+1) ys.length)),ext:=put s.ext (El s.ext) (ys.flatten.map .v) }) :
  o.wp P a w (fun a' w'=>∃s' g' l',K s'/\Bc cx s' g' l' a' w') (post cx Q):=by
 have hu:=EH he
 obtain ⟨i,zv,z1,z2,z3⟩:=Fv hz
 have Cb:i.size=m+1:=by simpa [KV,z1] using hm
 have Xe:i.bytes=B+1:=by simpa [FP,z1] using hB
 have O3:zv.cells.size=m+1:=by rw [<-Array.length_toList,<-Fk z3]; exact Rx
 obtain ⟨-,Uw,-⟩:=EX (g:=g) (w:=w) z3
 obtain ⟨lx,ux,h1,r1,-⟩:=Cc hs h
 obtain ⟨ly,uy,h2,r2,-⟩:=Cc hs h1
 split at h2
 ·rename_i y0 ys Kh
  split at h2
  ·rename_i Eu
   obtain ⟨hb,h2⟩:=h2
   have lE:a.eval x = .slice none 0 0:=by generalize a.eval x=v at r1; cases r1; rfl
   obtain ⟨ay,c,Wa,eX⟩:∃ay c,a.eval y = .slice (some ay) (y0::ys).length c/\BO g w (.sl (m+1) (y0::ys)) (a.eval y):=by
    rcases Mh Kh Eu r2 with ⟨h,-⟩ | h
    ·cases h
    ·exact h
   rw [Wa] at eX
   obtain ⟨-,-,-,hyz,news,Yr,Iz,XT⟩:=eX.flat
   generalize hY:(y0::ys)=Y at *
   have Ho:0<Y.length:=by rw [<-hY]; simp
   have QY:∀u∈news,u.oneCell'=true:=fun u hu=>by
    obtain ⟨j,hj,e⟩:=List.getElem_of_mem hu
    exact (XT j u (by rw [List.getElem?_eq_getElem hj,e])).2.2
   have hlen:Y.length<=140737488355328:=by
    have:=Nat.le_mul_of_pos_right Y.length (Nat.succ_pos B)
    simp only [Nat.succ_eq_add_one] at this
    omega
   have Xf:Y.length<=maxLen:=by simp only [maxLen]; omega
   have hr:=run_append_nil (P:=P) w ty o.type e i zv hu z1 z2 ay Y.length c news (by rw [Cb]; exact Iz) (fun j v hj=>(XT j v hj).1) Ho oM (by rw [Xe]; omega)
   have Dm:=grownCap_ge w Y.length 0 e
   have Wb:=grownCap_le_maxLen w Y.length 0 e (by simpa using Xf)
   have hex:∀v' w',(Builtin.append_ #[ty,ty] o.type #[a.eval x,a.eval y]).run P w = .ok v' w'->(execOp a.eval o).run P w = .ok (.value v') w':=by
    intro v' w' hr
    simp only [execOp,ho,resolve,invoke,builtin,Sem.run_bind,Sem.run_pure,Result.andThen_ok,List.map_toArray,List.map_cons,List.map_nil,hr]
   rw [<-lE,<-Wa] at hr
   unfold Oper.wp
   rw [hex _ _ hr,Oper.upon_value,hd]
   obtain ⟨PU,eW⟩:=hs.drew
   have N2:w.drew.heap.size=w.heap.size:=rfl
   obtain ⟨k1,-⟩:=PU.Yh (news.toArray++Builtin.zeroCells zv.cells (grownCap w Y.length 0 e - Y.length)) e (Y.flatten.map .v)
    (by simp only [Array.size_append,List.size_toArray,size_zeroCells,O3,Iz,List.length_map,BQ _ Y hyz]; omega) (fun j hj=>by
     have Ad:j<Y.flatten.length:=by rw [List.length_map] at hj; exact hj
     refine .inr ⟨Y.flatten[j],List.getElem_map _,?_⟩
     have CL:j<news.length:=by rw [<-Yr.1]; exact Ad
     have:=(Yr.2 j Ad CL).mono eW
     simpa [Array.getD_eq_getD_getElem?,Array.getElem?_append,CL] using this) (fun u hu=>by
     simp only [Array.toList_append,List.mem_append] at hu
     rcases hu with hu | hu
     ·exact QY u hu
     ·exact Uw u (N1 hu))
   rw [N2] at k1
   refine ⟨_,_,_,h2,k1.set hn (.Ue _ _ _ _ _ _ _ (BJ _ _ _) (heap_alloc_new w.drew _) ?_ (by simpa using Dm) Wb)⟩
   simp only [Array.size_append,List.size_toArray,size_zeroCells,O3,Iz,<-Nat.add_mul]
   congr 1
   omega
  ·exact h2.elim
 ·exact h2.elim
theorem TA{ty:TypeId}{x y:Operand}(ho:o.op = .call ⟨.builtin .append,#[x,y],#[ty,ty]⟩)(h:qG P cx.n o ty x y s=some (pe,s'))(hk:I3 K Q pe s'):Oj P cx s o K Q:=fun g l a w hs=>by
 unfold qG at h
 split at h
 ·rename_i e d he hd
  split at h
  ·rename_i m B zs hm hB hz
   split at h
   ·rename_i hc
    obtain ⟨hn,Rx⟩:=hc
    split at h
    ·rename_i ys Kh
     split at h
     ·rename_i hb
      simp only [Option.some.injEq,Prod.mk.injEq] at h
      obtain ⟨rfl,rfl⟩:=h
      exact Uv ho hd hn he hm hB hz Rx hs (RM.Gl Kh ⟨hb,hk⟩)
     ·cases h
    ·cases h
   ·cases h
  ·cases h
 ·cases h
theorem La(Ce:Gm P CS)(hd:∀d,o.dst=some d->d<cx.n)(h:gP P md CS cx.n all o s=some (pe,s'))(hk:I3 K Q pe s'):Oj P cx s o K Q:=by
 unfold gP at h
 split at h
 ·rename_i r hr; exact RK Ce hr hd h hk
 ·split at h
  ·rename_i ty K8
   split at h
   ·split at h
    ·rename_i zs hz
     intro g l a w hs
     obtain ⟨i,z,h1,h2,h3⟩:=Fv hz
     obtain ⟨hr,Ck,-⟩:=EX (g:=g) (w:=w) h3
     exact HR (ty:=ty) hs hr Ck (by simp [execOp,K8,Instr.alloc,zeroValue,typeInfo,h1,h2,newVar,newRow]) h hk
    ·cases h
   ·exact HQ h hk
  ·rename_i ty x K8
   split at h
   ·split at h
    ·rename_i cs DM
     intro g l a w hs
     obtain ⟨p,h1,r1⟩:=AZ hs (RM.Gl (K:=fun x=>x=cs) DM rfl)
     split at h1
     ·rename_i Jk hc
      have Xd:Jk=cs:=h1
      subst Xd
      obtain ⟨hr,Ck⟩:=J4 hc r1
      exact HR (ty:=ty) hs hr Ck (by simp [execOp,K8,Instr.box,newVar,newRow]) h hk
     ·exact h1.elim
    ·cases h
   ·exact HQ h hk
  ·rename_i x K8
   split at h
   ·rename_i p hp
    simp only [Option.some.injEq,Prod.mk.injEq] at h
    obtain ⟨rfl,rfl⟩:=h
    intro g l a w hs
    obtain ⟨p',h1,r1⟩:=AZ hs (RM.Gl (K:=fun x=>x=p) hp rfl)
    split at h1
    ·rename_i t q
     have Xd:PV.iface t q=p:=h1
     subst Xd
     have BW:∀v,a.eval x = .iface t v->(execOp a.eval o).run P w = .halt (.panic (.iface t v)) w:=fun v hv=>by
      simp [execOp,K8,hv,Instr.panic,goPanic]
     generalize a.eval x=vx at r1 BW
     cases r1 with
     | iface _ _ v hv=>
      unfold Oper.wp
      rw [BW v rfl,Oper.upon_panic]
      exact ⟨.panic (.iface t q),s,g,l,hk,⟨_,rfl,.iface _ _ _ hv⟩,hs⟩
    ·exact h1.elim
   ·cases h
  ·rename_i ty K8
   unfold A02 at h
   intro g l a w hs
   split at h
   ·rename_i d x8
    split at h
    ·rename_i hn
     simp only [Option.some.injEq,Prod.mk.injEq] at h
     obtain ⟨rfl,rfl⟩:=h
     unfold Oper.wp
     rw [show (execOp a.eval o).run P w = .ok (.value (.map (some w.heap.size))) (w.alloc (.map #[] 0)) by simp [execOp,K8,Instr.makeMap,Result.andThen],Oper.upon_value,x8]
     obtain ⟨k1,-⟩:=hs.Yi
     exact ⟨_,_,_,hk,k1.set hn (.mp _ _ (BJ _ _ _))⟩
    ·cases h
   ·cases h
  ·rename_i x y ty gD K8
   split at h
   ·rename_i hc
    obtain ⟨-,rfl⟩:=hc
    exact TA K8 h hk
   ·exact HQ h hk
  ·exact HQ h hk
def LF(all:List Oper)(o:Oper)(s:S):Option Bool:=match o.guard with
 | none=>some true
 | some (j,want)=>match (all[j]?).bind (·.dst) with
  | some dj=>(lk s.tmps dj).bind (MT want)
  | none=>none
def x9(P:Program)(md:Md)(CS:LD)(n:Nat)(all:List Oper):List Oper->S->Option (A7 × S)
 | [],s=>some (.normal,s)
 | o::rest,s=>match LF all o s with
  | some true=>match gP P md CS n all o s with
   | some (.normal,s')=>x9 P md CS n all rest s'
   | r=>r
  | some false=>x9 P md CS n all rest (s.skip o)
  | none=>none
theorem E6{b:Bool}{g:Gh}{l:LG}{a:Act}{w:World}(BE:F0 cx.n all=true)(h:LF all o s=some b)(hs:Bc cx s g l a w):Region.wanted o (yielded all.toArray a.tmps)=b:=by
 unfold LF at h
 split at h
 ·rename_i hg
  simp only [Option.some.injEq] at h
  subst h
  simp [Region.wanted,hg]
 ·rename_i j want hg
  split at h
  ·rename_i dj Tz
   simp only [Option.bind_eq_some_iff] at h
   obtain ⟨lv,h1,h2⟩:=h
   have Yf:dj<cx.n:=by
    simp only [Option.bind_eq_some_iff] at Tz
    obtain ⟨oj,h1,h2⟩:=Tz
    exact DF BE (List.mem_of_getElem? h1) dj h2
   simp only [Region.wanted,hg]
   exact JK (by simpa using Tz) Yf hs h1 h2
  ·cases h
theorem Lb(Ce:Gm P CS)(BE:F0 cx.n all=true):∀ {ls:List Oper} {s:S},(∀o∈ls,o∈all)->x9 P md CS cx.n all ls s=some (pe,s')->Q pe s'->PL P cx all.toArray ls s Q
 | [],s,_,h,hq=>by
  simp only [x9,Option.some.injEq,Prod.mk.injEq] at h
  obtain ⟨rfl,rfl⟩:=h
  exact MS hq
 | o::rest,s,hm,h,hq=>by
  have hd:∀d,o.dst=some d->d<cx.n:=DF BE (hm o sM)
  have FN:∀o∈rest,o∈all:=fun o ho=>hm o (List.mem_cons_of_mem _ ho)
  intro g l a w hs
  simp only [x9] at h
  split at h
  ·rename_i hw
   have E5:=E6 BE hw hs
   refine wpList_step fun K hK=>?_
   rw [iP E5]
   split at h
   ·rename_i s1 h1
    refine CO ?_ (La (Q:=Q) (K:=fun s'=>PL P cx all.toArray rest s' Q) Ce hd h1 (Lb Ce BE FN h hq) g l a w hs)
    rintro a' w' ⟨s',g',l',hp,sm⟩
    exact hK _ _ (hp g' l' a' w' sm)
   ·rename_i Ct
    refine CO ?_ (La (Q:=Q) (K:=fun s'=>PL P cx all.toArray rest s' Q) Ce hd h (by
     cases pe with
     | normal=>exact absurd h (Ct _)
     | _=>exact hq) g l a w hs)
    rintro a' w' ⟨s',g',l',hp,sm⟩
    exact hK _ _ (hp g' l' a' w' sm)
  ·rename_i hw
   have E5:=E6 BE hw hs
   refine wpList_step fun K hK=>?_
   rw [iN (by rw [E5]; simp)]
   refine hK _ _ (Lb Ce BE FN h hq g l _ w ?_)
   cases Eh:o.dst with
   | none=>simp only [S.skip,Eh,Act.put]; exact hs
   | some d=>
    simp only [S.skip,Eh]
    exact hs.set (hd d Eh) (.B6 [] [] rfl fun j h=>by simp at h)
  ·cases h
def lF(CS:LD)(f:FuncId)(args:List PV):Option LV:=match Ci args with
 | true=>match CS f args [] with
  | some (r,[])=>match r.EN with
   | true=>r.lv
   | false=>none
  | _=>none
 | false=>none
def Ux(P:Program)(ro:TypeId->Option Bool)(CS:LD)(n:Nat)(all:List Oper)(o:Oper)(gr:List Loc)(s:S):Option (DS × Option Ext × S):=match callee P o with
 | some r=>match r.Hu s with
  | some ((f,args),rd)=>match lF CS f args with
   | some lv=>some (⟨gr++rd,DH o lv,false⟩,none,s.DG (DH o lv))
   | none=>match CS f args s.ext with
    | some (res,e')=>match res.lv with
     | some lv=>some (⟨gr++rd,DH o lv,true⟩,some e',{ s.DG (DH o lv) with ext:=e' })
     | none=>none
    | none=>none
  | none=>none
 | none=>match (act P ro n all o).Hu s with
  | some (wr,rd)=>if wr.any Q8=true then some (⟨gr++rd,wr.filter Dk,true⟩,some (Ip s.ext wr),{ s.DG (wr.filter Dk) with ext:=Ip s.ext wr })
   else some (⟨gr++rd,wr,false⟩,none,s.DG wr)
  | none=>none
theorem LH{ro:TypeId->Option Bool}{n:Nat}{gr:List Loc}{d:DS}{x:Option Ext}{K:DS->Option Ext->S->Prop}(Ce:Gm P CS)(h:Ux P ro CS n all o gr s=some (d,x,s'))(hk:K d x s'):Gk P ro n all o gr s K:=by
 unfold Ux at h
 unfold Gk
 split at h
 ·rename_i r hr
  split at h
  ·rename_i f args rd BW
   rw [hr]
   refine RM.Hv BW ?_
   split at h
   ·rename_i lv Gx
    simp only [Option.some.injEq,Prod.mk.injEq] at h
    obtain ⟨rfl,rfl,rfl⟩:=h
    unfold lF at Gx
    split at Gx
    ·rename_i SW
     split at Gx
     ·rename_i res ho
      split at Gx
      ·rename_i Yr
       obtain ⟨h1,h2⟩:=Ce _ _ _ _ _ ho
       exact ⟨h1,.inl ⟨res,lv,Gx,fun e=>BX.frame SW Yr h2 e,hk⟩⟩
      ·cases Gx
     ·cases Gx
    ·cases Gx
   ·split at h
    ·rename_i res e' ho
     split at h
     ·rename_i lv Gx
      simp only [Option.some.injEq,Prod.mk.injEq] at h
      obtain ⟨rfl,rfl,rfl⟩:=h
      obtain ⟨h1,h2⟩:=Ce _ _ _ _ _ ho
      exact ⟨h1,.inr ⟨res,lv,e',Gx,h2,hk⟩⟩
     ·cases h
    ·cases h
  ·cases h
 ·rename_i hr
  split at h
  ·rename_i wr rd BW
   rw [hr]
   refine RM.Hv BW ?_
   split at h
   ·rename_i hx
    simp only [Option.some.injEq,Prod.mk.injEq] at h
    obtain ⟨rfl,rfl,rfl⟩:=h
    rw [iP hx]
    exact hk
   ·rename_i hx
    simp only [Option.some.injEq,Prod.mk.injEq] at h
    obtain ⟨rfl,rfl,rfl⟩:=h
    rw [iN hx]
    exact hk
  ·cases h
def qH(P:Program)(ro:TypeId->Option Bool)(CS:LD)(n:Nat)(all:List Oper):List Oper->S->Option (List DS × List Ext × S)
 | [],s=>some ([],[],s)
 | o::rest,s=>match o.guard with
  | none=>match Ux P ro CS n all o [] s with
   | some (d,x,s')=>match qH P ro CS n all rest s' with
    | some (ds,xs,t)=>some (d::ds,x.toList++xs,t)
    | none=>none
   | none=>none
  | some (j,want)=>match (all[j]?).bind (·.dst) with
   | some dj=>match (lk s.tmps dj).bind (MT want) with
    | some true=>match Ux P ro CS n all o [.t dj] s with
     | some (d,x,s')=>match qH P ro CS n all rest s' with
      | some (ds,xs,t)=>some (d::ds,x.toList++xs,t)
      | none=>none
     | none=>none
    | some false=>match qH P ro CS n all rest (s.DG (DH o (.v (.B6 [])))) with
     | some (ds,xs,t)=>some (⟨[.t dj],DH o (.v (.B6 [])),false⟩::ds,xs,t)
     | none=>none
    | none=>none
   | none=>none
theorem J6{ro:TypeId->Option Bool}{n:Nat}(Ce:Gm P CS):∀ {ls:List Oper} {s t:S} {ds:List DS} {xs:List Ext} {K:List DS->List Ext->S->Prop},qH P ro CS n all ls s=some (ds,xs,t)->K ds xs t->l9 P ro n all ls s K
 | [],s,t,ds,xs,K,h,hk=>by
  simp only [qH,Option.some.injEq,Prod.mk.injEq] at h
  obtain ⟨rfl,rfl,rfl⟩:=h
  exact hk
 | o::rest,s,t,ds,xs,K,h,hk=>by
  simp only [qH] at h
  simp only [l9]
  split at h
  ·rename_i hg
   rw [hg]
   split at h
   ·rename_i d x s1 h1
    split at h
    ·rename_i ds1 xs1 t1 h2
     simp only [Option.some.injEq,Prod.mk.injEq] at h
     obtain ⟨rfl,rfl,rfl⟩:=h
     exact LH Ce h1 (J6 Ce (K:=fun ds xs t=>K (d::ds) (x.toList++xs) t) h2 hk)
    ·cases h
   ·cases h
  ·rename_i j want hg
   rw [hg]
   split at h
   ·rename_i dj Tz
    simp only [Tz]
    split at h
    ·rename_i hb
     simp only [hb,if_true]
     split at h
     ·rename_i d x s1 h1
      split at h
      ·rename_i ds1 xs1 t1 h2
       simp only [Option.some.injEq,Prod.mk.injEq] at h
       obtain ⟨rfl,rfl,rfl⟩:=h
       exact LH Ce h1 (J6 Ce (K:=fun ds xs t=>K (d::ds) (x.toList++xs) t) h2 hk)
      ·cases h
     ·cases h
    ·rename_i hb
     simp only [hb,Bool.false_eq_true,if_false]
     split at h
     ·rename_i ds1 xs1 t1 h2
      simp only [Option.some.injEq,Prod.mk.injEq] at h
      obtain ⟨rfl,rfl,rfl⟩:=h
      exact J6 Ce (K:=fun ds xs t=>K (⟨[.t dj],DH o (.v (.B6 [])),false⟩::ds) xs t) h2 hk
     ·cases h
    ·cases h
   ·cases h
def evR(P:Program)(md:Md)(CS:LD)(n:Nat)(ops:List Oper)(draw:Bool)(s:S):Option (A7 × S):=match draw with
 | false=>x9 P md CS n ops ops s
 | true=>match qH P md.ro CS n ops ops s with
  | some (B5,_,t)=>if Ur ops B5 s.tmps=true then some (.normal,t) else none
  | none=>none
theorem OV{id:Nat}{ops:Array Oper}{draw:Bool}(Ce:Gm P CS)(hm:P.follows .mixedOrders=true)(BE:F0 cx.n ops.toList=true)(h:evR P md CS cx.n ops.toList draw s=some (pe,s'))(hq:Q pe s'):PW P cx (.region id ops draw) s Q:=by
 obtain ⟨ops⟩:=ops
 cases draw with
 | false=>exact fun g l a w hs=>wp_region_lit (Lb Ce BE (fun _ h=>h) h hq g l a w hs)
 | true=>
  simp only [evR] at h
  split at h
  ·rename_i B5 xs t hd
   split at h
   ·rename_i hc
    simp only [Option.some.injEq,Prod.mk.injEq] at h
    obtain ⟨rfl,rfl⟩:=h
    exact Yg md.ro cx.n hm rfl BE (J6 Ce hd ⟨hc,hq⟩)
   ·cases h
  ·cases h
end
def N3(body:S->Option (A7 × S)):Nat->S->Option (A7 × S)
 | 0,_=>none
 | n+1,s=>match body s with
  | some (.normal,s')=>N3 body n s'
  | r=>r
def Lc(P:Program)(md:Md)(CS:LD)(n fl:Nat):Code->S->Option (A7 × S)
 | .skip,s=>some (.normal,s)
 | .region _ ops draw,s=>evR P md CS n ops.toList draw s
 | .seq a b,s=>match Lc P md CS n fl a s with
  | some (.normal,s')=>Lc P md CS n fl b s'
  | r=>r
 | .cond (.tmp t) x y,s=>match lk s.tmps t with
  | some (.v (.bool true))=>Lc P md CS n fl x s
  | some (.v (.bool false))=>Lc P md CS n fl y s
  | _=>none
 | .block id c,s=>match Lc P md CS n fl c s with
  | some (.exit Rf,s')=>if Rf=id then some (.normal,s') else some (.exit Rf,s')
  | r=>r
 | .loop c,s=>N3 (Lc P md CS n fl c) fl s
 | .exit id,s=>some (.exit id,s)
 | .ret,s=>some (.ret,s)
 | _,_=>none
def BZ(n:Nat):Code->Bool
 | .region _ ops _=>F0 n ops.toList
 | .seq a b=>BZ n a&&BZ n b
 | .cond _ x y=>BZ n x&&BZ n y
 | .block _ c=>BZ n c
 | .loop c=>BZ n c
 | _=>true
section
variable {P:Program} {cx:Cx} {md:Md} {CS:LD} {fl:Nat}
theorem N4{α:Type}{c:Code}{s:S}{Q:A7->S->Prop}(I:α->S)(μ:α->Nat)(x₀:α)(h₀:I x₀=s)
  (round:∀x,PW P cx c (I x) (I3 (fun s'=>∃y,μ y<μ x/\I y=s') Q)):PW P cx (.loop c) s Q:=fun g l a w hs=>by
 refine wp_loop_ghost (fun n a w=>∃x g l,μ x=n/\Bc cx (I x) g l a w) (μ x₀) ⟨x₀,g,l,rfl,by rw [h₀]; exact hs⟩ ?_
 rintro n a w ⟨x,g,l,rfl,sm⟩
 refine wp_mono (round x g l a w sm) ?_
 rintro e a' w' ⟨pe,s',g',l',q,er,sm'⟩
 cases pe <;> cases e <;> first | exact er.elim | skip
 ·obtain ⟨y,Ad,rfl⟩:=q
  exact ⟨μ y,Ad,y,g',l',rfl,sm'⟩
 ·exact ⟨_,s',g',l',q,er,sm'⟩
 ·exact ⟨_,s',g',l',q,er,sm'⟩
 ·exact ⟨_,s',g',l',q,er,sm'⟩
theorem LI{c:Code}{body:S->Option (A7 × S)}(Uy:∀ {s:S} {pe:A7} {s':S} {Q:A7->S->Prop},body s=some (pe,s')->Q pe s'->PW P cx c s Q){n:Nat}{s s':S}{pe:A7}{Q:A7->S->Prop}
  (h:N3 body n s=some (pe,s')) (hq:Q pe s'):PW P cx (.loop c) s Q:=by
 refine N4 (α:={ x:Nat × S // N3 body x.1 x.2=some (pe,s') }) (fun x=>x.1.2) (fun x=>x.1.1) ⟨(n,s),h⟩ rfl ?_
 rintro ⟨⟨n,s⟩,h⟩
 cases n with
 | zero=>cases h
 | succ n=>
  simp only [N3] at h
  split at h
  ·rename_i s1 h1
   exact Uy h1 ⟨⟨(n,s1),h⟩,Nat.lt_succ_self _,rfl⟩
  ·rename_i Ct
   refine Uy h ?_
   cases pe with
   | normal=>exact absurd h (Ct _)
   | _=>exact hq
theorem CF(Ce:Gm P CS)(hm:P.follows .mixedOrders=true):∀ (c:Code) {s s':S} {pe:A7} {Q:A7->S->Prop},BZ cx.n c=true->Lc P md CS cx.n fl c s=some (pe,s')->Q pe s'->PW P cx c s Q
 | .skip,s,s',pe,Q,_,h,hq=>by
  simp only [Lc,Option.some.injEq,Prod.mk.injEq] at h
  obtain ⟨rfl,rfl⟩:=h
  exact PG hq
 | .region _ ops draw,s,s',pe,Q,hc,h,hq=>OV Ce hm hc h hq
 | .seq a b,s,s',pe,Q,hc,h,hq=>by
  simp only [BZ,Bool.and_eq_true] at hc
  simp only [Lc] at h
  refine L5 ?_
  split at h
  ·rename_i s1 h1
   exact CF Ce hm a hc.1 h1 (CF Ce hm b hc.2 h hq)
  ·rename_i Ct
   refine CF Ce hm a hc.1 h ?_
   cases pe with
   | normal=>exact absurd h (Ct _)
   | _=>exact hq
 | .cond x a b,s,s',pe,Q,hc,h,hq=>by
  simp only [BZ,Bool.and_eq_true] at hc
  cases x with
  | tmp t=>
   simp only [Lc] at h
   split at h
   ·rename_i ht
    exact Kf ht (fun _=>CF Ce hm a hc.1 h hq) (fun e=>by cases e)
   ·rename_i ht
    exact Kf ht (fun e=>by cases e) (fun _=>CF Ce hm b hc.2 h hq)
   ·cases h
  | const _=>simp only [Lc] at h; cases h
  | global _=>simp only [Lc] at h; cases h
  | func _=>simp only [Lc] at h; cases h
 | .block id c,s,s',pe,Q,hc,h,hq=>by
  simp only [BZ] at hc
  simp only [Lc] at h
  refine MB ?_
  split at h
  ·rename_i Rf s1 h1
   refine CF Ce hm c hc h1 ?_
   simp only [MA]
   split at h
   ·rename_i e
    simp only [Option.some.injEq,Prod.mk.injEq] at h
    obtain ⟨rfl,rfl⟩:=h
    rw [iP e]
    exact hq
   ·rename_i e
    simp only [Option.some.injEq,Prod.mk.injEq] at h
    obtain ⟨rfl,rfl⟩:=h
    rw [iN e]
    exact hq
  ·rename_i Ct
   refine CF Ce hm c hc h ?_
   cases pe with
   | exit i=>exact absurd h (Ct _ _)
   | _=>exact hq
 | .loop c,s,s',pe,Q,hc,h,hq=>by
  simp only [BZ] at hc
  simp only [Lc] at h
  exact LI (fun h hq=>CF Ce hm c hc h hq) h hq
 | .exit id,s,s',pe,Q,_,h,hq=>by
  simp only [Lc,Option.some.injEq,Prod.mk.injEq] at h
  obtain ⟨rfl,rfl⟩:=h
  exact PI hq
 | .ret,s,s',pe,Q,_,h,hq=>by
  simp only [Lc,Option.some.injEq,Prod.mk.injEq] at h
  obtain ⟨rfl,rfl⟩:=h
  exact T8 hq
 | .rangeFunc _ _ _ _,_,_,_,_,_,h,_=>by simp only [Lc] at h; cases h
 | .scope _,_,_,_,_,_,h,_=>by simp only [Lc] at h; cases h
 | .label _,_,_,_,_,_,h,_=>by simp only [Lc] at h; cases h
 | .goto _,_,_,_,_,_,h,_=>by simp only [Lc] at h; cases h
 | .refuse _,_,_,_,_,_,h,_=>by simp only [Lc] at h; cases h
end
def TB(P:Program)(res:List ResultVar):A7->S->Option (Cd × Ext)
 | .panic p,s=>some (.panic p,s.ext)
 | .exit _,_=>none
 | .normal,s=>match Fz P s res with
  | some p=>some (.ret p,s.ext)
  | none=>none
 | .ret,s=>match res with
  | [.tmp t]=>match lk s.tmps t with
   | some (.uniq e z es)=>if e<1000000 then some (.own e z es,s.ext) else none
   | some lv=>match Xc lv with
    | some p=>some (.ret p,s.ext)
    | none=>none
   | none=>none
  | res=>match Fz P s res with
   | some p=>some (.ret p,s.ext)
   | none=>none
theorem JQ{P:Program}{res:List ResultVar}{pe:A7}{s:S}{r:Cd}{e:Ext}(h:TB P res pe s=some (r,e)):zI P res (fun r1 e1=>r1=r/\e1=e) pe s:=by
 cases pe with
 | panic p=>
  simp only [TB,Option.some.injEq,Prod.mk.injEq] at h
  obtain ⟨rfl,rfl⟩:=h
  exact ⟨rfl,rfl⟩
 | exit _=>cases h
 | normal=>
  simp only [TB] at h
  split at h
  ·rename_i p hp
   simp only [Option.some.injEq,Prod.mk.injEq] at h
   obtain ⟨rfl,rfl⟩:=h
   exact ⟨p,hp,rfl,rfl⟩
  ·cases h
 | ret=>
  simp only [TB] at h
  split at h
  ·rename_i t
   split at h
   ·rename_i e0 z es hl
    split at h
    case isFalse=>cases h
    rename_i K7
    simp only [Option.some.injEq,Prod.mk.injEq] at h
    obtain ⟨rfl,rfl⟩:=h
    exact .inr ⟨t,e0,z,es,rfl,hl,K7,rfl,rfl⟩
   ·rename_i lv _ hl
    split at h
    ·rename_i p hp
     simp only [Option.some.injEq,Prod.mk.injEq] at h
     obtain ⟨rfl,rfl⟩:=h
     exact .inl ⟨p,by simp [Fz,OM,Y5,hl,hp],rfl,rfl⟩
    ·cases h
   ·cases h
  ·split at h
   ·rename_i p hp
    simp only [Option.some.injEq,Prod.mk.injEq] at h
    obtain ⟨rfl,rfl⟩:=h
    exact .inl ⟨p,hp,rfl,rfl⟩
   ·cases h
abbrev qI:=FuncId->List PV->Ext->PM->Option (PM × Ext)
def Ys(P:Program)(O4:qI):Prop:=∀f args e m m' e',O4 f args e m=some (m',e')->Fl P f=true/\EB P f args e m fun m1 e1=>m1=m'/\e1=e'
inductive Shape where
 | plain
 | defers (r0:Code) (mk df:Oper) (t:Nat) (y:Code)
def shape:Code->Shape
 | .seq r0 (.seq (.region _ ⟨[mk,df]⟩ false) y)=>match df.op with
  | .defer ⟨.value (.tmp t),⟨[]⟩,_⟩ => .defers r0 mk df t y
  | _ => .plain
 | _ => .plain
theorem Wn{c r0 y:Code}{mk df:Oper}{t:Nat}(h:shape c = .defers r0 mk df t y):∃id ts,c = .seq r0 (.seq (.region id #[mk,df] false) y)/\df.op = .defer ⟨.value (.tmp t),#[],ts⟩:=by
 unfold shape at h
 split at h
 ·split at h
  ·rename_i K8
   simp only [Shape.defers.injEq] at h
   obtain ⟨rfl,rfl,rfl,rfl,rfl⟩:=h
   exact ⟨_,_,rfl,K8⟩
  ·cases h
 ·cases h
def gQ(P:Program)(res:List ResultVar)(s:S)(e:Ext):Option (Cd × Ext):=match Fz P { s with ext:=e } res with
 | some q=>some (.ret q,e)
 | none=>none
def qJ(P:Program)(md:Md)(CS:LD)(O4:qI)(fl:Nat)(fn:Func)(args:List PV)(e:Ext):Option (Cd × Ext):=match fn.body with
 | none=>none
 | some c=>if args.length<=fn.ntmps then (match shape c with
  | .plain=>match Lc P md CS fn.ntmps fl c (FR args e) with
   | some (pe,s)=>TB P fn.results.toList pe s
   | none=>none
  | .defers r0 mk df t y=>if mk.guard.isNone&&df.guard.isNone&&df.dst.isNone then (match Lc P md CS fn.ntmps fl r0 (FR args e) with
   | some (.normal,s)=>match (act P md.ro fn.ntmps [mk,df] mk).run s with
    | some wr=>match lk (s.Io wr).tmps t with
     | some (.v (.fn (.func F8) first cap))=>match Lc P md CS fn.ntmps fl y (s.Io wr) with
      | some (.panic p,s2)=>match O4 F8 (first++cap) s2.ext (.x6 p) with
       | some (.gL,e')=>gQ P fn.results.toList s2 e'
       | _=>none
      | some (.exit _,_)=>none
      | some (_,s2)=>match O4 F8 (first++cap) s2.ext .ret with
       | some (.ret,e')=>gQ P fn.results.toList s2 e'
       | _=>none
      | none=>none
     | _=>none
    | none=>none
   | _=>none) else none) else none
def N5:Code->Option (Nat × Nat × Code)
 | .seq (.region _ ⟨[o0,o1]⟩ false) y=>match o0.op,o1.op,o0.dst,o1.dst with
  | .call ⟨.builtin .recover,⟨[]⟩,_⟩,.assign (.tmp t),some t0,some t1=>if t=t0/\o0.guard.isNone=true/\o1.guard.isNone=true then some (t0,t1,y) else none
  | _,_,_,_=>none
 | _=>none
def gR(P:Program)(md:Md)(CS:LD)(fl:Nat)(fn:Func)(args:List PV)(e:Ext)(m:PM):Option (PM × Ext):=match fn.body with
 | none=>none
 | some c=>match N5 c with
  | none=>none
  | some (t0,t1,y)=>if args.length<=fn.ntmps/\t0<fn.ntmps/\t1<fn.ntmps then (match m with
   | .gL=>none
   | .ret=>match Lc P md CS fn.ntmps fl y ⟨put (put (RE 0 args) t0 (.v .FW)) t1 (.v .FW),[],e⟩ with
    | some (.normal,s)=>if (Fz P s fn.results.toList).isSome=true then some (.ret,s.ext) else none
    | some (.ret,s)=>if (Fz P s fn.results.toList).isSome=true then some (.ret,s.ext) else none
    | _=>none
   | .x6 p=>match Lc P md CS fn.ntmps fl y ⟨put (put (RE 0 args) t0 (.v p)) t1 (.v p),[],e⟩ with
    | some (.normal,s)=>if (Fz P s fn.results.toList).isSome=true then some (.gL,s.ext) else none
    | some (.ret,s)=>if (Fz P s fn.results.toList).isSome=true then some (.gL,s.ext) else none
    | _=>none) else none
section
variable {P:Program} {md:Md} {CS:LD} {O4:qI} {fl:Nat} {f:FuncId} {fn:Func} {args:List PV} {e e':Ext} {r:Cd}
def JR(fn:Func):Bool:=match fn.body with
 | some c=>BZ fn.ntmps c
 | none=>false
theorem TC(Ce:Gm P CS)(Yt:Ys P O4)(hm:P.follows .mixedOrders=true)(hf:P.funcs[f]?=some fn)(Eu:JR fn=true)(h:qJ P md CS O4 fl fn args e=some (r,e')):BX P f args e fun r1 e1=>r1=r/\e1=e':=by
 unfold qJ at h
 unfold JR at Eu
 split at h
 ·cases h
 ·rename_i c hb
  rw [hb] at Eu
  simp only at Eu
  split at h
  ·rename_i hn
   split at h
   ·split at h
    ·rename_i pe s he
     refine BX.enter hf hb hn fun cx AH PX=>?_
     rw [<-AH] at Eu he
     exact CF Ce hm c Eu he (JQ h)
    ·cases h
   ·rename_i r0 mk df t y K6
    obtain ⟨id,ts,rfl,qC⟩:=Wn K6
    simp only [BZ,Bool.and_eq_true] at Eu
    split at h
    ·rename_i hg
     simp only [Bool.and_eq_true,Option.isNone_iff_eq_none] at hg
     split at h
     ·rename_i s he
      split at h
      ·rename_i wr Rv
       split at h
       ·rename_i F8 first cap gG
        have hgo:∀ {m:PM} {m':PM} {e1:Ext},O4 F8 (first++cap) e1 m=some (m',e')->Fl P F8=true:=fun h=>(Yt _ _ _ _ _ _ h).1
        have key:Fl P F8=true/\∀Yl:Cx,Yl.n=fn.ntmps->PW P Yl y (s.Io wr) (qA P fn.results.toList (fun r1 e1=>r1=r/\e1=e') F8 (first++cap)):=by
         have AF:∀ {s2:S} {e1:Ext},gQ P fn.results.toList s2 e1=some (r,e')->∃q,Fz P { s2 with ext:=e1 } fn.results.toList=some q/\r = .ret q/\e'=e1:=by
          intro s2 e1 h
          unfold gQ at h
          split at h
          ·rename_i q hq
           simp only [Option.some.injEq,Prod.mk.injEq] at h
           exact ⟨q,hq,h.1.symm,h.2.symm⟩
          ·cases h
         split at h
         ·rename_i p s2 hy
          split at h
          ·rename_i e1 hd
           obtain ⟨q,h1,rfl,rfl⟩:=AF h
           obtain ⟨k1,k2⟩:=Yt _ _ _ _ _ _ hd
           refine ⟨k1,fun Yl Yu=>?_⟩
           rw [<-Yu] at Eu hy
           refine CF Ce hm y Eu.2.2 hy ?_
           exact fun vs g l w u ha he hu=>(k2 vs g l w u ha he hu).mono fun en u' w' ⟨v,m',e2,g',l',k3,⟨k4,k5⟩,k6⟩=>⟨v,m',e2,g',l',k3,⟨k4,q,by rw [k5]; exact h1,rfl,k5⟩,k6⟩
          ·cases h
         ·cases h
         ·rename_i pe s2 A78 A79 hy
          split at h
          ·rename_i e1 hd
           obtain ⟨q,h1,rfl,rfl⟩:=AF h
           obtain ⟨k1,k2⟩:=Yt _ _ _ _ _ _ hd
           refine ⟨k1,fun Yl Yu=>?_⟩
           rw [<-Yu] at Eu hy
           refine CF Ce hm y Eu.2.2 hy ?_
           have A03:EB P F8 (first++cap) s2.ext .ret fun m qK=>m = .ret/\∃q',Fz P { s2 with ext:=qK } fn.results.toList=some q'/\(Cd.ret q' = .ret q/\qK=e'):=
            fun vs g l w u ha he hu=>(k2 vs g l w u ha he hu).mono fun en u' w' ⟨v,m',e2,g',l',k3,⟨k4,k5⟩,k6⟩=>⟨v,m',e2,g',l',k3,⟨k4,q,by rw [k5]; exact h1,rfl,k5⟩,k6⟩
           cases pe with
           | normal=>exact A03
           | ret=>exact A03
           | exit i=>exact absurd rfl (A79 i)
           | panic p=>exact absurd rfl (A78 p)
          ·cases h
         ·cases h
        refine BX.qB md.ro hf hb hn qC hg.1.1 hg.1.2 hg.2 fun cx AH PX=>?_
        have Tk:=he
        rw [<-AH] at Tk
        have A04:=Eu.1
        rw [<-AH] at A04
        refine CF Ce hm r0 A04 Tk ⟨rfl,RM.Gl Rv ⟨F8,first,cap,gG,key.1,key.2⟩⟩
       ·cases h
      ·cases h
     ·cases h
    ·cases h
  ·cases h
theorem Q9{c y:Code}{t0 t1:Nat}(h:N5 c=some (t0,t1,y)):∃id o0 o1 ts,c = .seq (.region id #[o0,o1] false) y/\o0.op = .call ⟨.builtin .recover,#[],ts⟩/\o1.op = .assign (.tmp t0)/\o0.dst=some t0/\o1.dst=some t1/\o0.guard=none/\o1.guard=none:=by
 unfold N5 at h
 split at h
 ·rename_i id o0 o1 y'
  split at h
  ·rename_i ts t a b h0 h1 h2 h3
   split at h
   ·rename_i hc
    obtain ⟨rfl,g0,g1⟩:=hc
    simp only [Option.some.injEq,Prod.mk.injEq] at h
    obtain ⟨rfl,rfl,rfl⟩:=h
    exact ⟨id,o0,o1,ts,rfl,h0,h1,h2,h3,by simpa using g0,by simpa using g1⟩
   ·cases h
  ·cases h
 ·cases h
theorem TD{m m':PM}(Ce:Gm P CS)(hm:P.follows .mixedOrders=true)(hf:P.funcs[f]?=some fn)(Eu:JR fn=true)(h:gR P md CS fl fn args e m=some (m',e')):EB P f args e m fun m1 e1=>m1=m'/\e1=e':=by
 unfold gR at h
 unfold JR at Eu
 split at h
 ·cases h
 ·rename_i c hb
  rw [hb] at Eu
  simp only at Eu
  split at h
  ·cases h
  ·rename_i t0 t1 y K6
   obtain ⟨id,o0,o1,ts,rfl,h0,h1,h2,h3,g0,g1⟩:=Q9 K6
   simp only [BZ,Bool.and_eq_true] at Eu
   split at h
   ·rename_i hc
    obtain ⟨c1,c2,c3⟩:=hc
    split at h
    ·cases h
    ·refine EB.enter hf hb c1 h0 g0 h2 h1 g1 h3 c2 c3 .FW .ret (.inl ⟨rfl,rfl,rfl⟩) fun cx AH PX=>?_
     split at h
     ·rename_i s hs
      split at h
      ·rename_i AF
       simp only [Option.some.injEq,Prod.mk.injEq] at h
       obtain ⟨rfl,rfl⟩:=h
       rw [<-AH] at Eu hs
       exact CF Ce hm y Eu.2 hs ⟨.inl rfl,Option.isSome_iff_exists.1 AF,rfl,rfl⟩
      ·cases h
     ·rename_i s hs
      split at h
      ·rename_i AF
       simp only [Option.some.injEq,Prod.mk.injEq] at h
       obtain ⟨rfl,rfl⟩:=h
       rw [<-AH] at Eu hs
       exact CF Ce hm y Eu.2 hs ⟨.inr rfl,Option.isSome_iff_exists.1 AF,rfl,rfl⟩
      ·cases h
     ·cases h
    ·rename_i p
     refine EB.enter hf hb c1 h0 g0 h2 h1 g1 h3 c2 c3 p .gL (.inr ⟨rfl,rfl⟩) fun cx AH PX=>?_
     split at h
     ·rename_i s hs
      split at h
      ·rename_i AF
       simp only [Option.some.injEq,Prod.mk.injEq] at h
       obtain ⟨rfl,rfl⟩:=h
       rw [<-AH] at Eu hs
       exact CF Ce hm y Eu.2 hs ⟨.inl rfl,Option.isSome_iff_exists.1 AF,rfl,rfl⟩
      ·cases h
     ·rename_i s hs
      split at h
      ·rename_i AF
       simp only [Option.some.injEq,Prod.mk.injEq] at h
       obtain ⟨rfl,rfl⟩:=h
       rw [<-AH] at Eu hs
       exact CF Ce hm y Eu.2 hs ⟨.inr rfl,Option.isSome_iff_exists.1 AF,rfl,rfl⟩
      ·cases h
     ·cases h
   ·cases h
end
def Wo(P:Program)(f:FuncId):Bool:=match P.funcs[f]? with
 | some fn=>Fl P f&&JR fn
 | none=>false
section
variable {P:Program} {cx:Cx} {s t:S} {g:Gh} {l:LG} {a:Act} {w:World} {o:Oper}
theorem Ld(t ty e e':TypeId)(i:TypeInfo)(ht:P.underlying t=some (.slice e))(hi:P.info? e=some i)
  (g TE qL:Nat) (cur:Array Value) (hg:w.heap[g]?=some (.cells cur e' (0,0)))
  (a:Addr) (m c:Nat) (news:List Value) (hl:news.length=m * i.size) (Kn:∀j u,news[j]?=some u->w.cell? (a.add j)=some u) (h1:∀u∈news,u.oneCell'=true)
  (GB:TE+m<=qL) (M1:TE * i.size+news.length<=cur.size) :
  (Builtin.append_ #[t,t] ty #[.slice (some ⟨g,0,none⟩) TE qL,.slice (some a) m c]).run P w =
   .ok (.slice (some ⟨g,0,none⟩) (TE+m) qL) (w.setRow g (cur.toList.take (TE * i.size)++news++cur.toList.drop (TE * i.size+news.length)).toArray):=by
 have hf:=run_firstCells_some (P:=P) w i.size m a m c news hl Kn
 have JH:=run_storeCells_at P g (TE * i.size) e' news 0 cur w hg (by simpa using M1) h1
 simp only [Nat.add_zero] at JH
 simp [Builtin.append_,run_underlying ht,sizeOf,typeInfo,hi,Builtin.lenOf,GB,hf,Addr.add_lit,JH]
def Wp:List PV->Option (List Int)
 | []=>some []
 | .int .i64 k::r=>(Wp r).map (k :: ·)
 | _::_=>none
theorem N6:∀ {l:List PV} {ks:List Int},Wp l=some ks->l=ks.map (.int .i64)
 | [],ks,h=>by simp only [Wp,Option.some.injEq] at h; subst h; rfl
 | x::r,ks,h=>by
  unfold Wp at h
  split at h
  ·cases ‹_=[]›
  ·rename_i k r' e0
   injection e0 with e1 e2
   subst e1 e2
   simp only [Option.map_eq_some_iff] at h
   obtain ⟨qs,hq,rfl⟩:=h
   rw [N6 hq]; rfl
  ·cases h
def A05(x y:Operand):RM ((Nat × Nat × List Int) × List Int):=ev x fun lx=>match OG lx with
 | some (n,c,len) => .G3 n fun cs=>match rowOf cs with
  | some (c',ps) => .assume (decide (c=c'/\len=ps.length)) (ev y fun ly=>match OH ly with
   | some (y0::ys)=>if wV 1 ly=true then (match Wp (y0::ys).flatten with | some ks => .ret ((n,c,ps),ks) | none => .fail) else .fail
   | _ => .fail)
  | none => .fail
 | none => .fail
theorem OW(hs:Bc cx s g l a w){n c len:Nat}{cs:List LV}{ps:List Int}{v:Value}(hr:BO g w (.M0 n c len) v)(hx:lk s.ext n=some cs)(hp:rowOf cs=some (c,ps))(hl:len=ps.length) :
  ∃b cap cur e,v = .slice (some ⟨b,0,none⟩) len cap/\g.Y n c=some b/\l.O b=some (.x n)/\(∀c',c<c'->g.Y n c'=none)/\g.M b=some 0/\w.heap[b]?=some (.cells cur e (0,0))/\cur.size=cap/\len<=cap/\cap<=maxLen /\
   AE g w (ps.map (.int .i64)) (cur.toList.take len)/\∀u∈cur.toList.take len,u.oneCell'=true:=by
 subst hl
 cases hr with
 | M0 _ _ _ b cap cur e hY hh Cb hle D5=>
  obtain ⟨b',k1,k2,k3,kM,fT,e2,k4,k5,k6⟩:=Tb hs hx hp
  rw [hY] at k1
  injection k1 with k1
  subst k1
  rw [hh] at k4
  injection k4 with k4
  injection k4 with k4 _ _
  subst k4
  refine ⟨b,cap,cur,e,rfl,hY,k2,k3,kM,hh,Cb.symm,hle,D5,⟨by simp only [List.length_map,List.length_take,Array.length_toList]; omega,fun j hj Cj=>?_⟩,fun u hu=>?_⟩
  ·have hjp:j<ps.length:=by rw [List.length_map] at hj; exact hj
   have h6:=(k6 j hjp).2
   rw [List.getElem_map]
   have Xb:j<cur.size:=by omega
   have:cur.getD j undef=(cur.toList.take ps.length)[j]:=by simp [Xb]
   rw [<-this]
   exact h6
  ·obtain ⟨j,hj,e0⟩:=List.getElem_of_mem hu
   have SS:j<ps.length:=by rw [List.length_take] at hj; omega
   have h6:=(k6 j SS).1
   have Xb:j<cur.size:=by omega
   have:cur.getD j undef=(cur.toList.take ps.length)[j]:=by simp [Xb]
   rw [this,e0] at h6
   exact h6
theorem OX{b:Nat}{cur:Array Value}{e:TypeId}{len j:Nat}{v:Value}(hh:w.heap[b]?=some (.cells cur e (0,0)))(hj:(cur.toList.take len)[j]?=some v):w.cell? ((⟨b,0,none⟩:Addr).add j)=some v:=by
 rw [List.getElem?_take] at hj
 split at hj
 ·have e1:(⟨b,0,none⟩:Addr).add j=⟨b,j,none⟩:=by simp [Addr.add_lit]
  rw [e1]
  have hj4:cur[j]?=some v:=by simpa using hj
  simp [World.cell?,hh,hj4]
 ·cases hj
theorem gS{K:S->Prop}{Q:A7->S->Prop}{ty e:TypeId}{x y:Operand}{d B:Nat}{zs:List PV}(ho:o.op = .call ⟨.builtin .append,#[x,y],#[ty,ty]⟩)(hd:o.dst=some d)(hn:d<cx.n)
  (he:GC P ty=some e) (hm:KV P e=some 1) (hB:FP P e=some (B+1)) (hz:Uh P e=some zs) (Rx:zs.length=1) (hs:Bc cx s g l a w)
  (h:(A05 x y).wp s fun r=>(r.1.2.2.length+r.2.length) * (B+1)<=140737488355328 /\
   K { s with tmps:=put s.tmps d (.v (.M0 r.1.1 (r.1.2.1+1) (r.1.2.2.length+r.2.length))),ext:=put s.ext r.1.1 [.row (r.1.2.1+1) (r.1.2.2++r.2)] }) :
  o.wp P a w (fun a' w'=>∃s' g' l',K s'/\Bc cx s' g' l' a' w') (post cx Q):=by
 have hu:=EH he
 obtain ⟨i,zv,z1,z2,z3⟩:=Fv hz
 have Cb:i.size=1:=by simpa [KV,z1] using hm
 have Xe:i.bytes=B+1:=by simpa [FP,z1] using hB
 have O3:zv.cells.size=1:=by rw [<-Array.length_toList,<-Fk z3]; exact Rx
 obtain ⟨-,Uw,-⟩:=EX (g:=g) (w:=w) z3
 obtain ⟨lx,ux,h1,r1,-⟩:=Cc hs h
 split at h1
 ·rename_i n c len Qa
  have hlx:lx = .v (.M0 n c len):=by
   unfold OG at Qa
   split at Qa
   ·injection Qa with q0; injection q0 with q1 q0; injection q0 with q2 q3; subst q1 q2 q3; rfl
   ·cases Qa
  subst hlx
  simp only [RM.wp] at h1
  split at h1
  ·rename_i cs DM
   split at h1
   ·rename_i c' ps Tg
    simp only [RM.wp] at h1
    obtain ⟨fP,h1⟩:=h1
    obtain ⟨rfl,kY⟩:=of_decide_eq_true fP
    obtain ⟨ly,uy,h2,r2,-⟩:=Cc hs h1
    split at h2
    ·rename_i y0 ys Kh
     split at h2
     ·rename_i Eu
      split at h2
      rotate_left
      ·exact h2.elim
      rename_i ks LJ
      obtain ⟨hb,h2⟩:=h2
      simp only at hb h2
      obtain ⟨b,cap,cur,e',lE,hY,hO,hF,hM,hh,gT,hle,D5,hR,Ck⟩:=OW hs r1 DM Tg kY
      have Gi:=J3 Tg
      subst Gi
      obtain ⟨ay,cc,Wa,eX⟩:∃ay cc,a.eval y = .slice (some ay) (y0::ys).length cc/\BO g w (.sl 1 (y0::ys)) (a.eval y):=by
       rcases Mh Kh Eu r2 with ⟨h,-⟩ | h
       ·cases h
       ·exact h
      rw [Wa] at eX
      obtain ⟨-,-,-,hyz,news,Yr,Iz,XT⟩:=eX.flat
      have hkY:=N6 LJ
      rw [hkY] at Yr
      generalize hYY:(y0::ys)=Y at *
      have Ho:0<Y.length:=by rw [<-hYY]; simp
      rw [Nat.mul_one] at Iz
      have T5:Y.flatten.length=Y.length:=by rw [BQ _ Y hyz,Nat.mul_one]
      have xE:ks.length=Y.length:=by rw [<-T5,hkY,List.length_map]
      rw [xE] at hb h2
      have QY:∀u∈news,u.oneCell'=true:=fun u hu=>by
       obtain ⟨j,hj,e⟩:=List.getElem_of_mem hu
       exact (XT j u (by rw [List.getElem?_eq_getElem hj,e])).2.2
      rw [<-kY] at hb h2
      have hlen:len+Y.length<=140737488355328:=by
       have:=Nat.le_mul_of_pos_right (len+Y.length) (Nat.succ_pos B)
       simp only [Nat.succ_eq_add_one] at this
       omega
      have Xf:len+Y.length<=maxLen:=by simp only [maxLen]; omega
      have PZ:news.length=Y.length * i.size:=by rw [Cb,Nat.mul_one]; exact Iz
      have Kn:∀j v,news[j]?=some v->w.cell? (ay.add j)=some v:=fun j v hj=>(XT j v hj).1
      have hex:∀v' w',(Builtin.append_ #[ty,ty] o.type #[a.eval x,a.eval y]).run P w = .ok v' w'->(execOp a.eval o).run P w = .ok (.value v') w':=by
       intro v' w' hr
       simp only [execOp,ho,resolve,invoke,builtin,Sem.run_bind,Sem.run_pure,Result.andThen_ok,List.map_toArray,List.map_cons,List.map_nil,hr]
      have Um:(cur.toList.take len).length=len:=by rw [List.length_take,Array.length_toList]; omega
      have Yv:=hR.app Yr
      rw [<-List.map_append] at Yv
      have hRl:(ps++ks).length=(cur.toList.take len++news).length:=by rw [<-Yv.1,List.length_map]
      have hRg:∀j (hj:j<(ps++ks).length) (HK:j<(cur.toList.take len++news).length),BO g w (.int .i64 (ps++ks)[j]) (cur.toList.take len++news)[j]:=fun j hj HK=>by
       have:=Yv.2 j (by rw [List.length_map]; exact hj) HK
       rw [List.getElem_map] at this
       exact this
      have lG:∀u∈cur.toList.take len++news,u.oneCell'=true:=fun u hu=>by
       rcases List.mem_append.1 hu with hu | hu
       ·exact Ck u hu
       ·exact QY u hu
      have A06:(ps++ks).length=len+Y.length:=by rw [List.length_append,xE,kY]
      by_cases GB:len+Y.length<=cap
      ·have hr:=Ld (P:=P) ty o.type e e' i hu z1 b len cap cur hh ay Y.length cc news PZ Kn QY GB (by rw [Cb,Iz,Nat.mul_one,gT]; exact GB)
       rw [Cb,Nat.mul_one,<-lE,<-Wa] at hr
       unfold Oper.wp
       rw [hex _ _ hr,Oper.upon_value,hd]
       have fP:(cur.toList.take len++news++cur.toList.drop (len+news.length)).toArray.size=cur.size:=by
        simp only [List.size_toArray,List.length_append,List.length_take,List.length_drop,Array.length_toList,Iz]; omega
       have VR:∀j,j<(ps++ks).length->((cur.toList.take len++news++cur.toList.drop (len+news.length)).toArray.getD j undef)=(cur.toList.take len++news).getD j undef:=fun j hj=>by
        have Cj:j<(cur.toList.take len++news).length:=by rw [<-hRl]; exact hj
        simp only [Array.getD_eq_getD_getElem?,List.getElem?_toArray,List.getD_eq_getElem?_getD]
        rw [List.getElem?_append_left Cj]
       have k1:=hs.Xy (c2:=c+1) (ps':=ps++ks) DM hY hO hF hM hh fP (.inr (Nat.lt_succ_self c)) (by rw [fP,A06,gT]; exact GB) (fun j hj=>by
         have HK:j<(cur.toList.take len++news).length:=by rw [<-hRl]; exact hj
         rw [VR j hj]
         simp only [List.getD_eq_getElem?_getD,List.getElem?_eq_getElem HK,Option.getD_some]
         exact ⟨lG _ (List.getElem_mem HK),hRg j hj HK⟩)
       refine ⟨_,_,_,h2,k1.set hn (.M0 _ _ _ b cap _ e' (Fi _ _ _ _) (setRow_heap w b cur _ e' _ hh) ?_ GB D5)⟩
       rw [fP]; exact gT.symm
      ·have MQ:(len+Y.length) * i.bytes<=140737488355328:=by rw [Xe]; exact hb
       have hr:=run_append_grow (P:=P) w ty o.type e i zv hu z1 z2 ⟨b,0,none⟩ len cap (cur.toList.take len) (by rw [Cb,Nat.mul_one]; exact Um) (fun j v hj=>OX hh hj) ay Y.length cc news PZ Kn oM (by simp only [maxLen] at Xf; omega) (growslice_fits oM MQ)
       rw [<-lE,<-Wa] at hr
       have Dm:=grownCap_ge w (len+Y.length) cap e
       have Wb:=grownCap_le_maxLen w (len+Y.length) cap e Xf
       unfold Oper.wp
       rw [hex _ _ hr,Oper.upon_value,hd]
       obtain ⟨PU,eW⟩:=hs.drew
       have N2:w.drew.heap.size=w.heap.size:=rfl
       have k1:=PU.Tc n (c+1) (fun c' QX=>hF c' oM) (Nat.le_of_lt (L4 DM)) ((cur.toList.take len).toArray++news.toArray++Builtin.zeroCells zv.cells (grownCap w (len+Y.length) cap e - (len+Y.length))) e (ps++ks)
        (by simp only [Array.size_append,List.size_toArray,size_zeroCells,O3,Iz,Um,A06]; omega) (fun j hj=>by
         have HK:j<(cur.toList.take len++news).length:=by rw [<-hRl]; exact hj
         have h3:=(hRg j hj HK).mono eW
         have e2:(((cur.toList.take len).toArray++news.toArray++Builtin.zeroCells zv.cells (grownCap w (len+Y.length) cap e - (len+Y.length))).getD j undef)=(cur.toList.take len++news)[j]:=by
          have hj4:j<((cur.toList.take len).toArray++news.toArray).size:=by simp only [Array.size_append,List.size_toArray]; rw [List.length_append] at HK; exact HK
          rw [Array.getD_eq_getD_getElem?,Array.getElem?_append_left hj4,List.append_toArray,List.getElem?_toArray,List.getElem?_eq_getElem HK]; rfl
         rw [e2]
         exact ⟨lG _ (List.getElem_mem HK),h3⟩)
       rw [N2] at k1
       refine ⟨_,_,_,h2,k1.set hn (.M0 _ _ _ _ _ _ _ (Fi _ _ _ _) (heap_alloc_new w.drew _) ?_ Dm Wb)⟩
       simp only [Array.size_append,List.size_toArray,size_zeroCells,O3,Iz,Um,Nat.mul_one]
       omega
     ·exact h2.elim
    ·exact h2.elim
   ·exact h1.elim
  ·exact h1.elim
 ·exact h1.elim
def A07(x y:Operand):RM (Nat × Nat × List Int):=ev x fun lx=>match lx with
 | .v .Ab=>ev y fun ly=>match OG ly with
  | some (n,c,len) => .G3 n fun cs=>match rowOf cs with
   | some (c',ps) => .assume (decide (c=c'/\len=ps.length/\0<len)) (.ret (n,c,ps))
   | none => .fail
  | none => .fail
 | _ => .fail
theorem gU{K:S->Prop}{Q:A7->S->Prop}{ty e:TypeId}{x y:Operand}{d B:Nat}{zs:List PV}(ho:o.op = .call ⟨.builtin .append,#[x,y],#[ty,ty]⟩)(hd:o.dst=some d)(hn:d<cx.n)
  (he:GC P ty=some e) (hm:KV P e=some 1) (hB:FP P e=some (B+1)) (hz:Uh P e=some zs) (Rx:zs.length=1) (hs:Bc cx s g l a w)
  (h:(A07 x y).wp s fun r=>r.2.2.length * (B+1)<=140737488355328 /\
   K { s with tmps:=put s.tmps d (.v (.M0 r.1 (r.2.1+1) r.2.2.length)),ext:=put s.ext r.1 [.row (r.2.1+1) r.2.2] }) :
  o.wp P a w (fun a' w'=>∃s' g' l',K s'/\Bc cx s' g' l' a' w') (post cx Q):=by
 have hu:=EH he
 obtain ⟨i,zv,z1,z2,z3⟩:=Fv hz
 have Cb:i.size=1:=by simpa [KV,z1] using hm
 have Xe:i.bytes=B+1:=by simpa [FP,z1] using hB
 have O3:zv.cells.size=1:=by rw [<-Array.length_toList,<-Fk z3]; exact Rx
 obtain ⟨-,Uw,-⟩:=EX (g:=g) (w:=w) z3
 obtain ⟨lx,ux,h1,r1,-⟩:=Cc hs h
 split at h1
 ·have lE:a.eval x = .slice none 0 0:=by generalize a.eval x=v at r1; cases r1; rfl
  obtain ⟨ly,uy,h2,r2,-⟩:=Cc hs h1
  split at h2
  ·rename_i n c len Qa
   have hlx:ly = .v (.M0 n c len):=by
    unfold OG at Qa
    split at Qa
    ·injection Qa with q0; injection q0 with q1 q0; injection q0 with q2 q3; subst q1 q2 q3; rfl
    ·cases Qa
   subst hlx
   simp only [RM.wp] at h2
   split at h2
   ·rename_i cs DM
    split at h2
    ·rename_i c' ps Tg
     simp only [RM.wp] at h2
     obtain ⟨fP,hb,h2⟩:=h2
     obtain ⟨rfl,kY,Ho⟩:=of_decide_eq_true fP
     replace hb:ps.length * (B+1)<=140737488355328:=hb
     replace h2:K { s with tmps:=put s.tmps d (.v (.M0 n (c+1) ps.length)),ext:=put s.ext n [.row (c+1) ps] }:=h2
     obtain ⟨b,cap,cur,e',Wa,hY,hO,hF,hM,hh,gT,hle,D5,hR,Ck⟩:=OW hs r2 DM Tg kY
     have Gi:=J3 Tg
     subst Gi
     rw [<-kY] at hb h2
     have Um:(cur.toList.take len).length=len:=by rw [List.length_take,Array.length_toList]; omega
     have hlen:len<=140737488355328:=by
      have:=Nat.le_mul_of_pos_right len (Nat.succ_pos B)
      simp only [Nat.succ_eq_add_one] at this
      omega
     have Xf:len<=maxLen:=by simp only [maxLen]; omega
     have hex:∀v' w',(Builtin.append_ #[ty,ty] o.type #[a.eval x,a.eval y]).run P w = .ok v' w'->(execOp a.eval o).run P w = .ok (.value v') w':=by
      intro v' w' hr
      simp only [execOp,ho,resolve,invoke,builtin,Sem.run_bind,Sem.run_pure,Result.andThen_ok,List.map_toArray,List.map_cons,List.map_nil,hr]
     have hr:=run_append_nil (P:=P) w ty o.type e i zv hu z1 z2 ⟨b,0,none⟩ len cap (cur.toList.take len) (by rw [Cb,Nat.mul_one]; exact Um) (fun j v hj=>OX hh hj) Ho oM (by rw [Xe]; omega)
     rw [<-lE,<-Wa] at hr
     have Dm:=grownCap_ge w len 0 e
     have Wb:=grownCap_le_maxLen w len 0 e (by simpa using Xf)
     unfold Oper.wp
     rw [hex _ _ hr,Oper.upon_value,hd]
     obtain ⟨PU,eW⟩:=hs.drew
     have N2:w.drew.heap.size=w.heap.size:=rfl
     have k1:=PU.Tc n (c+1) (fun c' QX=>hF c' oM) (Nat.le_of_lt (L4 DM)) ((cur.toList.take len).toArray++Builtin.zeroCells zv.cells (grownCap w len 0 e - len)) e ps
      (by simp only [Array.size_append,List.size_toArray,size_zeroCells,O3,Um]; omega) (fun j hj=>by
       have HK:j<(cur.toList.take len).length:=by rw [<-hR.1,List.length_map]; exact hj
       have h3:=(hR.2 j (by rw [List.length_map]; exact hj) HK).mono eW
       rw [List.getElem_map] at h3
       have e2:(((cur.toList.take len).toArray++Builtin.zeroCells zv.cells (grownCap w len 0 e - len)).getD j undef)=(cur.toList.take len)[j]:=by
        rw [Array.getD_eq_getD_getElem?,Array.getElem?_append_left (by rw [List.size_toArray]; exact HK),List.getElem?_toArray,List.getElem?_eq_getElem HK]; rfl
       rw [e2]
       exact ⟨Ck _ (List.getElem_mem HK),h3⟩)
     rw [N2] at k1
     refine ⟨_,_,_,h2,k1.set hn (.M0 _ _ _ _ _ _ _ (Fi _ _ _ _) (heap_alloc_new w.drew _) ?_ Dm Wb)⟩
     simp only [Array.size_append,List.size_toArray,size_zeroCells,O3,Um,Nat.mul_one]
     omega
    ·exact h2.elim
   ·exact h2.elim
  ·exact h2.elim
 ·exact h1.elim
def A08(x y:Operand):RM (List Int):=ev x fun lx=>ev y fun ly=>match lx,OH ly with
 | .v .Ab,some (y0::ys)=>if wV 1 ly=true then (match Wp (y0::ys).flatten with | some ks => .ret ks | none => .fail) else .fail
 | _,_ => .fail
theorem gV{K:S->Prop}{Q:A7->S->Prop}{ty e:TypeId}{x y:Operand}{d B:Nat}{zs:List PV}(ho:o.op = .call ⟨.builtin .append,#[x,y],#[ty,ty]⟩)(hd:o.dst=some d)(hn:d<cx.n)
  (he:GC P ty=some e) (hm:KV P e=some 1) (hB:FP P e=some (B+1)) (hz:Uh P e=some zs) (Rx:zs.length=1) (hs:Bc cx s g l a w)
  (h:(A08 x y).wp s fun ks=>ks.length * (B+1)<=140737488355328/\K { s with tmps:=put s.tmps d (.v (.M0 (El s.ext) 0 ks.length)),ext:=put s.ext (El s.ext) [.row 0 ks] }) :
  o.wp P a w (fun a' w'=>∃s' g' l',K s'/\Bc cx s' g' l' a' w') (post cx Q):=by
 have hu:=EH he
 obtain ⟨i,zv,z1,z2,z3⟩:=Fv hz
 have Cb:i.size=1:=by simpa [KV,z1] using hm
 have Xe:i.bytes=B+1:=by simpa [FP,z1] using hB
 have O3:zv.cells.size=1:=by rw [<-Array.length_toList,<-Fk z3]; exact Rx
 obtain ⟨-,Uw,-⟩:=EX (g:=g) (w:=w) z3
 obtain ⟨lx,ux,h1,r1,-⟩:=Cc hs h
 obtain ⟨ly,uy,h2,r2,-⟩:=Cc hs h1
 split at h2
 ·rename_i y0 ys Kh
  split at h2
  ·rename_i Eu
   split at h2
   rotate_left
   ·exact h2.elim
   rename_i ks LJ
   obtain ⟨hb,h2⟩:=h2
   have lE:a.eval x = .slice none 0 0:=by generalize a.eval x=v at r1; cases r1; rfl
   obtain ⟨ay,c,Wa,eX⟩:∃ay c,a.eval y = .slice (some ay) (y0::ys).length c/\BO g w (.sl 1 (y0::ys)) (a.eval y):=by
    rcases Mh Kh Eu r2 with ⟨h,-⟩ | h
    ·cases h
    ·exact h
   rw [Wa] at eX
   obtain ⟨-,-,-,hyz,news,Yr,Iz,XT⟩:=eX.flat
   have hkY:=N6 LJ
   rw [hkY] at Yr
   generalize hY:(y0::ys)=Y at *
   have Ho:0<Y.length:=by rw [<-hY]; simp
   rw [Nat.mul_one] at Iz
   have T5:Y.flatten.length=Y.length:=by rw [BQ _ Y hyz,Nat.mul_one]
   have xE:ks.length=Y.length:=by rw [<-T5,hkY,List.length_map]
   rw [xE] at hb h2
   have QY:∀u∈news,u.oneCell'=true:=fun u hu=>by
    obtain ⟨j,hj,e⟩:=List.getElem_of_mem hu
    exact (XT j u (by rw [List.getElem?_eq_getElem hj,e])).2.2
   have hlen:Y.length<=140737488355328:=by
    have:=Nat.le_mul_of_pos_right Y.length (Nat.succ_pos B)
    simp only [Nat.succ_eq_add_one] at this
    omega
   have Xf:Y.length<=maxLen:=by simp only [maxLen]; omega
   have hr:=run_append_nil (P:=P) w ty o.type e i zv hu z1 z2 ay Y.length c news (by rw [Cb,Nat.mul_one]; exact Iz) (fun j v hj=>(XT j v hj).1) Ho oM (by rw [Xe]; omega)
   have Dm:=grownCap_ge w Y.length 0 e
   have Wb:=grownCap_le_maxLen w Y.length 0 e (by simpa using Xf)
   have hex:∀v' w',(Builtin.append_ #[ty,ty] o.type #[a.eval x,a.eval y]).run P w = .ok v' w'->(execOp a.eval o).run P w = .ok (.value v') w':=by
    intro v' w' hr
    simp only [execOp,ho,resolve,invoke,builtin,Sem.run_bind,Sem.run_pure,Result.andThen_ok,List.map_toArray,List.map_cons,List.map_nil,hr]
   rw [<-lE,<-Wa] at hr
   unfold Oper.wp
   rw [hex _ _ hr,Oper.upon_value,hd]
   obtain ⟨PU,eW⟩:=hs.drew
   have N2:w.drew.heap.size=w.heap.size:=rfl
   have k1:=PU.Tc (El s.ext) 0 (fun c' _=>hs.fresh.2.2 _ c' (Nat.le_refl _)) (Nat.le_refl _) (news.toArray++Builtin.zeroCells zv.cells (grownCap w Y.length 0 e - Y.length)) e ks
    (by simp only [Array.size_append,List.size_toArray,size_zeroCells,O3,Iz,xE]; omega) (fun j hj=>by
     have CL:j<news.length:=by rw [<-Yr.1,List.length_map]; exact hj
     have h3:=(Yr.2 j (by rw [List.length_map]; exact hj) CL).mono eW
     rw [List.getElem_map] at h3
     have e2:((news.toArray++Builtin.zeroCells zv.cells (grownCap w Y.length 0 e - Y.length)).getD j undef)=news[j]:=by
      rw [Array.getD_eq_getD_getElem?,Array.getElem?_append_left (by rw [List.size_toArray]; exact CL),List.getElem?_toArray,List.getElem?_eq_getElem CL]; rfl
     rw [e2]
     exact ⟨QY _ (List.getElem_mem CL),h3⟩)
   rw [N2] at k1
   refine ⟨_,_,_,h2,k1.set hn (.M0 _ _ _ _ _ _ _ (Fi _ _ _ _) (heap_alloc_new w.drew _) ?_ (by simpa using Dm) Wb)⟩
   simp only [Array.size_append,List.size_toArray,size_zeroCells,O3,Iz,Nat.mul_one]
   omega
  ·exact h2.elim
 ·exact h2.elim
end
end Go.Pv
