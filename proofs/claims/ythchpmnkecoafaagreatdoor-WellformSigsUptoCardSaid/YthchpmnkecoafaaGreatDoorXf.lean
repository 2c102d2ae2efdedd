/- Values of Go as plain data, an evaluator over them, and what the functions of the program return; part Xf. -/
import Derived.Test.YthchpmnkecoafaaGreatDoorXd
set_option linter.unusedVariables false
set_option linter.unusedSimpArgs false
set_option linter.unusedSectionVars false
namespace Go.Pv
open Go.RowKit
noncomputable def X0 {α:Type} (l:List (Nat × α)) (t:Nat):Option α:=
 List.rec (motive:=fun _=>Option α) none (fun hd _ ih=>Bool.rec (motive:=fun _=>Option α) ih (some hd.2) (Nat.beq hd.1 t)) l
theorem J6{α:Type}:∀ (l:List (Nat × α)) (t:Nat),X0 l t=lk l t
 | [],t=>rfl
 | (k,v)::r,t=>by
  show Bool.rec (motive:=fun _=>Option α) (X0 r t) (some v) (Nat.beq k t)=_
  simp only [lk]
  cases h2:Nat.beq k t with
  | false=>rw [iN (fun e=>by subst e; rw [Nat.beq_refl] at h2; cases h2)]; exact J6 r t
  | true=>rw [iP (Nat.eq_of_beq_eq_true h2)]
noncomputable def Hu {α:Type} (r:RM α) (s:S):Option α:=
 RM.rec (motive:=fun _=>Option α) (fun a=>some a) none
  (fun t _ ih=>Option.rec (motive:=fun _=>Option α) none ih (X0 s.tmps t))
  (fun t _ ih=>Option.rec (motive:=fun _=>Option α) none ih (X0 s.boxes t))
  (fun t _ ih=>Option.rec (motive:=fun _=>Option α) none ih (X0 s.ext t))
  (fun p _ ih=>Bool.rec (motive:=fun _=>Option α) none ih p) r
theorem Vo{α:Type}(r:RM α)(s:S):Hu r s=r.run s:=by
 induction r with
 | ret a=>rfl
 | fail=>rfl
 | IN t k ih=>
  show Option.rec (motive:=fun _=>Option α) none (fun v=>Hu (k v) s) (X0 s.tmps t)=_
  rw [J6]
  simp only [RM.run]
  cases lk s.tmps t with
  | none=>rfl
  | some v=>exact ih v
 | IP t k ih=>
  show Option.rec (motive:=fun _=>Option α) none (fun v=>Hu (k v) s) (X0 s.boxes t)=_
  rw [J6]
  simp only [RM.run]
  cases lk s.boxes t with
  | none=>rfl
  | some v=>exact ih v
 | EB t k ih=>
  show Option.rec (motive:=fun _=>Option α) none (fun v=>Hu (k v) s) (X0 s.ext t)=_
  rw [J6]
  simp only [RM.run]
  cases lk s.ext t with
  | none=>rfl
  | some v=>exact ih v
 | assume p k ih=>
  show Bool.rec (motive:=fun _=>Option α) none (Hu k s) p=_
  simp only [RM.run]
  cases p with
  | false=>rfl
  | true=>exact ih
structure RJ (s t:S):Prop where
 tm:∀k,lk s.tmps k=lk t.tmps k
 bx:∀k,lk s.boxes k=lk t.boxes k
 ex:s.ext=t.ext
theorem RJ.refl(s:S):RJ s s:=⟨fun _=>rfl,fun _=>rfl,rfl⟩
theorem B4.eqv{cx:Cx}{s t:S}{g:Gh}{l:LG}{a:Act}{w:World}(h:B4 cx s g l a w)(he:RJ s t):B4 cx t g l a w where
 AR:=h.AR
 size:=h.size
 defers:=h.defers
 tm k v hk:=h.tm k v (by rw [he.tm]; exact hk)
 bx k v hk:=h.bx k v (by rw [he.bx]; exact hk)
 ex k v hk:=h.ex k v (by rw [he.ex]; exact hk)
 own:=h.own
 uo:=h.uo
 fresh:=by rw [<-he.ex]; exact h.fresh
 GH:=h.GH
def Ke(K:S->Prop):S->Prop:=fun s=>∃t,K t/\RJ s t
def Qe(Q:A4->S->Prop):A4->S->Prop:=fun pe s=>∃t,Q pe t/\RJ s t
theorem Zk{cx:Cx}{Q:A4->S->Prop}:post cx (Qe Q)=post cx Q:=by
 funext e a w
 refine propext ⟨?_,?_⟩
 ·rintro ⟨pe,s,g,l,⟨t,h1,h2⟩,h3,h4⟩; exact ⟨pe,t,g,l,h1,h3,h4.eqv h2⟩
 ·rintro ⟨pe,s,g,l,h1,h3,h4⟩; exact ⟨pe,s,g,l,⟨s,h1,RJ.refl s⟩,h3,h4⟩
theorem Zl{cx:Cx}{K:S->Prop}:(fun (a':Act) (w':World)=>∃s' g' l',Ke K s'/\B4 cx s' g' l' a' w')=fun a' w'=>∃s' g' l',K s'/\B4 cx s' g' l' a' w':=by
 funext a w
 refine propext ⟨?_,?_⟩
 ·rintro ⟨s,g,l,⟨t,h1,h2⟩,h3⟩; exact ⟨t,g,l,h1,h3.eqv h2⟩
 ·rintro ⟨s,g,l,h1,h3⟩; exact ⟨s,g,l,⟨s,h1,RJ.refl s⟩,h3⟩
theorem m7{P:Program}{cx:Cx}{s:S}{o:Oper}{K:S->Prop}{Q:A4->S->Prop}(h:Pe P cx s o (Ke K) (Qe Q)):Pe P cx s o K Q:=by
 unfold Pe at h ⊢
 rw [Zk] at h
 simpa only [Zl] using h
noncomputable def wrR (s:S) (x:Wr):S:=match x with
 | .tmp t v=>⟨(t,v)::s.tmps,s.boxes,s.ext⟩
 | .Dq i ps=>⟨Mh i s.tmps,(i,ps.map .v)::s.boxes,s.ext⟩
 | .cells i off vs=>match X0 s.boxes i with
  | some cs=>⟨s.tmps,(i,AA cs off vs)::s.boxes,s.ext⟩
  | none=>s
 | .ext n off vs=>match X0 s.ext n with
  | some cs=>⟨s.tmps,s.boxes,put s.ext n (AA cs off vs)⟩
  | none=>s
noncomputable def A7d (wr:List Wr):S->S:=List.rec (motive:=fun _=>S->S) (fun s=>s) (fun x _ ih s=>ih (wrR s x)) wr
theorem FF{α:Type}{l l':List (Nat × α)}(h:∀k,lk l k=lk l' k)(t:Nat)(v:α)(k:Nat):lk (put l t v) k=lk ((t,v)::l') k:=by
 rw [B8]
 simp only [lk]
 split
 ·rfl
 ·exact h k
theorem z6{s s':S}(h:RJ s s'):∀x:Wr,RJ (s.wr x) (wrR s' x)
 | .tmp t v=>⟨FF h.tm t v,h.bx,h.ex⟩
 | .Dq i ps=>⟨fun k=>by show lk (Mh i s.tmps) k=lk (Mh i s'.tmps) k; rw [KL,KL,h.tm],FF h.bx i _,h.ex⟩
 | .cells i off vs=>by
  simp only [S.wr,wrR,J6,<-h.bx i]
  cases lk s.boxes i with
  | none=>exact h
  | some cs=>exact ⟨h.tm,FF h.bx i _,h.ex⟩
 | .ext n off vs=>by
  simp only [S.wr,wrR,J6,<-h.ex]
  cases lk s.ext n with
  | none=>exact h
  | some cs=>exact ⟨h.tm,h.bx,rfl⟩
theorem Vp:∀ (wr:List Wr) {s s':S},RJ s s'->RJ (s.I9 wr) (A7d wr s')
 | [],s,s',h=>h
 | x::r,s,s',h=>Vp r (z6 h x)
noncomputable def z7 (s:S) (dst:Option Nat) (lv:LV) (e:Ext):S:=⟨match dst with | some d=>(d,lv)::s.tmps | none=>s.tmps,s.boxes,e⟩
theorem Vq(s:S)(dst:Option Nat)(lv:LV)(e:Ext):RJ (s.Nb dst lv e) (z7 s dst lv e):=by
 cases dst with
 | none=>exact ⟨fun _=>rfl,fun _=>rfl,rfl⟩
 | some d=>exact ⟨FF (fun _=>rfl) d lv,fun _=>rfl,rfl⟩
inductive Kd where
 | call (r:RM (FuncId × List PV))
 | act (r:RM (List Wr))
 | Ug
def kd(P:Program)(md:Md)(n:Nat)(all:List Oper)(o:Oper):Kd:=match callee P o with
 | some r => .call r
 | none=>match o.op with
  | .alloc ty=>if (md.ro ty).isNone=true then .Ug else .act (act P md.ro n all o)
  | .box ty _=>if (md.ro ty).isNone=true then .Ug else .act (act P md.ro n all o)
  | .panic _ => .Ug
  | .makeMap _ _ => .Ug
  | .range _ _ => .Ug
  | .call ⟨.builtin .append,_,_⟩ => .Ug
  | _ => .act (act P md.ro n all o)
noncomputable def Zm (CF:JK) (dst:Option Nat) (r:RM (FuncId × List PV)) (s:S):Option (A4 × S):=match Hu r s with
 | some (f,args)=>match CF f args s.ext with
  | some (.ret p,e)=>some (.normal,z7 s dst (.v p) e)
  | some (.own te z es,e)=>some (.normal,z7 s dst (.uniq te z es) e)
  | some (.panic p,e)=>some (.panic p,{ s with ext:=e })
  | none=>none
 | none=>none
noncomputable def opR (P:Program) (md:Md) (CF:JK) (n:Nat) (all:List Oper) (o:Oper) (s:S):Option (A4 × S):=match kd P md n all o with
 | .call r=>Zm CF o.dst r s
 | .act r=>match Hu r s with
  | some wr=>some (.normal,A7d wr s)
  | none=>none
 | .Ug=>lJ P md CF n all o s
theorem m8{P:Program}{md:Md}{CF:JK}{n:Nat}{all:List Oper}{o:Oper}{s:S}{r:RM (List Wr)}(h:kd P md n all o = .act r):lJ P md CF n all o s=Sl P md.ro n all o s/\r=act P md.ro n all o:=by
 unfold kd at h
 unfold lJ
 split at h
 ·cases h
 ·rename_i hc
  rw [hc]
  simp only
  split at h
  ·rename_i ty ho
   rw [ho]
   simp only
   split at h
   ·cases h
   ·rename_i hr; injection h with h; rw [iN hr]; exact ⟨rfl,h.symm⟩
  ·rename_i ty x ho
   rw [ho]
   simp only
   split at h
   ·cases h
   ·rename_i hr; injection h with h; rw [iN hr]; exact ⟨rfl,h.symm⟩
  ·cases h
  ·cases h
  ·cases h
  ·cases h
  ·rename_i n1 n2 n3 n4 n6 n5
   injection h with h
   refine ⟨?_,h.symm⟩
   split
   ·rename_i ty ho; exact absurd ho (n1 ty)
   ·rename_i ty x ho; exact absurd ho (n2 ty x)
   ·rename_i x ho; exact absurd ho (n3 x)
   ·rename_i ty ho; exact absurd ho (n4 ty none)
   ·rename_i ty m ho; exact absurd ho (n6 ty m)
   ·rename_i x y ty kY ho; exact absurd ho (n5 _ _)
   ·rfl
theorem Zn{P:Program}{md:Md}{CF:JK}{n:Nat}{all:List Oper}{o:Oper}{s:S}{r:RM (FuncId × List PV)}(h:kd P md n all o = .call r):lJ P md CF n all o s=Sk CF o r s:=by
 unfold kd at h
 unfold lJ
 split at h
 ·rename_i r' hc
  injection h with h
  rw [hc,h]
 ·split at h <;> first | (cases h; done) | (split at h <;> cases h)
theorem z8{P:Program}{md:Md}{CF:JK}{n:Nat}{all:List Oper}{o:Oper}{s t:S}{pe:A4}(h:opR P md CF n all o s=some (pe,t)):∃s',lJ P md CF n all o s=some (pe,s')/\RJ s' t:=by
 unfold opR at h
 split at h
 ·rename_i r hr
  rw [Zn hr]
  unfold Zm at h
  unfold Sk
  rw [Vo] at h
  cases By:r.run s with
  | none=>rw [By] at h; cases h
  | some fa=>
   obtain ⟨f,args⟩:=fa
   rw [By] at h
   simp only at h ⊢
   cases ho:CF f args s.ext with
   | none=>rw [ho] at h; cases h
   | some re=>
    obtain ⟨r1,e1⟩:=re
    rw [ho] at h
    cases r1 with
    | ret p=>simp only [Option.some.injEq,Prod.mk.injEq] at h; obtain ⟨rfl,rfl⟩:=h; exact ⟨_,rfl,Vq _ _ _ _⟩
    | own te z es=>simp only [Option.some.injEq,Prod.mk.injEq] at h; obtain ⟨rfl,rfl⟩:=h; exact ⟨_,rfl,Vq _ _ _ _⟩
    | panic p=>simp only [Option.some.injEq,Prod.mk.injEq] at h; obtain ⟨rfl,rfl⟩:=h; exact ⟨_,rfl,RJ.refl _⟩
 ·rename_i r hr
  obtain ⟨h1,rfl⟩:=m8 (CF:=CF) (s:=s) hr
  rw [h1]
  unfold Sl
  rw [Vo] at h
  cases By:(act P md.ro n all o).run s with
  | none=>rw [By] at h; cases h
  | some wr=>
   rw [By] at h
   simp only [Option.some.injEq,Prod.mk.injEq] at h
   obtain ⟨rfl,rfl⟩:=h
   exact ⟨_,rfl,Vp wr (RJ.refl s)⟩
 ·exact ⟨t,h,RJ.refl t⟩
section
variable {P:Program} {cx:Cx} {s s':S} {Q:A4->S->Prop} {K:S->Prop} {o:Oper} {pe:A4} {md:Md} {CF:JK} {all:List Oper} {fl:Nat}
theorem Q6(C8:F2 P CF)(hd:∀d,o.dst=some d->d<cx.n)(h:opR P md CF cx.n all o s=some (pe,s'))(hk:Im K Q pe s'):Pe P cx s o K Q:=by
 obtain ⟨s1,h1,h2⟩:=z8 h
 refine m7 (LL C8 hd h1 ?_)
 cases pe with
 | normal=>exact ⟨s',hk,h2⟩
 | exit _=>exact ⟨s',hk,h2⟩
 | ret=>exact ⟨s',hk,h2⟩
 | panic _=>exact ⟨s',hk,h2⟩
noncomputable def Vs (all:List Oper) (o:Oper) (s:S):Option Bool:=match o.guard with
 | none=>some true
 | some (j,want)=>match (all[j]?).bind (·.dst) with
  | some dj=>match X0 s.tmps dj with
   | some lv=>NV want lv
   | none=>none
  | none=>none
theorem SC:Vs all o s=Mq all o s:=by
 unfold Vs Mq
 cases o.guard with
 | none=>rfl
 | some jw=>
  obtain ⟨j,want⟩:=jw
  simp only
  cases (all[j]?).bind (·.dst) with
  | none=>rfl
  | some dj=>
   simp only [J6]
   cases lk s.tmps dj <;> rfl
noncomputable def Vt (s:S) (o:Oper):S:=match o.dst with
 | some d=>⟨(d,.v (.Bf []))::s.tmps,s.boxes,s.ext⟩
 | none=>s
theorem Zo:RJ (s.skip o) (Vt s o):=by
 unfold S.skip Vt
 cases o.dst with
 | none=>exact RJ.refl s
 | some d=>exact ⟨FF (fun _=>rfl) _ _,fun _=>rfl,rfl⟩
noncomputable def X1 (P:Program) (md:Md) (CF:JK) (n:Nat) (all:List Oper) (ls:List Oper):S->Option (A4 × S):=
 List.rec (motive:=fun _=>S->Option (A4 × S)) (fun s=>some (.normal,s)) (fun o _ ih s=>match Vs all o s with
  | some true=>(match opR P md CF n all o s with
   | some (.normal,s')=>ih s'
   | r=>r)
  | some false=>ih (Vt s o)
  | none=>none) ls
theorem Zp:X1 P md CF cx.n all [] s=some (.normal,s):=rfl
theorem X2{n:Nat}{rest:List Oper}:X1 P md CF n all (o::rest) s=match Vs all o s with
  | some true=>(match opR P md CF n all o s with
   | some (.normal,s')=>X1 P md CF n all rest s'
   | r=>r)
  | some false=>X1 P md CF n all rest (Vt s o)
  | none=>none:=rfl
theorem Kt(C8:F2 P CF)(Bv:F0 cx.n all=true):∀ {ls:List Oper} {s:S},(∀o∈ls,o∈all)->X1 P md CF cx.n all ls s=some (pe,s')->Q pe s'->PL P cx all.toArray ls s Q
 | [],s,_,h,hq=>by
  rw [Zp] at h
  simp only [Option.some.injEq,Prod.mk.injEq] at h
  obtain ⟨rfl,rfl⟩:=h
  exact NU hq
 | o::rest,s,hm,h,hq=>by
  have hd:∀d,o.dst=some d->d<cx.n:=DA Bv (hm o sM)
  have Fk:∀o∈rest,o∈all:=fun o ho=>hm o (List.mem_cons_of_mem _ ho)
  intro g l a w hs
  rw [X2] at h
  split at h
  ·rename_i hw
   have E3:=E4 Bv (SC ▸ hw) hs
   refine wpList_step fun K hK=>?_
   rw [iP E3]
   split at h
   ·rename_i s1 h1
    refine CA ?_ (Q6 (Q:=Q) (K:=fun s'=>PL P cx all.toArray rest s' Q) C8 hd h1 (Kt C8 Bv Fk h hq) g l a w hs)
    rintro a' w' ⟨s',g',l',hp,sm⟩
    exact hK _ _ (hp g' l' a' w' sm)
   ·rename_i De
    refine CA ?_ (Q6 (Q:=Q) (K:=fun s'=>PL P cx all.toArray rest s' Q) C8 hd h (by
     cases pe with
     | normal=>exact absurd h (De _)
     | _=>exact hq) g l a w hs)
    rintro a' w' ⟨s',g',l',hp,sm⟩
    exact hK _ _ (hp g' l' a' w' sm)
  ·rename_i hw
   have E3:=E4 Bv (SC ▸ hw) hs
   refine wpList_step fun K hK=>?_
   rw [iN (by rw [E3]; simp)]
   refine hK _ _ (Kt C8 Bv Fk h hq g l _ w (B4.eqv ?_ Zo))
   cases FZ:o.dst with
   | none=>simp only [S.skip,FZ,Act.put]; exact hs
   | some d=>
    simp only [S.skip,FZ]
    exact hs.set (hd d FZ) (.Bf [] [] rfl fun j h=>by simp at h)
  ·cases h
noncomputable def A7e (P:Program) (md:Md) (CF:JK) (n:Nat) (ops:List Oper) (draw:Bool) (s:S):Option (A4 × S):=match draw with
 | false=>X1 P md CF n ops ops s
 | true=>evR P md CF n ops true s
theorem Uh{id:Nat}{ops:Array Oper}{draw:Bool}(C8:F2 P CF)(hm:P.follows .mixedOrders=true)(Bv:F0 cx.n ops.toList=true)(h:A7e P md CF cx.n ops.toList draw s=some (pe,s'))(hq:Q pe s'):PW P cx (.region id ops draw) s Q:=by
 cases draw with
 | false=>
  obtain ⟨ops⟩:=ops
  exact fun g l a w hs=>wp_region_lit (Kt C8 Bv (fun _ h=>h) h hq g l a w hs)
 | true=>exact PY C8 hm Bv h hq
noncomputable def Vu (body:S->Option (A4 × S)) (n:Nat):S->Option (A4 × S):=
 Nat.rec (motive:=fun _=>S->Option (A4 × S)) (fun _=>none) (fun _ ih s=>match body s with
  | some (.normal,s')=>ih s'
  | r=>r) n
theorem SD{body:S->Option (A4 × S)}:∀ (n:Nat) (s:S),Vu body n s=O5 body n s
 | 0,s=>rfl
 | n+1,s=>by
  show (match body s with
   | some (.normal,s')=>Vu body n s'
   | r=>r)=_
  simp only [O5]
  cases hb:body s with
  | none=>rfl
  | some r=>
   obtain ⟨pe,s'⟩:=r
   cases pe <;> first | exact SD n s' | rfl
noncomputable def SE (P:Program) (md:Md) (CF:JK) (n fl:Nat) (c:Code):S->Option (A4 × S):=
 Code.rec (motive:=fun _=>S->Option (A4 × S))
  (fun s=>some (.normal,s))
  (fun _ ops draw s=>A7e P md CF n ops.toList draw s)
  (fun _ _ iha ihb s=>match iha s with
   | some (.normal,s')=>ihb s'
   | r=>r)
  (fun c _ _ ihx ihy s=>match c with
   | .tmp t=>(match X0 s.tmps t with
    | some (.v (.bool true))=>ihx s
    | some (.v (.bool false))=>ihy s
    | _=>none)
   | _=>none)
  (fun id _ ih s=>match ih s with
   | some (.exit RR,s')=>bif Nat.beq RR id then some (.normal,s') else some (.exit RR,s')
   | r=>r)
  (fun _ ih s=>Vu ih fl s)
  (fun _ _ _ _ _ _ _=>none)
  (fun id s=>some (.exit id,s))
  (fun _ _ _=>none)
  (fun _ _=>none)
  (fun _ _=>none)
  (fun s=>some (.ret,s))
  (fun _ _=>none) c
theorem DL(C8:F2 P CF)(hm:P.follows .mixedOrders=true):∀ (c:Code) {s s':S} {pe:A4} {Q:A4->S->Prop},BU cx.n c=true->SE P md CF cx.n fl c s=some (pe,s')->Q pe s'->PW P cx c s Q
 | .skip,s,s',pe,Q,_,h,hq=>by
  have h:some (A4.normal,s)=some (pe,s'):=h
  simp only [Option.some.injEq,Prod.mk.injEq] at h
  obtain ⟨rfl,rfl⟩:=h
  exact QE hq
 | .region _ ops draw,s,s',pe,Q,hc,h,hq=>Uh C8 hm hc h hq
 | .seq a b,s,s',pe,Q,hc,h,hq=>by
  simp only [BU,Bool.and_eq_true] at hc
  have h:(match SE P md CF cx.n fl a s with
   | some (.normal,s')=>SE P md CF cx.n fl b s'
   | r=>r)=some (pe,s'):=h
  refine I8 ?_
  split at h
  ·rename_i s1 h1
   exact DL C8 hm a hc.1 h1 (DL C8 hm b hc.2 h hq)
  ·rename_i De
   refine DL C8 hm a hc.1 h ?_
   cases pe with
   | normal=>exact absurd h (De _)
   | _=>exact hq
 | .cond x a b,s,s',pe,Q,hc,h,hq=>by
  simp only [BU,Bool.and_eq_true] at hc
  cases x with
  | tmp t=>
   have h:(match X0 s.tmps t with
    | some (.v (.bool true))=>SE P md CF cx.n fl a s
    | some (.v (.bool false))=>SE P md CF cx.n fl b s
    | _=>none)=some (pe,s'):=h
   rw [J6] at h
   split at h
   ·rename_i ht
    exact KK ht (fun _=>DL C8 hm a hc.1 h hq) (fun e=>by cases e)
   ·rename_i ht
    exact KK ht (fun e=>by cases e) (fun _=>DL C8 hm b hc.2 h hq)
   ·cases h
  | const _=>exact nomatch (show none=some (pe,s') from h)
  | global _=>exact nomatch (show none=some (pe,s') from h)
  | func _=>exact nomatch (show none=some (pe,s') from h)
 | .block id c,s,s',pe,Q,hc,h,hq=>by
  simp only [BU] at hc
  have h:(match SE P md CF cx.n fl c s with
   | some (.exit RR,s')=>bif Nat.beq RR id then some (.normal,s') else some (.exit RR,s')
   | r=>r)=some (pe,s'):=h
  refine Ny ?_
  split at h
  ·rename_i RR s1 h1
   refine DL C8 hm c hc h1 ?_
   simp only [Nx]
   cases hb:Nat.beq RR id with
   | true=>
    rw [hb] at h
    simp only [cond_true,Option.some.injEq,Prod.mk.injEq] at h
    obtain ⟨rfl,rfl⟩:=h
    rw [iP (Nat.eq_of_beq_eq_true hb)]
    exact hq
   | false=>
    rw [hb] at h
    simp only [cond_false,Option.some.injEq,Prod.mk.injEq] at h
    obtain ⟨rfl,rfl⟩:=h
    rw [iN (fun e=>by subst e; rw [Nat.beq_refl] at hb; cases hb)]
    exact hq
  ·rename_i De
   refine DL C8 hm c hc h ?_
   cases pe with
   | exit i=>exact absurd h (De _ _)
   | _=>exact hq
 | .loop c,s,s',pe,Q,hc,h,hq=>by
  simp only [BU] at hc
  have h:Vu (SE P md CF cx.n fl c) fl s=some (pe,s'):=h
  rw [SD] at h
  exact Mt (fun h hq=>DL C8 hm c hc h hq) h hq
 | .exit id,s,s',pe,Q,_,h,hq=>by
  have h:some (A4.exit id,s)=some (pe,s'):=h
  simp only [Option.some.injEq,Prod.mk.injEq] at h
  obtain ⟨rfl,rfl⟩:=h
  exact QF hq
 | .ret,s,s',pe,Q,_,h,hq=>by
  have h:some (A4.ret,s)=some (pe,s'):=h
  simp only [Option.some.injEq,Prod.mk.injEq] at h
  obtain ⟨rfl,rfl⟩:=h
  exact TF hq
 | .rangeFunc _ _ _ _,s,s',pe,_,_,h,_=>nomatch (show none=some (pe,s') from h)
 | .scope _,s,s',pe,_,_,h,_=>nomatch (show none=some (pe,s') from h)
 | .label _,s,s',pe,_,_,h,_=>nomatch (show none=some (pe,s') from h)
 | .goto _,s,s',pe,_,_,h,_=>nomatch (show none=some (pe,s') from h)
 | .refuse _,s,s',pe,_,_,h,_=>nomatch (show none=some (pe,s') from h)
noncomputable def Q7 (P:Program) (md:Md) (CF:JK) (P1:jT) (fl:Nat) (fn:Func) (args:List PV) (e:Ext):Option (Ct × Ext):=match fn.body with
 | none=>none
 | some c=>match shape c with
  | .plain=>bif Nat.ble args.length fn.ntmps then (match SE P md CF fn.ntmps fl c (FR args e) with
   | some (pe,s)=>U5 P fn.results.toList pe s
   | none=>none) else none
  | _=>lM P md CF P1 fl fn args e
theorem Mw{P1:jT}{f:FuncId}{fn:Func}{args:List PV}{e e':Ext}{r:Ct}(C8:F2 P CF)(YV:Vb P P1)(hm:P.follows .mixedOrders=true)(hf:P.funcs[f]?=some fn)(EA:KW fn=true)(h:Q7 P md CF P1 fl fn args e=some (r,e')):C7 P f args e fun r1 e1=>r1=r/\e1=e':=by
 unfold Q7 at h
 split at h
 ·cases h
 ·rename_i c hb
  split at h
  ·cases hn:Nat.ble args.length fn.ntmps with
   | false=>rw [hn] at h; cases h
   | true=>
    rw [hn] at h
    simp only [cond_true] at h
    split at h
    ·rename_i pe s he
     unfold KW at EA
     rw [hb] at EA
     simp only at EA
     refine C7.enter hf hb (Nat.le_of_ble_eq_true hn) fun cx Aw NM=>?_
     rw [<-Aw] at EA he
     exact DL C8 hm c EA he (Kq h)
    ·cases h
  ·exact U7 C8 YV hm hf EA h
noncomputable def Ue (P:Program) (md:FuncId->Md) (fl:Nat) (d:Nat):JK × jT:=
 Nat.rec (motive:=fun _=>JK × jT) (fun _ _ _=>none,fun _ _ _ _=>none)
  (fun _ ih=>(fun f args e=>match Nc P f with
   | true=>(match P.funcs[f]? with
    | some fn=>Q7 P (md f) ih.1 ih.2 fl fn args e
    | none=>none)
   | false=>none,fun f args e m=>match Nc P f with
   | true=>(match P.funcs[f]? with
    | some fn=>U6 P (md f) ih.1 fl fn args e m
    | none=>none)
   | false=>none)) d
theorem Oj{md:FuncId->Md}(hm:P.follows .mixedOrders=true):∀d,F2 P (Ue P md fl d).1/\Vb P (Ue P md fl d).2
 | 0=>⟨fun f args e r e' h=>(nomatch (show none=some (r,e') from h)),fun f args e m m' e' h=>(nomatch (show none=some (m',e') from h))⟩
 | d+1=>by
  have ih:=Oj (md:=md) hm d
  refine ⟨fun f args e r e' h=>?_,fun f args e m m' e' h=>?_⟩
  ·have h:(match Nc P f with
    | true=>(match P.funcs[f]? with
     | some fn=>Q7 P (md f) (Ue P md fl d).1 (Ue P md fl d).2 fl fn args e
     | none=>none)
    | false=>none)=some (r,e'):=h
   split at h
   ·rename_i ho
    split at h
    ·rename_i fn hf
     simp only [Nc,hf,Bool.and_eq_true] at ho
     exact ⟨ho.1,Mw ih.1 ih.2 hm hf ho.2 h⟩
    ·cases h
   ·cases h
  ·have h:(match Nc P f with
    | true=>(match P.funcs[f]? with
     | some fn=>U6 P (md f) (Ue P md fl d).1 fl fn args e m
     | none=>none)
    | false=>none)=some (m',e'):=h
   split at h
   ·rename_i ho
    split at h
    ·rename_i fn hf
     simp only [Nc,hf,Bool.and_eq_true] at ho
     exact ⟨ho.1,O8 ih.1 hm hf ho.2 h⟩
    ·cases h
   ·cases h
end
end Go.Pv
