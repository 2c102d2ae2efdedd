/- Values of Go as plain data, an evaluator over them, and what the functions of the program return; part Xf. -/
import Derived.Test.YtmllcplaohkjnaaGreatDoorXd
set_option linter.unusedVariables false
set_option linter.unusedSimpArgs false
set_option linter.unusedSectionVars false
namespace Go.Pv
open Go.RowKit
noncomputable def Wy {α:Type} (l:List (Nat × α)) (t:Nat):Option α:=
 List.rec (motive:=fun _=>Option α) none (fun hd _ ih=>Bool.rec (motive:=fun _=>Option α) ih (some hd.2) (Nat.beq hd.1 t)) l
theorem IL{α:Type}:∀ (l:List (Nat × α)) (t:Nat),Wy l t=lk l t
 | [],t=>rfl
 | (k,v)::r,t=>by
  show Bool.rec (motive:=fun _=>Option α) (Wy r t) (some v) (Nat.beq k t)=_
  simp only [lk]
  cases h2:Nat.beq k t with
  | false=>rw [iN (fun e=>by subst e; rw [Nat.beq_refl] at h2; cases h2)]; exact IL r t
  | true=>rw [iP (Nat.eq_of_beq_eq_true h2)]
noncomputable def Hu {α:Type} (r:RM α) (s:S):Option α:=
 RM.rec (motive:=fun _=>Option α) (fun a=>some a) none
  (fun t _ ih=>Option.rec (motive:=fun _=>Option α) none ih (Wy s.tmps t))
  (fun t _ ih=>Option.rec (motive:=fun _=>Option α) none ih (Wy s.boxes t))
  (fun t _ ih=>Option.rec (motive:=fun _=>Option α) none ih (Wy s.ext t))
  (fun p _ ih=>Bool.rec (motive:=fun _=>Option α) none ih p) r
theorem UM{α:Type}(r:RM α)(s:S):Hu r s=r.run s:=by
 induction r with
 | ret a=>rfl
 | fail=>rfl
 | Il t k ih=>
  show Option.rec (motive:=fun _=>Option α) none (fun v=>Hu (k v) s) (Wy s.tmps t)=_
  rw [IL]
  simp only [RM.run]
  cases lk s.tmps t with
  | none=>rfl
  | some v=>exact ih v
 | Im t k ih=>
  show Option.rec (motive:=fun _=>Option α) none (fun v=>Hu (k v) s) (Wy s.boxes t)=_
  rw [IL]
  simp only [RM.run]
  cases lk s.boxes t with
  | none=>rfl
  | some v=>exact ih v
 | G3 t k ih=>
  show Option.rec (motive:=fun _=>Option α) none (fun v=>Hu (k v) s) (Wy s.ext t)=_
  rw [IL]
  simp only [RM.run]
  cases lk s.ext t with
  | none=>rfl
  | some v=>exact ih v
 | assume p k ih=>
  show Bool.rec (motive:=fun _=>Option α) none (Hu k s) p=_
  simp only [RM.run]
  cases p with
  | false=>rfl
  | true=>exact ih
structure R1 (s t:S):Prop where
 tm:∀k,lk s.tmps k=lk t.tmps k
 bx:∀k,lk s.boxes k=lk t.boxes k
 ex:s.ext=t.ext
theorem R1.refl(s:S):R1 s s:=⟨fun _=>rfl,fun _=>rfl,rfl⟩
theorem Bc.eqv{cx:Cx}{s t:S}{g:Gh}{l:LG}{a:Act}{w:World}(h:Bc cx s g l a w)(he:R1 s t):Bc cx t g l a w where
 AM:=h.AM
 size:=h.size
 defers:=h.defers
 tm k v hk:=h.tm k v (by rw [he.tm]; exact hk)
 bx k v hk:=h.bx k v (by rw [he.bx]; exact hk)
 ex k v hk:=h.ex k v (by rw [he.ex]; exact hk)
 own:=h.own
 uo:=h.uo
 fresh:=by rw [<-he.ex]; exact h.fresh
 Gg:=h.Gg
def Ke(K:S->Prop):S->Prop:=fun s=>∃t,K t/\R1 s t
def Qe(Q:A7->S->Prop):A7->S->Prop:=fun pe s=>∃t,Q pe t/\R1 s t
theorem YX{cx:Cx}{Q:A7->S->Prop}:post cx (Qe Q)=post cx Q:=by
 funext e a w
 refine propext ⟨?_,?_⟩
 ·rintro ⟨pe,s,g,l,⟨t,h1,h2⟩,h3,h4⟩; exact ⟨pe,t,g,l,h1,h3,h4.eqv h2⟩
 ·rintro ⟨pe,s,g,l,h1,h3,h4⟩; exact ⟨pe,s,g,l,⟨s,h1,R1.refl s⟩,h3,h4⟩
theorem YY{cx:Cx}{K:S->Prop}:(fun (a':Act) (w':World)=>∃s' g' l',Ke K s'/\Bc cx s' g' l' a' w')=fun a' w'=>∃s' g' l',K s'/\Bc cx s' g' l' a' w':=by
 funext a w
 refine propext ⟨?_,?_⟩
 ·rintro ⟨s,g,l,⟨t,h1,h2⟩,h3⟩; exact ⟨t,g,l,h1,h3.eqv h2⟩
 ·rintro ⟨s,g,l,h1,h3⟩; exact ⟨s,g,l,⟨s,h1,R1.refl s⟩,h3⟩
theorem iI{P:Program}{cx:Cx}{s:S}{o:Oper}{K:S->Prop}{Q:A7->S->Prop}(h:Oj P cx s o (Ke K) (Qe Q)):Oj P cx s o K Q:=by
 unfold Oj at h ⊢
 rw [YX] at h
 simpa only [YY] using h
noncomputable def wrR (s:S) (x:Wr):S:=match x with
 | .tmp t v=>⟨(t,v)::s.tmps,s.boxes,s.ext⟩
 | .Dz i ps=>⟨Lu i s.tmps,(i,ps.map .v)::s.boxes,s.ext⟩
 | .cells i off vs=>match Wy s.boxes i with
  | some cs=>⟨s.tmps,(i,AO cs off vs)::s.boxes,s.ext⟩
  | none=>s
 | .ext n off vs=>match Wy s.ext n with
  | some cs=>⟨s.tmps,s.boxes,put s.ext n (AO cs off vs)⟩
  | none=>s
noncomputable def A0j (wr:List Wr):S->S:=List.rec (motive:=fun _=>S->S) (fun s=>s) (fun x _ ih s=>ih (wrR s x)) wr
theorem FC{α:Type}{l l':List (Nat × α)}(h:∀k,lk l k=lk l' k)(t:Nat)(v:α)(k:Nat):lk (put l t v) k=lk ((t,v)::l') k:=by
 rw [B8]
 simp only [lk]
 split
 ·rfl
 ·exact h k
theorem qZ{s s':S}(h:R1 s s'):∀x:Wr,R1 (s.wr x) (wrR s' x)
 | .tmp t v=>⟨FC h.tm t v,h.bx,h.ex⟩
 | .Dz i ps=>⟨fun k=>by show lk (Lu i s.tmps) k=lk (Lu i s'.tmps) k; rw [Kg,Kg,h.tm],FC h.bx i _,h.ex⟩
 | .cells i off vs=>by
  simp only [S.wr,wrR,IL,<-h.bx i]
  cases lk s.boxes i with
  | none=>exact h
  | some cs=>exact ⟨h.tm,FC h.bx i _,h.ex⟩
 | .ext n off vs=>by
  simp only [S.wr,wrR,IL,<-h.ex]
  cases lk s.ext n with
  | none=>exact h
  | some cs=>exact ⟨h.tm,h.bx,rfl⟩
theorem UN:∀ (wr:List Wr) {s s':S},R1 s s'->R1 (s.Io wr) (A0j wr s')
 | [],s,s',h=>h
 | x::r,s,s',h=>UN r (qZ h x)
noncomputable def r8 (s:S) (dst:Option Nat) (lv:LV) (e:Ext):S:=⟨match dst with | some d=>(d,lv)::s.tmps | none=>s.tmps,s.boxes,e⟩
theorem UO(s:S)(dst:Option Nat)(lv:LV)(e:Ext):R1 (s.M5 dst lv e) (r8 s dst lv e):=by
 cases dst with
 | none=>exact ⟨fun _=>rfl,fun _=>rfl,rfl⟩
 | some d=>exact ⟨FC (fun _=>rfl) d lv,fun _=>rfl,rfl⟩
inductive Kd where
 | call (r:RM (FuncId × List PV))
 | act (r:RM (List Wr))
 | Wz
def kd(P:Program)(md:Md)(n:Nat)(all:List Oper)(o:Oper):Kd:=match callee P o with
 | some r => .call r
 | none=>match o.op with
  | .alloc ty=>if (md.ro ty).isNone=true then .Wz else .act (act P md.ro n all o)
  | .box ty _=>if (md.ro ty).isNone=true then .Wz else .act (act P md.ro n all o)
  | .panic _ => .Wz
  | .makeMap _ _ => .Wz
  | .call ⟨.builtin .append,_,_⟩ => .Wz
  | _ => .act (act P md.ro n all o)
noncomputable def YZ (CS:LD) (dst:Option Nat) (r:RM (FuncId × List PV)) (s:S):Option (A7 × S):=match Hu r s with
 | some (f,args)=>match CS f args s.ext with
  | some (.ret p,e)=>some (.normal,r8 s dst (.v p) e)
  | some (.own te z es,e)=>some (.normal,r8 s dst (.uniq te z es) e)
  | some (.panic p,e)=>some (.panic p,{ s with ext:=e })
  | none=>none
 | none=>none
noncomputable def opR (P:Program) (md:Md) (CS:LD) (n:Nat) (all:List Oper) (o:Oper) (s:S):Option (A7 × S):=match kd P md n all o with
 | .call r=>YZ CS o.dst r s
 | .act r=>match Hu r s with
  | some wr=>some (.normal,A0j wr s)
  | none=>none
 | .Wz=>gP P md CS n all o s
theorem iJ{P:Program}{md:Md}{CS:LD}{n:Nat}{all:List Oper}{o:Oper}{s:S}{r:RM (List Wr)}(h:kd P md n all o = .act r):gP P md CS n all o s=RJ P md.ro n all o s/\r=act P md.ro n all o:=by
 unfold kd at h
 unfold gP
 split at h
 ·cases h
 ·rename_i hc
  rw [hc]
  simp only
  split at h
  ·rename_i ty ho
   rw [ho]
   simp only
   split at h
   ·cases h
   ·rename_i hr; injection h with h; rw [iN hr]; exact ⟨rfl,h.symm⟩
  ·rename_i ty x ho
   rw [ho]
   simp only
   split at h
   ·cases h
   ·rename_i hr; injection h with h; rw [iN hr]; exact ⟨rfl,h.symm⟩
  ·cases h
  ·cases h
  ·cases h
  ·rename_i n1 n2 n3 n4 n5
   injection h with h
   refine ⟨?_,h.symm⟩
   split
   ·rename_i ty ho; exact absurd ho (n1 ty)
   ·rename_i ty x ho; exact absurd ho (n2 ty x)
   ·rename_i x ho; exact absurd ho (n3 x)
   ·rename_i ty ho; exact absurd ho (n4 ty none)
   ·rename_i x y ty gD ho; exact absurd ho (n5 _ _)
   ·rfl
theorem Z0{P:Program}{md:Md}{CS:LD}{n:Nat}{all:List Oper}{o:Oper}{s:S}{r:RM (FuncId × List PV)}(h:kd P md n all o = .call r):gP P md CS n all o s=RI CS o r s:=by
 unfold kd at h
 unfold gP
 split at h
 ·rename_i r' hc
  injection h with h
  rw [hc,h]
 ·split at h <;> first | (cases h; done) | (split at h <;> cases h)
theorem r9{P:Program}{md:Md}{CS:LD}{n:Nat}{all:List Oper}{o:Oper}{s t:S}{pe:A7}(h:opR P md CS n all o s=some (pe,t)):∃s',gP P md CS n all o s=some (pe,s')/\R1 s' t:=by
 unfold opR at h
 split at h
 ·rename_i r hr
  rw [Z0 hr]
  unfold YZ at h
  unfold RI
  rw [UM] at h
  cases BW:r.run s with
  | none=>rw [BW] at h; cases h
  | some fa=>
   obtain ⟨f,args⟩:=fa
   rw [BW] at h
   simp only at h ⊢
   cases ho:CS f args s.ext with
   | none=>rw [ho] at h; cases h
   | some re=>
    obtain ⟨r1,e1⟩:=re
    rw [ho] at h
    cases r1 with
    | ret p=>simp only [Option.some.injEq,Prod.mk.injEq] at h; obtain ⟨rfl,rfl⟩:=h; exact ⟨_,rfl,UO _ _ _ _⟩
    | own te z es=>simp only [Option.some.injEq,Prod.mk.injEq] at h; obtain ⟨rfl,rfl⟩:=h; exact ⟨_,rfl,UO _ _ _ _⟩
    | panic p=>simp only [Option.some.injEq,Prod.mk.injEq] at h; obtain ⟨rfl,rfl⟩:=h; exact ⟨_,rfl,R1.refl _⟩
 ·rename_i r hr
  obtain ⟨h1,rfl⟩:=iJ (CS:=CS) (s:=s) hr
  rw [h1]
  unfold RJ
  rw [UM] at h
  cases BW:(act P md.ro n all o).run s with
  | none=>rw [BW] at h; cases h
  | some wr=>
   rw [BW] at h
   simp only [Option.some.injEq,Prod.mk.injEq] at h
   obtain ⟨rfl,rfl⟩:=h
   exact ⟨_,rfl,UN wr (R1.refl s)⟩
 ·exact ⟨t,h,R1.refl t⟩
section
variable {P:Program} {cx:Cx} {s s':S} {Q:A7->S->Prop} {K:S->Prop} {o:Oper} {pe:A7} {md:Md} {CS:LD} {all:List Oper} {fl:Nat}
theorem P4(Ce:Gm P CS)(hd:∀d,o.dst=some d->d<cx.n)(h:opR P md CS cx.n all o s=some (pe,s'))(hk:I3 K Q pe s'):Oj P cx s o K Q:=by
 obtain ⟨s1,h1,h2⟩:=r9 h
 refine iI (La Ce hd h1 ?_)
 cases pe with
 | normal=>exact ⟨s',hk,h2⟩
 | exit _=>exact ⟨s',hk,h2⟩
 | ret=>exact ⟨s',hk,h2⟩
 | panic _=>exact ⟨s',hk,h2⟩
noncomputable def UP (all:List Oper) (o:Oper) (s:S):Option Bool:=match o.guard with
 | none=>some true
 | some (j,want)=>match (all[j]?).bind (·.dst) with
  | some dj=>match Wy s.tmps dj with
   | some lv=>MT want lv
   | none=>none
  | none=>none
theorem S2:UP all o s=LF all o s:=by
 unfold UP LF
 cases o.guard with
 | none=>rfl
 | some jw=>
  obtain ⟨j,want⟩:=jw
  simp only
  cases (all[j]?).bind (·.dst) with
  | none=>rfl
  | some dj=>
   simp only [IL]
   cases lk s.tmps dj <;> rfl
noncomputable def UQ (s:S) (o:Oper):S:=match o.dst with
 | some d=>⟨(d,.v (.B6 []))::s.tmps,s.boxes,s.ext⟩
 | none=>s
theorem Z1:R1 (s.skip o) (UQ s o):=by
 unfold S.skip UQ
 cases o.dst with
 | none=>exact R1.refl s
 | some d=>exact ⟨FC (fun _=>rfl) _ _,fun _=>rfl,rfl⟩
noncomputable def WA (P:Program) (md:Md) (CS:LD) (n:Nat) (all:List Oper) (ls:List Oper):S->Option (A7 × S):=
 List.rec (motive:=fun _=>S->Option (A7 × S)) (fun s=>some (.normal,s)) (fun o _ ih s=>match UP all o s with
  | some true=>(match opR P md CS n all o s with
   | some (.normal,s')=>ih s'
   | r=>r)
  | some false=>ih (UQ s o)
  | none=>none) ls
theorem Z2:WA P md CS cx.n all [] s=some (.normal,s):=rfl
theorem WB{n:Nat}{rest:List Oper}:WA P md CS n all (o::rest) s=match UP all o s with
  | some true=>(match opR P md CS n all o s with
   | some (.normal,s')=>WA P md CS n all rest s'
   | r=>r)
  | some false=>WA P md CS n all rest (UQ s o)
  | none=>none:=rfl
theorem JV(Ce:Gm P CS)(BE:F0 cx.n all=true):∀ {ls:List Oper} {s:S},(∀o∈ls,o∈all)->WA P md CS cx.n all ls s=some (pe,s')->Q pe s'->PL P cx all.toArray ls s Q
 | [],s,_,h,hq=>by
  rw [Z2] at h
  simp only [Option.some.injEq,Prod.mk.injEq] at h
  obtain ⟨rfl,rfl⟩:=h
  exact MS hq
 | o::rest,s,hm,h,hq=>by
  have hd:∀d,o.dst=some d->d<cx.n:=DF BE (hm o sM)
  have FN:∀o∈rest,o∈all:=fun o ho=>hm o (List.mem_cons_of_mem _ ho)
  intro g l a w hs
  rw [WB] at h
  split at h
  ·rename_i hw
   have E5:=E6 BE (S2 ▸ hw) hs
   refine wpList_step fun K hK=>?_
   rw [iP E5]
   split at h
   ·rename_i s1 h1
    refine CO ?_ (P4 (Q:=Q) (K:=fun s'=>PL P cx all.toArray rest s' Q) Ce hd h1 (JV Ce BE FN h hq) g l a w hs)
    rintro a' w' ⟨s',g',l',hp,sm⟩
    exact hK _ _ (hp g' l' a' w' sm)
   ·rename_i Ct
    refine CO ?_ (P4 (Q:=Q) (K:=fun s'=>PL P cx all.toArray rest s' Q) Ce hd h (by
     cases pe with
     | normal=>exact absurd h (Ct _)
     | _=>exact hq) g l a w hs)
    rintro a' w' ⟨s',g',l',hp,sm⟩
    exact hK _ _ (hp g' l' a' w' sm)
  ·rename_i hw
   have E5:=E6 BE (S2 ▸ hw) hs
   refine wpList_step fun K hK=>?_
   rw [iN (by rw [E5]; simp)]
   refine hK _ _ (JV Ce BE FN h hq g l _ w (Bc.eqv ?_ Z1))
   cases Eh:o.dst with
   | none=>simp only [S.skip,Eh,Act.put]; exact hs
   | some d=>
    simp only [S.skip,Eh]
    exact hs.set (hd d Eh) (.B6 [] [] rfl fun j h=>by simp at h)
  ·cases h
noncomputable def A0k (P:Program) (md:Md) (CS:LD) (n:Nat) (ops:List Oper) (draw:Bool) (s:S):Option (A7 × S):=match draw with
 | false=>WA P md CS n ops ops s
 | true=>evR P md CS n ops true s
theorem TN{id:Nat}{ops:Array Oper}{draw:Bool}(Ce:Gm P CS)(hm:P.follows .mixedOrders=true)(BE:F0 cx.n ops.toList=true)(h:A0k P md CS cx.n ops.toList draw s=some (pe,s'))(hq:Q pe s'):PW P cx (.region id ops draw) s Q:=by
 cases draw with
 | false=>
  obtain ⟨ops⟩:=ops
  exact fun g l a w hs=>wp_region_lit (JV Ce BE (fun _ h=>h) h hq g l a w hs)
 | true=>exact OV Ce hm BE h hq
noncomputable def UR (body:S->Option (A7 × S)) (n:Nat):S->Option (A7 × S):=
 Nat.rec (motive:=fun _=>S->Option (A7 × S)) (fun _=>none) (fun _ ih s=>match body s with
  | some (.normal,s')=>ih s'
  | r=>r) n
theorem S3{body:S->Option (A7 × S)}:∀ (n:Nat) (s:S),UR body n s=N3 body n s
 | 0,s=>rfl
 | n+1,s=>by
  show (match body s with
   | some (.normal,s')=>UR body n s'
   | r=>r)=_
  simp only [N3]
  cases hb:body s with
  | none=>rfl
  | some r=>
   obtain ⟨pe,s'⟩:=r
   cases pe <;> first | exact S3 n s' | rfl
noncomputable def S4 (P:Program) (md:Md) (CS:LD) (n fl:Nat) (c:Code):S->Option (A7 × S):=
 Code.rec (motive:=fun _=>S->Option (A7 × S))
  (fun s=>some (.normal,s))
  (fun _ ops draw s=>A0k P md CS n ops.toList draw s)
  (fun _ _ iha ihb s=>match iha s with
   | some (.normal,s')=>ihb s'
   | r=>r)
  (fun c _ _ ihx ihy s=>match c with
   | .tmp t=>(match Wy s.tmps t with
    | some (.v (.bool true))=>ihx s
    | some (.v (.bool false))=>ihy s
    | _=>none)
   | _=>none)
  (fun id _ ih s=>match ih s with
   | some (.exit Rf,s')=>bif Nat.beq Rf id then some (.normal,s') else some (.exit Rf,s')
   | r=>r)
  (fun _ ih s=>UR ih fl s)
  (fun _ _ _ _ _ _ _=>none)
  (fun id s=>some (.exit id,s))
  (fun _ _ _=>none)
  (fun _ _=>none)
  (fun _ _=>none)
  (fun s=>some (.ret,s))
  (fun _ _=>none) c
theorem DO(Ce:Gm P CS)(hm:P.follows .mixedOrders=true):∀ (c:Code) {s s':S} {pe:A7} {Q:A7->S->Prop},BZ cx.n c=true->S4 P md CS cx.n fl c s=some (pe,s')->Q pe s'->PW P cx c s Q
 | .skip,s,s',pe,Q,_,h,hq=>by
  have h:some (A7.normal,s)=some (pe,s'):=h
  simp only [Option.some.injEq,Prod.mk.injEq] at h
  obtain ⟨rfl,rfl⟩:=h
  exact PG hq
 | .region _ ops draw,s,s',pe,Q,hc,h,hq=>TN Ce hm hc h hq
 | .seq a b,s,s',pe,Q,hc,h,hq=>by
  simp only [BZ,Bool.and_eq_true] at hc
  have h:(match S4 P md CS cx.n fl a s with
   | some (.normal,s')=>S4 P md CS cx.n fl b s'
   | r=>r)=some (pe,s'):=h
  refine L5 ?_
  split at h
  ·rename_i s1 h1
   exact DO Ce hm a hc.1 h1 (DO Ce hm b hc.2 h hq)
  ·rename_i Ct
   refine DO Ce hm a hc.1 h ?_
   cases pe with
   | normal=>exact absurd h (Ct _)
   | _=>exact hq
 | .cond x a b,s,s',pe,Q,hc,h,hq=>by
  simp only [BZ,Bool.and_eq_true] at hc
  cases x with
  | tmp t=>
   have h:(match Wy s.tmps t with
    | some (.v (.bool true))=>S4 P md CS cx.n fl a s
    | some (.v (.bool false))=>S4 P md CS cx.n fl b s
    | _=>none)=some (pe,s'):=h
   rw [IL] at h
   split at h
   ·rename_i ht
    exact Kf ht (fun _=>DO Ce hm a hc.1 h hq) (fun e=>by cases e)
   ·rename_i ht
    exact Kf ht (fun e=>by cases e) (fun _=>DO Ce hm b hc.2 h hq)
   ·cases h
  | const _=>exact nomatch (show none=some (pe,s') from h)
  | global _=>exact nomatch (show none=some (pe,s') from h)
  | func _=>exact nomatch (show none=some (pe,s') from h)
 | .block id c,s,s',pe,Q,hc,h,hq=>by
  simp only [BZ] at hc
  have h:(match S4 P md CS cx.n fl c s with
   | some (.exit Rf,s')=>bif Nat.beq Rf id then some (.normal,s') else some (.exit Rf,s')
   | r=>r)=some (pe,s'):=h
  refine MB ?_
  split at h
  ·rename_i Rf s1 h1
   refine DO Ce hm c hc h1 ?_
   simp only [MA]
   cases hb:Nat.beq Rf id with
   | true=>
    rw [hb] at h
    simp only [cond_true,Option.some.injEq,Prod.mk.injEq] at h
    obtain ⟨rfl,rfl⟩:=h
    rw [iP (Nat.eq_of_beq_eq_true hb)]
    exact hq
   | false=>
    rw [hb] at h
    simp only [cond_false,Option.some.injEq,Prod.mk.injEq] at h
    obtain ⟨rfl,rfl⟩:=h
    rw [iN (fun e=>by subst e; rw [Nat.beq_refl] at hb; cases hb)]
    exact hq
  ·rename_i Ct
   refine DO Ce hm c hc h ?_
   cases pe with
   | exit i=>exact absurd h (Ct _ _)
   | _=>exact hq
 | .loop c,s,s',pe,Q,hc,h,hq=>by
  simp only [BZ] at hc
  have h:UR (S4 P md CS cx.n fl c) fl s=some (pe,s'):=h
  rw [S3] at h
  exact LI (fun h hq=>DO Ce hm c hc h hq) h hq
 | .exit id,s,s',pe,Q,_,h,hq=>by
  have h:some (A7.exit id,s)=some (pe,s'):=h
  simp only [Option.some.injEq,Prod.mk.injEq] at h
  obtain ⟨rfl,rfl⟩:=h
  exact PI hq
 | .ret,s,s',pe,Q,_,h,hq=>by
  have h:some (A7.ret,s)=some (pe,s'):=h
  simp only [Option.some.injEq,Prod.mk.injEq] at h
  obtain ⟨rfl,rfl⟩:=h
  exact T8 hq
 | .rangeFunc _ _ _ _,s,s',pe,_,_,h,_=>nomatch (show none=some (pe,s') from h)
 | .scope _,s,s',pe,_,_,h,_=>nomatch (show none=some (pe,s') from h)
 | .label _,s,s',pe,_,_,h,_=>nomatch (show none=some (pe,s') from h)
 | .goto _,s,s',pe,_,_,h,_=>nomatch (show none=some (pe,s') from h)
 | .refuse _,s,s',pe,_,_,h,_=>nomatch (show none=some (pe,s') from h)
noncomputable def US (P:Program) (md:Md) (CS:LD) (O4:qI) (fl:Nat) (fn:Func) (args:List PV) (e:Ext):Option (Cd × Ext):=match fn.body with
 | none=>none
 | some c=>match shape c with
  | .plain=>bif Nat.ble args.length fn.ntmps then (match S4 P md CS fn.ntmps fl c (FR args e) with
   | some (pe,s)=>TB P fn.results.toList pe s
   | none=>none) else none
  | _=>qJ P md CS O4 fl fn args e
theorem S5{O4:qI}{f:FuncId}{fn:Func}{args:List PV}{e e':Ext}{r:Cd}(Ce:Gm P CS)(Yt:Ys P O4)(hm:P.follows .mixedOrders=true)(hf:P.funcs[f]?=some fn)(Eu:JR fn=true)(h:US P md CS O4 fl fn args e=some (r,e')):BX P f args e fun r1 e1=>r1=r/\e1=e':=by
 unfold US at h
 split at h
 ·cases h
 ·rename_i c hb
  split at h
  ·cases hn:Nat.ble args.length fn.ntmps with
   | false=>rw [hn] at h; cases h
   | true=>
    rw [hn] at h
    simp only [cond_true] at h
    split at h
    ·rename_i pe s he
     unfold JR at Eu
     rw [hb] at Eu
     simp only at Eu
     refine BX.enter hf hb (Nat.le_of_ble_eq_true hn) fun cx AH PX=>?_
     rw [<-AH] at Eu he
     exact DO Ce hm c Eu he (JQ h)
    ·cases h
  ·exact TC Ce Yt hm hf Eu h
noncomputable def TK (P:Program) (md:FuncId->Md) (fl:Nat) (d:Nat):LD × qI:=
 Nat.rec (motive:=fun _=>LD × qI) (fun _ _ _=>none,fun _ _ _ _=>none)
  (fun _ ih=>(fun f args e=>match Wo P f with
   | true=>(match P.funcs[f]? with
    | some fn=>US P (md f) ih.1 ih.2 fl fn args e
    | none=>none)
   | false=>none,fun f args e m=>match Wo P f with
   | true=>(match P.funcs[f]? with
    | some fn=>gR P (md f) ih.1 fl fn args e m
    | none=>none)
   | false=>none)) d
theorem Nh{md:FuncId->Md}(hm:P.follows .mixedOrders=true):∀d,Gm P (TK P md fl d).1/\Ys P (TK P md fl d).2
 | 0=>⟨fun f args e r e' h=>(nomatch (show none=some (r,e') from h)),fun f args e m m' e' h=>(nomatch (show none=some (m',e') from h))⟩
 | d+1=>by
  have ih:=Nh (md:=md) hm d
  refine ⟨fun f args e r e' h=>?_,fun f args e m m' e' h=>?_⟩
  ·have h:(match Wo P f with
    | true=>(match P.funcs[f]? with
     | some fn=>US P (md f) (TK P md fl d).1 (TK P md fl d).2 fl fn args e
     | none=>none)
    | false=>none)=some (r,e'):=h
   split at h
   ·rename_i ho
    split at h
    ·rename_i fn hf
     simp only [Wo,hf,Bool.and_eq_true] at ho
     exact ⟨ho.1,S5 ih.1 ih.2 hm hf ho.2 h⟩
    ·cases h
   ·cases h
  ·have h:(match Wo P f with
    | true=>(match P.funcs[f]? with
     | some fn=>gR P (md f) (TK P md fl d).1 fl fn args e m
     | none=>none)
    | false=>none)=some (m',e'):=h
   split at h
   ·rename_i ho
    split at h
    ·rename_i fn hf
     simp only [Wo,hf,Bool.and_eq_true] at ho
     exact ⟨ho.1,TD ih.1 hm hf ho.2 h⟩
    ·cases h
   ·cases h
end
end Go.Pv
