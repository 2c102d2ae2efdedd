/- Values of Go as plain data, an evaluator over them, and what the functions of the program return; part Xf. -/
import Derived.Test.YthchpmnkecoafaaGreatDoorXd
set_option linter.unusedVariables false
set_option linter.unusedSimpArgs false
set_option linter.unusedSectionVars false
namespace Go.Pv
open Go.RowKit
noncomputable def Wm {α:Type} (l:List (Nat × α)) (t:Nat):Option α:=
 List.rec (motive:=fun _=>Option α) none (fun hd _ ih=>Bool.rec (motive:=fun _=>Option α) ih (some hd.2) (Nat.beq hd.1 t)) l
theorem IT{α:Type}:∀ (l:List (Nat × α)) (t:Nat),Wm l t=lk l t
 | [],t=>rfl
 | (k,v)::r,t=>by
  show Bool.rec (motive:=fun _=>Option α) (Wm r t) (some v) (Nat.beq k t)=_
  simp only [lk]
  cases h2:Nat.beq k t with
  | false=>rw [iN (fun e=>by subst e; rw [Nat.beq_refl] at h2; cases h2)]; exact IT r t
  | true=>rw [iP (Nat.eq_of_beq_eq_true h2)]
noncomputable def Hr {α:Type} (r:RM α) (s:S):Option α:=
 RM.rec (motive:=fun _=>Option α) (fun a=>some a) none
  (fun t _ ih=>Option.rec (motive:=fun _=>Option α) none ih (Wm s.tmps t))
  (fun t _ ih=>Option.rec (motive:=fun _=>Option α) none ih (Wm s.boxes t))
  (fun t _ ih=>Option.rec (motive:=fun _=>Option α) none ih (Wm s.ext t))
  (fun p _ ih=>Bool.rec (motive:=fun _=>Option α) none ih p) r
theorem Uj{α:Type}(r:RM α)(s:S):Hr r s=r.run s:=by
 induction r with
 | ret a=>rfl
 | fail=>rfl
 | It t k ih=>
  show Option.rec (motive:=fun _=>Option α) none (fun v=>Hr (k v) s) (Wm s.tmps t)=_
  rw [IT]
  simp only [RM.run]
  cases lk s.tmps t with
  | none=>rfl
  | some v=>exact ih v
 | Iu t k ih=>
  show Option.rec (motive:=fun _=>Option α) none (fun v=>Hr (k v) s) (Wm s.boxes t)=_
  rw [IT]
  simp only [RM.run]
  cases lk s.boxes t with
  | none=>rfl
  | some v=>exact ih v
 | E6 t k ih=>
  show Option.rec (motive:=fun _=>Option α) none (fun v=>Hr (k v) s) (Wm s.ext t)=_
  rw [IT]
  simp only [RM.run]
  cases lk s.ext t with
  | none=>rfl
  | some v=>exact ih v
 | assume p k ih=>
  show Bool.rec (motive:=fun _=>Option α) none (Hr k s) p=_
  simp only [RM.run]
  cases p with
  | false=>rfl
  | true=>exact ih
structure QH (s t:S):Prop where
 tm:∀k,lk s.tmps k=lk t.tmps k
 bx:∀k,lk s.boxes k=lk t.boxes k
 ex:s.ext=t.ext
theorem QH.refl(s:S):QH s s:=⟨fun _=>rfl,fun _=>rfl,rfl⟩
theorem Bb.eqv{cx:Cx}{s t:S}{g:Gh}{l:LG}{a:Act}{w:World}(h:Bb cx s g l a w)(he:QH s t):Bb cx t g l a w where
 AV:=h.AV
 size:=h.size
 defers:=h.defers
 tm k v hk:=h.tm k v (by rw [he.tm]; exact hk)
 bx k v hk:=h.bx k v (by rw [he.bx]; exact hk)
 ex k v hk:=h.ex k v (by rw [he.ex]; exact hk)
 own:=h.own
 uo:=h.uo
 fresh:=by rw [<-he.ex]; exact h.fresh
 Gg:=h.Gg
def Ke(K:S->Prop):S->Prop:=fun s=>∃t,K t/\QH s t
def Qe(Q:A5->S->Prop):A5->S->Prop:=fun pe s=>∃t,Q pe t/\QH s t
theorem YA{cx:Cx}{Q:A5->S->Prop}:post cx (Qe Q)=post cx Q:=by
 funext e a w
 refine propext ⟨?_,?_⟩
 ·rintro ⟨pe,s,g,l,⟨t,h1,h2⟩,h3,h4⟩; exact ⟨pe,t,g,l,h1,h3,h4.eqv h2⟩
 ·rintro ⟨pe,s,g,l,h1,h3,h4⟩; exact ⟨pe,s,g,l,⟨s,h1,QH.refl s⟩,h3,h4⟩
theorem YB{cx:Cx}{K:S->Prop}:(fun (a':Act) (w':World)=>∃s' g' l',Ke K s'/\Bb cx s' g' l' a' w')=fun a' w'=>∃s' g' l',K s'/\Bb cx s' g' l' a' w':=by
 funext a w
 refine propext ⟨?_,?_⟩
 ·rintro ⟨s,g,l,⟨t,h1,h2⟩,h3⟩; exact ⟨t,g,l,h1,h3.eqv h2⟩
 ·rintro ⟨s,g,l,h1,h3⟩; exact ⟨s,g,l,⟨s,h1,QH.refl s⟩,h3⟩
theorem iA{P:Program}{cx:Cx}{s:S}{o:Oper}{K:S->Prop}{Q:A5->S->Prop}(h:Ox P cx s o (Ke K) (Qe Q)):Ox P cx s o K Q:=by
 unfold Ox at h ⊢
 rw [YA] at h
 simpa only [YB] using h
noncomputable def wrR (s:S) (x:Wr):S:=match x with
 | .tmp t v=>⟨(t,v)::s.tmps,s.boxes,s.ext⟩
 | .Dd i ps=>⟨Lv i s.tmps,(i,ps.map .v)::s.boxes,s.ext⟩
 | .cells i off vs=>match Wm s.boxes i with
  | some cs=>⟨s.tmps,(i,AI cs off vs)::s.boxes,s.ext⟩
  | none=>s
 | .ext n off vs=>match Wm s.ext n with
  | some cs=>⟨s.tmps,s.boxes,put s.ext n (AI cs off vs)⟩
  | none=>s
noncomputable def A1d (wr:List Wr):S->S:=List.rec (motive:=fun _=>S->S) (fun s=>s) (fun x _ ih s=>ih (wrR s x)) wr
theorem Fc{α:Type}{l l':List (Nat × α)}(h:∀k,lk l k=lk l' k)(t:Nat)(v:α)(k:Nat):lk (put l t v) k=lk ((t,v)::l') k:=by
 rw [Be]
 simp only [lk]
 split
 ·rfl
 ·exact h k
theorem rC{s s':S}(h:QH s s'):∀x:Wr,QH (s.wr x) (wrR s' x)
 | .tmp t v=>⟨Fc h.tm t v,h.bx,h.ex⟩
 | .Dd i ps=>⟨fun k=>by show lk (Lv i s.tmps) k=lk (Lv i s'.tmps) k; rw [Kh,Kh,h.tm],Fc h.bx i _,h.ex⟩
 | .cells i off vs=>by
  simp only [S.wr,wrR,IT,<-h.bx i]
  cases lk s.boxes i with
  | none=>exact h
  | some cs=>exact ⟨h.tm,Fc h.bx i _,h.ex⟩
 | .ext n off vs=>by
  simp only [S.wr,wrR,IT,<-h.ex]
  cases lk s.ext n with
  | none=>exact h
  | some cs=>exact ⟨h.tm,h.bx,rfl⟩
theorem Uk:∀ (wr:List Wr) {s s':S},QH s s'->QH (s.HY wr) (A1d wr s')
 | [],s,s',h=>h
 | x::r,s,s',h=>Uk r (rC h x)
noncomputable def rD (s:S) (dst:Option Nat) (lv:LV) (e:Ext):S:=⟨match dst with | some d=>(d,lv)::s.tmps | none=>s.tmps,s.boxes,e⟩
theorem Ul(s:S)(dst:Option Nat)(lv:LV)(e:Ext):QH (s.LX dst lv e) (rD s dst lv e):=by
 cases dst with
 | none=>exact ⟨fun _=>rfl,fun _=>rfl,rfl⟩
 | some d=>exact ⟨Fc (fun _=>rfl) d lv,fun _=>rfl,rfl⟩
inductive Kd where
 | call (r:RM (FuncId × List PV))
 | act (r:RM (List Wr))
 | Tg
def kd(P:Program)(md:Md)(n:Nat)(all:List Oper)(o:Oper):Kd:=match callee P o with
 | some r => .call r
 | none=>match o.op with
  | .alloc ty=>if (md.ro ty).isNone=true then .Tg else .act (act P md.ro n all o)
  | .box ty _=>if (md.ro ty).isNone=true then .Tg else .act (act P md.ro n all o)
  | .panic _ => .Tg
  | .makeMap _ _ => .Tg
  | .range _ _ => .Tg
  | .call ⟨.builtin .append,_,_⟩ => .Tg
  | _ => .act (act P md.ro n all o)
noncomputable def YC (CF:Jk) (dst:Option Nat) (r:RM (FuncId × List PV)) (s:S):Option (A5 × S):=match Hr r s with
 | some (f,args)=>match CF f args s.ext with
  | some (.ret p,e)=>some (.normal,rD s dst (.v p) e)
  | some (.own te z es,e)=>some (.normal,rD s dst (.uniq te z es) e)
  | some (.panic p,e)=>some (.panic p,{ s with ext:=e })
  | none=>none
 | none=>none
noncomputable def opR (P:Program) (md:Md) (CF:Jk) (n:Nat) (all:List Oper) (o:Oper) (s:S):Option (A5 × S):=match kd P md n all o with
 | .call r=>YC CF o.dst r s
 | .act r=>match Hr r s with
  | some wr=>some (.normal,A1d wr s)
  | none=>none
 | .Tg=>gJ P md CF n all o s
theorem iB{P:Program}{md:Md}{CF:Jk}{n:Nat}{all:List Oper}{o:Oper}{s:S}{r:RM (List Wr)}(h:kd P md n all o = .act r):gJ P md CF n all o s=Ro P md.ro n all o s/\r=act P md.ro n all o:=by
 unfold kd at h
 unfold gJ
 split at h
 ·cases h
 ·rename_i hc
  rw [hc]
  simp only
  split at h
  ·rename_i ty ho
   rw [ho]
   simp only
   split at h
   ·cases h
   ·rename_i hr; injection h with h; rw [iN hr]; exact ⟨rfl,h.symm⟩
  ·rename_i ty x ho
   rw [ho]
   simp only
   split at h
   ·cases h
   ·rename_i hr; injection h with h; rw [iN hr]; exact ⟨rfl,h.symm⟩
  ·cases h
  ·cases h
  ·cases h
  ·cases h
  ·rename_i n1 n2 n3 n4 n6 n5
   injection h with h
   refine ⟨?_,h.symm⟩
   split
   ·rename_i ty ho; exact absurd ho (n1 ty)
   ·rename_i ty x ho; exact absurd ho (n2 ty x)
   ·rename_i x ho; exact absurd ho (n3 x)
   ·rename_i ty ho; exact absurd ho (n4 ty none)
   ·rename_i ty m ho; exact absurd ho (n6 ty m)
   ·rename_i x y ty fZ ho; exact absurd ho (n5 _ _)
   ·rfl
theorem YD{P:Program}{md:Md}{CF:Jk}{n:Nat}{all:List Oper}{o:Oper}{s:S}{r:RM (FuncId × List PV)}(h:kd P md n all o = .call r):gJ P md CF n all o s=Rn CF o r s:=by
 unfold kd at h
 unfold gJ
 split at h
 ·rename_i r' hc
  injection h with h
  rw [hc,h]
 ·split at h <;> first | (cases h; done) | (split at h <;> cases h)
theorem rE{P:Program}{md:Md}{CF:Jk}{n:Nat}{all:List Oper}{o:Oper}{s t:S}{pe:A5}(h:opR P md CF n all o s=some (pe,t)):∃s',gJ P md CF n all o s=some (pe,s')/\QH s' t:=by
 unfold opR at h
 split at h
 ·rename_i r hr
  rw [YD hr]
  unfold YC at h
  unfold Rn
  rw [Uj] at h
  cases Bz:r.run s with
  | none=>rw [Bz] at h; cases h
  | some fa=>
   obtain ⟨f,args⟩:=fa
   rw [Bz] at h
   simp only at h ⊢
   cases ho:CF f args s.ext with
   | none=>rw [ho] at h; cases h
   | some re=>
    obtain ⟨r1,e1⟩:=re
    rw [ho] at h
    cases r1 with
    | ret p=>simp only [Option.some.injEq,Prod.mk.injEq] at h; obtain ⟨rfl,rfl⟩:=h; exact ⟨_,rfl,Ul _ _ _ _⟩
    | own te z es=>simp only [Option.some.injEq,Prod.mk.injEq] at h; obtain ⟨rfl,rfl⟩:=h; exact ⟨_,rfl,Ul _ _ _ _⟩
    | panic p=>simp only [Option.some.injEq,Prod.mk.injEq] at h; obtain ⟨rfl,rfl⟩:=h; exact ⟨_,rfl,QH.refl _⟩
 ·rename_i r hr
  obtain ⟨h1,rfl⟩:=iB (CF:=CF) (s:=s) hr
  rw [h1]
  unfold Ro
  rw [Uj] at h
  cases Bz:(act P md.ro n all o).run s with
  | none=>rw [Bz] at h; cases h
  | some wr=>
   rw [Bz] at h
   simp only [Option.some.injEq,Prod.mk.injEq] at h
   obtain ⟨rfl,rfl⟩:=h
   exact ⟨_,rfl,Uk wr (QH.refl s)⟩
 ·exact ⟨t,h,QH.refl t⟩
section
variable {P:Program} {cx:Cx} {s s':S} {Q:A5->S->Prop} {K:S->Prop} {o:Oper} {pe:A5} {md:Md} {CF:Jk} {all:List Oper} {fl:Nat}
theorem P7(C4:Et P CF)(hd:∀d,o.dst=some d->d<cx.n)(h:opR P md CF cx.n all o s=some (pe,s'))(hk:Ic K Q pe s'):Ox P cx s o K Q:=by
 obtain ⟨s1,h1,h2⟩:=rE h
 refine iA (L8 C4 hd h1 ?_)
 cases pe with
 | normal=>exact ⟨s',hk,h2⟩
 | exit _=>exact ⟨s',hk,h2⟩
 | ret=>exact ⟨s',hk,h2⟩
 | panic _=>exact ⟨s',hk,h2⟩
noncomputable def Um (all:List Oper) (o:Oper) (s:S):Option Bool:=match o.guard with
 | none=>some true
 | some (j,want)=>match (all[j]?).bind (·.dst) with
  | some dj=>match Wm s.tmps dj with
   | some lv=>ME want lv
   | none=>none
  | none=>none
theorem RF:Um all o s=LD all o s:=by
 unfold Um LD
 cases o.guard with
 | none=>rfl
 | some jw=>
  obtain ⟨j,want⟩:=jw
  simp only
  cases (all[j]?).bind (·.dst) with
  | none=>rfl
  | some dj=>
   simp only [IT]
   cases lk s.tmps dj <;> rfl
noncomputable def Un (s:S) (o:Oper):S:=match o.dst with
 | some d=>⟨(d,.v (.AE []))::s.tmps,s.boxes,s.ext⟩
 | none=>s
theorem YE:QH (s.skip o) (Un s o):=by
 unfold S.skip Un
 cases o.dst with
 | none=>exact QH.refl s
 | some d=>exact ⟨Fc (fun _=>rfl) _ _,fun _=>rfl,rfl⟩
noncomputable def Wn (P:Program) (md:Md) (CF:Jk) (n:Nat) (all:List Oper) (ls:List Oper):S->Option (A5 × S):=
 List.rec (motive:=fun _=>S->Option (A5 × S)) (fun s=>some (.normal,s)) (fun o _ ih s=>match Um all o s with
  | some true=>(match opR P md CF n all o s with
   | some (.normal,s')=>ih s'
   | r=>r)
  | some false=>ih (Un s o)
  | none=>none) ls
theorem YF:Wn P md CF cx.n all [] s=some (.normal,s):=rfl
theorem Wo{n:Nat}{rest:List Oper}:Wn P md CF n all (o::rest) s=match Um all o s with
  | some true=>(match opR P md CF n all o s with
   | some (.normal,s')=>Wn P md CF n all rest s'
   | r=>r)
  | some false=>Wn P md CF n all rest (Un s o)
  | none=>none:=rfl
theorem JU(C4:Et P CF)(Bw:Er cx.n all=true):∀ {ls:List Oper} {s:S},(∀o∈ls,o∈all)->Wn P md CF cx.n all ls s=some (pe,s')->Q pe s'->PL P cx all.toArray ls s Q
 | [],s,_,h,hq=>by
  rw [YF] at h
  simp only [Option.some.injEq,Prod.mk.injEq] at h
  obtain ⟨rfl,rfl⟩:=h
  exact MD hq
 | o::rest,s,hm,h,hq=>by
  have hd:∀d,o.dst=some d->d<cx.n:=Dk Bw (hm o sM)
  have EM:∀o∈rest,o∈all:=fun o ho=>hm o (List.mem_cons_of_mem _ ho)
  intro g l a w hs
  rw [Wo] at h
  split at h
  ·rename_i hw
   have DG:=DH Bw (RF ▸ hw) hs
   refine wpList_step fun K hK=>?_
   rw [iP DG]
   split at h
   ·rename_i s1 h1
    refine Cz ?_ (P7 (Q:=Q) (K:=fun s'=>PL P cx all.toArray rest s' Q) C4 hd h1 (JU C4 Bw EM h hq) g l a w hs)
    rintro a' w' ⟨s',g',l',hp,sm⟩
    exact hK _ _ (hp g' l' a' w' sm)
   ·rename_i D4
    refine Cz ?_ (P7 (Q:=Q) (K:=fun s'=>PL P cx all.toArray rest s' Q) C4 hd h (by
     cases pe with
     | normal=>exact absurd h (D4 _)
     | _=>exact hq) g l a w hs)
    rintro a' w' ⟨s',g',l',hp,sm⟩
    exact hK _ _ (hp g' l' a' w' sm)
  ·rename_i hw
   have DG:=DH Bw (RF ▸ hw) hs
   refine wpList_step fun K hK=>?_
   rw [iN (by rw [DG]; simp)]
   refine hK _ _ (JU C4 Bw EM h hq g l _ w (Bb.eqv ?_ YE))
   cases FA:o.dst with
   | none=>simp only [S.skip,FA,Act.put]; exact hs
   | some d=>
    simp only [S.skip,FA]
    exact hs.set (hd d FA) (.AE [] [] rfl fun j h=>by simp at h)
  ·cases h
noncomputable def A1e (P:Program) (md:Md) (CF:Jk) (n:Nat) (ops:List Oper) (draw:Bool) (s:S):Option (A5 × S):=match draw with
 | false=>Wn P md CF n ops ops s
 | true=>evR P md CF n ops true s
theorem Th{id:Nat}{ops:Array Oper}{draw:Bool}(C4:Et P CF)(hm:P.follows .mixedOrders=true)(Bw:Er cx.n ops.toList=true)(h:A1e P md CF cx.n ops.toList draw s=some (pe,s'))(hq:Q pe s'):PW P cx (.region id ops draw) s Q:=by
 cases draw with
 | false=>
  obtain ⟨ops⟩:=ops
  exact fun g l a w hs=>wp_region_lit (JU C4 Bw (fun _ h=>h) h hq g l a w hs)
 | true=>exact P1 C4 hm Bw h hq
noncomputable def Uo (body:S->Option (A5 × S)) (n:Nat):S->Option (A5 × S):=
 Nat.rec (motive:=fun _=>S->Option (A5 × S)) (fun _=>none) (fun _ ih s=>match body s with
  | some (.normal,s')=>ih s'
  | r=>r) n
theorem RG{body:S->Option (A5 × S)}:∀ (n:Nat) (s:S),Uo body n s=MP body n s
 | 0,s=>rfl
 | n+1,s=>by
  show (match body s with
   | some (.normal,s')=>Uo body n s'
   | r=>r)=_
  simp only [MP]
  cases hb:body s with
  | none=>rfl
  | some r=>
   obtain ⟨pe,s'⟩:=r
   cases pe <;> first | exact RG n s' | rfl
noncomputable def RH (P:Program) (md:Md) (CF:Jk) (n fl:Nat) (c:Code):S->Option (A5 × S):=
 Code.rec (motive:=fun _=>S->Option (A5 × S))
  (fun s=>some (.normal,s))
  (fun _ ops draw s=>A1e P md CF n ops.toList draw s)
  (fun _ _ iha ihb s=>match iha s with
   | some (.normal,s')=>ihb s'
   | r=>r)
  (fun c _ _ ihx ihy s=>match c with
   | .tmp t=>(match Wm s.tmps t with
    | some (.v (.bool true))=>ihx s
    | some (.v (.bool false))=>ihy s
    | _=>none)
   | _=>none)
  (fun id _ ih s=>match ih s with
   | some (.exit QT,s')=>bif Nat.beq QT id then some (.normal,s') else some (.exit QT,s')
   | r=>r)
  (fun _ ih s=>Uo ih fl s)
  (fun _ _ _ _ _ _ _=>none)
  (fun id s=>some (.exit id,s))
  (fun _ _ _=>none)
  (fun _ _=>none)
  (fun _ _=>none)
  (fun s=>some (.ret,s))
  (fun _ _=>none) c
theorem Du(C4:Et P CF)(hm:P.follows .mixedOrders=true):∀ (c:Code) {s s':S} {pe:A5} {Q:A5->S->Prop},BS cx.n c=true->RH P md CF cx.n fl c s=some (pe,s')->Q pe s'->PW P cx c s Q
 | .skip,s,s',pe,Q,_,h,hq=>by
  have h:some (A5.normal,s)=some (pe,s'):=h
  simp only [Option.some.injEq,Prod.mk.injEq] at h
  obtain ⟨rfl,rfl⟩:=h
  exact PA hq
 | .region _ ops draw,s,s',pe,Q,hc,h,hq=>Th C4 hm hc h hq
 | .seq a b,s,s',pe,Q,hc,h,hq=>by
  simp only [BS,Bool.and_eq_true] at hc
  have h:(match RH P md CF cx.n fl a s with
   | some (.normal,s')=>RH P md CF cx.n fl b s'
   | r=>r)=some (pe,s'):=h
  refine HX ?_
  split at h
  ·rename_i s1 h1
   exact Du C4 hm a hc.1 h1 (Du C4 hm b hc.2 h hq)
  ·rename_i D4
   refine Du C4 hm a hc.1 h ?_
   cases pe with
   | normal=>exact absurd h (D4 _)
   | _=>exact hq
 | .cond x a b,s,s',pe,Q,hc,h,hq=>by
  simp only [BS,Bool.and_eq_true] at hc
  cases x with
  | tmp t=>
   have h:(match Wm s.tmps t with
    | some (.v (.bool true))=>RH P md CF cx.n fl a s
    | some (.v (.bool false))=>RH P md CF cx.n fl b s
    | _=>none)=some (pe,s'):=h
   rw [IT] at h
   split at h
   ·rename_i ht
    exact Kg ht (fun _=>Du C4 hm a hc.1 h hq) (fun e=>by cases e)
   ·rename_i ht
    exact Kg ht (fun e=>by cases e) (fun _=>Du C4 hm b hc.2 h hq)
   ·cases h
  | const _=>exact nomatch (show none=some (pe,s') from h)
  | global _=>exact nomatch (show none=some (pe,s') from h)
  | func _=>exact nomatch (show none=some (pe,s') from h)
 | .block id c,s,s',pe,Q,hc,h,hq=>by
  simp only [BS] at hc
  have h:(match RH P md CF cx.n fl c s with
   | some (.exit QT,s')=>bif Nat.beq QT id then some (.normal,s') else some (.exit QT,s')
   | r=>r)=some (pe,s'):=h
  refine Mg ?_
  split at h
  ·rename_i QT s1 h1
   refine Du C4 hm c hc h1 ?_
   simp only [Mf]
   cases hb:Nat.beq QT id with
   | true=>
    rw [hb] at h
    simp only [cond_true,Option.some.injEq,Prod.mk.injEq] at h
    obtain ⟨rfl,rfl⟩:=h
    rw [iP (Nat.eq_of_beq_eq_true hb)]
    exact hq
   | false=>
    rw [hb] at h
    simp only [cond_false,Option.some.injEq,Prod.mk.injEq] at h
    obtain ⟨rfl,rfl⟩:=h
    rw [iN (fun e=>by subst e; rw [Nat.beq_refl] at hb; cases hb)]
    exact hq
  ·rename_i D4
   refine Du C4 hm c hc h ?_
   cases pe with
   | exit i=>exact absurd h (D4 _ _)
   | _=>exact hq
 | .loop c,s,s',pe,Q,hc,h,hq=>by
  simp only [BS] at hc
  have h:Uo (RH P md CF cx.n fl c) fl s=some (pe,s'):=h
  rw [RG] at h
  exact LH (fun h hq=>Du C4 hm c hc h hq) h hq
 | .exit id,s,s',pe,Q,_,h,hq=>by
  have h:some (A5.exit id,s)=some (pe,s'):=h
  simp only [Option.some.injEq,Prod.mk.injEq] at h
  obtain ⟨rfl,rfl⟩:=h
  exact PB hq
 | .ret,s,s',pe,Q,_,h,hq=>by
  have h:some (A5.ret,s)=some (pe,s'):=h
  simp only [Option.some.injEq,Prod.mk.injEq] at h
  obtain ⟨rfl,rfl⟩:=h
  exact SA hq
 | .rangeFunc _ _ _ _,s,s',pe,_,_,h,_=>nomatch (show none=some (pe,s') from h)
 | .scope _,s,s',pe,_,_,h,_=>nomatch (show none=some (pe,s') from h)
 | .label _,s,s',pe,_,_,h,_=>nomatch (show none=some (pe,s') from h)
 | .goto _,s,s',pe,_,_,h,_=>nomatch (show none=some (pe,s') from h)
 | .refuse _,s,s',pe,_,_,h,_=>nomatch (show none=some (pe,s') from h)
noncomputable def P8 (P:Program) (md:Md) (CF:Jk) (Oe:eT) (fl:Nat) (fn:Func) (args:List PV) (e:Ext):Option (Cr × Ext):=match fn.body with
 | none=>none
 | some c=>match shape c with
  | .plain=>bif Nat.ble args.length fn.ntmps then (match RH P md CF fn.ntmps fl c (Fv args e) with
   | some (pe,s)=>T5 P fn.results.toList pe s
   | none=>none) else none
  | _=>gL P md CF Oe fl fn args e
theorem LK{Oe:eT}{f:FuncId}{fn:Func}{args:List PV}{e e':Ext}{r:Cr}(C4:Et P CF)(Ya:U6 P Oe)(hm:P.follows .mixedOrders=true)(hf:P.funcs[f]?=some fn)(E5:Kt fn=true)(h:P8 P md CF Oe fl fn args e=some (r,e')):C3 P f args e fun r1 e1=>r1=r/\e1=e':=by
 unfold P8 at h
 split at h
 ·cases h
 ·rename_i c hb
  split at h
  ·cases hn:Nat.ble args.length fn.ntmps with
   | false=>rw [hn] at h; cases h
   | true=>
    rw [hn] at h
    simp only [cond_true] at h
    split at h
    ·rename_i pe s he
     unfold Kt at E5
     rw [hb] at E5
     simp only at E5
     refine C3.enter hf hb (Nat.le_of_ble_eq_true hn) fun cx Ar Mv=>?_
     rw [<-Ar] at E5 he
     exact Du C4 hm c E5 he (JR h)
    ·cases h
  ·exact T7 C4 Ya hm hf E5 h
noncomputable def Te (P:Program) (md:FuncId->Md) (fl:Nat) (d:Nat):Jk × eT:=
 Nat.rec (motive:=fun _=>Jk × eT) (fun _ _ _=>none,fun _ _ _ _=>none)
  (fun _ ih=>(fun f args e=>match LY P f with
   | true=>(match P.funcs[f]? with
    | some fn=>P8 P (md f) ih.1 ih.2 fl fn args e
    | none=>none)
   | false=>none,fun f args e m=>match LY P f with
   | true=>(match P.funcs[f]? with
    | some fn=>T6 P (md f) ih.1 fl fn args e m
    | none=>none)
   | false=>none)) d
theorem N2{md:FuncId->Md}(hm:P.follows .mixedOrders=true):∀d,Et P (Te P md fl d).1/\U6 P (Te P md fl d).2
 | 0=>⟨fun f args e r e' h=>(nomatch (show none=some (r,e') from h)),fun f args e m m' e' h=>(nomatch (show none=some (m',e') from h))⟩
 | d+1=>by
  have ih:=N2 (md:=md) hm d
  refine ⟨fun f args e r e' h=>?_,fun f args e m m' e' h=>?_⟩
  ·have h:(match LY P f with
    | true=>(match P.funcs[f]? with
     | some fn=>P8 P (md f) (Te P md fl d).1 (Te P md fl d).2 fl fn args e
     | none=>none)
    | false=>none)=some (r,e'):=h
   split at h
   ·rename_i ho
    split at h
    ·rename_i fn hf
     simp only [LY,hf,Bool.and_eq_true] at ho
     exact ⟨ho.1,LK ih.1 ih.2 hm hf ho.2 h⟩
    ·cases h
   ·cases h
  ·have h:(match LY P f with
    | true=>(match P.funcs[f]? with
     | some fn=>T6 P (md f) (Te P md fl d).1 fl fn args e m
     | none=>none)
    | false=>none)=some (m',e'):=h
   split at h
   ·rename_i ho
    split at h
    ·rename_i fn hf
     simp only [LY,hf,Bool.and_eq_true] at ho
     exact ⟨ho.1,MS ih.1 hm hf ho.2 h⟩
    ·cases h
   ·cases h
end
end Go.Pv
