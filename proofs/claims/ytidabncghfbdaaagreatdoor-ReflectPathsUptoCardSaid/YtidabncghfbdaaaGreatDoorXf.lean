/- Values of Go as plain data, an evaluator over them, and what the functions of the program return; part Xf. -/
import Derived.Test.YtidabncghfbdaaaGreatDoorXd
set_option linter.unusedVariables false
set_option linter.unusedSimpArgs false
set_option linter.unusedSectionVars false
namespace Go.Pv
open Go.RowKit
noncomputable def lkR {α:Type} (l:List (Nat × α)) (t:Nat):Option α:=
 List.rec (motive:=fun _=>Option α) none (fun hd _ ih=>Bool.rec (motive:=fun _=>Option α) ih (some hd.2) (Nat.beq hd.1 t)) l
theorem lkR_eq{α:Type}:∀ (l:List (Nat × α)) (t:Nat),lkR l t=lk l t
 | [],t=>rfl
 | (k,v)::r,t=>by
  show Bool.rec (motive:=fun _=>Option α) (lkR r t) (some v) (Nat.beq k t)=_
  simp only [lk]
  cases h2:Nat.beq k t with
  | false=>rw [iN (fun e=>by subst e; rw [Nat.beq_refl] at h2; cases h2)]; exact lkR_eq r t
  | true=>rw [iP (Nat.eq_of_beq_eq_true h2)]
noncomputable def runR {α:Type} (r:RM α) (s:S):Option α:=
 RM.rec (motive:=fun _=>Option α) (fun a=>some a) none
  (fun t _ ih=>Option.rec (motive:=fun _=>Option α) none ih (lkR s.tmps t))
  (fun t _ ih=>Option.rec (motive:=fun _=>Option α) none ih (lkR s.boxes t))
  (fun t _ ih=>Option.rec (motive:=fun _=>Option α) none ih (lkR s.ext t))
  (fun p _ ih=>Bool.rec (motive:=fun _=>Option α) none ih p) r
theorem runR_eq{α:Type}(r:RM α)(s:S):runR r s=r.run s:=by
 induction r with
 | ret a=>rfl
 | fail=>rfl
 | getT t k ih=>
  show Option.rec (motive:=fun _=>Option α) none (fun v=>runR (k v) s) (lkR s.tmps t)=_
  rw [lkR_eq]
  simp only [RM.run]
  cases lk s.tmps t with
  | none=>rfl
  | some v=>exact ih v
 | getB t k ih=>
  show Option.rec (motive:=fun _=>Option α) none (fun v=>runR (k v) s) (lkR s.boxes t)=_
  rw [lkR_eq]
  simp only [RM.run]
  cases lk s.boxes t with
  | none=>rfl
  | some v=>exact ih v
 | getX t k ih=>
  show Option.rec (motive:=fun _=>Option α) none (fun v=>runR (k v) s) (lkR s.ext t)=_
  rw [lkR_eq]
  simp only [RM.run]
  cases lk s.ext t with
  | none=>rfl
  | some v=>exact ih v
 | assume p k ih=>
  show Bool.rec (motive:=fun _=>Option α) none (runR k s) p=_
  simp only [RM.run]
  cases p with
  | false=>rfl
  | true=>exact ih
structure Eqv (s t:S):Prop where
 tm:∀k,lk s.tmps k=lk t.tmps k
 bx:∀k,lk s.boxes k=lk t.boxes k
 ex:s.ext=t.ext
theorem Eqv.refl(s:S):Eqv s s:=⟨fun _=>rfl,fun _=>rfl,rfl⟩
theorem Sim.eqv{cx:Cx}{s t:S}{g:Gh}{l:LG}{a:Act}{w:World}(h:Sim cx s g l a w)(he:Eqv s t):Sim cx t g l a w where
 hist:=h.hist
 size:=h.size
 defers:=h.defers
 tm k v hk:=h.tm k v (by rw [he.tm]; exact hk)
 bx k v hk:=h.bx k v (by rw [he.bx]; exact hk)
 ex k v hk:=h.ex k v (by rw [he.ex]; exact hk)
 own:=h.own
 uo:=h.uo
 fresh:=by rw [<-he.ex]; exact h.fresh
 xlt:=h.xlt
def Ke(K:S->Prop):S->Prop:=fun s=>∃t,K t/\Eqv s t
def Qe(Q:PExit->S->Prop):PExit->S->Prop:=fun pe s=>∃t,Q pe t/\Eqv s t
theorem post_eqv{cx:Cx}{Q:PExit->S->Prop}:post cx (Qe Q)=post cx Q:=by
 funext e a w
 refine propext ⟨?_,?_⟩
 ·rintro ⟨pe,s,g,l,⟨t,h1,h2⟩,h3,h4⟩; exact ⟨pe,t,g,l,h1,h3,h4.eqv h2⟩
 ·rintro ⟨pe,s,g,l,h1,h3,h4⟩; exact ⟨pe,s,g,l,⟨s,h1,Eqv.refl s⟩,h3,h4⟩
theorem next_eqv{cx:Cx}{K:S->Prop}:(fun (a':Act) (w':World)=>∃s' g' l',Ke K s'/\Sim cx s' g' l' a' w')=fun a' w'=>∃s' g' l',K s'/\Sim cx s' g' l' a' w':=by
 funext a w
 refine propext ⟨?_,?_⟩
 ·rintro ⟨s,g,l,⟨t,h1,h2⟩,h3⟩; exact ⟨t,g,l,h1,h3.eqv h2⟩
 ·rintro ⟨s,g,l,h1,h3⟩; exact ⟨s,g,l,⟨s,h1,Eqv.refl s⟩,h3⟩
theorem OpK_eqv{P:Program}{cx:Cx}{s:S}{o:Oper}{K:S->Prop}{Q:PExit->S->Prop}(h:OpK P cx s o (Ke K) (Qe Q)):OpK P cx s o K Q:=by
 unfold OpK at h ⊢
 rw [post_eqv] at h
 simpa only [next_eqv] using h
noncomputable def wrR (s:S) (x:Wr):S:=match x with
 | .tmp t v=>⟨(t,v)::s.tmps,s.boxes,s.ext⟩
 | .newbox i ps=>⟨killp i s.tmps,(i,ps.map .v)::s.boxes,s.ext⟩
 | .cells i off vs=>match lkR s.boxes i with
  | some cs=>⟨s.tmps,(i,splice cs off vs)::s.boxes,s.ext⟩
  | none=>s
 | .ext n off vs=>match lkR s.ext n with
  | some cs=>⟨s.tmps,s.boxes,put s.ext n (splice cs off vs)⟩
  | none=>s
noncomputable def wrsR (wr:List Wr):S->S:=List.rec (motive:=fun _=>S->S) (fun s=>s) (fun x _ ih s=>ih (wrR s x)) wr
theorem lk_cons_put{α:Type}{l l':List (Nat × α)}(h:∀k,lk l k=lk l' k)(t:Nat)(v:α)(k:Nat):lk (put l t v) k=lk ((t,v)::l') k:=by
 rw [lk_put]
 simp only [lk]
 split
 ·rfl
 ·exact h k
theorem wr_eqv{s s':S}(h:Eqv s s'):∀x:Wr,Eqv (s.wr x) (wrR s' x)
 | .tmp t v=>⟨lk_cons_put h.tm t v,h.bx,h.ex⟩
 | .newbox i ps=>⟨fun k=>by show lk (killp i s.tmps) k=lk (killp i s'.tmps) k; rw [lk_kill,lk_kill,h.tm],lk_cons_put h.bx i _,h.ex⟩
 | .cells i off vs=>by
  simp only [S.wr,wrR,lkR_eq,<-h.bx i]
  cases lk s.boxes i with
  | none=>exact h
  | some cs=>exact ⟨h.tm,lk_cons_put h.bx i _,h.ex⟩
 | .ext n off vs=>by
  simp only [S.wr,wrR,lkR_eq,<-h.ex]
  cases lk s.ext n with
  | none=>exact h
  | some cs=>exact ⟨h.tm,h.bx,rfl⟩
theorem wrs_eqv:∀ (wr:List Wr) {s s':S},Eqv s s'->Eqv (s.wrs wr) (wrsR wr s')
 | [],s,s',h=>h
 | x::r,s,s',h=>wrs_eqv r (wr_eqv h x)
noncomputable def setR (s:S) (dst:Option Nat) (lv:LV) (e:Ext):S:=⟨match dst with | some d=>(d,lv)::s.tmps | none=>s.tmps,s.boxes,e⟩
theorem set_eqv(s:S)(dst:Option Nat)(lv:LV)(e:Ext):Eqv (s.setD dst lv e) (setR s dst lv e):=by
 cases dst with
 | none=>exact ⟨fun _=>rfl,fun _=>rfl,rfl⟩
 | some d=>exact ⟨lk_cons_put (fun _=>rfl) d lv,fun _=>rfl,rfl⟩
inductive Kd where
 | call (r:RM (FuncId × List PV))
 | act (r:RM (List Wr))
 | frz (l:List Operand) (r:RM (List Wr))
 | slow
def kd(P:Program)(md:Md)(n:Nat)(all:List Oper)(o:Oper):Kd:=match callee P o with
 | some r => .call r
 | none=>match o.op with
  | .alloc ty=>if (md.ro ty).isNone=true then .slow else .act (act P md.ro n all o)
  | .box ty _=>if (md.ro ty).isNone=true then .slow else .act (act P md.ro n all o)
  | .panic _ => .slow
  | .makeMap _ _ => .slow
  | .range _ _ => .slow
  | .call ⟨.builtin .append,_,_⟩ => .slow
  | .makeFunc _ _ cs => .frz cs.toList (act P md.ro n all o)
  | _ => .act (act P md.ro n all o)
noncomputable def callRR (orc:Orc) (dst:Option Nat) (r:RM (FuncId × List PV)) (s:S):Option (PExit × S):=match runR r s with
 | some (f,args)=>match orc f args s.ext with
  | some (.ret p,e)=>some (.normal,setR s dst (.v p) e)
  | some (.own te z es,e)=>some (.normal,setR s dst (.uniq te z es) e)
  | some (.panic p,e)=>some (.panic p,{ s with ext:=e })
  | none=>none
 | none=>none
noncomputable def opR (P:Program) (md:Md) (orc:Orc) (n:Nat) (all:List Oper) (o:Oper) (s:S):Option (PExit × S):=match kd P md n all o with
 | .call r=>callRR orc o.dst r s
 | .act r=>match runR r s with
  | some wr=>some (.normal,wrsR wr s)
  | none=>none
 | .frz l r=>match runR r (frzA s l) with
  | some wr=>some (.normal,wrsR wr (frzA s l))
  | none=>none
 | .slow=>opL P md orc n all o s
theorem opL_act{P:Program}{md:Md}{orc:Orc}{n:Nat}{all:List Oper}{o:Oper}{s:S}{r:RM (List Wr)}(h:kd P md n all o = .act r):opL P md orc n all o s=actR P md.ro n all o s/\r=act P md.ro n all o:=by
 unfold kd at h
 unfold opL
 split at h
 ·cases h
 ·rename_i hc
  rw [hc]
  simp only
  split at h
  ·rename_i ty ho
   rw [ho]
   simp only
   split at h
   ·cases h
   ·rename_i hr; injection h with h; rw [iN hr]; exact ⟨rfl,h.symm⟩
  ·rename_i ty x ho
   rw [ho]
   simp only
   split at h
   ·cases h
   ·rename_i hr; injection h with h; rw [iN hr]; exact ⟨rfl,h.symm⟩
  ·cases h
  ·cases h
  ·cases h
  ·cases h
  ·cases h
  ·rename_i n1 n2 n3 n4 n6 n5 n7
   injection h with h
   refine ⟨?_,h.symm⟩
   split
   ·rename_i ty ho; exact absurd ho (n1 ty)
   ·rename_i ty x ho; exact absurd ho (n2 ty x)
   ·rename_i x ho; exact absurd ho (n3 x)
   ·rename_i ty ho; exact absurd ho (n4 ty none)
   ·rename_i ty m ho; exact absurd ho (n6 ty m)
   ·rename_i x y ty ty' ho; exact absurd ho (n5 _ _)
   ·rfl
theorem opL_call{P:Program}{md:Md}{orc:Orc}{n:Nat}{all:List Oper}{o:Oper}{s:S}{r:RM (FuncId × List PV)}(h:kd P md n all o = .call r):opL P md orc n all o s=callR orc o r s:=by
 unfold kd at h
 unfold opL
 split at h
 ·rename_i r' hc
  injection h with h
  rw [hc,h]
 ·split at h <;> first | (cases h; done) | (split at h <;> cases h)
theorem opL_frz{P:Program}{md:Md}{orc:Orc}{n:Nat}{all:List Oper}{o:Oper}{s:S}{l:List Operand}{r:RM (List Wr)}(h:kd P md n all o = .frz l r):opL P md orc n all o s=actR P md.ro n all o s/\r=act P md.ro n all o:=by
 unfold kd at h
 unfold opL
 split at h
 ·cases h
 ·rename_i hc
  rw [hc]
  simp only
  split at h <;> first | (cases h; done) | (split at h <;> cases h; done) | skip
  rename_i g fs cs ho
  injection h with h1 h2
  rw [ho]
  exact ⟨rfl,h2.symm⟩
theorem opR_eq{P:Program}{md:Md}{orc:Orc}{n:Nat}{all:List Oper}{o:Oper}{s t:S}{pe:PExit}(h:opR P md orc n all o s=some (pe,t)):∃l s',opL P md orc n all o (frzA s l)=some (pe,s')/\Eqv s' t:=by
 unfold opR at h
 split at h
 ·rename_i r hr
  refine ⟨[],?_⟩
  rw [show frzA s []=s from rfl,opL_call hr]
  unfold callRR at h
  unfold callR
  rw [runR_eq] at h
  cases hrun:r.run s with
  | none=>rw [hrun] at h; cases h
  | some fa=>
   obtain ⟨f,args⟩:=fa
   rw [hrun] at h
   simp only at h ⊢
   cases ho:orc f args s.ext with
   | none=>rw [ho] at h; cases h
   | some re=>
    obtain ⟨r1,e1⟩:=re
    rw [ho] at h
    cases r1 with
    | ret p=>simp only [Option.some.injEq,Prod.mk.injEq] at h; obtain ⟨rfl,rfl⟩:=h; exact ⟨_,rfl,set_eqv _ _ _ _⟩
    | own te z es=>simp only [Option.some.injEq,Prod.mk.injEq] at h; obtain ⟨rfl,rfl⟩:=h; exact ⟨_,rfl,set_eqv _ _ _ _⟩
    | panic p=>simp only [Option.some.injEq,Prod.mk.injEq] at h; obtain ⟨rfl,rfl⟩:=h; exact ⟨_,rfl,Eqv.refl _⟩
 ·rename_i r hr
  obtain ⟨h1,rfl⟩:=opL_act (orc:=orc) (s:=s) hr
  refine ⟨[],?_⟩
  rw [show frzA s []=s from rfl,h1]
  unfold actR
  rw [runR_eq] at h
  cases hrun:(act P md.ro n all o).run s with
  | none=>rw [hrun] at h; cases h
  | some wr=>
   rw [hrun] at h
   simp only [Option.some.injEq,Prod.mk.injEq] at h
   obtain ⟨rfl,rfl⟩:=h
   exact ⟨_,rfl,wrs_eqv wr (Eqv.refl s)⟩
 ·rename_i l r hr
  obtain ⟨h1,rfl⟩:=opL_frz (orc:=orc) (s:=frzA s l) hr
  refine ⟨l,?_⟩
  rw [h1]
  unfold actR
  rw [runR_eq] at h
  cases hrun:(act P md.ro n all o).run (frzA s l) with
  | none=>rw [hrun] at h; cases h
  | some wr=>
   rw [hrun] at h
   simp only [Option.some.injEq,Prod.mk.injEq] at h
   obtain ⟨rfl,rfl⟩:=h
   exact ⟨_,rfl,wrs_eqv wr (Eqv.refl _)⟩
 ·exact ⟨[],t,h,Eqv.refl t⟩
section
variable {P:Program} {cx:Cx} {s s':S} {Q:PExit->S->Prop} {K:S->Prop} {o:Oper} {pe:PExit} {md:Md} {orc:Orc} {all:List Oper} {fl:Nat}
theorem opR_sound(horc:OrcOK P orc)(hd:∀d,o.dst=some d->d<cx.n)(h:opR P md orc cx.n all o s=some (pe,s'))(hk:thenQ K Q pe s'):OpK P cx s o K Q:=by
 obtain ⟨l,s1,h1,h2⟩:=opR_eq h
 refine OpK_eqv (OpK.frz (l:=l) (opL_sound horc hd h1 ?_))
 cases pe with
 | normal=>exact ⟨s',hk,h2⟩
 | exit _=>exact ⟨s',hk,h2⟩
 | ret=>exact ⟨s',hk,h2⟩
 | panic _=>exact ⟨s',hk,h2⟩
noncomputable def wantR (all:List Oper) (o:Oper) (s:S):Option Bool:=match o.guard with
 | none=>some true
 | some (j,want)=>match (all[j]?).bind (·.dst) with
  | some dj=>match lkR s.tmps dj with
   | some lv=>wantP want lv
   | none=>none
  | none=>none
theorem wantR_eq:wantR all o s=wantS all o s:=by
 unfold wantR wantS
 cases o.guard with
 | none=>rfl
 | some jw=>
  obtain ⟨j,want⟩:=jw
  simp only
  cases (all[j]?).bind (·.dst) with
  | none=>rfl
  | some dj=>
   simp only [lkR_eq]
   cases lk s.tmps dj <;> rfl
noncomputable def skipR (s:S) (o:Oper):S:=match o.dst with
 | some d=>⟨(d,.v (.tup []))::s.tmps,s.boxes,s.ext⟩
 | none=>s
theorem skip_eqv:Eqv (s.skip o) (skipR s o):=by
 unfold S.skip skipR
 cases o.dst with
 | none=>exact Eqv.refl s
 | some d=>exact ⟨lk_cons_put (fun _=>rfl) _ _,fun _=>rfl,rfl⟩
noncomputable def evLR (P:Program) (md:Md) (orc:Orc) (n:Nat) (all:List Oper) (ls:List Oper):S->Option (PExit × S):=
 List.rec (motive:=fun _=>S->Option (PExit × S)) (fun s=>some (.normal,s)) (fun o _ ih s=>match wantR all o s with
  | some true=>(match opR P md orc n all o s with
   | some (.normal,s')=>ih s'
   | r=>r)
  | some false=>ih (skipR s o)
  | none=>none) ls
theorem evLR_nil:evLR P md orc cx.n all [] s=some (.normal,s):=rfl
theorem evLR_cons{n:Nat}{rest:List Oper}:evLR P md orc n all (o::rest) s=match wantR all o s with
  | some true=>(match opR P md orc n all o s with
   | some (.normal,s')=>evLR P md orc n all rest s'
   | r=>r)
  | some false=>evLR P md orc n all rest (skipR s o)
  | none=>none:=rfl
theorem evLR_sound(horc:OrcOK P orc)(hall:dstOK cx.n all=true):∀ {ls:List Oper} {s:S},(∀o∈ls,o∈all)->evLR P md orc cx.n all ls s=some (pe,s')->Q pe s'->PL P cx all.toArray ls s Q
 | [],s,_,h,hq=>by
  rw [evLR_nil] at h
  simp only [Option.some.injEq,Prod.mk.injEq] at h
  obtain ⟨rfl,rfl⟩:=h
  exact PL_nil hq
 | o::rest,s,hm,h,hq=>by
  have hd:∀d,o.dst=some d->d<cx.n:=dstOK_mem hall (hm o sM)
  have hm':∀o∈rest,o∈all:=fun o ho=>hm o (List.mem_cons_of_mem _ ho)
  intro g l a w hs
  rw [evLR_cons] at h
  split at h
  ·rename_i hw
   have hwant:=wantS_sound hall (wantR_eq ▸ hw) hs
   refine wpList_step fun K hK=>?_
   rw [iP hwant]
   split at h
   ·rename_i s1 h1
    refine upon_mono ?_ (opR_sound (Q:=Q) (K:=fun s'=>PL P cx all.toArray rest s' Q) horc hd h1 (evLR_sound horc hall hm' h hq) g l a w hs)
    rintro a' w' ⟨s',g',l',hp,sm⟩
    exact hK _ _ (hp g' l' a' w' sm)
   ·rename_i hne
    refine upon_mono ?_ (opR_sound (Q:=Q) (K:=fun s'=>PL P cx all.toArray rest s' Q) horc hd h (by
     cases pe with
     | normal=>exact absurd h (hne _)
     | _=>exact hq) g l a w hs)
    rintro a' w' ⟨s',g',l',hp,sm⟩
    exact hK _ _ (hp g' l' a' w' sm)
  ·rename_i hw
   have hwant:=wantS_sound hall (wantR_eq ▸ hw) hs
   refine wpList_step fun K hK=>?_
   rw [iN (by rw [hwant]; simp)]
   refine hK _ _ (evLR_sound horc hall hm' h hq g l _ w (Sim.eqv ?_ skip_eqv))
   cases hdd:o.dst with
   | none=>simp only [S.skip,hdd,Act.put]; exact hs
   | some d=>
    simp only [S.skip,hdd]
    exact hs.set (hd d hdd) (.tup [] [] rfl fun j h=>by simp at h)
  ·cases h
def fzC:LV->LV
 | .uniq e z es=>if e<1000000 then .v (.sl z es) else .uniq e z es
 | lv=>lv
theorem fzC_wl(x:LV):WL (fzC x) x:=by
 cases x <;> first | exact .inl rfl | skip
 rename_i e z es
 by_cases h:e<1000000
 ·rw [show fzC (.uniq e z es) = .v (.sl z es) from iP h]; exact .inr ⟨rfl,wlE h⟩
 ·rw [show fzC (.uniq e z es) = .uniq e z es from iN h]; exact .inl rfl
theorem fzC_wls:∀cs:List LV,WLs (cs.map fzC) cs
 | []=>trivial
 | x::r=>⟨fzC_wl x,fzC_wls r⟩
def frzX:Ext->Ext
 | []=>[]
 | (k,cs)::r=>(k,cs.map fzC)::frzX r
theorem frzX_lk:∀ (e:Ext) (x:Nat),lk (frzX e) x=(lk e x).map (·.map fzC)
 | [],_=>rfl
 | (k,cs)::r,x=>by
  simp only [frzX,lk]
  split
  ·rfl
  ·exact frzX_lk r x
theorem frzX_cnt:∀e:Ext,cnt (frzX e)=cnt e
 | []=>rfl
 | (k,cs)::r=>by simp only [frzX,cnt,frzX_cnt r]
theorem Sim.frzX{cx:Cx}{s:S}{g:Gh}{l:LG}{a:Act}{w:World}(h:Sim cx s g l a w):Sim cx { s with ext:=Pv.frzX s.ext } g l a w where
 hist:=h.hist
 size:=h.size
 defers:=h.defers
 tm:=h.tm
 bx:=h.bx
 ex k v hk:=by
  rw [frzX_lk] at hk
  cases hu:lk s.ext k with
  | none=>rw [hu] at hk; cases hk
  | some u=>
   rw [hu] at hk
   injection hk with hk
   subst hk
   obtain ⟨b,h1,h2,h3⟩:=h.ex k u hu
   exact ⟨b,h1.le (fzC_wls u),h2,h3.le (fzC_wls u)⟩
 own:=h.own
 uo:=h.uo
 fresh:=⟨h.fresh.1,fun n hn=>h.fresh.2.1 n (by rw [<-frzX_cnt]; exact hn),fun n c hn=>h.fresh.2.2 n c (by rw [<-frzX_cnt]; exact hn)⟩
 xlt:=h.xlt
noncomputable def evRR (P:Program) (md:Md) (orc:Orc) (n:Nat) (ops:List Oper) (draw:Bool) (s:S):Option (PExit × S):=match draw with
 | false=>evLR P md orc n ops ops s
 | true=>match evR P md orc n ops true s with
  | some r=>some r
  | none=>evR P md orc n ops true { s with ext:=frzX s.ext }
theorem evRR_sound{id:Nat}{ops:Array Oper}{draw:Bool}(horc:OrcOK P orc)(hm:P.follows .mixedOrders=true)(hall:dstOK cx.n ops.toList=true)(h:evRR P md orc cx.n ops.toList draw s=some (pe,s'))(hq:Q pe s'):PW P cx (.region id ops draw) s Q:=by
 cases draw with
 | false=>
  obtain ⟨ops⟩:=ops
  exact fun g l a w hs=>wp_region_lit (evLR_sound horc hall (fun _ h=>h) h hq g l a w hs)
 | true=>
  simp only [evRR] at h
  split at h
  ·rename_i r hr
   injection h with h
   subst h
   exact evR_sound horc hm hall hr hq
  ·exact fun g l a w hs=>evR_sound horc hm hall h hq g l a w hs.frzX
noncomputable def loopR (body:S->Option (PExit × S)) (n:Nat):S->Option (PExit × S):=
 Nat.rec (motive:=fun _=>S->Option (PExit × S)) (fun _=>none) (fun _ ih s=>match body s with
  | some (.normal,s')=>ih s'
  | r=>r) n
theorem loopR_eq{body:S->Option (PExit × S)}:∀ (n:Nat) (s:S),loopR body n s=loopN body n s
 | 0,s=>rfl
 | n+1,s=>by
  show (match body s with
   | some (.normal,s')=>loopR body n s'
   | r=>r)=_
  simp only [loopN]
  cases hb:body s with
  | none=>rfl
  | some r=>
   obtain ⟨pe,s'⟩:=r
   cases pe <;> first | exact loopR_eq n s' | rfl
noncomputable def evCR (P:Program) (md:Md) (orc:Orc) (n fl:Nat) (c:Code):S->Option (PExit × S):=
 Code.rec (motive:=fun _=>S->Option (PExit × S))
  (fun s=>some (.normal,s))
  (fun _ ops draw s=>evRR P md orc n ops.toList draw s)
  (fun _ _ iha ihb s=>match iha s with
   | some (.normal,s')=>ihb s'
   | r=>r)
  (fun c _ _ ihx ihy s=>match c with
   | .tmp t=>(match lkR s.tmps t with
    | some (.v (.bool true))=>ihx s
    | some (.v (.bool false))=>ihy s
    | _=>none)
   | _=>none)
  (fun id _ ih s=>match ih s with
   | some (.exit id',s')=>bif Nat.beq id' id then some (.normal,s') else some (.exit id',s')
   | r=>r)
  (fun _ ih s=>loopR ih fl s)
  (fun _ _ _ _ _ _ _=>none)
  (fun id s=>some (.exit id,s))
  (fun _ _ _=>none)
  (fun _ _=>none)
  (fun _ _=>none)
  (fun s=>some (.ret,s))
  (fun _ _=>none) c
theorem evCR_sound(horc:OrcOK P orc)(hm:P.follows .mixedOrders=true):∀ (c:Code) {s s':S} {pe:PExit} {Q:PExit->S->Prop},codeOK cx.n c=true->evCR P md orc cx.n fl c s=some (pe,s')->Q pe s'->PW P cx c s Q
 | .skip,s,s',pe,Q,_,h,hq=>by
  have h:some (PExit.normal,s)=some (pe,s'):=h
  simp only [Option.some.injEq,Prod.mk.injEq] at h
  obtain ⟨rfl,rfl⟩:=h
  exact PW_skip hq
 | .region _ ops draw,s,s',pe,Q,hc,h,hq=>evRR_sound horc hm hc h hq
 | .seq a b,s,s',pe,Q,hc,h,hq=>by
  simp only [codeOK,Bool.and_eq_true] at hc
  have h:(match evCR P md orc cx.n fl a s with
   | some (.normal,s')=>evCR P md orc cx.n fl b s'
   | r=>r)=some (pe,s'):=h
  refine PW_seq ?_
  split at h
  ·rename_i s1 h1
   exact evCR_sound horc hm a hc.1 h1 (evCR_sound horc hm b hc.2 h hq)
  ·rename_i hne
   refine evCR_sound horc hm a hc.1 h ?_
   cases pe with
   | normal=>exact absurd h (hne _)
   | _=>exact hq
 | .cond x a b,s,s',pe,Q,hc,h,hq=>by
  simp only [codeOK,Bool.and_eq_true] at hc
  cases x with
  | tmp t=>
   have h:(match lkR s.tmps t with
    | some (.v (.bool true))=>evCR P md orc cx.n fl a s
    | some (.v (.bool false))=>evCR P md orc cx.n fl b s
    | _=>none)=some (pe,s'):=h
   rw [lkR_eq] at h
   split at h
   ·rename_i ht
    exact PW_cond ht (fun _=>evCR_sound horc hm a hc.1 h hq) (fun e=>by cases e)
   ·rename_i ht
    exact PW_cond ht (fun e=>by cases e) (fun _=>evCR_sound horc hm b hc.2 h hq)
   ·cases h
  | const _=>exact nomatch (show none=some (pe,s') from h)
  | global _=>exact nomatch (show none=some (pe,s') from h)
  | func _=>exact nomatch (show none=some (pe,s') from h)
 | .block id c,s,s',pe,Q,hc,h,hq=>by
  simp only [codeOK] at hc
  have h:(match evCR P md orc cx.n fl c s with
   | some (.exit id',s')=>bif Nat.beq id' id then some (.normal,s') else some (.exit id',s')
   | r=>r)=some (pe,s'):=h
  refine PW_block ?_
  split at h
  ·rename_i id' s1 h1
   refine evCR_sound horc hm c hc h1 ?_
   simp only [blockQ]
   cases hb:Nat.beq id' id with
   | true=>
    rw [hb] at h
    simp only [cond_true,Option.some.injEq,Prod.mk.injEq] at h
    obtain ⟨rfl,rfl⟩:=h
    rw [iP (Nat.eq_of_beq_eq_true hb)]
    exact hq
   | false=>
    rw [hb] at h
    simp only [cond_false,Option.some.injEq,Prod.mk.injEq] at h
    obtain ⟨rfl,rfl⟩:=h
    rw [iN (fun e=>by subst e; rw [Nat.beq_refl] at hb; cases hb)]
    exact hq
  ·rename_i hne
   refine evCR_sound horc hm c hc h ?_
   cases pe with
   | exit i=>exact absurd h (hne _ _)
   | _=>exact hq
 | .loop c,s,s',pe,Q,hc,h,hq=>by
  simp only [codeOK] at hc
  have h:loopR (evCR P md orc cx.n fl c) fl s=some (pe,s'):=h
  rw [loopR_eq] at h
  exact loopN_sound (fun h hq=>evCR_sound horc hm c hc h hq) h hq
 | .exit id,s,s',pe,Q,_,h,hq=>by
  have h:some (PExit.exit id,s)=some (pe,s'):=h
  simp only [Option.some.injEq,Prod.mk.injEq] at h
  obtain ⟨rfl,rfl⟩:=h
  exact PW_exit hq
 | .ret,s,s',pe,Q,_,h,hq=>by
  have h:some (PExit.ret,s)=some (pe,s'):=h
  simp only [Option.some.injEq,Prod.mk.injEq] at h
  obtain ⟨rfl,rfl⟩:=h
  exact PW_ret hq
 | .rangeFunc _ _ _ _,s,s',pe,_,_,h,_=>nomatch (show none=some (pe,s') from h)
 | .scope _,s,s',pe,_,_,h,_=>nomatch (show none=some (pe,s') from h)
 | .label _,s,s',pe,_,_,h,_=>nomatch (show none=some (pe,s') from h)
 | .goto _,s,s',pe,_,_,h,_=>nomatch (show none=some (pe,s') from h)
 | .refuse _,s,s',pe,_,_,h,_=>nomatch (show none=some (pe,s') from h)
noncomputable def evFnR (P:Program) (md:Md) (orc:Orc) (dfr:Dfr) (fl:Nat) (fn:Func) (args:List PV) (e:Ext):Option (CRes × Ext):=match fn.body with
 | none=>none
 | some c=>match shape c with
  | .plain=>bif Nat.ble args.length fn.ntmps then (match evCR P md orc fn.ntmps fl c (enterS args e) with
   | some (pe,s)=>endV P fn.results.toList pe s
   | none=>none) else none
  | _=>evFn P md orc dfr fl fn args e
theorem evFnR_sound{dfr:Dfr}{f:FuncId}{fn:Func}{args:List PV}{e e':Ext}{r:CRes}(horc:OrcOK P orc)(hdfr:DfrOK P dfr)(hm:P.follows .mixedOrders=true)(hf:P.funcs[f]?=some fn)(hok:fnOK fn=true)(h:evFnR P md orc dfr fl fn args e=some (r,e')):CallC P f args e fun r1 e1=>r1=r/\e1=e':=by
 unfold evFnR at h
 split at h
 ·cases h
 ·rename_i c hb
  split at h
  ·cases hn:Nat.ble args.length fn.ntmps with
   | false=>rw [hn] at h; cases h
   | true=>
    rw [hn] at h
    simp only [cond_true] at h
    split at h
    ·rename_i pe s he
     unfold fnOK at hok
     rw [hb] at hok
     simp only at hok
     refine CallC.enter hf hb (Nat.le_of_ble_eq_true hn) fun cx hcx hds=>?_
     rw [<-hcx] at hok he
     exact evCR_sound horc hm c hok he (endV_sound h)
    ·cases h
  ·exact evFn_sound horc hdfr hm hf hok h
noncomputable def evFR (P:Program) (md:FuncId->Md) (fl:Nat) (d:Nat):Orc × Dfr:=
 Nat.rec (motive:=fun _=>Orc × Dfr) (fun _ _ _=>none,fun _ _ _ _=>none)
  (fun _ ih=>(fun f args e=>match okFn P f with
   | true=>(match P.funcs[f]? with
    | some fn=>evFnR P (md f) ih.1 ih.2 fl fn args e
    | none=>none)
   | false=>none,fun f args e m=>match okFn P f with
   | true=>(match P.funcs[f]? with
    | some fn=>evGn P (md f) ih.1 fl fn args e m
    | none=>none)
   | false=>none)) d
theorem evFR_sound{md:FuncId->Md}(hm:P.follows .mixedOrders=true):∀d,OrcOK P (evFR P md fl d).1/\DfrOK P (evFR P md fl d).2
 | 0=>⟨fun f args e r e' h=>(nomatch (show none=some (r,e') from h)),fun f args e m m' e' h=>(nomatch (show none=some (m',e') from h))⟩
 | d+1=>by
  have ih:=evFR_sound (md:=md) hm d
  refine ⟨fun f args e r e' h=>?_,fun f args e m m' e' h=>?_⟩
  ·have h:(match okFn P f with
    | true=>(match P.funcs[f]? with
     | some fn=>evFnR P (md f) (evFR P md fl d).1 (evFR P md fl d).2 fl fn args e
     | none=>none)
    | false=>none)=some (r,e'):=h
   split at h
   ·rename_i ho
    split at h
    ·rename_i fn hf
     simp only [okFn,hf,Bool.and_eq_true] at ho
     exact ⟨ho.1,evFnR_sound ih.1 ih.2 hm hf ho.2 h⟩
    ·cases h
   ·cases h
  ·have h:(match okFn P f with
    | true=>(match P.funcs[f]? with
     | some fn=>evGn P (md f) (evFR P md fl d).1 fl fn args e m
     | none=>none)
    | false=>none)=some (m',e'):=h
   split at h
   ·rename_i ho
    split at h
    ·rename_i fn hf
     simp only [okFn,hf,Bool.and_eq_true] at ho
     exact ⟨ho.1,evGn_sound ih.1 hm hf ho.2 h⟩
    ·cases h
   ·cases h
end
end Go.Pv
