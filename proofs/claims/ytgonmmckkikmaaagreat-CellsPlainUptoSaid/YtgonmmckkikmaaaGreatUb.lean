/- Values of Go as plain data, an evaluator over them, and what the functions of the program return; part b. -/
import Derived.Test.YtgonmmckkikmaaaGreatXv
import Derived.Test.YtgonmmckkikmaaaGreatXu
import Derived.Test.YtgonmmckkikmaaaGreatUa
import Derived.Test.YtgonmmckkikmaaaGreatXp
import Derived.Test.YtgonmmckkikmaaaGreatXw
set_option linter.unusedSectionVars false
set_option linter.unusedSimpArgs false
set_option linter.unusedVariables false
namespace Go.Proofs.YtgonmmckkikmaaaGreat
open Go.Pv Tryz
theorem qKids_eq(op:Int)(kids:List Ex):qKids_r0 op kids=eRight_r0 op kids:=by
 have h:op<1∨26<op∨op=1∨op=2∨op=3∨op=4∨op=5∨op=6∨op=7∨op=8∨op=9∨op=10∨op=11∨op=12∨op=13∨op=14∨op=15∨op=16∨op=17∨op=18∨op=19∨op=20∨op=21∨op=22∨op=23∨op=24∨op=25∨op=26:=by omega
 rcases h with h | h | rfl | rfl | rfl | rfl | rfl | rfl | rfl | rfl | rfl | rfl | rfl | rfl | rfl | rfl | rfl | rfl | rfl | rfl | rfl | rfl | rfl | rfl | rfl | rfl | rfl | rfl
 ·unfold qKids_r0 eRight_r0
  simp only [show ¬op=1 by omega,show ¬op=2 by omega,show ¬op=3 by omega,show ¬op=4 by omega,show ¬op=5 by omega,show ¬op=6 by omega,show ¬op=7 by omega,show ¬op=8 by omega,show ¬op=9 by omega,show ¬op=10 by omega,show ¬op=11 by omega,show ¬op=12 by omega,show ¬op=13 by omega,show ¬op=14 by omega,show ¬op=15 by omega,show ¬op=16 by omega,show ¬op=17 by omega,show ¬op=18 by omega,show ¬op=19 by omega,show ¬op=20 by omega,show ¬op=21 by omega,show ¬op=22 by omega,show ¬op=23 by omega,show ¬op=24 by omega,show ¬op=25 by omega,show ¬op=26 by omega,show ¬op>=1 by omega,if_false]
  try (split <;> rfl)
 ·unfold qKids_r0 eRight_r0
  simp only [show ¬op=1 by omega,show ¬op=2 by omega,show ¬op=3 by omega,show ¬op=4 by omega,show ¬op=5 by omega,show ¬op=6 by omega,show ¬op=7 by omega,show ¬op=8 by omega,show ¬op=9 by omega,show ¬op=10 by omega,show ¬op=11 by omega,show ¬op=12 by omega,show ¬op=13 by omega,show ¬op=14 by omega,show ¬op=15 by omega,show ¬op=16 by omega,show ¬op=17 by omega,show ¬op=18 by omega,show ¬op=19 by omega,show ¬op=20 by omega,show ¬op=21 by omega,show ¬op=22 by omega,show ¬op=23 by omega,show ¬op=24 by omega,show ¬op=25 by omega,show ¬op=26 by omega,show op>=1 by omega,show ¬op<=26 by omega,if_false,if_true]
  try (split <;> rfl)
 all_goals rfl
theorem rq{x:Ex}(h:rt x):qKids_r0 (exO x) (exK x)=true:=by rw [qKids_eq]; exact h
theorem qwi_bnds(vs:List Vl):∀ (ns:List BA) (i:Nat) (out:List Bd),qwi_f vs ns i out=(bnds ns (vs.drop i) out.reverse).reverse
 | [],i,out=>by rw [qwi_f,bnds]; simp; simp
 | n::r,i,out=>by
  rw [qwi_f]
  by_cases h:i<vs.length
  ·rw [iP oM,qwi_bnds vs r,drop_at h,bnds]
   simp
  ·rw [iN oM,List.drop_eq_nil_of_le oM,bnds]
   ·simp
   ·simp
theorem qWithT(env:List Bd)(ns:List BA)(vs:List Vl)(he:env.length<=1000000000)(hn:ns.length<=1000000000):Pu 146 [.sl 8 (Bd.cs env.reverse),.sl 1 (nmsC ns),.sl 7 (Vl.cs vs)] (.ret (.sl 8 (Bd.cs (bnds ns vs env).reverse))):=by
 have z:=qWith env.reverse ns vs (by rw [List.length_reverse]; exact he) hn
 rw [qwi_bnds] at z
 simpa using z
theorem qWith1(env:List Bd)(n:BA)(v:Vl)(he:env.length<=1000000000):Pu 146 [.sl 8 (Bd.cs env.reverse),.sl 1 [[.str n]],.sl 7 [vlL v]] (.ret (.sl 8 (Bd.cs (Bd.mk n v::env).reverse))):=by
 have z:=qWithT env [n] [v] he sM
 rw [show Vl.cs [v]=[vlL v] by simp [Vl.cs_eq],show nmsC [n]=[[.str n]] from rfl,show bnds [n] [v] env=Bd.mk n v::env by simp [bnds]] at z
 exact z
def cQ1(op:Int)(a:Vl)(st:St):Except Int (Vl × St):=
 if op=15 then (if vlO a=1 then (if rSub_r1 0 (vlN a)=false then .error 25 else .ok (vX 1 (rSub_r0 0 (vlN a)),st)) else .error 19)
 else if op=21 then (if vlO a=2 then .ok (vX 2 (qTruth_r0 (vlN a==0)),st) else .error 19)
 else if op=22 then (if vlO a=1 then .ok (vX 4 st.s.length,{ st with s:=st.s++[vlN a] }) else .error 19)
 else (if vlO a=4 then .ok (vX 1 (st.s.getD (vlN a).toNat 0),st) else .error 19)
def cQ2(op:Int)(a b:Vl)(st:St):Except Int (Vl × St):=
 if op=24 then (if vlO a=4 then (if vlO b=1 then .ok (a,{ st with s:=st.s.set (vlN a).toNat (vlN b),w:=st.w+1 }) else .error 19) else .error 19)
 else if op=16 then (if vlO a=vlO b then (if vlO a=1 then .ok (vX 2 (qTruth_r0 (vlN a==vlN b)),st) else if vlO a=2 then .ok (vX 2 (qTruth_r0 (vlN a==vlN b)),st) else .error 19) else .error 19)
 else if vlO a=1 then (if vlO b=1 then (if qArith_r0 op (vlN a) (vlN b)=0 then .ok (vX (qArith_r1 op (vlN a) (vlN b)) (qArith_r2 op (vlN a) (vlN b)),st) else .error (qArith_r0 op (vlN a) (vlN b))) else .error 19) else .error 19
def cQ:CSem where
 fr:=freeR
 o1:=cQ1
 o2:=cQ2
theorem qAr_ne(op a b:Int):¬qArith_r1 op a b=4:=by
 unfold qArith_r1 qNumber_r1
 repeat' refine ite_ne ?_ ?_
 all_goals decide
theorem niQ:NiC cQ where
 fr:=freeR_len
 o1 op a st v st' h:=by
  simp only [cQ,cQ1] at h
  repeat' split at h
  all_goals first
   | cases h; done
   | skip
  all_goals
   injection h with h
   injection h with h1 h2
   subst h1 h2
  ·exact ⟨rfl,Nat.le_refl _,by omega,rfl,SmV_vX _ _,CeV_vX _ dD⟩
  ·exact ⟨rfl,Nat.le_refl _,by omega,rfl,SmV_vX _ _,CeV_vX _ dD⟩
  ·refine ⟨rfl,by simp,by simp,rfl,SmV_vX _ _,?_⟩
   rw [CeV]
   refine ⟨fun _=>?_,by simp,CeVs_nil,CeBs_nil⟩
   simp only [List.length_append,List.length_cons,List.length_nil]
   omega
  ·exact ⟨rfl,Nat.le_refl _,by omega,rfl,SmV_vX _ _,CeV_vX _ dD⟩
 o2 op a b st v st' h:=by
  simp only [cQ,cQ2] at h
  repeat' split at h
  all_goals first
   | cases h; done
   | skip
  all_goals
   injection h with h
   injection h with h1 h2
   subst h1 h2
  ·exact ⟨rfl,by simp,by simp only; omega,by simp only; omega,fun z=>z,fun z=>z⟩
  ·exact ⟨rfl,rfl,Int.le_refl _,by omega,fun _=>SmV_vX _ _,fun _=>CeV_vX _ dD⟩
  ·exact ⟨rfl,rfl,Int.le_refl _,by omega,fun _=>SmV_vX _ _,fun _=>CeV_vX _ dD⟩
  ·exact ⟨rfl,rfl,Int.le_refl _,by omega,fun _=>SmV_vX _ _,fun _=>CeV_vX _ (qAr_ne _ _ _)⟩
structure Qs where
 n:Int
 wh:BA
 sp:PV
 wz:Int
 bg:Bool
 x:Ext
def QR(a:Qs)(st:St)(wh:BA):Prop:=a.n=st.n/\a.wh=wh/\a.wz=st.w/\((st.s=[]/\a.sp = .nilsl/\a.x=[])∨∃c,a.sp = .ysl 0 c st.s.length/\a.x=[(0,[.row c st.s])])
section
variable (cK:C5) (l:List Df) (fu:Int)
abbrev qQ(f:Nat)(args:List PV)(a:Qs)(e:Int)(b:Qs)(v:Vl):Prop:=qR cK l fu f args a.n a.wh a.sp a.wz a.bg a.x b.n b.wh e b.sp b.wz b.bg v b.x
abbrev evQ(env:List Bd)(x:Ex):List PV:=[.sl 8 (Bd.cs env),.agg (exL x)]
def RfQ(f:Nat)(args:List PV)(st:St)(wh:BA):Co->Prop
 | .ok vs st'=>∀v,vs=[v]->∀a,QR a st wh->∃b,QR b st' wh/\qQ cK l fu f args a 0 b v
 | .er k st' wh'=>¬k=0/\∀a,QR a st wh->∃v b,QR b st' wh'/\qQ cK l fu f args a k b v
theorem RfQ.pass{f f':Nat}{args args':List PV}{st:St}{wh:BA}{o:Co}(h:RfQ cK l fu f args st wh o)(p:∀a e b v,QR a st wh->qQ cK l fu f args a e b v->qQ cK l fu f' args' a e b v):RfQ cK l fu f' args' st wh o:=by
 cases o with
 | ok vs st'=>
  intro v hv a ha
  obtain ⟨b,hb,hx⟩:=h v hv a ha
  exact ⟨b,hb,p a 0 b v ha hx⟩
 | er k st' wh'=>
  refine ⟨h.1,fun a ha=>?_⟩
  obtain ⟨v,b,hb,hx⟩:=h.2 a ha
  exact ⟨v,b,hb,p a k b v ha hx⟩
theorem RfQ.then{f f':Nat}{args args':List PV}{st st1:St}{wh:BA}{o:Co}{R:Qs->Qs->Prop}(h1:∀a,QR a st wh->∃b,QR b st1 wh/\R a b)(h:RfQ cK l fu f args st1 wh o)(p:∀a b e c v,R a b->qQ cK l fu f args b e c v->qQ cK l fu f' args' a e c v):RfQ cK l fu f' args' st wh o:=by
 cases o with
 | ok vs st'=>
  intro v hv a ha
  obtain ⟨b,hb,hr⟩:=h1 a ha
  obtain ⟨c,hc,hx⟩:=h v hv b hb
  exact ⟨c,hc,p a b 0 c v hr hx⟩
 | er k st' wh'=>
  refine ⟨h.1,fun a ha=>?_⟩
  obtain ⟨b,hb,hr⟩:=h1 a ha
  obtain ⟨v,c,hc,hx⟩:=h.2 b hb
  exact ⟨v,c,hc,p a b k c v hr hx⟩
theorem RfQ.one{f:Nat}{args:List PV}{st st1:St}{wh:BA}{v:Vl}(h:∀a,QR a st wh->∃b,QR b st1 wh/\qQ cK l fu f args a 0 b v):RfQ cK l fu f args st wh (.ok [v] st1):=fun w hw a ha=>by
 injection hw with h1 h2
 subst h1
 exact h a ha
theorem RfQ.fail{f:Nat}{args:List PV}{st st1:St}{wh wh1:BA}{k:Int}{v:Vl}(hk:¬k=0)(h:∀a,QR a st wh->∃b,QR b st1 wh1/\qQ cK l fu f args a k b v):RfQ cK l fu f args st wh (.er k st1 wh1):=⟨hk,fun a ha=>⟨v,h a ha⟩⟩
def LcO(env:List Bd):List Ex->Qs->List Vl->Qs->Prop
 | [],a,vs,b=>vs=[]/\a=b
 | x::xs,a,vs,c=>∃v b vs',qQ cK l fu 162 (evQ env x) a 0 b v/\LcO env xs b vs' c/\vs=v::vs'
def LcE(env:List Bd):List Ex->Qs->Int->Qs->Prop
 | [],_,_,_=>False
 | x::xs,a,k,c=>(∃v,qQ cK l fu 162 (evQ env x) a k c v)∨∃v b,qQ cK l fu 162 (evQ env x) a 0 b v/\LcE env xs b k c
abbrev qQL(args:List PV)(a:Qs)(e:Int)(b:Qs)(vs:List Vl):Prop:=qL cK l fu 174 args a.n a.wh a.sp a.wz a.bg a.x b.n b.wh e b.sp b.wz b.bg vs b.x
abbrev alQ(a:Qs)(env:List Bd)(es:List Ex)(out:List Vl)(i:Int):S:=alI cK l fu a.n a.wh a.sp a.wz a.bg env es out i a.x
abbrev sVQ(a:Qs)(e:Int):List LV:=sV cK l fu a.n a.wh e a.sp a.wz a.bg
theorem lc_ok(env:List Bd)(es:List Ex)(hn:es.length<=1000000000)(a:Qs)(vs:List Vl)(c:Qs)(h:LcO cK l fu env es a vs c):qQL cK l fu [.sl 8 (Bd.cs env),.sl 7 (Ex.cs es)] a 0 c vs:=by
 refine qAllO cK l fu a.n a.wh a.sp a.wz a.bg env es a.x vs c.n c.wh c.sp c.wz c.bg c.x ?_
 have:=Ob.loop_of (P:=prog) (n:=39) (c:=(loopF f174 0)) (α:={ x:Nat × Qs × List Vl × List Vl // x.1<=es.length/\x.2.2.1.length=x.1/\LcO cK l fu env (es.drop x.1) x.2.1 x.2.2.2 c/\x.2.2.1++x.2.2.2=vs })
  (fun x=>alQ cK l fu x.1.2.1 env es x.1.2.2.1 x.1.1) (fun x=>es.length - x.1.1) (fun _=>(.exit 0,⟨[(3,.lp 3 0),(6,.lp 6 0),(8,.uniq 52 7 (Vl.cs vs))],[(3,sVQ cK l fu c 0),(6,jk13)],c.x⟩)) ?_ ⟨(0,a,[],vs),by simp,rfl,by simpa using h,rfl⟩
 ·exact this
 ·rintro ⟨⟨i,e1,out,rest⟩,hi,ho,hli,hvs⟩ cx hcx
  simp only at hi ho hli hvs ⊢
  rcases Nat.lt_or_ge i es.length with hlt | hge
  ·rw [drop_at hlt] at hli
   obtain ⟨v,e2,vs',h1,h4,rfl⟩:=hli
   refine qaT cK l fu e1.n e1.wh e1.sp e1.wz e1.bg env es out i e1.x hlt hn oM e2.n e2.wh e2.sp e2.wz e2.bg v e2.x h1 cx hcx (.inl ⟨rfl,⟨(i+1,e2,out++[v],vs'),hlt,by simp [ho],h4,by simp [<-hvs]⟩,by simp only; omega,⟨⟨W,W,W,W,W,.inl ?_,W,tV⟩,⟨WLs.refl _,WLs.refl _,tV⟩,rfl⟩,tV⟩)
   rw [Vl.cs_app]
   simp only [Vl.cs,Vl.c_eq]
  ·have he:i=es.length:=by omega
   subst he
   rw [List.drop_length] at hli
   obtain ⟨rfl,rfl⟩:=hli
   rw [List.append_nil] at hvs
   subst hvs
   exact qaZ cK l fu e1.n e1.wh e1.sp e1.wz e1.bg env es out e1.x cx hcx (.inr ⟨by simp,rfl,⟨W,W,W,tV⟩,⟨WLs.refl _,WLs.refl _,tV⟩,rfl⟩)
theorem lc_er(env:List Bd)(es:List Ex)(hn:es.length<=1000000000)(a:Qs)(k:Int)(hk:¬k=0)(c:Qs)(h:LcE cK l fu env es a k c):qQL cK l fu [.sl 8 (Bd.cs env),.sl 7 (Ex.cs es)] a k c []:=by
 refine qAllE cK l fu a.n a.wh a.sp a.wz a.bg env es a.x c.n c.wh k c.sp c.wz c.bg c.x ?_
 have:=Ob.loop_of (P:=prog) (n:=39) (c:=(loopF f174 0)) (α:={ x:Nat × Qs × List Vl // x.1<=es.length/\x.2.2.length=x.1/\LcE cK l fu env (es.drop x.1) x.2.1 k c })
  (fun x=>alQ cK l fu x.1.2.1 env es x.1.2.2 x.1.1) (fun x=>es.length - x.1.1) (fun _=>(.ret,⟨[(6,.lp 6 0),(7,.v .nilsl)],[(6,sVQ cK l fu c k)],c.x⟩)) ?_ ⟨(0,a,[]),by simp,rfl,by simpa using h⟩
 ·exact this
 ·rintro ⟨⟨i,e1,out⟩,hi,ho,hli⟩ cx hcx
  simp only at hi ho hli ⊢
  rcases Nat.lt_or_ge i es.length with hlt | hge
  ·rw [drop_at hlt] at hli
   rcases hli with ⟨v,h1⟩ | ⟨v,e2,h1,h4⟩
   ·exact qaF cK l fu e1.n e1.wh e1.sp e1.wz e1.bg env es out i e1.x hlt hn oM c.n c.wh k c.sp c.wz c.bg v c.x h1 hk cx hcx (.inr ⟨by simp,rfl,⟨W,W,tV⟩,⟨WLs.refl _,tV⟩,rfl⟩)
   ·refine qaT cK l fu e1.n e1.wh e1.sp e1.wz e1.bg env es out i e1.x hlt hn oM e2.n e2.wh e2.sp e2.wz e2.bg v e2.x h1 cx hcx (.inl ⟨rfl,⟨(i+1,e2,out++[v]),hlt,by simp [ho],h4⟩,by simp only; omega,⟨⟨W,W,W,W,W,.inl ?_,W,tV⟩,⟨WLs.refl _,WLs.refl _,tV⟩,rfl⟩,tV⟩)
    rw [Vl.cs_app]
    simp only [Vl.cs,Vl.c_eq]
  ·have he:i=es.length:=by omega
   subst he
   rw [List.drop_length] at hli
   exact hli.elim
def RlQ(env:List Bd)(es:List Ex)(st:St)(wh:BA):Co->Prop
 | .ok vs st'=>∀a,QR a st wh->∃b,QR b st' wh/\LcO cK l fu env es a vs b
 | .er k st' wh'=>¬k=0/\∀a,QR a st wh->∃b,QR b st' wh'/\LcE cK l fu env es a k b
theorem qm_loop(st:Qs)(env:List Bd)(x:Ex)(v:Vl)(hn:(exA x).length<=1000000000)(i0:Nat)(hi:i0<=(exA x).length)(pre:∀j,j<i0->¬alC ((exA x).getD j default)=vlNm v)(pe:PExit)(s1:S)
  (fin:∀cx:Cx,cx.n=87->PW prog cx (loopF f179 0) (mtI (sVQ cK l fu st 0) env x v i0 st.x) fun pe' s'=>pe' ≠ .normal/\pe'=pe/\LeX s1 s') :
  (Ob.loop 87 (loopF f179 0) (mtI (sVQ cK l fu st 0) env x v 0 st.x) pe s1).ok prog:=by
 have:=Ob.loop_idx (P:=prog) (n:=87) (c:=(loopF f179 0)) i0 (fun i=>mtI (sVQ cK l fu st 0) env x v i st.x) (fun _=>(pe,s1)) ?_ fin 0 sM
 ·exact this
 ·intro i hlt cx hcx
  exact qmN cK l fu st.n st.wh st.sp st.wz st.bg env x v i st.x oM hn (pre i hlt) cx hcx (.inl ⟨rfl,⟨⟨W,W,W,W,W,W,W,tV⟩,⟨WLs.refl _,WLs.refl _,WLs.refl _,WLs.refl _,WLs.refl _,tV⟩,rfl⟩,rfl⟩)
theorem qm0(st:Qs)(env:List Bd)(x:Ex)(v:Vl)(hn:(exA x).length<=1000000000)(h:findA (vlNm v) (exA x)=none):(Ob.loop 87 (loopF f179 0) (mtI (sVQ cK l fu st 0) env x v 0 st.x) (.exit 0) ⟨[(3,.lp 3 0),(6,.lp 6 0),(7,.lp 7 0)],[(3,sVQ cK l fu st 0),(6,jk13),(7,jk7)],st.x⟩).ok prog:=
 qm_loop cK l fu st env x v hn (exA x).length (Nat.le_refl _) (findA_no h) _ _ fun cx hcx=>qmE cK l fu st.n st.wh st.sp st.wz st.bg env x v st.x cx hcx ⟨by simp,rfl,⟨W,W,W,tV⟩,⟨WLs.refl _,WLs.refl _,WLs.refl _,tV⟩,rfl⟩
theorem qm1(st:Qs)(env:List Bd)(x:Ex)(v:Vl)(hn:(exA x).length<=1000000000)(a:Al)(h:findA (vlNm v) (exA x)=some a)(hl:¬(alNs a).length=(vlK v).length):(Ob.loop 87 (loopF f179 0) (mtI (sVQ cK l fu st 0) env x v 0 st.x) .ret ⟨[(6,.lp 6 0),(7,.lp 7 0)],[(6,sVQ cK l fu st 19),(7,vlV default)],st.x⟩).ok prog:=by
 obtain ⟨i,h1,rfl,h3,h4⟩:=findA_at h
 exact qm_loop cK l fu st env x v hn i oM h4 _ _ fun cx hcx=>qmM cK l fu st.n st.wh st.sp st.wz st.bg env x v i st.x h1 hn h3 hl cx hcx ⟨by simp,rfl,⟨W,W,tV⟩,⟨WLs.refl _,WLs.refl _,tV⟩,rfl⟩
theorem qm2(st:Qs)(env:List Bd)(x:Ex)(v:Vl)(hn:(exA x).length<=1000000000)(a:Al)(h:findA (vlNm v) (exA x)=some a)(hl:(alNs a).length=(vlK v).length)(bs:List Bd)(hw:Pu 146 [.sl 8 (Bd.cs env),.sl 1 (nmsC (alNs a)),.sl 7 (Vl.cs (vlK v))] (.ret (.sl 8 (Bd.cs bs))))(e:Int)(b:Qs)(u:Vl)(hv:qQ cK l fu 162 (evQ bs (alB a)) st e b u):(Ob.loop 87 (loopF f179 0) (mtI (sVQ cK l fu st 0) env x v 0 st.x) .ret ⟨[(6,.lp 6 0),(7,.lp 7 0)],[(6,sVQ cK l fu b e),(7,vlV u)],b.x⟩).ok prog:=by
 obtain ⟨i,h1,rfl,h3,h4⟩:=findA_at h
 exact qm_loop cK l fu st env x v hn i oM h4 _ _ fun cx hcx=>qmT cK l fu st.n st.wh st.sp st.wz st.bg env x v i st.x h1 hn h3 hl bs hw b.n b.wh e b.sp b.wz b.bg u b.x hv cx hcx ⟨by simp,rfl,⟨W,W,tV⟩,⟨WLs.refl _,WLs.refl _,tV⟩,rfl⟩
theorem gro_ok{v:Vl}(hs:SmV v)(a:Qs):∃bg,qQ cK l fu 175 [.agg (vlL v)] a 0 { a with bg:=bg } v:=by
 cases hb:a.bg with
 | true=>have z:=qGroT cK l fu a.n a.wh a.sp a.wz a.bg v hb a.x; exact ⟨true,z⟩
 | false=>have z:=qGroF cK l fu a.n a.wh a.sp a.wz a.bg v hb _ (left_ok (SizeOf.sizeOf v+1) v oM hs 3000) a.x; exact ⟨decide (lfD (SizeOf.sizeOf v+1) v 3000<0),z⟩
theorem made_ok{a:Qs}{st:St}{wh:BA}(h:QR a st wh)(hb:st.s.length<=1000000000)(k:Int):∃b,QR b { st with s:=st.s++[k] } wh/\qQ cK l fu 123 [.int .i64 k] a 0 b (vX 4 st.s.length):=by
 obtain ⟨n,wh1,sp,wz,bg,x⟩:=a
 obtain ⟨h1,h2,h3,⟨hs,h4,h5⟩ | ⟨c,h4,h5⟩⟩:=h
 ·simp only at h1 h2 h3 h4 h5
  subst h4 h5
  refine ⟨⟨n,wh1,.ysl 0 0 1,wz,bg,[(0,[.row 0 [k]])]⟩,⟨h1,h2,h3,.inr ⟨0,?_,?_⟩⟩,?_⟩
  ·simp only [hs]; rfl
  ·simp only [hs]; rfl
  ·rw [hs]; exact qMadeN cK l fu n wh1 wz bg k
 ·simp only at h1 h2 h3 h4 h5
  subst h4 h5
  refine ⟨⟨n,wh1,.ysl 0 (c+1) (st.s.length+1),wz,bg,[(0,[.row (c+1) (st.s++[k])])]⟩,⟨h1,h2,h3,.inr ⟨c+1,?_,rfl⟩⟩,?_⟩
  ·simp only [List.length_append,List.length_cons,List.length_nil]
  ·have z:=qMadeR cK l fu n wh1 wz bg k c st.s hb
   have e1:((↑(List.length st.s+(0+1)):Int) - 1)=st.s.length:=by omega
   rw [e1] at z
   exact z
theorem op1_ok(op:Int)(h1:isOne op)(v:Vl)(st:St)(wh:BA)(hb:st.s.length<=1000000000)(hv:vlO v=4->0<=vlN v/\vlN v<st.s.length)(a:Qs)(ha:QR a st wh) :
  match cQ1 op v st with
  | .ok r=>∃b,QR b r.2 wh/\qQ cK l fu 181 [.int .i64 op,.sl 7 (Vl.cs [v])] a 0 b r.1
  | .error k=>¬k=0/\∃u,qQ cK l fu 181 [.int .i64 op,.sl 7 (Vl.cs [v])] a k a u:=by
 have e0:Vl.cs [v]=[vlL v]:=by simp [Vl.cs_eq]
 rw [e0]
 unfold cQ1
 rcases h1 with rfl | rfl | rfl | rfl
 ·simp only [if_true]
  by_cases hw:vlO v=1
  ·rw [iP hw]
   have z:=qOpNeg_1 cK l fu a.n a.wh a.sp a.wz a.bg v a.x hw
   unfold qNumber_r0 qNumber_r1 qNumber_r2 at z
   by_cases hi:rSub_r1 0 (vlN v)=false
   ·rw [iP hi]
    simp only [iP hi] at z
    exact ⟨by decide,default,z⟩
   ·rw [iN hi]
    simp only [iN hi] at z
    exact ⟨a,ha,z⟩
  ·rw [iN hw]; exact ⟨by decide,default,qOpNeg_2 cK l fu a.n a.wh a.sp a.wz a.bg v a.x hw⟩
 ·simp only [show ¬(21:Int)=15 by decide,if_true,if_false]
  by_cases hw:vlO v=2
  ·rw [iP hw]; exact ⟨a,ha,qOpNot_1 cK l fu a.n a.wh a.sp a.wz a.bg v a.x hw⟩
  ·rw [iN hw]; exact ⟨by decide,default,qOpNot_2 cK l fu a.n a.wh a.sp a.wz a.bg v a.x hw⟩
 ·simp only [show ¬(22:Int)=15 by decide,show ¬(22:Int)=21 by decide,if_true,if_false]
  by_cases hw:vlO v=1
  ·rw [iP hw]
   obtain ⟨b,hb1,hb2⟩:=made_ok cK l fu ha hb (vlN v)
   exact ⟨b,hb1,qOpN cK l fu a.n a.wh a.sp a.wz a.bg v a.x hw b.n b.wh 0 b.sp b.wz b.bg _ b.x hb2⟩
  ·rw [iN hw]; exact ⟨by decide,default,qOpNf cK l fu a.n a.wh a.sp a.wz a.bg v a.x hw⟩
 ·simp only [show ¬(23:Int)=15 by decide,show ¬(23:Int)=21 by decide,show ¬(23:Int)=22 by decide,if_false]
  by_cases hw:vlO v=4
  ·rw [iP hw]
   have hj:=hv hw
   refine ⟨a,ha,?_⟩
   obtain ⟨n,wh1,sp,wz,bg,x⟩:=a
   obtain ⟨h1,h2,h3,⟨hs,h4,h5⟩ | ⟨c,h4,h5⟩⟩:=ha
   ·rw [hs] at hj; simp only [List.length_nil] at hj; omega
   ·simp only at h1 h2 h3 h4 h5
    subst h4 h5
    exact qOpG cK l fu n wh1 wz bg v c st.s hw hj
  ·rw [iN hw]; exact ⟨by decide,default,qOpGf cK l fu a.n a.wh a.sp a.wz a.bg v a.x hw⟩
theorem op2_ok(op:Int)(h1:isTwo op)(v u:Vl)(st:St)(wh:BA)(hb:st.s.length<=1000000000)(hw0:0<=st.w)(hw1:st.w<=1000000000)(hv:vlO v=4->0<=vlN v/\vlN v<st.s.length)(a:Qs)(ha:QR a st wh) :
  match cQ2 op v u st with
  | .ok r=>∃b,QR b r.2 wh/\qQ cK l fu 181 [.int .i64 op,.sl 7 (Vl.cs [v,u])] a 0 b r.1
  | .error k=>¬k=0/\∃w,qQ cK l fu 181 [.int .i64 op,.sl 7 (Vl.cs [v,u])] a k a w:=by
 have e0:Vl.cs [v,u]=[vlL v,vlL u]:=by simp [Vl.cs_eq]
 rw [e0]
 unfold cQ2
 by_cases h24:op=24
 ·rw [iP h24]
  subst h24
  by_cases ha4:vlO v=4
  ·rw [iP ha4]
   by_cases hb1:vlO u=1
   ·rw [iP hb1]
    have hj:=hv ha4
    obtain ⟨n,wh1,sp,wz,bg,x⟩:=a
    obtain ⟨h1,h2,h3,⟨hs,h4,h5⟩ | ⟨c,h4,h5⟩⟩:=ha
    ·rw [hs] at hj; simp only [List.length_nil] at hj; omega
    ·simp only at h1 h2 h3 h4 h5
     subst h4 h5
     refine ⟨⟨n,wh1,.ysl 0 (c+1) st.s.length,wz+1,bg,[(0,[.row (c+1) (st.s.set (vlN v).toNat (vlN u))])]⟩,⟨h1,h2,by simp only; omega,.inr ⟨c+1,?_,rfl⟩⟩,?_⟩
     ·simp only [List.length_set]
     ·exact qOpS cK l fu n wh1 wz bg v u c st.s hb oM oM ha4 hb1 hj
   ·rw [iN hb1]; exact ⟨by decide,default,qOpSf_1 cK l fu a.n a.wh a.sp a.wz a.bg v u a.x (.inr hb1) ha4⟩
  ·rw [iN ha4]
   refine ⟨by decide,default,?_⟩
   by_cases hx1:vlO v=1
   ·by_cases hx2:vlO u=1
    ·exact qOpSf_2 cK l fu a.n a.wh a.sp a.wz a.bg v u a.x (.inl ha4) ha4 hx1 hx2
    ·exact qOpSf_3 cK l fu a.n a.wh a.sp a.wz a.bg v u a.x (.inl ha4) ha4 hx1 hx2
   ·exact qOpSf_4 cK l fu a.n a.wh a.sp a.wz a.bg v u a.x (.inl ha4) ha4 hx1
 ·rw [iN h24]
  by_cases h16:op=16
  ·rw [iP h16]
   subst h16
   by_cases e1:vlO v=vlO u
   ·rw [iP e1]
    by_cases e2:vlO v=1
    ·rw [iP e2]; exact ⟨a,ha,qOpE_1 cK l fu a.n a.wh a.sp a.wz a.bg v u a.x e1 e2⟩
    ·rw [iN e2]
     by_cases e3:vlO v=2
     ·rw [iP e3]; exact ⟨a,ha,qOpE_2 cK l fu a.n a.wh a.sp a.wz a.bg v u a.x e1 e2 e3⟩
     ·rw [iN e3]; exact ⟨by decide,default,qOpE_3 cK l fu a.n a.wh a.sp a.wz a.bg v u a.x e1 e2 e3⟩
   ·rw [iN e1]
    refine ⟨by decide,default,?_⟩
    by_cases e2:vlO v=1
    ·exact qOpE_4 cK l fu a.n a.wh a.sp a.wz a.bg v u a.x e1 e2
    ·exact qOpE_5 cK l fu a.n a.wh a.sp a.wz a.bg v u a.x e1 e2
  ·rw [iN h16]
   have hop:10<=op/\op<=14∨op=17∨op=18:=by unfold isTwo at h1; omega
   have z:qQ cK l fu 188 [.int .i64 op,.int .i64 (vlN v),.int .i64 (vlN u)] a (qArith_r0 op (vlN v) (vlN u)) a (vX (qArith_r1 op (vlN v) (vlN u)) (qArith_r2 op (vlN v) (vlN u))):=Ob.eff_pur a.x (qArith cK l fu a.n a.wh a.sp a.wz a.bg op (vlN v) (vlN u))
   by_cases a1:vlO v=1
   ·rw [iP a1]
    by_cases b1:vlO u=1
    ·rw [iP b1]
     have y:qQ cK l fu 181 [.int .i64 op,.sl 7 [vlL v,vlL u]] a (qArith_r0 op (vlN v) (vlN u)) a (vX (qArith_r1 op (vlN v) (vlN u)) (qArith_r2 op (vlN v) (vlN u))):=by
      by_cases x1:op<=14
      ·exact qOpA_1 cK l fu a.n a.wh a.sp a.wz a.bg op v u a.x hop a.n a.wh _ a.sp a.wz a.bg _ a.x (fun _ _=>z) a1 b1 x1
      ·by_cases x2:op=17
       ·exact qOpA_2 cK l fu a.n a.wh a.sp a.wz a.bg op v u a.x hop a.n a.wh _ a.sp a.wz a.bg _ a.x (fun _ _=>z) a1 b1 x1 x2
       ·exact qOpA_3 cK l fu a.n a.wh a.sp a.wz a.bg op v u a.x hop a.n a.wh _ a.sp a.wz a.bg _ a.x (fun _ _=>z) a1 b1 x1 x2
     by_cases hz:qArith_r0 op (vlN v) (vlN u)=0
     ·rw [iP hz]
      rw [hz] at y
      exact ⟨a,ha,y⟩
     ·rw [iN hz]; exact ⟨hz,_,y⟩
    ·rw [iN b1]; exact ⟨by decide,default,qOpA_4 cK l fu a.n a.wh a.sp a.wz a.bg op v u a.x hop a.n a.wh _ a.sp a.wz a.bg _ a.x (fun _ _=>z) a1 b1⟩
   ·rw [iN a1]; exact ⟨by decide,default,qOpA_5 cK l fu a.n a.wh a.sp a.wz a.bg op v u a.x hop a.n a.wh _ a.sp a.wz a.bg _ a.x (fun _ _=>z) a1⟩
end
theorem lz_q{o n:Int}(h1:o=19∨o=20):((n != 0)=(o==20))↔((o==19)=(n==0)):=by
 rcases h1 with rfl | rfl <;> by_cases h:n=0 <;> simp [h]
theorem QR.tick{a:Qs}{st:St}{wh:BA}(h:QR a st wh)(w:BA):QR { a with n:=a.n+1,wh:=w } st.tick w:=⟨by simp only [St.tick]; rw [h.1],rfl,h.2.2⟩
section
variable (cK:C5) (l:List Df) (fu:Int)
def Cq:Tk->St->BA->Co->Prop
 | .ex env x,st,wh,o=>RfQ cK l fu 162 (evQ env.reverse x) st wh o
 | .li env xs,st,wh,o=>RlQ cK l fu env.reverse xs st wh o
 | .app f args,st,wh,o=>RfQ cK l fu 187 [.agg (vlL f),.sl 7 (Vl.cs args)] st wh o
 | .call d args,st,wh,o=>RfQ cK l fu 125 [.agg (dfL d),.sl 7 (Vl.cs args)] st wh o
 | .con d,st,wh,o=>(dfM d=1/\o = .er 26 st wh)∨(¬dfM d=1/\RfQ cK l fu 145 [.agg (dfL d),.nilsl] st wh o)
 | .run d env,st,wh,o=>RfQ cK l fu 145 [.agg (dfL d),.sl 8 (Bd.cs env.reverse)] st wh o
theorem named_ok(hl:l.length<=1000000000){d:Df}{args:List Vl}{name:BA}(hd:findD name l=some d){st:St}{wh:BA}{o:Co}(h:RfQ cK l fu 125 [.agg (dfL d),.sl 7 (Vl.cs args)] st wh o):RfQ cK l fu 89 [.str name,.sl 7 (Vl.cs args)] st wh o:=
 h.pass cK l fu fun a e b v ha hx=>qNamG cK l fu a.n a.wh a.sp a.wz a.bg name args a.x hl d hd b.n b.wh e b.sp b.wz b.bg v b.x hx
theorem confQ(hf:fu<=1000000)(hl:SmL l)(hd:∀d∈l,szE (dfB d)<=1048576){t:Tk}{st:St}{wh:BA}{o:Co}(h:Cv cQ l fu t st wh o):Okk fu (szTk t) st->SmT t->CeT st.s.length t->LnT t->Cq cK l fu t st wh o:=by
 induction h with
 | @runF d env st wh h=>
  intro q s c n
  exact RfQ.fail cK l fu (v:=default) dD fun a ha=>⟨a,ha,qBodF cK l fu a.n a.wh a.sp a.wz a.bg d env.reverse a.x (by rw [ha.1]; exact q.n0) hf (by rw [ha.1]; exact h)⟩
 | @runG d env st wh o h g ih=>
  intro q s c n
  have z:=ih (q.tick h c.1) ⟨s.2,s.1.1⟩ ⟨c.2,c.1⟩ (by have:=s.1.1; have n':env.length<=800000000:=n; show env.length+szE (dfB d)<=900000000; omega)
  cases o with
  | ok vs st'=>
   intro v hv a ha
   obtain ⟨b,hb,hx⟩:=z v hv _ (ha.tick (dfNm d))
   exact ⟨{ b with wh:=a.wh },⟨hb.1,ha.2.1,hb.2.2⟩,qBodO cK l fu a.n a.wh a.sp a.wz a.bg d env.reverse a.x (by rw [ha.1]; exact q.n0) hf (by rw [ha.1]; omega) b.n b.wh b.sp b.wz b.bg v b.x hx⟩
  | er k st' wh'=>
   refine ⟨z.1,fun a ha=>?_⟩
   obtain ⟨v,b,hb,hx⟩:=z.2 _ (ha.tick (dfNm d))
   exact ⟨v,b,hb,qBodE cK l fu a.n a.wh a.sp a.wz a.bg d env.reverse a.x (by rw [ha.1]; exact q.n0) hf (by rw [ha.1]; omega) b.n b.wh k b.sp b.wz b.bg v b.x hx z.1⟩
 | @callA d args st wh h=>intro q s c n; exact RfQ.fail cK l fu (v:=default) dD fun a ha=>⟨a,ha,qEntA cK l fu a.n a.wh a.sp a.wz a.bg d args a.x h⟩
 | @callN d args st wh h h1=>
  intro q s c n
  refine RfQ.fail cK l fu (v:=default) dD fun a ha=>⟨a,ha,?_⟩
  by_cases hp:(dfP d).length=0
  ·exact qEntN_1 cK l fu a.n a.wh a.sp a.wz a.bg d args a.x h h1 oM
  ·exact qEntN_2 cK l fu a.n a.wh a.sp a.wz a.bg d args a.x h h1 oM
 | @callG d args st wh o h h1 h2 g ih=>
  intro q s c n
  have hp:(dfP d).length<=400000000:=s.1.2
  have hlen:=bnds_len (dfP d) args []
  simp only [List.length_nil] at hlen
  have z:=ih q ⟨s.1,bnds_sm s.2 SmBs_nil⟩ ⟨c.1,bnds_ce c.2 CeBs_nil⟩ (show (bnds (dfP d) args []).length<=800000000 by omega)
  have hb:Pu 146 [.nilsl,.sl 1 (nmsC (dfP d)),.sl 7 (Vl.cs args)] (.ret (.sl 8 (Bd.cs (bnds (dfP d) args []).reverse))):=Ob.pur_arg (.c (.n 8) (.c (.r _) (.c (.r _) (.r _)))) (qWithT [] (dfP d) args sM oM)
  exact z.pass cK l fu fun a e b v ha hx=>qEntG cK l fu a.n a.wh a.sp a.wz a.bg d args a.x h h1 h2 _ hb b.n b.wh e b.sp b.wz b.bg v b.x hx
 | @conA d st wh h=>intro q s c n; exact .inl ⟨h,rfl⟩
 | @conG d st wh o h g ih=>
  intro q s c n
  have z:=ih q ⟨s,SmBs_nil⟩ ⟨c,CeBs_nil⟩ (show ([]:List Bd).length<=800000000 by simp)
  exact .inr ⟨h,z.pass cK l fu fun a e b v ha hx=>Ob.eff_arg (.c (.r _) (.c (.r _) (.c (.n 8) (.r _)))) hx⟩
 | @appO f args st wh h=>intro q s c n; exact RfQ.fail cK l fu (v:=default) dD fun a ha=>⟨a,ha,qAppO cK l fu a.n a.wh a.sp a.wz a.bg f args a.x h⟩
 | @appU f args st wh h h1 h2=>intro q s c n; exact RfQ.fail cK l fu (v:=default) dD fun a ha=>⟨a,ha,qAppN cK l fu a.n a.wh a.sp a.wz a.bg f args a.x h h1 a.n a.wh 19 a.sp a.wz a.bg default a.x (qNamU cK l fu a.n a.wh a.sp a.wz a.bg (vlNm f) args a.x hl.1 h2)⟩
 | @appN f args st wh d o h h1 h2 g ih=>
  intro q s c n
  have z:=ih q ⟨hl.2 _ (findD_mem h2),s.2⟩ ⟨hd _ (findD_mem h2),c.2⟩ trivial
  exact (named_ok cK l fu hl.1 h2 z).pass cK l fu fun a e b v ha hx=>qAppN cK l fu a.n a.wh a.sp a.wz a.bg f args a.x h h1 b.n b.wh e b.sp b.wz b.bg v b.x hx
 | @appL f args st wh h h1 h2=>
  intro q s c n
  refine RfQ.fail cK l fu (v:=default) dD fun a ha=>⟨a,ha,?_⟩
  by_cases hb:(vlB f).length=1
  ·exact qAppL_2 cK l fu a.n a.wh a.sp a.wz a.bg f args a.x h h1 h2 oM
  ·exact qAppL_1 cK l fu a.n a.wh a.sp a.wz a.bg f args a.x h h1 h2 oM
 | @appF f args st wh h h1 h2 h3 h4=>intro q s c n; exact RfQ.fail cK l fu (v:=default) dD fun a ha=>⟨a,ha,qAppF cK l fu a.n a.wh a.sp a.wz a.bg f args a.x (by rw [ha.1]; exact q.n0) hf h h1 h2 h3 (by rw [ha.1]; exact h4)⟩
 | @appG f args st wh o h h1 h2 h3 h4 g ih=>
  intro q s c n
  obtain ⟨-,-,-,hb,-,hbs⟩:=SmV_parts s.1
  obtain ⟨-,cb,-,cbs⟩:=CeV_parts c.1
  obtain ⟨hp,hbn⟩:=SmV_lens s.1
  have hmem:(vlB f).getD 0 default∈vlB f:=by simp [List.getD,h2]
  have hlen:=bnds_len (vlP f) args (vlBd f).reverse
  rw [List.length_reverse] at hlen
  have hbody:=hb _ hmem
  have z:=ih (q.tick h4 (cb _ hmem)) ⟨bnds_sm s.2 (SmBs_rev.2 hbs),hbody⟩ ⟨bnds_ce c.2 (CeBs_rev.2 cbs),cb _ hmem⟩ (show (bnds (vlP f) args (vlBd f).reverse).length+szE _<=900000000 by omega)
  have hw:=qWithT (vlBd f).reverse (vlP f) args (by rw [List.length_reverse]; omega) oM
  rw [List.reverse_reverse] at hw
  cases o with
  | ok vs st'=>
   intro v hv a ha
   obtain ⟨b,hb2,hx⟩:=z v hv _ (ha.tick wh)
   have e1:=ha.2.1
   refine ⟨b,hb2,qAppG cK l fu a.n a.wh a.sp a.wz a.bg f args a.x (by rw [ha.1]; exact q.n0) hf h h1 h2 h3 (by rw [ha.1]; omega) _ hw b.n b.wh 0 b.sp b.wz b.bg v b.x ?_⟩
   rw [e1]; exact hx
  | er k st' wh'=>
   refine ⟨z.1,fun a ha=>?_⟩
   obtain ⟨v,b,hb2,hx⟩:=z.2 _ (ha.tick wh)
   have e1:=ha.2.1
   refine ⟨v,b,hb2,qAppG cK l fu a.n a.wh a.sp a.wz a.bg f args a.x (by rw [ha.1]; exact q.n0) hf h h1 h2 h3 (by rw [ha.1]; omega) _ hw b.n b.wh k b.sp b.wz b.bg v b.x ?_⟩
   rw [e1]; exact hx
 | liN=>intro q s c n a ha; exact ⟨a,ha,rfl,rfl⟩
 | @liE env x xs st wh k st1 wh1 g ih=>
  intro q s c n
  have q1:Okk fu (szE x) st:=q.le (by show szE x<=szEs (x::xs); rw [szEs_cons]; omega)
  have z:=ih q1 ⟨s.1,s.2 _ List.mem_cons_self⟩ ⟨c.1,c.2 _ List.mem_cons_self⟩ (n _ List.mem_cons_self)
  refine ⟨z.1,fun a ha=>?_⟩
  obtain ⟨v,b,hb,hx⟩:=z.2 a ha
  exact ⟨b,hb,.inl ⟨v,hx⟩⟩
 | @liR env x xs st wh v k st1 st2 wh2 g g2 ih ih2=>
  intro q s c n
  have q1:Okk fu (szE x) st:=q.le (by show szE x<=szEs (x::xs); rw [szEs_cons]; omega)
  have s1:SmT (.ex env x):=⟨s.1,s.2 _ List.mem_cons_self⟩
  have cc1:CeT st.s.length (.ex env x):=⟨c.1,c.2 _ List.mem_cons_self⟩
  obtain ⟨a1,a2⟩:=g.good niQ hl hd q.nf s1 cc1
  have z:=ih q1 s1 cc1 (n _ List.mem_cons_self)
  have z2:=ih2 (q.step a1 (by show szE x+szEs xs<=szEs (x::xs); rw [szEs_cons]; omega)) ⟨s.1,fun y hy=>s.2 y (List.mem_cons_of_mem _ hy)⟩ ⟨c.1.mono a1.s,fun y hy=>c.2 y (List.mem_cons_of_mem _ hy)⟩ (fun y hy=>n y (List.mem_cons_of_mem _ hy))
  refine ⟨z2.1,fun a ha=>?_⟩
  obtain ⟨b,hb,hx⟩:=z v rfl a ha
  obtain ⟨b2,hb2,hy⟩:=z2.2 b hb
  exact ⟨b2,hb2,.inr ⟨v,b,hx,hy⟩⟩
 | @liC env x xs st wh v st1 st2 vs g g2 ih ih2=>
  intro q s c n
  have q1:Okk fu (szE x) st:=q.le (by show szE x<=szEs (x::xs); rw [szEs_cons]; omega)
  have s1:SmT (.ex env x):=⟨s.1,s.2 _ List.mem_cons_self⟩
  have cc1:CeT st.s.length (.ex env x):=⟨c.1,c.2 _ List.mem_cons_self⟩
  obtain ⟨a1,a2⟩:=g.good niQ hl hd q.nf s1 cc1
  have z:=ih q1 s1 cc1 (n _ List.mem_cons_self)
  have z2:=ih2 (q.step a1 (by show szE x+szEs xs<=szEs (x::xs); rw [szEs_cons]; omega)) ⟨s.1,fun y hy=>s.2 y (List.mem_cons_of_mem _ hy)⟩ ⟨c.1.mono a1.s,fun y hy=>c.2 y (List.mem_cons_of_mem _ hy)⟩ (fun y hy=>n y (List.mem_cons_of_mem _ hy))
  intro a ha
  obtain ⟨b,hb,hx⟩:=z v rfl a ha
  obtain ⟨b2,hb2,hy⟩:=z2 b hb
  exact ⟨b2,hb2,v,b,vs,hx,hy,rfl⟩
 | @exR env x st wh h=>intro q s c n; exact RfQ.fail cK l fu (v:=default) dD fun a ha=>⟨a,ha,qEvR cK l fu a.n a.wh a.sp a.wz a.bg env.reverse x a.x (by rw [qKids_eq]; exact h)⟩
 | @exIo env x st wh h h1 h2=>intro q s c n; exact RfQ.one cK l fu fun a ha=>⟨a,ha,qEvIo cK l fu a.n a.wh a.sp a.wz a.bg env.reverse x a.x (rq h) h1 h2⟩
 | @exIe env x st wh h h1 h2=>intro q s c n; exact RfQ.fail cK l fu (v:=default) dD fun a ha=>⟨a,ha,qEvIe cK l fu a.n a.wh a.sp a.wz a.bg env.reverse x a.x (rq h) h1 h2⟩
 | @exB env x st wh h h1=>intro q s c n; exact RfQ.one cK l fu fun a ha=>⟨a,ha,qEvB cK l fu a.n a.wh a.sp a.wz a.bg env.reverse x a.x (rq h) h1⟩
 | @exVb env x st wh v h h1 h2=>
  intro q s c n
  have e1:fbV (exNm x) env.reverse.reverse=v:=by rw [List.reverse_reverse,fbV,h2]; rfl
  refine RfQ.one cK l fu fun a ha=>⟨a,ha,qEvV cK l fu a.n a.wh a.sp a.wz a.bg env.reverse x a.x (rq h) h1 a.n a.wh 0 a.sp a.wz a.bg v a.x ?_⟩
  have y:=qVarB cK l fu a.n a.wh a.sp a.wz a.bg env.reverse (exNm x) a.x (env_ln n) (by rw [List.reverse_reverse,fbO,h2]; rfl)
  rw [e1] at y
  exact y
 | @exVu env x st wh h h1 h2 h3=>intro q s c n; exact RfQ.fail cK l fu (v:=default) dD fun a ha=>⟨a,ha,qEvV cK l fu a.n a.wh a.sp a.wz a.bg env.reverse x a.x (rq h) h1 a.n a.wh 19 a.sp a.wz a.bg default a.x (qVarU cK l fu a.n a.wh a.sp a.wz a.bg env.reverse (exNm x) a.x (env_ln n) hl.1 (by rw [List.reverse_reverse,fbO,h2]; rfl) h3)⟩
 | @exVf env x st wh d h h1 h2 h3 h4=>
  intro q s c n
  refine RfQ.one cK l fu fun a ha=>⟨a,ha,qEvV cK l fu a.n a.wh a.sp a.wz a.bg env.reverse x a.x (rq h) h1 a.n a.wh 0 a.sp a.wz a.bg (vF (dfNm d)) a.x ?_⟩
  have y:=qVarF cK l fu a.n a.wh a.sp a.wz a.bg env.reverse (exNm x) a.x (env_ln n) hl.1 (by rw [List.reverse_reverse,fbO,h2]; rfl) d h3 h4
  rw [findD_nm h3]
  exact y
 | @exVc env x st wh d o h h1 h2 h3 h4 g ih=>
  intro q s c n
  rcases ih (q.le (Nat.zero_le _)) (hl.2 _ (findD_mem h3)) (hd _ (findD_mem h3)) trivial with ⟨h5,rfl⟩ | ⟨h5,z⟩
  ·exact RfQ.fail cK l fu (v:=default) dD fun a ha=>⟨a,ha,qEvV cK l fu a.n a.wh a.sp a.wz a.bg env.reverse x a.x (rq h) h1 a.n a.wh 26 a.sp a.wz a.bg default a.x (qVarA cK l fu a.n a.wh a.sp a.wz a.bg env.reverse (exNm x) a.x (env_ln n) hl.1 (by rw [List.reverse_reverse,fbO,h2]; rfl) d h3 h4 h5)⟩
  ·exact z.pass cK l fu fun a e b v ha hx=>qEvV cK l fu a.n a.wh a.sp a.wz a.bg env.reverse x a.x (rq h) h1 b.n b.wh e b.sp b.wz b.bg v b.x (qVarG cK l fu a.n a.wh a.sp a.wz a.bg env.reverse (exNm x) a.x (env_ln n) hl.1 (by rw [List.reverse_reverse,fbO,h2]; rfl) d h3 h4 h5 b.n b.wh e b.sp b.wz b.bg v b.x hx)
 | @exCe env x st wh k st1 wh1 h h1 g ih=>
  intro q s c n
  have kk:=kids_ce c.2
  have q1:Okk fu (szTk (.li env (exK x))) st:=q.le (by have:=kk.2; show szEs (exK x)<=szE x; omega)
  have s1:SmT (.li env (exK x)):=⟨s.1,kids_sm s.2⟩
  have cc1:CeT st.s.length (.li env (exK x)):=⟨c.1,kk.1⟩
  have ln:=(szE_lens s.2).1
  have z:=ih q1 s1 cc1 (kids_ln n)
  refine ⟨z.1,fun a ha=>?_⟩
  obtain ⟨b,hb,hx⟩:=z.2 a ha
  have y:=lc_er cK l fu env.reverse (exK x) ln a k z.1 b hx
  exact ⟨default,b,hb,qEvCe cK l fu a.n a.wh a.sp a.wz a.bg env.reverse x a.x (rq h) h1 b.n b.wh k b.sp b.wz b.bg [] b.x y z.1⟩
 | @exCo env x st wh vs st1 h h1 g ih=>
  intro q s c n
  have kk:=kids_ce c.2
  have q1:Okk fu (szTk (.li env (exK x))) st:=q.le (by have:=kk.2; show szEs (exK x)<=szE x; omega)
  have s1:SmT (.li env (exK x)):=⟨s.1,kids_sm s.2⟩
  have cc1:CeT st.s.length (.li env (exK x)):=⟨c.1,kk.1⟩
  have ln:=(szE_lens s.2).1
  have z:=ih q1 s1 cc1 (kids_ln n)
  have sm:=((Cv.exCo h h1 g).good niQ hl hd q.nf s c).2.one.1
  refine RfQ.one cK l fu fun a ha=>?_
  obtain ⟨b,hb,hx⟩:=z a ha
  have y:=lc_ok cK l fu env.reverse (exK x) ln a vs b hx
  obtain ⟨bg,hw⟩:=gro_ok cK l fu sm b
  have hw2:=Ob.eff_arg (a:=[.agg (sG cK l fu b.n b.wh 0 b.sp b.wz b.bg),.agg [.int .i64 3,.int .i64 0,.str (exNm x),.sl 7 (Vl.cs vs),.nilsl,.nilsl,.nilsl]]) (.c (.r _) (.c (wkA (.c (.r _) (.c (.r _) (.c (.r _) (.c (.r _) (.c (.n 1) (.c (.n 7) (.c (.n 8) (.r _))))))))) (.r _))) hw
  exact ⟨{ b with bg:=bg },hb,qEvCo cK l fu a.n a.wh a.sp a.wz a.bg env.reverse x a.x (rq h) h1 b.n b.wh b.sp b.wz b.bg vs b.x y b.n b.wh 0 b.sp b.wz bg _ b.x hw2⟩
 | @exKe env x st wh k st1 wh1 h h1 g ih=>
  intro q s c n
  have kk:=kids_ce c.2
  have q1:Okk fu (szTk (.li env (exK x))) st:=q.le (by have:=kk.2; show szEs (exK x)<=szE x; omega)
  have s1:SmT (.li env (exK x)):=⟨s.1,kids_sm s.2⟩
  have cc1:CeT st.s.length (.li env (exK x)):=⟨c.1,kk.1⟩
  have ln:=(szE_lens s.2).1
  have z:=ih q1 s1 cc1 (kids_ln n)
  refine ⟨z.1,fun a ha=>?_⟩
  obtain ⟨b,hb,hx⟩:=z.2 a ha
  have y:=lc_er cK l fu env.reverse (exK x) ln a k z.1 b hx
  exact ⟨default,b,hb,qEvK cK l fu a.n a.wh a.sp a.wz a.bg env.reverse x a.x (rq h) h1 b.n b.wh k b.sp b.wz b.bg default b.x (qCalE cK l fu a.n a.wh a.sp a.wz a.bg env.reverse x a.x b.n b.wh k b.sp b.wz b.bg [] b.x y z.1) ⟩
 | @exKa env x st wh vs st1 f o h h1 g h2 g2 ih ih2=>
  intro q s c n
  have kk:=kids_ce c.2
  have q1:Okk fu (szTk (.li env (exK x))) st:=q.le (by have:=kk.2; show szEs (exK x)<=szE x; omega)
  have s1:SmT (.li env (exK x)):=⟨s.1,kids_sm s.2⟩
  have cc1:CeT st.s.length (.li env (exK x)):=⟨c.1,kk.1⟩
  have ln:=(szE_lens s.2).1
  have z:=ih q1 s1 cc1 (kids_ln n)
  obtain ⟨a1,a2⟩:=g.good niQ hl hd q.nf s1 cc1
  have z2:=ih2 (q.step a1 (by have:=kk.2; show szEs (exK x)+0<=szE x; omega)) ⟨findB_sm s.1 h2,a2.1⟩ ⟨(findB_ce c.1 h2).mono a1.s,a2.2⟩ trivial
  have e1:fbV (exNm x) env.reverse.reverse=f:=by rw [List.reverse_reverse,fbV,h2]; rfl
  have e2:fbO (exNm x) env.reverse.reverse=true:=by rw [List.reverse_reverse,fbO,h2]; rfl
  rw [<-e1] at z2
  exact RfQ.then cK l fu (R:=fun a b=>LcO cK l fu env.reverse (exK x) a vs b) z z2 fun a b e d w hx hy=>qEvK cK l fu a.n a.wh a.sp a.wz a.bg env.reverse x a.x (rq h) h1 d.n d.wh e d.sp d.wz d.bg w d.x (qCalA cK l fu a.n a.wh a.sp a.wz a.bg env.reverse x a.x (env_ln n) b.n b.wh b.sp b.wz b.bg vs b.x (lc_ok cK l fu env.reverse (exK x) ln a vs b hx) e2 d.n d.wh e d.sp d.wz d.bg w d.x hy)
 | @exKu env x st wh vs st1 h h1 g h2 h3 ih=>
  intro q s c n
  have kk:=kids_ce c.2
  have q1:Okk fu (szTk (.li env (exK x))) st:=q.le (by have:=kk.2; show szEs (exK x)<=szE x; omega)
  have s1:SmT (.li env (exK x)):=⟨s.1,kids_sm s.2⟩
  have cc1:CeT st.s.length (.li env (exK x)):=⟨c.1,kk.1⟩
  have ln:=(szE_lens s.2).1
  have z:=ih q1 s1 cc1 (kids_ln n)
  have e2:fbO (exNm x) env.reverse.reverse=false:=by rw [List.reverse_reverse,fbO,h2]; rfl
  refine RfQ.fail cK l fu (v:=default) dD fun a ha=>?_
  obtain ⟨b,hb,hx⟩:=z a ha
  exact ⟨b,hb,qEvK cK l fu a.n a.wh a.sp a.wz a.bg env.reverse x a.x (rq h) h1 b.n b.wh 19 b.sp b.wz b.bg default b.x (qCalN cK l fu a.n a.wh a.sp a.wz a.bg env.reverse x a.x (env_ln n) b.n b.wh b.sp b.wz b.bg vs b.x (lc_ok cK l fu env.reverse (exK x) ln a vs b hx) e2 b.n b.wh 19 b.sp b.wz b.bg default b.x (qNamU cK l fu b.n b.wh b.sp b.wz b.bg (exNm x) vs b.x hl.1 h3))⟩
 | @exKc env x st wh vs st1 d o h h1 g h2 h3 g2 ih ih2=>
  intro q s c n
  have kk:=kids_ce c.2
  have q1:Okk fu (szTk (.li env (exK x))) st:=q.le (by have:=kk.2; show szEs (exK x)<=szE x; omega)
  have s1:SmT (.li env (exK x)):=⟨s.1,kids_sm s.2⟩
  have cc1:CeT st.s.length (.li env (exK x)):=⟨c.1,kk.1⟩
  have ln:=(szE_lens s.2).1
  have z:=ih q1 s1 cc1 (kids_ln n)
  obtain ⟨a1,a2⟩:=g.good niQ hl hd q.nf s1 cc1
  have z2:=named_ok cK l fu hl.1 h3 (ih2 (q.step a1 (by have:=kk.2; show szEs (exK x)+0<=szE x; omega)) ⟨hl.2 _ (findD_mem h3),a2.1⟩ ⟨hd _ (findD_mem h3),a2.2⟩ trivial)
  have e2:fbO (exNm x) env.reverse.reverse=false:=by rw [List.reverse_reverse,fbO,h2]; rfl
  exact RfQ.then cK l fu (R:=fun a b=>LcO cK l fu env.reverse (exK x) a vs b) z z2 fun a b e d w hx hy=>qEvK cK l fu a.n a.wh a.sp a.wz a.bg env.reverse x a.x (rq h) h1 d.n d.wh e d.sp d.wz d.bg w d.x (qCalN cK l fu a.n a.wh a.sp a.wz a.bg env.reverse x a.x (env_ln n) b.n b.wh b.sp b.wz b.bg vs b.x (lc_ok cK l fu env.reverse (exK x) ln a vs b hx) e2 d.n d.wh e d.sp d.wz d.bg w d.x hy)
 | @exL env x st wh h h1=>
  intro q s c n
  have sm:=((Cv.exL h h1:Cv cQ l fu (.ex env x) st wh _).good niQ hl hd q.nf s c).2.one.1
  refine RfQ.one cK l fu fun a ha=>?_
  obtain ⟨bg,hw⟩:=gro_ok cK l fu sm a
  have hm:=qLamT x env.reverse (rt_len1 h (.inl h1)) s.2 (env_ln n)
  rw [List.reverse_reverse] at hm
  exact ⟨{ a with bg:=bg },ha,qEvL cK l fu a.n a.wh a.sp a.wz a.bg env.reverse x a.x (rq h) h1 _ hm a.n a.wh 0 a.sp a.wz bg _ a.x hw⟩
 | @exTe env x st wh k st1 wh1 h h1 g ih=>
  intro q s c n
  have hk:=rt_len2 h (.inl h1)
  have k0:=kid_ce c.2 (i:=0) oM
  have q1:Okk fu (szTk (.ex env (kid x 0))) st:=q.le (by show szE (kid x 0)<=szE x; omega)
  have s1:SmT (.ex env (kid x 0)):=⟨s.1,szE_kid s.2 oM⟩
  have cc1:CeT st.s.length (.ex env (kid x 0)):=⟨c.1,k0.1⟩
  have z:=ih q1 s1 cc1 (kid_ln n oM)
  refine ⟨z.1,fun a ha=>?_⟩
  obtain ⟨v,b,hb,hx⟩:=z.2 a ha
  exact ⟨v,b,hb,qEvTe cK l fu a.n a.wh a.sp a.wz a.bg env.reverse x a.x (rq h) h1 hk b.n b.wh k b.sp b.wz b.bg v b.x hx z.1⟩
 | @exTo env x st wh v st1 o h h1 g g2 ih ih2=>
  intro q s c n
  have hk:=rt_len2 h (.inl h1)
  have k0:=kid_ce c.2 (i:=0) oM
  have q1:Okk fu (szTk (.ex env (kid x 0))) st:=q.le (by show szE (kid x 0)<=szE x; omega)
  have s1:SmT (.ex env (kid x 0)):=⟨s.1,szE_kid s.2 oM⟩
  have cc1:CeT st.s.length (.ex env (kid x 0)):=⟨c.1,k0.1⟩
  have z:=ih q1 s1 cc1 (kid_ln n oM)
  obtain ⟨a1,a2⟩:=g.good niQ hl hd q.nf s1 cc1
  have k1:=kid_ce c.2 (i:=1) oM
  have kk:=kid2_ce (x:=x) (i:=0) (j:=1) oM oM
  have q2:Okk fu (szE (kid x 1)) st1:=q.step a1 (by show szE (kid x 0)+szE (kid x 1)<=szE x; omega)
  have z2:=ih2 q2 ⟨by rw [SmBs_cons]; exact ⟨a2.one.1,s.1⟩,szE_kid s.2 oM⟩ ⟨by rw [CeBs_cons]; exact ⟨a2.one.2,c.1.mono a1.s⟩,k1.1⟩ (kid_ln1 n oM)
  have hw:=qWith1 env (exNm x) v (by have:=env_ln n; rw [List.length_reverse] at this; exact this)
  exact RfQ.then cK l fu (R:=fun a b=>qQ cK l fu 162 (evQ env.reverse (kid x 0)) a 0 b v) (z v rfl) z2 fun a b e d w hx hy=>qEvTo cK l fu a.n a.wh a.sp a.wz a.bg env.reverse x a.x (rq h) h1 hk b.n b.wh b.sp b.wz b.bg v b.x hx _ hw d.n d.wh e d.sp d.wz d.bg w d.x hy
 | @exFe env x st wh k st1 wh1 h h1 g ih=>
  intro q s c n
  have hk:=rt_len3 h h1
  have k0:=kid_ce c.2 (i:=0) oM
  have q1:Okk fu (szTk (.ex env (kid x 0))) st:=q.le (by show szE (kid x 0)<=szE x; omega)
  have s1:SmT (.ex env (kid x 0)):=⟨s.1,szE_kid s.2 oM⟩
  have cc1:CeT st.s.length (.ex env (kid x 0)):=⟨c.1,k0.1⟩
  have z:=ih q1 s1 cc1 (kid_ln n oM)
  refine ⟨z.1,fun a ha=>?_⟩
  obtain ⟨v,b,hb,hx⟩:=z.2 a ha
  exact ⟨v,b,hb,qEvF cK l fu a.n a.wh a.sp a.wz a.bg env.reverse x a.x (rq h) h1 b.n b.wh k b.sp b.wz b.bg v b.x (qChoE cK l fu a.n a.wh a.sp a.wz a.bg env.reverse x a.x hk b.n b.wh k b.sp b.wz b.bg v b.x hx z.1)⟩
 | @exFs env x st wh v st1 h h1 g h2 ih=>
  intro q s c n
  have hk:=rt_len3 h h1
  have k0:=kid_ce c.2 (i:=0) oM
  have q1:Okk fu (szTk (.ex env (kid x 0))) st:=q.le (by show szE (kid x 0)<=szE x; omega)
  have s1:SmT (.ex env (kid x 0)):=⟨s.1,szE_kid s.2 oM⟩
  have cc1:CeT st.s.length (.ex env (kid x 0)):=⟨c.1,k0.1⟩
  have z:=ih q1 s1 cc1 (kid_ln n oM)
  refine RfQ.fail cK l fu (v:=default) dD fun a ha=>?_
  obtain ⟨b,hb,hx⟩:=z v rfl a ha
  exact ⟨b,hb,qEvF cK l fu a.n a.wh a.sp a.wz a.bg env.reverse x a.x (rq h) h1 b.n b.wh 19 b.sp b.wz b.bg default b.x (qChoS cK l fu a.n a.wh a.sp a.wz a.bg env.reverse x a.x hk b.n b.wh b.sp b.wz b.bg v b.x hx h2)⟩
 | @exFt env x st wh v st1 o h h1 g h2 h3 g2 ih ih2=>
  intro q s c n
  have hk:=rt_len3 h h1
  have k0:=kid_ce c.2 (i:=0) oM
  have q1:Okk fu (szTk (.ex env (kid x 0))) st:=q.le (by show szE (kid x 0)<=szE x; omega)
  have s1:SmT (.ex env (kid x 0)):=⟨s.1,szE_kid s.2 oM⟩
  have cc1:CeT st.s.length (.ex env (kid x 0)):=⟨c.1,k0.1⟩
  have z:=ih q1 s1 cc1 (kid_ln n oM)
  obtain ⟨a1,a2⟩:=g.good niQ hl hd q.nf s1 cc1
  have k1:=kid_ce c.2 (i:=1) oM
  have kk:=kid2_ce (x:=x) (i:=0) (j:=1) oM oM
  have q2:Okk fu (szE (kid x 1)) st1:=q.step a1 (by show szE (kid x 0)+szE (kid x 1)<=szE x; omega)
  have z2:=ih2 q2 ⟨s.1,szE_kid s.2 oM⟩ ⟨c.1.mono a1.s,k1.1⟩ (kid_ln n oM)
  exact RfQ.then cK l fu (R:=fun a b=>qQ cK l fu 162 (evQ env.reverse (kid x 0)) a 0 b v) (z v rfl) z2 fun a b e d w hx hy=>qEvF cK l fu a.n a.wh a.sp a.wz a.bg env.reverse x a.x (rq h) h1 d.n d.wh e d.sp d.wz d.bg w d.x (qChoT cK l fu a.n a.wh a.sp a.wz a.bg env.reverse x a.x hk b.n b.wh b.sp b.wz b.bg v b.x hx h2 h3 d.n d.wh e d.sp d.wz d.bg w d.x hy)
 | @exFf env x st wh v st1 o h h1 g h2 h3 g2 ih ih2=>
  intro q s c n
  have hk:=rt_len3 h h1
  have k0:=kid_ce c.2 (i:=0) oM
  have q1:Okk fu (szTk (.ex env (kid x 0))) st:=q.le (by show szE (kid x 0)<=szE x; omega)
  have s1:SmT (.ex env (kid x 0)):=⟨s.1,szE_kid s.2 oM⟩
  have cc1:CeT st.s.length (.ex env (kid x 0)):=⟨c.1,k0.1⟩
  have z:=ih q1 s1 cc1 (kid_ln n oM)
  obtain ⟨a1,a2⟩:=g.good niQ hl hd q.nf s1 cc1
  have k1:=kid_ce c.2 (i:=2) oM
  have kk:=kid2_ce (x:=x) (i:=0) (j:=2) oM oM
  have q2:Okk fu (szE (kid x 2)) st1:=q.step a1 (by show szE (kid x 0)+szE (kid x 2)<=szE x; omega)
  have z2:=ih2 q2 ⟨s.1,szE_kid s.2 oM⟩ ⟨c.1.mono a1.s,k1.1⟩ (kid_ln n oM)
  exact RfQ.then cK l fu (R:=fun a b=>qQ cK l fu 162 (evQ env.reverse (kid x 0)) a 0 b v) (z v rfl) z2 fun a b e d w hx hy=>qEvF cK l fu a.n a.wh a.sp a.wz a.bg env.reverse x a.x (rq h) h1 d.n d.wh e d.sp d.wz d.bg w d.x (qChoF cK l fu a.n a.wh a.sp a.wz a.bg env.reverse x a.x hk b.n b.wh b.sp b.wz b.bg v b.x hx h2 h3 d.n d.wh e d.sp d.wz d.bg w d.x hy)
 | @exMe env x st wh k st1 wh1 h h1 g ih=>
  intro q s c n
  have hk:=rt_len1 h (.inr (.inl h1))
  have k0:=kid_ce c.2 (i:=0) oM
  have q1:Okk fu (szTk (.ex env (kid x 0))) st:=q.le (by show szE (kid x 0)<=szE x; omega)
  have s1:SmT (.ex env (kid x 0)):=⟨s.1,szE_kid s.2 oM⟩
  have cc1:CeT st.s.length (.ex env (kid x 0)):=⟨c.1,k0.1⟩
  have z:=ih q1 s1 cc1 (kid_ln n oM)
  refine ⟨z.1,fun a ha=>?_⟩
  obtain ⟨v,b,hb,hx⟩:=z.2 a ha
  exact ⟨v,b,hb,qEvM cK l fu a.n a.wh a.sp a.wz a.bg env.reverse x a.x (rq h) h1 b.n b.wh k b.sp b.wz b.bg v b.x (qMatE cK l fu a.n a.wh a.sp a.wz a.bg env.reverse x a.x hk b.n b.wh k b.sp b.wz b.bg v b.x hx z.1)⟩
 | @exMs env x st wh v st1 h h1 g h2 ih=>
  intro q s c n
  have hk:=rt_len1 h (.inr (.inl h1))
  have k0:=kid_ce c.2 (i:=0) oM
  have q1:Okk fu (szTk (.ex env (kid x 0))) st:=q.le (by show szE (kid x 0)<=szE x; omega)
  have s1:SmT (.ex env (kid x 0)):=⟨s.1,szE_kid s.2 oM⟩
  have cc1:CeT st.s.length (.ex env (kid x 0)):=⟨c.1,k0.1⟩
  have z:=ih q1 s1 cc1 (kid_ln n oM)
  refine RfQ.fail cK l fu (v:=default) dD fun a ha=>?_
  obtain ⟨b,hb,hx⟩:=z v rfl a ha
  exact ⟨b,hb,qEvM cK l fu a.n a.wh a.sp a.wz a.bg env.reverse x a.x (rq h) h1 b.n b.wh 19 b.sp b.wz b.bg default b.x (qMatS cK l fu a.n a.wh a.sp a.wz a.bg env.reverse x a.x hk b.n b.wh b.sp b.wz b.bg v b.x hx h2)⟩
 | @exMn env x st wh v st1 h h1 g h2 h3 ih=>
  intro q s c n
  have hk:=rt_len1 h (.inr (.inl h1))
  have k0:=kid_ce c.2 (i:=0) oM
  have q1:Okk fu (szTk (.ex env (kid x 0))) st:=q.le (by show szE (kid x 0)<=szE x; omega)
  have s1:SmT (.ex env (kid x 0)):=⟨s.1,szE_kid s.2 oM⟩
  have cc1:CeT st.s.length (.ex env (kid x 0)):=⟨c.1,k0.1⟩
  have z:=ih q1 s1 cc1 (kid_ln n oM)
  refine RfQ.fail cK l fu (v:=default) dD fun a ha=>?_
  obtain ⟨b,hb,hx⟩:=z v rfl a ha
  exact ⟨b,hb,qEvM cK l fu a.n a.wh a.sp a.wz a.bg env.reverse x a.x (rq h) h1 b.n b.wh 23 b.sp b.wz b.bg default b.x (qMatN cK l fu a.n a.wh a.sp a.wz a.bg env.reverse x a.x hk b.n b.wh b.sp b.wz b.bg v b.x hx h2 (qm0 cK l fu b env.reverse x v (szE_lens s.2).2.2 h3))⟩
 | @exMl env x st wh v st1 a0 h h1 g h2 h3 h4 ih=>
  intro q s c n
  have hk:=rt_len1 h (.inr (.inl h1))
  have k0:=kid_ce c.2 (i:=0) oM
  have q1:Okk fu (szTk (.ex env (kid x 0))) st:=q.le (by show szE (kid x 0)<=szE x; omega)
  have s1:SmT (.ex env (kid x 0)):=⟨s.1,szE_kid s.2 oM⟩
  have cc1:CeT st.s.length (.ex env (kid x 0)):=⟨c.1,k0.1⟩
  have z:=ih q1 s1 cc1 (kid_ln n oM)
  refine RfQ.fail cK l fu (v:=default) dD fun a ha=>?_
  obtain ⟨b,hb,hx⟩:=z v rfl a ha
  exact ⟨b,hb,qEvM cK l fu a.n a.wh a.sp a.wz a.bg env.reverse x a.x (rq h) h1 b.n b.wh 19 b.sp b.wz b.bg default b.x (qMatR cK l fu a.n a.wh a.sp a.wz a.bg env.reverse x a.x hk b.n b.wh b.sp b.wz b.bg v b.x hx h2 b.n b.wh 19 b.sp b.wz b.bg default b.x (qm1 cK l fu b env.reverse x v (szE_lens s.2).2.2 a0 h3 h4))⟩
 | @exMo env x st wh v st1 al o h h1 g h2 h3 h4 g2 ih ih2=>
  intro q s c n
  have hk:=rt_len1 h (.inr (.inl h1))
  have k0:=kid_ce c.2 (i:=0) oM
  have q1:Okk fu (szTk (.ex env (kid x 0))) st:=q.le (by show szE (kid x 0)<=szE x; omega)
  have s1:SmT (.ex env (kid x 0)):=⟨s.1,szE_kid s.2 oM⟩
  have cc1:CeT st.s.length (.ex env (kid x 0)):=⟨c.1,k0.1⟩
  have z:=ih q1 s1 cc1 (kid_ln n oM)
  obtain ⟨a1,a2⟩:=g.good niQ hl hd q.nf s1 cc1
  have ka:=alt_ce c.2 (findA_mem h3) oM
  have al2:=szE_alt s.2 (findA_mem h3)
  obtain ⟨-,-,-,-,hvs,-⟩:=SmV_parts a2.one.1
  obtain ⟨-,-,cvs,-⟩:=CeV_parts a2.one.2
  have z2:=ih2 (q.step a1 (by show szE (kid x 0)+szE (alB al)<=szE x; omega)) ⟨bnds_sm hvs s.1,al2.1⟩ ⟨bnds_ce cvs (c.1.mono a1.s),ka.1⟩ (alt_ln n (findA_mem h3))
  have hw:=qWithT env (alNs al) (vlK v) (by have:=env_ln n; rw [List.length_reverse] at this; exact this) al2.2
  exact RfQ.then cK l fu (R:=fun a b=>qQ cK l fu 162 (evQ env.reverse (kid x 0)) a 0 b v) (z v rfl) z2 fun a b e d w hx hy=>qEvM cK l fu a.n a.wh a.sp a.wz a.bg env.reverse x a.x (rq h) h1 d.n d.wh e d.sp d.wz d.bg w d.x (qMatR cK l fu a.n a.wh a.sp a.wz a.bg env.reverse x a.x hk b.n b.wh b.sp b.wz b.bg v b.x hx h2 d.n d.wh e d.sp d.wz d.bg w d.x (qm2 cK l fu b env.reverse x v (szE_lens s.2).2.2 al h3 h4 _ hw e d w hy))
 | @exAe env x st wh k st1 wh1 h h1 g ih=>
  intro q s c n
  have hk:=rt_len2 h oM
  have k0:=kid_ce c.2 (i:=0) oM
  have q1:Okk fu (szTk (.ex env (kid x 0))) st:=q.le (by show szE (kid x 0)<=szE x; omega)
  have s1:SmT (.ex env (kid x 0)):=⟨s.1,szE_kid s.2 oM⟩
  have cc1:CeT st.s.length (.ex env (kid x 0)):=⟨c.1,k0.1⟩
  have z:=ih q1 s1 cc1 (kid_ln n oM)
  have lz:∀ (a b:Qs) (e:Int) (v:Vl),qQ cK l fu 180 (evQ env.reverse x) a e b v->qQ cK l fu 162 (evQ env.reverse x) a e b v:=fun a b e v y=>h1.elim (fun h1=>qEvA19 cK l fu a.n a.wh a.sp a.wz a.bg env.reverse x a.x (rq h) h1 b.n b.wh e b.sp b.wz b.bg v b.x y) (fun h1=>qEvA20 cK l fu a.n a.wh a.sp a.wz a.bg env.reverse x a.x (rq h) h1 b.n b.wh e b.sp b.wz b.bg v b.x y)
  refine ⟨z.1,fun a ha=>?_⟩
  obtain ⟨v,b,hb,hx⟩:=z.2 a ha
  exact ⟨v,b,hb,lz a b k v (qLazE cK l fu a.n a.wh a.sp a.wz a.bg env.reverse x a.x hk b.n b.wh k b.sp b.wz b.bg v b.x hx z.1)⟩
 | @exAs env x st wh v st1 h h1 g h2 ih=>
  intro q s c n
  have hk:=rt_len2 h oM
  have k0:=kid_ce c.2 (i:=0) oM
  have q1:Okk fu (szTk (.ex env (kid x 0))) st:=q.le (by show szE (kid x 0)<=szE x; omega)
  have s1:SmT (.ex env (kid x 0)):=⟨s.1,szE_kid s.2 oM⟩
  have cc1:CeT st.s.length (.ex env (kid x 0)):=⟨c.1,k0.1⟩
  have z:=ih q1 s1 cc1 (kid_ln n oM)
  have lz:∀ (a b:Qs) (e:Int) (v:Vl),qQ cK l fu 180 (evQ env.reverse x) a e b v->qQ cK l fu 162 (evQ env.reverse x) a e b v:=fun a b e v y=>h1.elim (fun h1=>qEvA19 cK l fu a.n a.wh a.sp a.wz a.bg env.reverse x a.x (rq h) h1 b.n b.wh e b.sp b.wz b.bg v b.x y) (fun h1=>qEvA20 cK l fu a.n a.wh a.sp a.wz a.bg env.reverse x a.x (rq h) h1 b.n b.wh e b.sp b.wz b.bg v b.x y)
  refine RfQ.fail cK l fu (v:=default) dD fun a ha=>?_
  obtain ⟨b,hb,hx⟩:=z v rfl a ha
  exact ⟨b,hb,lz a b 19 default (qLazS cK l fu a.n a.wh a.sp a.wz a.bg env.reverse x a.x hk b.n b.wh b.sp b.wz b.bg v b.x hx h2)⟩
 | @exAq env x st wh v st1 h h1 g h2 h3 ih=>
  intro q s c n
  have hk:=rt_len2 h oM
  have k0:=kid_ce c.2 (i:=0) oM
  have q1:Okk fu (szTk (.ex env (kid x 0))) st:=q.le (by show szE (kid x 0)<=szE x; omega)
  have s1:SmT (.ex env (kid x 0)):=⟨s.1,szE_kid s.2 oM⟩
  have cc1:CeT st.s.length (.ex env (kid x 0)):=⟨c.1,k0.1⟩
  have z:=ih q1 s1 cc1 (kid_ln n oM)
  have lz:∀ (a b:Qs) (e:Int) (v:Vl),qQ cK l fu 180 (evQ env.reverse x) a e b v->qQ cK l fu 162 (evQ env.reverse x) a e b v:=fun a b e v y=>h1.elim (fun h1=>qEvA19 cK l fu a.n a.wh a.sp a.wz a.bg env.reverse x a.x (rq h) h1 b.n b.wh e b.sp b.wz b.bg v b.x y) (fun h1=>qEvA20 cK l fu a.n a.wh a.sp a.wz a.bg env.reverse x a.x (rq h) h1 b.n b.wh e b.sp b.wz b.bg v b.x y)
  refine RfQ.one cK l fu fun a ha=>?_
  obtain ⟨b,hb,hx⟩:=z v rfl a ha
  exact ⟨b,hb,lz a b 0 _ (qLazQ cK l fu a.n a.wh a.sp a.wz a.bg env.reverse x a.x hk b.n b.wh b.sp b.wz b.bg v b.x hx h2 ((lz_q h1).1 h3))⟩
 | @exAr env x st wh v st1 k st2 wh2 h h1 g h2 h3 g2 ih ih2=>
  intro q s c n
  have hk:=rt_len2 h oM
  have k0:=kid_ce c.2 (i:=0) oM
  have q1:Okk fu (szTk (.ex env (kid x 0))) st:=q.le (by show szE (kid x 0)<=szE x; omega)
  have s1:SmT (.ex env (kid x 0)):=⟨s.1,szE_kid s.2 oM⟩
  have cc1:CeT st.s.length (.ex env (kid x 0)):=⟨c.1,k0.1⟩
  have z:=ih q1 s1 cc1 (kid_ln n oM)
  have lz:∀ (a b:Qs) (e:Int) (v:Vl),qQ cK l fu 180 (evQ env.reverse x) a e b v->qQ cK l fu 162 (evQ env.reverse x) a e b v:=fun a b e v y=>h1.elim (fun h1=>qEvA19 cK l fu a.n a.wh a.sp a.wz a.bg env.reverse x a.x (rq h) h1 b.n b.wh e b.sp b.wz b.bg v b.x y) (fun h1=>qEvA20 cK l fu a.n a.wh a.sp a.wz a.bg env.reverse x a.x (rq h) h1 b.n b.wh e b.sp b.wz b.bg v b.x y)
  obtain ⟨a1,a2⟩:=g.good niQ hl hd q.nf s1 cc1
  have k1:=kid_ce c.2 (i:=1) oM
  have kk:=kid2_ce (x:=x) (i:=0) (j:=1) oM oM
  have q2:Okk fu (szE (kid x 1)) st1:=q.step a1 (by show szE (kid x 0)+szE (kid x 1)<=szE x; omega)
  have z2:=ih2 q2 ⟨s.1,szE_kid s.2 oM⟩ ⟨c.1.mono a1.s,k1.1⟩ (kid_ln n oM)
  refine ⟨z2.1,fun a ha=>?_⟩
  obtain ⟨b,hb,hx⟩:=z v rfl a ha
  obtain ⟨w,d,hd2,hy⟩:=z2.2 b hb
  exact ⟨w,d,hd2,lz a d k w (qLazR cK l fu a.n a.wh a.sp a.wz a.bg env.reverse x a.x hk b.n b.wh b.sp b.wz b.bg v b.x hx h2 (fun e=>h3 ((lz_q h1).2 e)) d.n d.wh k d.sp d.wz d.bg w d.x hy z2.1)⟩
 | @exAt env x st wh v st1 u st2 h h1 g h2 h3 g2 h4 ih ih2=>
  intro q s c n
  have hk:=rt_len2 h oM
  have k0:=kid_ce c.2 (i:=0) oM
  have q1:Okk fu (szTk (.ex env (kid x 0))) st:=q.le (by show szE (kid x 0)<=szE x; omega)
  have s1:SmT (.ex env (kid x 0)):=⟨s.1,szE_kid s.2 oM⟩
  have cc1:CeT st.s.length (.ex env (kid x 0)):=⟨c.1,k0.1⟩
  have z:=ih q1 s1 cc1 (kid_ln n oM)
  have lz:∀ (a b:Qs) (e:Int) (v:Vl),qQ cK l fu 180 (evQ env.reverse x) a e b v->qQ cK l fu 162 (evQ env.reverse x) a e b v:=fun a b e v y=>h1.elim (fun h1=>qEvA19 cK l fu a.n a.wh a.sp a.wz a.bg env.reverse x a.x (rq h) h1 b.n b.wh e b.sp b.wz b.bg v b.x y) (fun h1=>qEvA20 cK l fu a.n a.wh a.sp a.wz a.bg env.reverse x a.x (rq h) h1 b.n b.wh e b.sp b.wz b.bg v b.x y)
  obtain ⟨a1,a2⟩:=g.good niQ hl hd q.nf s1 cc1
  have k1:=kid_ce c.2 (i:=1) oM
  have kk:=kid2_ce (x:=x) (i:=0) (j:=1) oM oM
  have q2:Okk fu (szE (kid x 1)) st1:=q.step a1 (by show szE (kid x 0)+szE (kid x 1)<=szE x; omega)
  have z2:=ih2 q2 ⟨s.1,szE_kid s.2 oM⟩ ⟨c.1.mono a1.s,k1.1⟩ (kid_ln n oM)
  refine RfQ.fail cK l fu (v:=default) dD fun a ha=>?_
  obtain ⟨b,hb,hx⟩:=z v rfl a ha
  obtain ⟨d,hd2,hy⟩:=z2 u rfl b hb
  exact ⟨d,hd2,lz a d 19 default (qLazT cK l fu a.n a.wh a.sp a.wz a.bg env.reverse x a.x hk b.n b.wh b.sp b.wz b.bg v b.x hx h2 (fun e=>h3 ((lz_q h1).2 e)) d.n d.wh d.sp d.wz d.bg u d.x hy h4)⟩
 | @exAo env x st wh v st1 u st2 h h1 g h2 h3 g2 h4 ih ih2=>
  intro q s c n
  have hk:=rt_len2 h oM
  have k0:=kid_ce c.2 (i:=0) oM
  have q1:Okk fu (szTk (.ex env (kid x 0))) st:=q.le (by show szE (kid x 0)<=szE x; omega)
  have s1:SmT (.ex env (kid x 0)):=⟨s.1,szE_kid s.2 oM⟩
  have cc1:CeT st.s.length (.ex env (kid x 0)):=⟨c.1,k0.1⟩
  have z:=ih q1 s1 cc1 (kid_ln n oM)
  have lz:∀ (a b:Qs) (e:Int) (v:Vl),qQ cK l fu 180 (evQ env.reverse x) a e b v->qQ cK l fu 162 (evQ env.reverse x) a e b v:=fun a b e v y=>h1.elim (fun h1=>qEvA19 cK l fu a.n a.wh a.sp a.wz a.bg env.reverse x a.x (rq h) h1 b.n b.wh e b.sp b.wz b.bg v b.x y) (fun h1=>qEvA20 cK l fu a.n a.wh a.sp a.wz a.bg env.reverse x a.x (rq h) h1 b.n b.wh e b.sp b.wz b.bg v b.x y)
  obtain ⟨a1,a2⟩:=g.good niQ hl hd q.nf s1 cc1
  have k1:=kid_ce c.2 (i:=1) oM
  have kk:=kid2_ce (x:=x) (i:=0) (j:=1) oM oM
  have q2:Okk fu (szE (kid x 1)) st1:=q.step a1 (by show szE (kid x 0)+szE (kid x 1)<=szE x; omega)
  have z2:=ih2 q2 ⟨s.1,szE_kid s.2 oM⟩ ⟨c.1.mono a1.s,k1.1⟩ (kid_ln n oM)
  refine RfQ.one cK l fu fun a ha=>?_
  obtain ⟨b,hb,hx⟩:=z v rfl a ha
  obtain ⟨d,hd2,hy⟩:=z2 u rfl b hb
  exact ⟨d,hd2,lz a d 0 _ (qLazO cK l fu a.n a.wh a.sp a.wz a.bg env.reverse x a.x hk b.n b.wh b.sp b.wz b.bg v b.x hx h2 (fun e=>h3 ((lz_q h1).2 e)) d.n d.wh d.sp d.wz d.bg u d.x hy h4)⟩
 | @exU env x st wh o h h1 g ih=>
  intro q s c n
  have hk:=rt_pos h h1
  have k0:=kid_ce c.2 (i:=(exK x).length - 1) oM
  have z:=ih (q.le (by show szE (kid x _)<=szE x; omega)) ⟨s.1,szE_kid s.2 oM⟩ ⟨c.1,k0.1⟩ (kid_ln n oM)
  have e1:(((exK x).length:Int) - 1).toNat=(exK x).length - 1:=by omega
  have e2:kid x ((exK x).length - 1)=(exK x).getD (((exK x).length:Int) - 1).toNat default:=by rw [e1]
  rw [e2] at z
  exact z.pass cK l fu fun a e b v ha hx=>h1.elim (fun h1=>qEvU25 cK l fu a.n a.wh a.sp a.wz a.bg env.reverse x a.x (rq h) h1 hk (szE_lens s.2).1 b.n b.wh e b.sp b.wz b.bg v b.x hx) (fun h1=>qEvU26 cK l fu a.n a.wh a.sp a.wz a.bg env.reverse x a.x (rq h) h1 hk (szE_lens s.2).1 b.n b.wh e b.sp b.wz b.bg v b.x hx)
 | @exOe env x st wh k st1 wh1 h h1 g ih=>
  intro q s c n
  have no:∀n:Int,¬isOne n->¬exO x=n:=fun n hn he=>hn (he ▸ h1)
  have kk:=kids_ce c.2
  have q1:Okk fu (szTk (.li env (exK x))) st:=q.le (by have:=kk.2; show szEs (exK x)<=szE x; omega)
  have s1:SmT (.li env (exK x)):=⟨s.1,kids_sm s.2⟩
  have cc1:CeT st.s.length (.li env (exK x)):=⟨c.1,kk.1⟩
  have ln:=(szE_lens s.2).1
  have z:=ih q1 s1 cc1 (kids_ln n)
  refine ⟨z.1,fun a ha=>?_⟩
  obtain ⟨b,hb,hx⟩:=z.2 a ha
  exact ⟨default,b,hb,qEvOe cK l fu a.n a.wh a.sp a.wz a.bg env.reverse x a.x (rq h) (no 1 dD) (no 2 dD) (no 3 dD) (no 4 dD) (no 5 dD) (no 6 dD) (no 7 dD) (no 8 dD) (no 9 dD) (no 19 dD) (no 20 dD) (no 25 dD) (no 26 dD) b.n b.wh k b.sp b.wz b.bg [] b.x (lc_er cK l fu env.reverse (exK x) ln a k z.1 b hx) z.1⟩
 | @exWe env x st wh k st1 wh1 h h1 g ih=>
  intro q s c n
  have no:∀n:Int,¬isTwo n->¬exO x=n:=fun n hn he=>hn (he ▸ h1)
  have kk:=kids_ce c.2
  have q1:Okk fu (szTk (.li env (exK x))) st:=q.le (by have:=kk.2; show szEs (exK x)<=szE x; omega)
  have s1:SmT (.li env (exK x)):=⟨s.1,kids_sm s.2⟩
  have cc1:CeT st.s.length (.li env (exK x)):=⟨c.1,kk.1⟩
  have ln:=(szE_lens s.2).1
  have z:=ih q1 s1 cc1 (kids_ln n)
  refine ⟨z.1,fun a ha=>?_⟩
  obtain ⟨b,hb,hx⟩:=z.2 a ha
  exact ⟨default,b,hb,qEvOe cK l fu a.n a.wh a.sp a.wz a.bg env.reverse x a.x (rq h) (no 1 dD) (no 2 dD) (no 3 dD) (no 4 dD) (no 5 dD) (no 6 dD) (no 7 dD) (no 8 dD) (no 9 dD) (no 19 dD) (no 20 dD) (no 25 dD) (no 26 dD) b.n b.wh k b.sp b.wz b.bg [] b.x (lc_er cK l fu env.reverse (exK x) ln a k z.1 b hx) z.1⟩
 | @exOo env x st wh v st1 h h1 g ih=>
  intro q s c n
  have no:∀n:Int,¬isOne n->¬exO x=n:=fun n hn he=>hn (he ▸ h1)
  have kk:=kids_ce c.2
  have q1:Okk fu (szTk (.li env (exK x))) st:=q.le (by have:=kk.2; show szEs (exK x)<=szE x; omega)
  have s1:SmT (.li env (exK x)):=⟨s.1,kids_sm s.2⟩
  have cc1:CeT st.s.length (.li env (exK x)):=⟨c.1,kk.1⟩
  have ln:=(szE_lens s.2).1
  have z:=ih q1 s1 cc1 (kids_ln n)
  obtain ⟨a1,a2⟩:=g.good niQ hl hd q.nf s1 cc1
  have qq:=q.step a1 (k2:=0) (by have:=kk.2; show szEs (exK x)+0<=szE x; omega)
  have hcel:=qq.cells
  simp only [cok_st] at hcel
  have y:=op1_ok cK l fu (exO x) h1 v st1 wh oM (CeV_parts a2.one.2).1
  show RfQ cK l fu 162 (evQ env.reverse x) st wh (cxc (cQ1 (exO x) v st1) st1 wh)
  have fin:∀ (a b:Qs) (e:Int) (d:Qs) (w:Vl),LcO cK l fu env.reverse (exK x) a [v] b->qQ cK l fu 181 [.int .i64 (exO x),.sl 7 (Vl.cs [v])] b e d w->qQ cK l fu 162 (evQ env.reverse x) a e d w:=fun a b e d w hx hy=>qEvO cK l fu a.n a.wh a.sp a.wz a.bg env.reverse x a.x (rq h) (no 1 dD) (no 2 dD) (no 3 dD) (no 4 dD) (no 5 dD) (no 6 dD) (no 7 dD) (no 8 dD) (no 9 dD) (no 19 dD) (no 20 dD) (no 25 dD) (no 26 dD) b.n b.wh b.sp b.wz b.bg [v] b.x (lc_ok cK l fu env.reverse (exK x) ln a [v] b hx) d.n d.wh e d.sp d.wz d.bg w d.x hy
  cases hr:cQ1 (exO x) v st1 with
  | ok r=>
   rw [hr] at y
   refine RfQ.one cK l fu fun a ha=>?_
   obtain ⟨b,hb,hx⟩:=z a ha
   obtain ⟨d,hd2,hy⟩:=y b hb
   exact ⟨d,hd2,fin a b 0 d _ hx hy⟩
  | error k=>
   rw [hr] at y
   have hk0:¬k=0:=by
    intro e
    subst e
    unfold cQ1 at hr
    repeat' split at hr
    all_goals first
     | (injection hr with hr; revert hr; decide)
     | (injection hr with hr; contradiction)
     | cases hr
   refine ⟨hk0,fun a ha=>?_⟩
   obtain ⟨b,hb,hx⟩:=z a ha
   obtain ⟨-,w,hy⟩:=y b hb
   exact ⟨w,b,hb,fin a b k b w hx hy⟩
 | @exWo env x st wh v u st1 h h1 g ih=>
  intro q s c n
  have no:∀n:Int,¬isTwo n->¬exO x=n:=fun n hn he=>hn (he ▸ h1)
  have kk:=kids_ce c.2
  have q1:Okk fu (szTk (.li env (exK x))) st:=q.le (by have:=kk.2; show szEs (exK x)<=szE x; omega)
  have s1:SmT (.li env (exK x)):=⟨s.1,kids_sm s.2⟩
  have cc1:CeT st.s.length (.li env (exK x)):=⟨c.1,kk.1⟩
  have ln:=(szE_lens s.2).1
  have z:=ih q1 s1 cc1 (kids_ln n)
  obtain ⟨a1,a2⟩:=g.good niQ hl hd q.nf s1 cc1
  have qq:=q.step a1 (k2:=0) (by have:=kk.2; show szEs (exK x)+0<=szE x; omega)
  have hcel:=qq.cells
  simp only [cok_st] at hcel
  have p2:=a2.2
  rw [CeVs] at p2
  have y:=op2_ok cK l fu (exO x) h1 v u st1 wh oM qq.w0 oM (CeV_parts p2.1).1
  show RfQ cK l fu 162 (evQ env.reverse x) st wh (cxc (cQ2 (exO x) v u st1) st1 wh)
  have fin:∀ (a b:Qs) (e:Int) (d:Qs) (w:Vl),LcO cK l fu env.reverse (exK x) a [v,u] b->qQ cK l fu 181 [.int .i64 (exO x),.sl 7 (Vl.cs [v,u])] b e d w->qQ cK l fu 162 (evQ env.reverse x) a e d w:=fun a b e d w hx hy=>qEvO cK l fu a.n a.wh a.sp a.wz a.bg env.reverse x a.x (rq h) (no 1 dD) (no 2 dD) (no 3 dD) (no 4 dD) (no 5 dD) (no 6 dD) (no 7 dD) (no 8 dD) (no 9 dD) (no 19 dD) (no 20 dD) (no 25 dD) (no 26 dD) b.n b.wh b.sp b.wz b.bg [v,u] b.x (lc_ok cK l fu env.reverse (exK x) ln a [v,u] b hx) d.n d.wh e d.sp d.wz d.bg w d.x hy
  cases hr:cQ2 (exO x) v u st1 with
  | ok r=>
   rw [hr] at y
   refine RfQ.one cK l fu fun a ha=>?_
   obtain ⟨b,hb,hx⟩:=z a ha
   obtain ⟨d,hd2,hy⟩:=y b hb
   exact ⟨d,hd2,fin a b 0 d _ hx hy⟩
  | error k=>
   rw [hr] at y
   have hk0:¬k=0:=by
    intro e
    subst e
    unfold cQ2 at hr
    repeat' split at hr
    all_goals first
     | (injection hr with hr; revert hr; decide)
     | (injection hr with hr; contradiction)
     | cases hr
   refine ⟨hk0,fun a ha=>?_⟩
   obtain ⟨b,hb,hx⟩:=z a ha
   obtain ⟨-,w,hy⟩:=y b hb
   exact ⟨w,b,hb,fin a b k b w hx hy⟩
end
section
variable (cK:C5) (l:List Df) (fu:Int)
def PkO:List Vl->Qs->List Vl->Qs->Prop
 | [],a,us,b=>us=[]/\a=b
 | v::r,a,us,c=>∃u b us',qQ cK l fu 88 [.agg (vlL v)] a 0 b u/\PkO r b us' c/\us=u::us'
def PbO:List Bd->Qs->List Bd->Qs->Prop
 | [],a,us,b=>us=[]/\a=b
 | v::r,a,us,c=>∃u b us',qQ cK l fu 88 [.agg (vlL (bdV v))] a 0 b u/\PbO r b us' c/\us = .mk (bdNm v) u::us'
theorem pk_loop(op k:Int)(nm:BA)(ks:List Vl)(ps:List BA)(body:List Ex)(bs:List Bd)(hn:ks.length<=1000000000)(a:Qs)(us:List Vl)(c:Qs)(h:PkO cK l fu ks a us c) :
  (Ob.loop 88 (loopF f88 0) (plI (sVQ cK l fu a 0) op k nm ks ps body bs [] 0 a.x) (.exit 0) ⟨[(2,.lp 2 0),(3,.lp 3 0),(4,.lp 4 0),(5,.lp 5 0),(8,.uniq 52 7 (Vl.cs us))],[(2,sVQ cK l fu c 0),(3,[.v (.int .i64 op),.v (.int .i64 k),.v (.str nm),.v (.sl 7 (Vl.cs ks)),.v (.sl 1 (nmsC ps)),.v (.sl 7 (Ex.cs body)),.v (.sl 8 (Bd.cs bs))]),(4,jk13),(5,jk7)],c.x⟩).ok prog:=by
 have:=Ob.loop_of (P:=prog) (n:=88) (c:=(loopF f88 0)) (α:={ x:Nat × Qs × List Vl × List Vl // x.1<=ks.length/\x.2.2.1.length=x.1/\PkO cK l fu (ks.drop x.1) x.2.1 x.2.2.2 c/\x.2.2.1++x.2.2.2=us })
  (fun x=>plI (sVQ cK l fu x.1.2.1 0) op k nm ks ps body bs x.1.2.2.1 x.1.1 x.1.2.1.x) (fun x=>ks.length - x.1.1) (fun _=>((.exit 0),⟨[(2,.lp 2 0),(3,.lp 3 0),(4,.lp 4 0),(5,.lp 5 0),(8,.uniq 52 7 (Vl.cs us))],[(2,sVQ cK l fu c 0),(3,[.v (.int .i64 op),.v (.int .i64 k),.v (.str nm),.v (.sl 7 (Vl.cs ks)),.v (.sl 1 (nmsC ps)),.v (.sl 7 (Ex.cs body)),.v (.sl 8 (Bd.cs bs))]),(4,jk13),(5,jk7)],c.x⟩)) ?_ ⟨(0,a,[],us),by simp,rfl,by simpa using h,rfl⟩
 ·exact this
 ·rintro ⟨⟨i,e1,out,rest⟩,hi,ho,hli,hvs⟩ cx hcx
  simp only at hi ho hli hvs ⊢
  rcases Nat.lt_or_ge i ks.length with hlt | hge
  ·rw [drop_at hlt] at hli
   obtain ⟨u,e2,us',h1,h2,rfl⟩:=hli
   refine qpT cK l fu e1.n e1.wh e1.sp e1.wz e1.bg op k nm ks ps body bs out i e1.x hlt hn oM e2.n e2.wh e2.sp e2.wz e2.bg u e2.x h1 cx hcx (.inl ⟨rfl,⟨(i+1,e2,out++[u],us'),hlt,by simp [ho],h2,by simp [<-hvs]⟩,by simp only; omega,⟨⟨W,W,W,W,.inl ?_,W,tV⟩,⟨WLs.refl _,WLs.refl _,WLs.refl _,WLs.refl _,tV⟩,rfl⟩,tV⟩)
   rw [Vl.cs_snoc]
  ·have he:i=ks.length:=by omega
   subst he
   rw [List.drop_length] at hli
   obtain ⟨rfl,rfl⟩:=hli
   rw [List.append_nil] at hvs
   subst hvs
   exact qpZ cK l fu e1.n e1.wh e1.sp e1.wz e1.bg op k nm ks ps body bs out e1.x cx hcx (.inr ⟨by simp,rfl,⟨W,W,W,W,W,tV⟩,⟨WLs.refl _,WLs.refl _,WLs.refl _,WLs.refl _,tV⟩,rfl⟩)
theorem pb_loop(op k:Int)(nm:BA)(ks:List Vl)(ps:List BA)(body:List Ex)(bs:List Bd)(hn:bs.length<=1000000000)(a:Qs)(us:List Bd)(c:Qs)(h:PbO cK l fu bs a us c) :
  (Ob.loop 88 (loopF f88 1) (plJ (sVQ cK l fu a 0) op k nm ks ps body bs [] 0 a.x) (.exit 2) ⟨[(2,.lp 2 0),(3,.lp 3 0),(4,.lp 4 0),(5,.lp 5 0),(12,.uniq 66 8 (Bd.cs us))],[(2,sVQ cK l fu c 0),(3,[.v (.int .i64 op),.v (.int .i64 k),.v (.str nm),.v (.sl 7 (Vl.cs ks)),.v (.sl 1 (nmsC ps)),.v (.sl 7 (Ex.cs body)),.v (.sl 8 (Bd.cs bs))]),(4,jk13),(5,jk7)],c.x⟩).ok prog:=by
 have:=Ob.loop_of (P:=prog) (n:=88) (c:=(loopF f88 1)) (α:={ x:Nat × Qs × List Bd × List Bd // x.1<=bs.length/\x.2.2.1.length=x.1/\PbO cK l fu (bs.drop x.1) x.2.1 x.2.2.2 c/\x.2.2.1++x.2.2.2=us })
  (fun x=>plJ (sVQ cK l fu x.1.2.1 0) op k nm ks ps body bs x.1.2.2.1 x.1.1 x.1.2.1.x) (fun x=>bs.length - x.1.1) (fun _=>((.exit 2),⟨[(2,.lp 2 0),(3,.lp 3 0),(4,.lp 4 0),(5,.lp 5 0),(12,.uniq 66 8 (Bd.cs us))],[(2,sVQ cK l fu c 0),(3,[.v (.int .i64 op),.v (.int .i64 k),.v (.str nm),.v (.sl 7 (Vl.cs ks)),.v (.sl 1 (nmsC ps)),.v (.sl 7 (Ex.cs body)),.v (.sl 8 (Bd.cs bs))]),(4,jk13),(5,jk7)],c.x⟩)) ?_ ⟨(0,a,[],us),by simp,rfl,by simpa using h,rfl⟩
 ·exact this
 ·rintro ⟨⟨i,e1,out,rest⟩,hi,ho,hli,hvs⟩ cx hcx
  simp only at hi ho hli hvs ⊢
  rcases Nat.lt_or_ge i bs.length with hlt | hge
  ·rw [drop_at hlt] at hli
   obtain ⟨u,e2,us',h1,h2,rfl⟩:=hli
   refine qbT cK l fu e1.n e1.wh e1.sp e1.wz e1.bg op k nm ks ps body bs out i e1.x hlt hn oM e2.n e2.wh e2.sp e2.wz e2.bg u e2.x h1 cx hcx (.inl ⟨rfl,⟨(i+1,e2,out++[.mk (bdNm (bs.getD i default)) u],us'),hlt,by simp [ho],h2,by simp [<-hvs]⟩,by simp only; omega,⟨⟨W,W,W,W,.inl ?_,W,tV⟩,⟨WLs.refl _,WLs.refl _,WLs.refl _,WLs.refl _,tV⟩,rfl⟩,tV⟩)
   rw [Bd.cs_snoc2]; rfl
  ·have he:i=bs.length:=by omega
   subst he
   rw [List.drop_length] at hli
   obtain ⟨rfl,rfl⟩:=hli
   rw [List.append_nil] at hvs
   subst hvs
   exact qbZ cK l fu e1.n e1.wh e1.sp e1.wz e1.bg op k nm ks ps body bs out e1.x cx hcx (.inr ⟨by simp,rfl,⟨W,W,W,W,W,tV⟩,⟨WLs.refl _,WLs.refl _,WLs.refl _,WLs.refl _,tV⟩,rfl⟩)
theorem pn_loop(name:BA)(args:List Vl)(hn:args.length<=1000000000)(a:Qs)(us:List Vl)(c:Qs)(h:PkO cK l fu args a us c) :
  (Ob.loop 72 (loopF f58 0) (rqI (sVQ cK l fu a 0) name args [] 0 a.x) (.exit 0) ⟨[(1,.v (.str name)),(8,.lp 8 0),(9,.lp 9 0),(10,.lp 10 0),(11,.uniq 52 7 (Vl.cs us))],[(8,[jk,jk,jk,jk,jk,jk,jk,jk,jk,jk]),(9,jk13),(10,sVQ cK l fu c 0)],c.x⟩).ok prog:=by
 have:=Ob.loop_of (P:=prog) (n:=72) (c:=(loopF f58 0)) (α:={ x:Nat × Qs × List Vl × List Vl // x.1<=args.length/\x.2.2.1.length=x.1/\PkO cK l fu (args.drop x.1) x.2.1 x.2.2.2 c/\x.2.2.1++x.2.2.2=us })
  (fun x=>rqI (sVQ cK l fu x.1.2.1 0) name args x.1.2.2.1 x.1.1 x.1.2.1.x) (fun x=>args.length - x.1.1) (fun _=>((.exit 0),⟨[(1,.v (.str name)),(8,.lp 8 0),(9,.lp 9 0),(10,.lp 10 0),(11,.uniq 52 7 (Vl.cs us))],[(8,[jk,jk,jk,jk,jk,jk,jk,jk,jk,jk]),(9,jk13),(10,sVQ cK l fu c 0)],c.x⟩)) ?_ ⟨(0,a,[],us),by simp,rfl,by simpa using h,rfl⟩
 ·exact this
 ·rintro ⟨⟨i,e1,out,rest⟩,hi,ho,hli,hvs⟩ cx hcx
  simp only at hi ho hli hvs ⊢
  rcases Nat.lt_or_ge i args.length with hlt | hge
  ·rw [drop_at hlt] at hli
   obtain ⟨u,e2,us',h1,h2,rfl⟩:=hli
   refine qnT cK l fu e1.n e1.wh e1.sp e1.wz e1.bg name args out i e1.x hlt hn oM e2.n e2.wh e2.sp e2.wz e2.bg u e2.x h1 cx hcx (.inl ⟨rfl,⟨(i+1,e2,out++[u],us'),hlt,by simp [ho],h2,by simp [<-hvs]⟩,by simp only; omega,⟨⟨W,W,W,W,W,.inl ?_,W,tV⟩,⟨WLs.refl _,WLs.refl _,WLs.refl _,tV⟩,rfl⟩,tV⟩)
   rw [Vl.cs_snoc]
  ·have he:i=args.length:=by omega
   subst he
   rw [List.drop_length] at hli
   obtain ⟨rfl,rfl⟩:=hli
   rw [List.append_nil] at hvs
   subst hvs
   exact qnZ cK l fu e1.n e1.wh e1.sp e1.wz e1.bg name args out e1.x cx hcx (.inr ⟨by simp,rfl,⟨W,W,W,W,W,tV⟩,⟨WLs.refl _,WLs.refl _,WLs.refl _,tV⟩,rfl⟩)
mutual
theorem plq_V(n w:Int)(wh:BA):∀ (v:Vl) (s:List Int),SmV v->s.length+cnV v<=1000000000->∀a,QR a ⟨n,s,w⟩ wh->∃b,QR b ⟨n,(plV v s).2,w⟩ wh/\qQ cK l fu 88 [.agg (vlL v)] a 0 b (plV v s).1
 | .mk op k nm kids ps body binds,s,h,hb,a,ha=>by
  rw [SmV] at h
  rw [cnV] at hb
  by_cases ho:op=4
  ·rw [iP ho] at hb
   obtain ⟨b0,hb0,hm⟩:=made_ok cK l fu ha (by simp only; omega) k
   obtain ⟨b1,hb1,hk⟩:=plq_Vs n w wh kids (s++[k]) h.2.2.2.2.1 (by simp only [List.length_append,List.length_cons,List.length_nil]; omega) b0 hb0
   obtain ⟨b2,hb2,hd⟩:=plq_Bs n w wh binds (plVs kids (s++[k])).2 h.2.2.2.2.2 (by rw [plVs_len]; simp only [List.length_append,List.length_cons,List.length_nil]; omega) b1 hb1
   rw [plV]
   simp only [iP ho]
   exact ⟨b2,hb2,qPlcC cK l fu a.n a.wh a.sp a.wz a.bg op k nm kids ps body binds a.x ho b0.n b0.wh b0.sp b0.wz b0.bg (vX 4 s.length) b0.x hm _ b1.n b1.wh b1.sp b1.wz b1.bg b1.x (pk_loop cK l fu op s.length nm kids ps body binds oM b0 _ b1 hk) _ b2.n b2.wh b2.sp b2.wz b2.bg b2.x (pb_loop cK l fu op s.length nm _ ps body binds oM b1 _ b2 hd)⟩
  ·rw [iN ho] at hb
   obtain ⟨b1,hb1,hk⟩:=plq_Vs n w wh kids s h.2.2.2.2.1 oM a ha
   obtain ⟨b2,hb2,hd⟩:=plq_Bs n w wh binds (plVs kids s).2 h.2.2.2.2.2 (by rw [plVs_len]; omega) b1 hb1
   rw [plV]
   simp only [iN ho]
   exact ⟨b2,hb2,qPlcN cK l fu a.n a.wh a.sp a.wz a.bg op k nm kids ps body binds a.x ho _ b1.n b1.wh b1.sp b1.wz b1.bg b1.x (pk_loop cK l fu op k nm kids ps body binds oM a _ b1 hk) _ b2.n b2.wh b2.sp b2.wz b2.bg b2.x (pb_loop cK l fu op k nm _ ps body binds oM b1 _ b2 hd)⟩
theorem plq_Vs(n w:Int)(wh:BA):∀ (vs:List Vl) (s:List Int),SmVs vs->s.length+cnVs vs<=1000000000->∀a,QR a ⟨n,s,w⟩ wh->∃b,QR b ⟨n,(plVs vs s).2,w⟩ wh/\PkO cK l fu vs a (plVs vs s).1 b
 | [],s,_,_,a,ha=>by rw [plVs]; exact ⟨a,ha,rfl,rfl⟩
 | v::r,s,h,hb,a,ha=>by
  rw [SmVs] at h
  rw [cnVs] at hb
  obtain ⟨b,hb1,hv⟩:=plq_V n w wh v s h.1 oM a ha
  obtain ⟨c,hc,hr⟩:=plq_Vs n w wh r (plV v s).2 h.2 (by rw [plV_len]; omega) b hb1
  rw [plVs]
  exact ⟨c,hc,_,b,_,hv,hr,rfl⟩
theorem plq_Bs(n w:Int)(wh:BA):∀ (vs:List Bd) (s:List Int),SmBs vs->s.length+cnBs vs<=1000000000->∀a,QR a ⟨n,s,w⟩ wh->∃b,QR b ⟨n,(plBs vs s).2,w⟩ wh/\PbO cK l fu vs a (plBs vs s).1 b
 | [],s,_,_,a,ha=>by rw [plBs]; exact ⟨a,ha,rfl,rfl⟩
 | .mk nm v::r,s,h,hb,a,ha=>by
  rw [SmBs] at h
  rw [cnBs] at hb
  obtain ⟨b,hb1,hv⟩:=plq_V n w wh v s h.1 oM a ha
  obtain ⟨c,hc,hr⟩:=plq_Bs n w wh r (plV v s).2 h.2 (by rw [plV_len]; omega) b hb1
  rw [plBs]
  exact ⟨c,hc,_,b,_,hv,hr,rfl⟩
end
abbrev rdQ(a:Qs)(v u:Vl):Prop:=Ef 90 [.agg (sG cK l fu a.n a.wh 0 a.sp a.wz a.bg),.agg (vlL v)] a.x (.ret (.agg (vlL u))) a.x
def RkO(a:Qs):List Vl->List Vl->Prop
 | [],us=>us=[]
 | v::r,us=>∃u us',rdQ cK l fu a v u/\RkO a r us'/\us=u::us'
def RbO(a:Qs):List Bd->List Bd->Prop
 | [],us=>us=[]
 | v::r,us=>∃u us',rdQ cK l fu a (bdV v) u/\RbO a r us'/\us = .mk (bdNm v) u::us'
theorem rk_loop(op k:Int)(nm:BA)(ks:List Vl)(ps:List BA)(body:List Ex)(bs:List Bd)(hn:ks.length<=1000000000)(a:Qs)(us:List Vl)(h:RkO cK l fu a ks us) :
  (Ob.loop 66 (loopF f90 0) (rdI (sVQ cK l fu a 0) op k nm ks ps body bs [] 0 a.x) (.exit 0) ⟨[(2,.lp 2 0),(3,.lp 3 0),(4,.lp 4 0),(5,.uniq 52 7 (Vl.cs us))],[(2,sVQ cK l fu a 0),(3,[.v (.int .i64 op),.v (.int .i64 k),.v (.str nm),.v (.sl 7 (Vl.cs ks)),.v (.sl 1 (nmsC ps)),.v (.sl 7 (Ex.cs body)),.v (.sl 8 (Bd.cs bs))]),(4,jk7)],a.x⟩).ok prog:=by
 have:=Ob.loop_of (P:=prog) (n:=66) (c:=(loopF f90 0)) (α:={ x:Nat × List Vl × List Vl // x.1<=ks.length/\x.2.1.length=x.1/\RkO cK l fu a (ks.drop x.1) x.2.2/\x.2.1++x.2.2=us })
  (fun x=>rdI (sVQ cK l fu a 0) op k nm ks ps body bs x.1.2.1 x.1.1 a.x) (fun x=>ks.length - x.1.1) (fun _=>((.exit 0),⟨[(2,.lp 2 0),(3,.lp 3 0),(4,.lp 4 0),(5,.uniq 52 7 (Vl.cs us))],[(2,sVQ cK l fu a 0),(3,[.v (.int .i64 op),.v (.int .i64 k),.v (.str nm),.v (.sl 7 (Vl.cs ks)),.v (.sl 1 (nmsC ps)),.v (.sl 7 (Ex.cs body)),.v (.sl 8 (Bd.cs bs))]),(4,jk7)],a.x⟩)) ?_ ⟨(0,[],us),by simp,rfl,by simpa using h,rfl⟩
 ·exact this
 ·rintro ⟨⟨i,out,rest⟩,hi,ho,hli,hvs⟩ cx hcx
  simp only at hi ho hli hvs ⊢
  rcases Nat.lt_or_ge i ks.length with hlt | hge
  ·rw [drop_at hlt] at hli
   obtain ⟨u,us',h1,h2,rfl⟩:=hli
   refine qrT cK l fu a.n a.wh a.sp a.wz a.bg op k nm ks ps body bs out i a.x hlt hn oM u h1 cx hcx (.inl ⟨rfl,⟨(i+1,out++[u],us'),hlt,by simp [ho],h2,by simp [<-hvs]⟩,by simp only; omega,⟨⟨W,W,W,.inl ?_,W,tV⟩,⟨WLs.refl _,WLs.refl _,WLs.refl _,tV⟩,rfl⟩,tV⟩)
   rw [Vl.cs_snoc]
  ·have he:i=ks.length:=by omega
   subst he
   rw [List.drop_length] at hli
   have hl2:rest=[]:=hli
   subst hl2
   rw [List.append_nil] at hvs
   subst hvs
   exact qrZ cK l fu a.n a.wh a.sp a.wz a.bg op k nm ks ps body bs out a.x cx hcx (.inr ⟨by simp,rfl,⟨W,W,W,W,tV⟩,⟨WLs.refl _,WLs.refl _,WLs.refl _,tV⟩,rfl⟩)
theorem rb_loop(op k:Int)(nm:BA)(ks:List Vl)(ps:List BA)(body:List Ex)(bs:List Bd)(hn:bs.length<=1000000000)(a:Qs)(us:List Bd)(h:RbO cK l fu a bs us) :
  (Ob.loop 66 (loopF f90 1) (rdJ (sVQ cK l fu a 0) op k nm ks ps body bs [] 0 a.x) (.exit 2) ⟨[(2,.lp 2 0),(3,.lp 3 0),(4,.lp 4 0),(7,.uniq 66 8 (Bd.cs us))],[(2,sVQ cK l fu a 0),(3,[.v (.int .i64 op),.v (.int .i64 k),.v (.str nm),.v (.sl 7 (Vl.cs ks)),.v (.sl 1 (nmsC ps)),.v (.sl 7 (Ex.cs body)),.v (.sl 8 (Bd.cs bs))]),(4,jk7)],a.x⟩).ok prog:=by
 have:=Ob.loop_of (P:=prog) (n:=66) (c:=(loopF f90 1)) (α:={ x:Nat × List Bd × List Bd // x.1<=bs.length/\x.2.1.length=x.1/\RbO cK l fu a (bs.drop x.1) x.2.2/\x.2.1++x.2.2=us })
  (fun x=>rdJ (sVQ cK l fu a 0) op k nm ks ps body bs x.1.2.1 x.1.1 a.x) (fun x=>bs.length - x.1.1) (fun _=>((.exit 2),⟨[(2,.lp 2 0),(3,.lp 3 0),(4,.lp 4 0),(7,.uniq 66 8 (Bd.cs us))],[(2,sVQ cK l fu a 0),(3,[.v (.int .i64 op),.v (.int .i64 k),.v (.str nm),.v (.sl 7 (Vl.cs ks)),.v (.sl 1 (nmsC ps)),.v (.sl 7 (Ex.cs body)),.v (.sl 8 (Bd.cs bs))]),(4,jk7)],a.x⟩)) ?_ ⟨(0,[],us),by simp,rfl,by simpa using h,rfl⟩
 ·exact this
 ·rintro ⟨⟨i,out,rest⟩,hi,ho,hli,hvs⟩ cx hcx
  simp only at hi ho hli hvs ⊢
  rcases Nat.lt_or_ge i bs.length with hlt | hge
  ·rw [drop_at hlt] at hli
   obtain ⟨u,us',h1,h2,rfl⟩:=hli
   refine qsT cK l fu a.n a.wh a.sp a.wz a.bg op k nm ks ps body bs out i a.x hlt hn oM u h1 cx hcx (.inl ⟨rfl,⟨(i+1,out++[.mk (bdNm (bs.getD i default)) u],us'),hlt,by simp [ho],h2,by simp [<-hvs]⟩,by simp only; omega,⟨⟨W,W,W,.inl ?_,W,tV⟩,⟨WLs.refl _,WLs.refl _,WLs.refl _,tV⟩,rfl⟩,tV⟩)
   rw [Bd.cs_snoc2]; rfl
  ·have he:i=bs.length:=by omega
   subst he
   rw [List.drop_length] at hli
   have hl2:rest=[]:=hli
   subst hl2
   rw [List.append_nil] at hvs
   subst hvs
   exact qsZ cK l fu a.n a.wh a.sp a.wz a.bg op k nm ks ps body bs out a.x cx hcx (.inr ⟨by simp,rfl,⟨W,W,W,W,tV⟩,⟨WLs.refl _,WLs.refl _,WLs.refl _,tV⟩,rfl⟩)
mutual
theorem rdq_V(a:Qs)(st:St)(wh:BA)(ha:QR a st wh):∀ (v:Vl),SmV v->CeV st.s.length v->rdQ cK l fu a v (rdV st.s v)
 | .mk op k nm kids ps body binds,h,hc=>by
  rw [SmV] at h
  rw [CeV] at hc
  have hk:=rdq_Vs a st wh ha kids h.2.2.2.2.1 hc.2.2.1
  have hd:=rdq_Bs a st wh ha binds h.2.2.2.2.2 hc.2.2.2
  rw [rdV]
  by_cases ho:op=4
  ·simp only [iP ho]
   have hj:=hc.1 ho
   have l1:=rk_loop cK l fu op (st.s.getD k.toNat 0) nm kids ps body binds oM a _ hk
   have l2:=rb_loop cK l fu op (st.s.getD k.toNat 0) nm (rdVs st.s kids) ps body binds oM a _ hd
   obtain ⟨n,wh1,sp,wz,bg,x⟩:=a
   obtain ⟨h1,h2,h3,⟨hs,h4,h5⟩ | ⟨c,h4,h5⟩⟩:=ha
   ·rw [hs] at hj; simp only [List.length_nil] at hj; omega
   ·simp only at h1 h2 h3 h4 h5
    subst h4 h5
    exact qRedC cK l fu n wh1 wz bg op k nm kids ps body binds ho c st.s hj _ l1 _ l2
  ·simp only [iN ho]
   exact qRedN cK l fu a.n a.wh a.sp a.wz a.bg op k nm kids ps body binds ho a.x _ (rk_loop cK l fu op k nm kids ps body binds oM a _ hk) _ (rb_loop cK l fu op k nm _ ps body binds oM a _ hd)
theorem rdq_Vs(a:Qs)(st:St)(wh:BA)(ha:QR a st wh):∀ (vs:List Vl),SmVs vs->CeVs st.s.length vs->RkO cK l fu a vs (rdVs st.s vs)
 | [],_,_=>by rw [rdVs]; rfl
 | v::r,h,hc=>by
  rw [SmVs] at h
  rw [CeVs] at hc
  rw [rdVs]
  exact ⟨_,_,rdq_V a st wh ha v h.1 hc.1,rdq_Vs a st wh ha r h.2 hc.2,rfl⟩
theorem rdq_Bs(a:Qs)(st:St)(wh:BA)(ha:QR a st wh):∀ (vs:List Bd),SmBs vs->CeBs st.s.length vs->RbO cK l fu a vs (rdBs st.s vs)
 | [],_,_=>by rw [rdBs]; rfl
 | .mk nm v::r,h,hc=>by
  rw [SmBs] at h
  rw [CeBs] at hc
  rw [rdBs]
  exact ⟨_,_,rdq_V a st wh ha v h.1 hc.1,rdq_Bs a st wh ha r h.2 hc.2,rfl⟩
end
end
section
variable (cK:C5) (l:List Df)
theorem big31_ok(hx:PV.noX (mdM cK l)=true)(hl:SmL l)(hd:∀d∈l,szE (dfB d)<=1048576){name:BA}{args:List Vl}(ha:SmVs args)(hb:BoVs args)(hn:args.length<=1000000000)(h1:(cnVs args:Int)<=4000000) :
  ∃b,Pu 26 [mdM cK l,.str name,.sl 7 (Vl.cs args),.int .i64 300] (.ret (.bool b)):=by
 have hargs:noXs [mdM cK l,.str name,.sl 7 (Vl.cs args),.int .i64 300]=true:=by
  have e1:PV.noX (.sl 7 (Vl.cs args))=true:=by rw [PV.noX,vls_nx]
  have e2:PV.noX (.str name)=true:=rfl
  rw [noXs,hx,noXs,e2,noXs,e1]
  rfl
 have hlen:=plVs_len args []
 simp only [List.length_nil] at hlen
 have hpl:=plVs_ok args [] ha hb
 obtain ⟨b1,hb1,hk⟩:=plq_Vs cK l 300 0 0 nm0 args [] ha (by simp only [List.length_nil]; omega) ⟨0,nm0,.nilsl,0,false,[]⟩ ⟨rfl,rfl,rfl,.inl ⟨rfl,rfl,rfl⟩⟩
 have hlp:=pn_loop cK l 300 name args hn _ _ b1 hk
 have main:∃o,RfQ cK l 300 89 [.str name,.sl 7 (Vl.cs (plVs args []).1)] ⟨0,(plVs args []).2,0⟩ nm0 o/\CoO o/\ShC (.con default) o:=by
  cases h2:findD name l with
  | none=>exact ⟨.er 19 ⟨0,(plVs args []).2,0⟩ nm0,RfQ.fail _ _ _ (v:=default) dD fun a ha=>⟨a,ha,qNamU cK l 300 a.n a.wh a.sp a.wz a.bg name _ a.x hl.1 h2⟩,trivial,tV⟩
  | some d=>
   obtain ⟨o,ho⟩:=totalC_call cQ niQ l 300 d (plVs args []).1 ⟨0,(plVs args []).2,0⟩ nm0
   have s1:SmT (.call d (plVs args []).1):=⟨hl.2 _ (findD_mem h2),hpl.1⟩
   have cc1:CeT (plVs args []).2.length (.call d (plVs args []).1):=⟨hd _ (findD_mem h2),hpl.2⟩
   have g:=ho.good niQ hl hd (show (0:Int)<=300 by decide) s1 cc1
   have z:=confQ cK l 300 dD hl hd ho ⟨Int.le_refl _,show (0:Int)<=300 by decide,Int.le_refl _,by show ((plVs args []).2.length:Int)+(300 - 0) * 1048576+(0:Nat)<=_; omega,by show (0:Int)+(300 - 0) * 1048576+(0:Nat)<=900000000; omega⟩ s1 cc1 trivial
   exact ⟨o,named_ok cK l 300 hl.1 h2 z,g.2,ho.shape.tr trivial trivial⟩
 obtain ⟨o,ho,hco,hsh⟩:=main
 have hres:∀b:Bool,CRes.noX (.ret (.bool b))=true:=fun b=>rfl
 cases o with
 | ok vs st'=>
  have hv:vs.length=1:=hsh
  obtain ⟨v,rfl⟩:=List.length_eq_one_iff.1 hv
  obtain ⟨b2,hb2,hx2⟩:=ho v rfl b1 hb1
  have hrd:=rdq_V cK l 300 b2 st' nm0 hb2 v hco.one.1 hco.one.2
  cases hbg:b2.bg with
  | true=>
   exact ⟨_,Ob.pur_of_eff hargs (hres _) (qBig cK l name args default 0 b2.n nm0 b2.n b2.wh 0 b2.sp b2.wz b2.bg b2.x (qRunB cK l name args _ b1.n b1.wh b1.sp b1.wz b1.bg b1.x hlp b2.n b2.wh b2.sp b2.wz b2.bg v b2.x hx2 hbg))⟩
  | false=>
   exact ⟨_,Ob.pur_of_eff hargs (hres _) (qBig cK l name args (rdV st'.s v) 0 b2.n nm0 b2.n b2.wh 0 b2.sp b2.wz b2.bg b2.x (qRunO cK l name args _ b1.n b1.wh b1.sp b1.wz b1.bg b1.x hlp b2.n b2.wh b2.sp b2.wz b2.bg v b2.x hx2 hbg _ hrd))⟩
 | er k st' wh'=>
  obtain ⟨v,b2,hb2,hx2⟩:=ho.2 b1 hb1
  exact ⟨_,Ob.pur_of_eff hargs (hres _) (qBig cK l name args default k b2.n b2.wh b2.n b2.wh k b2.sp b2.wz b2.bg b2.x (qRunE cK l name args _ b1.n b1.wh b1.sp b1.wz b1.bg b1.x hlp b2.n b2.wh k b2.sp b2.wz b2.bg v b2.x hx2 ho.1))⟩
end
end Go.Proofs.YtgonmmckkikmaaaGreat
