/- Values of Go as plain data, an evaluator over them, and what the functions of the program return; part a. -/
import Derived.Test.YtgonmmckkikmaaaGreatXw
import Derived.Test.YtgonmmckkikmaaaGreatXs
import Derived.Test.YtgonmmckkikmaaaGreatXr
import Derived.Test.YtgonmmckkikmaaaGreatXp
set_option linter.unusedSectionVars false
set_option linter.unusedSimpArgs false
set_option linter.unusedVariables false
namespace Go.Proofs.YtgonmmckkikmaaaGreat
open Go.Pv Tryz
theorem _root_.Go.Pv.Ob.eff_pur{P:Program}{f:FuncId}{args:List PV}{r:CRes}(e:Ext)(h:(Ob.pur f args r).ok P):(Ob.eff f args e r e).ok P:=⟨h.1,h.2 e⟩
theorem cArity_eq(op:Int)(kids:List Ex):cArity_r0 op kids=eRight_r0 op kids:=by
 have h:op<1∨26<op∨op=1∨op=2∨op=3∨op=4∨op=5∨op=6∨op=7∨op=8∨op=9∨op=10∨op=11∨op=12∨op=13∨op=14∨op=15∨op=16∨op=17∨op=18∨op=19∨op=20∨op=21∨op=22∨op=23∨op=24∨op=25∨op=26:=by omega
 have hd:∀n:Int,decide (n>0)=decide (n>=1):=fun n=>by
  by_cases h:n>0
  ·simp [h,show n>=1 by omega]
  ·simp [h,show ¬n>=1 by omega]
 rcases h with h | h | rfl | rfl | rfl | rfl | rfl | rfl | rfl | rfl | rfl | rfl | rfl | rfl | rfl | rfl | rfl | rfl | rfl | rfl | rfl | rfl | rfl | rfl | rfl | rfl | rfl | rfl
 ·unfold cArity_r0 eRight_r0
  simp only [show ¬op=1 by omega,show ¬op=2 by omega,show ¬op=3 by omega,show ¬op=4 by omega,show ¬op=5 by omega,show ¬op=6 by omega,show ¬op=7 by omega,show ¬op=8 by omega,show ¬op=9 by omega,show ¬op=10 by omega,show ¬op=11 by omega,show ¬op=12 by omega,show ¬op=13 by omega,show ¬op=14 by omega,show ¬op=15 by omega,show ¬op=16 by omega,show ¬op=17 by omega,show ¬op=18 by omega,show ¬op=19 by omega,show ¬op=20 by omega,show ¬op=21 by omega,show ¬op=22 by omega,show ¬op=23 by omega,show ¬op=24 by omega,show ¬op=25 by omega,show ¬op=26 by omega,show ¬op>=1 by omega,if_false]
  split <;> rfl
 ·unfold cArity_r0 eRight_r0
  simp only [show ¬op=1 by omega,show ¬op=2 by omega,show ¬op=3 by omega,show ¬op=4 by omega,show ¬op=5 by omega,show ¬op=6 by omega,show ¬op=7 by omega,show ¬op=8 by omega,show ¬op=9 by omega,show ¬op=10 by omega,show ¬op=11 by omega,show ¬op=12 by omega,show ¬op=13 by omega,show ¬op=14 by omega,show ¬op=15 by omega,show ¬op=16 by omega,show ¬op=17 by omega,show ¬op=18 by omega,show ¬op=19 by omega,show ¬op=20 by omega,show ¬op=21 by omega,show ¬op=22 by omega,show ¬op=23 by omega,show ¬op=24 by omega,show ¬op=25 by omega,show ¬op=26 by omega,show op>=1 by omega,show ¬op<=26 by omega,if_false,if_true]
  split <;> rfl
 all_goals first | rfl | exact hd _
theorem cInt_eq(n:Int):cInt_s n true=nIn_r0 n:=by
 unfold cInt_s
 cases nIn_r0 n <;> simp
theorem m219:methT prog 219 "liquidcheck/cells.run" = some 223:=by kernel_rfl
theorem m221:methT prog 221 "liquidcheck/cells.run" = some 224:=by kernel_rfl
theorem m223:methT prog 223 "liquidcheck/cells.run" = some 227:=by kernel_rfl
theorem m224:methT prog 224 "liquidcheck/cells.run" = some 228:=by kernel_rfl
theorem m225:methT prog 225 "liquidcheck/cells.run" = some 230:=by kernel_rfl
theorem m226:methT prog 226 "liquidcheck/cells.run" = some 232:=by kernel_rfl
theorem m227:methT prog 227 "liquidcheck/cells.run" = some 233:=by kernel_rfl
theorem m228:methT prog 228 "liquidcheck/cells.run" = some 234:=by kernel_rfl
theorem m229:methT prog 229 "liquidcheck/cells.run" = some 235:=by kernel_rfl
theorem m230:methT prog 230 "liquidcheck/cells.run" = some 236:=by kernel_rfl
theorem m231:methT prog 231 "liquidcheck/cells.run" = some 237:=by kernel_rfl
theorem m232:methT prog 232 "liquidcheck/cells.run" = some 238:=by kernel_rfl
theorem m233:methT prog 233 "liquidcheck/cells.run" = some 239:=by kernel_rfl
theorem cpi{x:Ex}{t:Nat}(f:Nat){p:PV}(h:Pu 148 [.agg (exL x)] (.ret (.iface t p))):cpA x t f p:=Ob.pur_wk (.im t f p) h
theorem rtc{x:Ex}(h:rt x):cArity_r0 (exO x) (exK x)=true:=by rw [cArity_eq]; exact h
theorem cp1{x:Ex}(h:rt x)(h1:exO x=1):cpA x 221 224 (.agg (exL x)):=cpi _ (cCp_2 x (rtc h) h1)
theorem cp2{x:Ex}(h:rt x)(h1:exO x=2):cpA x 221 224 (.agg (exL x)):=cpi _ (cCp_3 x (rtc h) oM h1)
theorem cp3{x:Ex}(h:rt x)(h1:exO x=3):cpA x 223 227 (.agg [.str (exNm x)]):=cpi _ (cCp_4 x (rtc h) oM oM h1)
theorem cp4{x:Ex}(h:rt x)(h1:exO x=4):cpA x 224 228 (.agg (exL x)):=cpi _ (cCp_5 x (rtc h) oM oM oM h1)
theorem cp5{x:Ex}(h:rt x)(h1:exO x=5):cpA x 225 230 (.agg (exL x)):=cpi _ (cCp_6 x (rtc h) oM oM oM oM h1)
theorem cp6{x:Ex}(h:rt x)(h1:exO x=6):cpA x 226 232 (.agg (exL x)):=cpi _ (cCp_7 x (rtc h) oM oM oM oM oM h1)
theorem cp7{x:Ex}(h:rt x)(h1:exO x=7):cpA x 227 233 (.agg (exL x)):=cpi _ (cCp_8 x (rtc h) oM oM oM oM oM oM h1)
theorem cp8{x:Ex}(h:rt x)(h1:exO x=8):cpA x 228 234 (.agg (exL x)):=cpi _ (cCp_9 x (rtc h) oM oM oM oM oM oM oM h1)
theorem cp9{x:Ex}(h:rt x)(h1:exO x=9):cpA x 229 235 (.agg (exL x)):=cpi _ (cCp_10 x (rtc h) oM oM oM oM oM oM oM oM h1)
theorem cp19{x:Ex}(h:rt x)(h1:exO x=19):cpA x 230 236 (.agg (exL x)):=cpi _ (cCp_11 x (rtc h) oM oM oM oM oM oM oM oM oM h1)
theorem cp20{x:Ex}(h:rt x)(h1:exO x=20):cpA x 230 236 (.agg (exL x)):=cpi _ (cCp_12 x (rtc h) oM oM oM oM oM oM oM oM oM oM h1)
theorem cp25{x:Ex}(h:rt x)(h1:exO x=25):cpA x 231 237 (.agg (exL x)):=cpi _ (cCp_13 x (rtc h) oM oM oM oM oM oM oM oM oM oM oM h1)
theorem cp26{x:Ex}(h:rt x)(h1:exO x=26):cpA x 231 237 (.agg (exL x)):=cpi _ (cCp_14 x (rtc h) oM oM oM oM oM oM oM oM oM oM oM oM h1)
theorem cp15{x:Ex}(h:rt x)(h1:exO x=15):cpA x 232 238 (.agg (exL x)):=cpi _ (cCp_15 x (rtc h) oM oM oM oM oM oM oM oM oM oM oM oM oM h1)
theorem cp21{x:Ex}(h:rt x)(h1:exO x=21):cpA x 232 238 (.agg (exL x)):=cpi _ (cCp_16 x (rtc h) oM oM oM oM oM oM oM oM oM oM oM oM oM oM h1)
theorem cp22{x:Ex}(h:rt x)(h1:exO x=22):cpA x 232 238 (.agg (exL x)):=cpi _ (cCp_17 x (rtc h) oM oM oM oM oM oM oM oM oM oM oM oM oM oM oM h1)
theorem cp23{x:Ex}(h:rt x)(h1:exO x=23):cpA x 232 238 (.agg (exL x)):=cpi _ (cCp_18 x (rtc h) oM oM oM oM oM oM oM oM oM oM oM oM oM oM oM oM h1)
theorem cpW{x:Ex}(h:rt x)(n1:¬exO x=1)(n2:¬exO x=2)(n3:¬exO x=3)(n4:¬exO x=4)(n5:¬exO x=5)(n6:¬exO x=6)(n7:¬exO x=7)(n8:¬exO x=8)(n9:¬exO x=9)(n19:¬exO x=19)(n20:¬exO x=20)(n25:¬exO x=25)(n26:¬exO x=26)(n15:¬exO x=15)(n21:¬exO x=21)(n22:¬exO x=22)(n23:¬exO x=23):cpA x 233 239 (.agg (exL x)):=cpi _ (cCp_19 x (rtc h) n1 n2 n3 n4 n5 n6 n7 n8 n9 n19 n20 n25 n26 n15 n21 n22 n23)
theorem cp0{x:Ex}(h:eRight_r0 (exO x) (exK x)=false):cpA x 219 223 (.agg []):=cpi _ (cCp_1 x (by rw [cArity_eq]; exact h))
theorem comp_ok(x:Ex):∃t f p,cpA x t f p/\mtA t f:=by
 by_cases h:rt x
 rotate_left
 ·exact ⟨_,_,_,cp0 (by simpa using h),m219⟩
 by_cases h1:exO x=1
 ·exact ⟨_,_,_,cp1 h h1,m221⟩
 by_cases h2:exO x=2
 ·exact ⟨_,_,_,cp2 h h2,m221⟩
 by_cases h3:exO x=3
 ·exact ⟨_,_,_,cp3 h h3,m223⟩
 by_cases h4:exO x=4
 ·exact ⟨_,_,_,cp4 h h4,m224⟩
 by_cases h5:exO x=5
 ·exact ⟨_,_,_,cp5 h h5,m225⟩
 by_cases h6:exO x=6
 ·exact ⟨_,_,_,cp6 h h6,m226⟩
 by_cases h7:exO x=7
 ·exact ⟨_,_,_,cp7 h h7,m227⟩
 by_cases h8:exO x=8
 ·exact ⟨_,_,_,cp8 h h8,m228⟩
 by_cases h9:exO x=9
 ·exact ⟨_,_,_,cp9 h h9,m229⟩
 by_cases h19:exO x=19
 ·exact ⟨_,_,_,cp19 h h19,m230⟩
 by_cases h20:exO x=20
 ·exact ⟨_,_,_,cp20 h h20,m230⟩
 by_cases h25:exO x=25
 ·exact ⟨_,_,_,cp25 h h25,m231⟩
 by_cases h26:exO x=26
 ·exact ⟨_,_,_,cp26 h h26,m231⟩
 by_cases h15:exO x=15
 ·exact ⟨_,_,_,cp15 h h15,m232⟩
 by_cases h21:exO x=21
 ·exact ⟨_,_,_,cp21 h h21,m232⟩
 by_cases h22:exO x=22
 ·exact ⟨_,_,_,cp22 h h22,m232⟩
 by_cases h23:exO x=23
 ·exact ⟨_,_,_,cp23 h h23,m232⟩
 exact ⟨_,_,_,cpW h h1 h2 h3 h4 h5 h6 h7 h8 h9 h19 h20 h25 h26 h15 h21 h22 h23,m233⟩
def cI(n:Int)(ok:Bool):Except Int Vl:=if cInt_s n ok=true then .ok (vX 1 n) else .error 25
def cS1(op:Int)(a:Vl)(st:St):Except Int (Vl × St):=
 if op=15 then (if vlO a=1 then (if cInt_s (nSub_r0 0 (vlN a)) (nSub_r1 0 (vlN a))=true then .ok (vX 1 (nSub_r0 0 (vlN a)),st) else .error 25) else .error 19)
 else if op=21 then (if vlO a=2 then .ok (vX 2 (cTruth_r0 (vlN a==0)),st) else .error 19)
 else if op=22 then (if vlO a=1 then .ok (vX 4 st.s.length,{ st with s:=st.s++[vlN a] }) else .error 19)
 else (if vlO a=4 then .ok (vX 1 (st.s.getD (vlN a).toNat 0),st) else .error 19)
def cD(op:Int)(a b:Vl):Except Int Vl:=
 if op=16 then (if vlO a=vlO b then (if vlO a=1 then .ok (vX 2 (cTruth_r0 (vlN a==vlN b))) else if vlO a=2 then .ok (vX 2 (cTruth_r0 (vlN a==vlN b))) else .error 19) else .error 19)
 else if vlO a=1 then (if vlO b=1 then
  (if op=10 then cI (nAdd_r0 (vlN a) (vlN b)) (nAdd_r1 (vlN a) (vlN b))
  else if op=11 then cI (nSub_r0 (vlN a) (vlN b)) (nSub_r1 (vlN a) (vlN b))
  else if op=12 then cI (nMul_r0 (vlN a) (vlN b)) (nMul_r1 (vlN a) (vlN b))
  else if op=17 then .ok (vX 2 (cTruth_r0 (decide (vlN a<vlN b))))
  else if op=18 then .ok (vX 2 (cTruth_r0 (decide (vlN a<=vlN b))))
  else if vlN b=0 then .error 27
  else if op=13 then cI (nDivide_r0 (vlN a) (vlN b)) (nDivide_r2 (vlN a) (vlN b))
  else cI (nDivide_r1 (vlN a) (vlN b)) (nDivide_r2 (vlN a) (vlN b)))
  else .error 19)
 else .error 19
def cS2(op:Int)(a b:Vl)(st:St):Except Int (Vl × St):=
 if op=24 then (if vlO a=4 then (if vlO b=1 then .ok (a,{ st with s:=st.s.set (vlN a).toNat (vlN b),w:=st.w+1 }) else .error 19) else .error 19)
 else match cD op a b with | .ok v => .ok (v,st) | .error k => .error k
def cS:CSem where
 fr:=freeS
 o1:=cS1
 o2:=cS2
theorem cD_ok{op:Int}{a b v:Vl}(h:cD op a b = .ok v):∃k n,v=vX k n/\(k=1∨k=2):=by
 have hI:∀n ok,cI n ok = .ok v->∃k n,v=vX k n/\(k=1∨k=2):=fun n ok h=>by
  unfold cI at h
  split at h
  ·injection h with h; exact ⟨_,_,h.symm,.inl rfl⟩
  ·cases h
 unfold cD at h
 repeat' split at h
 all_goals first
  | cases h; done
  | exact hI _ _ h
  | (injection h with h; exact ⟨_,_,h.symm,.inr rfl⟩)
theorem niS:NiC cS where
 fr:=freeS_len
 o1 op a st v st' h:=by
  simp only [cS,cS1] at h
  repeat' split at h
  all_goals first
   | cases h; done
   | skip
  all_goals
   injection h with h
   injection h with h1 h2
   subst h1 h2
  ·exact ⟨rfl,Nat.le_refl _,by omega,rfl,SmV_vX _ _,CeV_vX _ dD⟩
  ·exact ⟨rfl,Nat.le_refl _,by omega,rfl,SmV_vX _ _,CeV_vX _ dD⟩
  ·refine ⟨rfl,by simp,by simp,rfl,SmV_vX _ _,?_⟩
   rw [CeV]
   refine ⟨fun _=>?_,by simp,CeVs_nil,CeBs_nil⟩
   simp only [List.length_append,List.length_cons,List.length_nil]
   omega
  ·exact ⟨rfl,Nat.le_refl _,by omega,rfl,SmV_vX _ _,CeV_vX _ dD⟩
 o2 op a b st v st' h:=by
  simp only [cS,cS2] at h
  split at h
  ·repeat' split at h
   all_goals first
    | cases h; done
    | skip
   injection h with h
   injection h with h1 h2
   subst h1 h2
   exact ⟨rfl,by simp,by simp only; omega,by simp only; omega,fun z=>z,fun z=>z⟩
  ·split at h
   ·rename_i w hw
    injection h with h
    injection h with h1 h2
    subst h1 h2
    obtain ⟨k,n,rfl,hk⟩:=cD_ok hw
    exact ⟨rfl,rfl,Int.le_refl _,by omega,fun _=>SmV_vX _ _,fun _=>CeV_vX _ oM⟩
   ·cases h
structure Okk (fu:Int) (k:Nat) (st:St):Prop where
 n0:0<=st.n
 nf:st.n<=fu
 w0:0<=st.w
 cs:(st.s.length:Int)+(fu - st.n) * 1048576+k<=900000000
 cw:st.w+(fu - st.n) * 1048576+k<=900000000
theorem Okk.le{fu:Int}{k k':Nat}{a:St}(h:Okk fu k a)(hk:k'<=k):Okk fu k' a:=by
 obtain ⟨h1,h2,h3,h4,h5⟩:=h
 exact ⟨h1,h2,h3,by omega,by omega⟩
theorem Okk.step{fu:Int}{k k1 k2:Nat}{a b:St}(h:Okk fu k a)(g:Gr fu k1 a b)(hk:k1+k2<=k):Okk fu k2 b:=by
 obtain ⟨h1,h2,h3,h4,h5⟩:=h
 obtain ⟨g1,g2,g3,g4,g5,g6⟩:=g
 exact ⟨by omega,g4,by omega,by omega,by omega⟩
theorem Okk.tick{fu:Int}{k:Nat}{a:St}(h:Okk fu 0 a)(hf:a.n<fu)(hk:k<=1048576):Okk fu k a.tick:=by
 obtain ⟨h1,h2,h3,h4,h5⟩:=h
 refine ⟨?_,?_,?_,?_,?_⟩ <;> simp only [St.tick] <;> omega
theorem Okk.cells{fu:Int}{k:Nat}{a:St}(h:Okk fu k a):a.s.length<=900000000/\a.w<=900000000:=by
 obtain ⟨h1,h2,h3,h4,h5⟩:=h
 omega
section
variable (cK:C5) (l:List Df) (fu:Int) (ol:List LV)
def SR(s:List Int)(sp:PV)(re:Ext):Prop:=(s=[]/\sp = .nilsl/\re=[(1,ol)])∨∃c,sp = .ysl 2 c s.length/\re=[(1,ol),(2,[.row c s])]
def ExS(st:St)(wh:BA)(e:Ext):Prop:=∃sp re,e=EM cK l fu st.n wh sp st.w re/\SR ol st.s sp re
def CcR(f:Nat)(args:List PV)(st:St)(wh:BA):Co->Prop
 | .ok vs st'=>∀v,vs=[v]->∀ea,ExS cK l fu ol st wh ea->∃eb,ExS cK l fu ol st' wh eb/\Ef f args ea (.ret (.agg (vlL v))) eb
 | .er k st' wh'=>∀ea,ExS cK l fu ol st wh ea->∃eb,ExS cK l fu ol st' wh' eb/\Ef f args ea (.panic (hltP k)) eb
def CcX(env:List Bd)(x:Ex)(st:St)(wh:BA):Co->Prop
 | .ok vs st'=>∀v,vs=[v]->∀ea,ExS cK l fu ol st wh ea->∃eb,ExS cK l fu ol st' wh eb/\rxO ea x (scQ env) v eb
 | .er k st' wh'=>∀ea,ExS cK l fu ol st wh ea->∃eb,ExS cK l fu ol st' wh' eb/\rxE ea x (scQ env) k eb
def CcL(env:List Bd)(xs:List Ex)(st:St)(wh:BA):Co->Prop
 | .ok vs st'=>∀ea,ExS cK l fu ol st wh ea->∃eb,ExS cK l fu ol st' wh eb/\lxO (scQ env) xs ea vs eb
 | .er k st' wh'=>∀ea,ExS cK l fu ol st wh ea->∃eb,ExS cK l fu ol st' wh' eb/\lxE (scQ env) xs ea k eb
def Cc:Tk->St->BA->Co->Prop
 | .ex env x,st,wh,o=>CcX cK l fu ol env x st wh o
 | .li env xs,st,wh,o=>CcL cK l fu ol env xs st wh o
 | .app f args,st,wh,o=>CcR cK l fu ol 231 [.xp 0 0,.agg (vlL f),.sl 7 (Vl.cs args)] st wh o
 | .call d args,st,wh,o=>∀name,findD name l=some d->CcR cK l fu ol 95 [.xp 0 0,.str name,.sl 7 (Vl.cs args)] st wh o
 | .con d,st,wh,o=>(dfM d=1/\o = .er 26 st wh)∨(¬dfM d=1/\CcR cK l fu ol 128 [.xp 0 0,.agg (dfL d),.nilp] st wh o)
 | .run d env,st,wh,o=>CcR cK l fu ol 128 [.xp 0 0,.agg (dfL d),scQ env] st wh o
theorem one_cc{env:List Bd}{x:Ex}{st st':St}{wh:BA}{v:Vl}(h:∀ea,ExS cK l fu ol st wh ea->∃eb,ExS cK l fu ol st' wh eb/\rxO ea x (scQ env) v eb):CcX cK l fu ol env x st wh (.ok [v] st'):=fun w hw=>by
 injection hw with h1 h2
 subst h1
 exact h
theorem lxO_one{s:PV}{x:Ex}{ea eb:Ext}{v:Vl}(h:lxO s [x] ea [v] eb):rxO ea x s v eb:=by
 obtain ⟨w,e1,vs,h1,⟨rfl,rfl⟩,h3⟩:=h
 injection h3 with h3 h4
 subst h3
 exact h1
theorem lxE_one{s:PV}{x:Ex}{ea eb:Ext}{k:Int}(h:lxE s [x] ea k eb):rxE ea x s k eb:=by
 rcases h with h | ⟨v,e1,-,h⟩
 ·exact h
 ·exact h.elim
theorem one_kidc{x:Ex}(hk:(exK x).length=1):exK x=[kid x 0]:=by
 match h:exK x,hk with
 | [y],_=>simp [kid,h]
theorem qoA{e:Ext}{f:Nat}{p q:PV}{r:CRes}{e1:Ext}(hq:q.one=true)(h:Ef f [p,.xp 0 0,.opq q] e r e1):Ef f [p,.xp 0 0,q] e r e1:=Ob.eff_arg (.c (.r _) (.c (.r _) (.c (.qo _ hq) (.r _)))) h
theorem conf1(x:Ex)(st:St)(wh:BA)(env:List Bd)(v:Vl)(h:rt x)(h1:isOne (exO x))(hk:(exK x).length=1)(ol0:ol=ol)(hb:st.s.length<=1000000000)(hv:vlO v=4->0<=vlN v/\vlN v<st.s.length)(ea eb:Ext)(he:ExS cK l fu ol st wh eb)(hx:rxO ea (kid x 0) (scQ env) v eb) :
  match cS1 (exO x) v st with
  | .ok r=>∃ec,ExS cK l fu ol r.2 wh ec/\rxO ea x (scQ env) r.1 ec
  | .error k=>rxE ea x (scQ env) k eb:=by
 obtain ⟨t,f,p,hc,hm,hr⟩:=hx
 unfold cS1
 rcases h1 with h1 | h1 | h1 | h1
 ·rw [h1]
  simp only [if_true]
  by_cases hw:vlO v=1
  ·rw [iP hw]
   by_cases hi:cInt_s (nSub_r0 0 (vlN v)) (nSub_r1 0 (vlN v))=true
   ·rw [iP hi]; exact ⟨eb,he,_,_,_,cp15 h h1,m232,ceS15_2 x _ hk ea eb t f p hc hm v hr h1 hw hi⟩
   ·rw [iN hi]; exact ⟨_,_,_,cp15 h h1,m232,ceS15_3 x _ hk ea eb t f p hc hm v hr h1 hw (by simpa using hi)⟩
  ·rw [iN hw]; exact ⟨_,_,_,cp15 h h1,m232,ceS15_1 x _ hk ea eb t f p hc hm v hr h1 hw⟩
 ·rw [h1]
  simp only [show ¬(21:Int)=15 by decide,if_true,if_false]
  by_cases hw:vlO v=2
  ·rw [iP hw]; exact ⟨eb,he,_,_,_,cp21 h h1,m232,ceS21_2 x _ hk ea eb t f p hc hm v hr h1 hw⟩
  ·rw [iN hw]; exact ⟨_,_,_,cp21 h h1,m232,ceS21_1 x _ hk ea eb t f p hc hm v hr h1 hw⟩
 ·rw [h1]
  simp only [show ¬(22:Int)=15 by decide,show ¬(22:Int)=21 by decide,if_true,if_false]
  by_cases hw:vlO v=1
  ·rw [iP hw]
   obtain ⟨sp,re,rfl,⟨hs,rfl,rfl⟩ | ⟨c,rfl,rfl⟩⟩:=he
   ·rw [hs]
    exact ⟨_,⟨_,_,rfl,.inr ⟨0,rfl,rfl⟩⟩,_,_,_,cp22 h h1,m232,ceS22 x _ hk ea _ _ t f p hc hm v hr h1 hw (vX 4 0) (ceCellN cK l fu st.n wh st.w ol (vlN v))⟩
   ·refine ⟨_,⟨_,_,rfl,.inr ⟨c+1,rfl,rfl⟩⟩,_,_,_,cp22 h h1,m232,ceS22 x _ hk ea _ _ t f p hc hm v hr h1 hw (vX 4 st.s.length) ?_⟩
    have z:=ceCellC cK l fu st.n wh st.w ol c st.s hb (vlN v)
    have e1:((↑(List.length st.s+(0+1)):Int) - 1)=st.s.length:=by omega
    rw [e1] at z
    have e2:(st.s++[vlN v]).length=st.s.length+[vlN v].length:=by simp
    rw [e2]
    exact z
  ·rw [iN hw]; exact ⟨_,_,_,cp22 h h1,m232,ceS22f x _ hk ea eb t f p hc hm v hr h1 hw⟩
 ·rw [h1]
  simp only [show ¬(23:Int)=15 by decide,show ¬(23:Int)=21 by decide,show ¬(23:Int)=22 by decide,if_false]
  by_cases hw:vlO v=4
  ·rw [iP hw]
   have hj:=hv hw
   obtain ⟨sp,re,rfl,⟨hs,rfl,rfl⟩ | ⟨c,rfl,rfl⟩⟩:=he
   ·rw [hs] at hj; simp only [List.length_nil] at hj; omega
   ·exact ⟨_,⟨_,_,rfl,.inr ⟨c,rfl,rfl⟩⟩,_,_,_,cp23 h h1,m232,ceS23 x _ hk ea t f p hc hm cK l fu st.n wh st.w ol c st.s v hr h1 hw hj⟩
  ·rw [iN hw]; exact ⟨_,_,_,cp23 h h1,m232,ceS23f x _ hk ea eb t f p hc hm v hr h1 hw⟩
theorem conf2(x:Ex)(st:St)(wh:BA)(env:List Bd)(v u:Vl)(h:rt x)(h1:isTwo (exO x))(hn:(exK x).length<=1000000000)(hw0:0<=st.w)(hw1:st.w<=1000000000)(hv:vlO v=4->0<=vlN v/\vlN v<st.s.length)(ea eb:Ext)(he:ExS cK l fu ol st wh eb)(hx:lxO (scQ env) (exK x) ea [v,u] eb) :
  match cS2 (exO x) v u st with
  | .ok r=>∃ec,ExS cK l fu ol r.2 wh ec/\rxO ea x (scQ env) r.1 ec
  | .error k=>rxE ea x (scQ env) k eb:=by
 have no:∀n:Int,¬isTwo n->¬exO x=n:=fun n hn he=>hn (he ▸ h1)
 have hl:=ceLi (exK x) (scQ env) hn ea [v,u] eb hx
 have hp:=cpW h (no 1 dD) (no 2 dD) (no 3 dD) (no 4 dD) (no 5 dD) (no 6 dD) (no 7 dD) (no 8 dD) (no 9 dD) (no 19 dD) (no 20 dD) (no 25 dD) (no 26 dD) (no 15 dD) (no 21 dD) (no 22 dD) (no 23 dD)
 unfold cS2
 by_cases h24:exO x=24
 ·rw [iP h24]
  by_cases ha:vlO v=4
  ·rw [iP ha]
   by_cases hb:vlO u=1
   ·rw [iP hb]
    have hj:=hv ha
    obtain ⟨sp,re,rfl,⟨hs,rfl,rfl⟩ | ⟨c,rfl,rfl⟩⟩:=he
    ·rw [hs] at hj; simp only [List.length_nil] at hj; omega
    ·refine ⟨_,⟨_,_,rfl,.inr ⟨c,rfl,rfl⟩⟩,_,_,_,hp,m233,?_⟩
     have z:=ceDs x (scQ env) ea cK l fu st.n wh st.w ol c st.s [v,u] rfl hl h24 ha hb hj hw0 hw1
     have e2:(st.s.set (vlN v).toNat (vlN u)).length=st.s.length:=by simp
     rw [e2]
     exact z
   ·rw [iN hb]; exact ⟨_,_,_,hp,m233,ceDg x _ ea eb [v,u] rfl hl h24 ha hb⟩
  ·rw [iN ha]; exact ⟨_,_,_,hp,m233,ceDf x _ ea eb [v,u] rfl hl h24 ha⟩
 ·rw [iN h24]
  unfold cD
  by_cases h16:exO x=16
  ·rw [iP h16]
   by_cases e0:vlO v=vlO u
   ·rw [iP e0]
    by_cases e1:vlO v=1
    ·rw [iP e1]; exact ⟨eb,he,_,_,_,hp,m233,ceD_1 x _ ea eb [v,u] rfl hl h24 h16 e0 e1⟩
    ·rw [iN e1]
     by_cases e2:vlO v=2
     ·rw [iP e2]; exact ⟨eb,he,_,_,_,hp,m233,ceD_3 x _ ea eb [v,u] rfl hl h24 h16 e0 e1 e2⟩
     ·rw [iN e2]; exact ⟨_,_,_,hp,m233,ceD_2 x _ ea eb [v,u] rfl hl h24 h16 e0 e1 e2⟩
   ·rw [iN e0]; exact ⟨_,_,_,hp,m233,ceD_4 x _ ea eb [v,u] rfl hl h24 h16 e0⟩
  ·rw [iN h16]
   by_cases a1:vlO v=1
   rotate_left
   ·rw [iN a1]; exact ⟨_,_,_,hp,m233,ceD_19 x _ ea eb [v,u] rfl hl h24 h16 a1⟩
   rw [iP a1]
   by_cases b1:vlO u=1
   rotate_left
   ·rw [iN b1]; exact ⟨_,_,_,hp,m233,ceD_5 x _ ea eb [v,u] rfl hl h24 h16 a1 b1⟩
   rw [iP b1]
   by_cases o10:exO x=10
   ·rw [iP o10]; unfold cI
    by_cases hi:cInt_s (nAdd_r0 (vlN v) (vlN u)) (nAdd_r1 (vlN v) (vlN u))=true
    ·rw [iP hi]; exact ⟨eb,he,_,_,_,hp,m233,ceD_6 x _ ea eb [v,u] rfl hl h24 h16 a1 b1 o10 hi⟩
    ·rw [iN hi]; exact ⟨_,_,_,hp,m233,ceD_7 x _ ea eb [v,u] rfl hl h24 h16 a1 b1 o10 (by simpa using hi)⟩
   rw [iN o10]
   by_cases o11:exO x=11
   ·rw [iP o11]; unfold cI
    by_cases hi:cInt_s (nSub_r0 (vlN v) (vlN u)) (nSub_r1 (vlN v) (vlN u))=true
    ·rw [iP hi]; exact ⟨eb,he,_,_,_,hp,m233,ceD_8 x _ ea eb [v,u] rfl hl h24 h16 a1 b1 o10 o11 hi⟩
    ·rw [iN hi]; exact ⟨_,_,_,hp,m233,ceD_9 x _ ea eb [v,u] rfl hl h24 h16 a1 b1 o10 o11 (by simpa using hi)⟩
   rw [iN o11]
   by_cases o12:exO x=12
   ·rw [iP o12]; unfold cI
    by_cases hi:cInt_s (nMul_r0 (vlN v) (vlN u)) (nMul_r1 (vlN v) (vlN u))=true
    ·rw [iP hi]; exact ⟨eb,he,_,_,_,hp,m233,ceD_10 x _ ea eb [v,u] rfl hl h24 h16 a1 b1 o10 o11 o12 hi⟩
    ·rw [iN hi]; exact ⟨_,_,_,hp,m233,ceD_11 x _ ea eb [v,u] rfl hl h24 h16 a1 b1 o10 o11 o12 (by simpa using hi)⟩
   rw [iN o12]
   by_cases o17:exO x=17
   ·rw [iP o17]; exact ⟨eb,he,_,_,_,hp,m233,ceD_12 x _ ea eb [v,u] rfl hl h24 h16 a1 b1 o10 o11 o12 o17⟩
   rw [iN o17]
   by_cases o18:exO x=18
   ·rw [iP o18]; exact ⟨eb,he,_,_,_,hp,m233,ceD_13 x _ ea eb [v,u] rfl hl h24 h16 a1 b1 o10 o11 o12 o17 o18⟩
   rw [iN o18]
   by_cases z0:vlN u=0
   ·rw [iP z0]; exact ⟨_,_,_,hp,m233,ceD_14 x _ ea eb [v,u] rfl hl h24 h16 a1 b1 o10 o11 o12 o17 o18 z0⟩
   rw [iN z0]
   by_cases o13:exO x=13
   ·rw [iP o13]; unfold cI
    by_cases hi:cInt_s (nDivide_r0 (vlN v) (vlN u)) (nDivide_r2 (vlN v) (vlN u))=true
    ·rw [iP hi]; exact ⟨eb,he,_,_,_,hp,m233,ceD_15 x _ ea eb [v,u] rfl hl h24 h16 a1 b1 o10 o11 o12 o17 o18 z0 o13 hi⟩
    ·rw [iN hi]; exact ⟨_,_,_,hp,m233,ceD_16 x _ ea eb [v,u] rfl hl h24 h16 a1 b1 o10 o11 o12 o17 o18 z0 o13 (by simpa using hi)⟩
   rw [iN o13]; unfold cI
   by_cases hi:cInt_s (nDivide_r1 (vlN v) (vlN u)) (nDivide_r2 (vlN v) (vlN u))=true
   ·rw [iP hi]; exact ⟨eb,he,_,_,_,hp,m233,ceD_17 x _ ea eb [v,u] rfl hl h24 h16 a1 b1 o10 o11 o12 o17 o18 z0 o13 hi⟩
   ·rw [iN hi]; exact ⟨_,_,_,hp,m233,ceD_18 x _ ea eb [v,u] rfl hl h24 h16 a1 b1 o10 o11 o12 o17 o18 z0 o13 (by simpa using hi)⟩
end
section
variable (cK:C5) (l:List Df) (fu:Int) (ol:List LV)
theorem gtN_of{s:List Bd}{nm:BA}(h:findB nm s=none):gtN (scQ s) nm:=by
 have z:=cGetT s nm
 have e1:fbV nm s=default:=by rw [fbV,h]; rfl
 have e2:fbO nm s=false:=by rw [fbO,h]; rfl
 rw [e1,e2] at z
 exact z
theorem lzc_t{a b:Bool}(h:a=b):(a==b)=true:=by subst h; cases a <;> rfl
theorem lzc_f{a b:Bool}(h:¬a=b):(a==b)=false:=by cases a <;> cases b <;> first | rfl | exact absurd rfl h
theorem confC(hf:fu<=1000000)(hl:SmL l)(hd:∀d∈l,szE (dfB d)<=1048576){t:Tk}{st:St}{wh:BA}{o:Co}(h:Cv cS l fu t st wh o):Okk fu (szTk t) st->SmT t->CeT st.s.length t->Cc cK l fu ol t st wh o:=by
 induction h with
 | @runF d env st wh h=>
  intro q s c ea he
  obtain ⟨sp,re,rfl,hr⟩:=he
  exact ⟨_,⟨sp,re,rfl,hr⟩,ceBodyF cK l fu st.n wh sp st.w re q.n0 hf d (scQ env) h⟩
 | @runG d env st wh o h g ih=>
  intro q s c
  obtain ⟨t,f,p,hc,hm⟩:=comp_ok (dfB d)
  have z:=ih (q.tick h c.1) ⟨s.2,s.1.1⟩ ⟨c.2,c.1⟩
  cases o with
  | ok vs st'=>
   intro v hv ea he
   obtain ⟨sp,re,rfl,hr⟩:=he
   obtain ⟨eb,⟨sp1,re1,rfl,hr1⟩,t,f,p,hc,hm,hx⟩:=z v hv _ ⟨sp,re,rfl,hr⟩
   exact ⟨_,⟨sp1,re1,rfl,hr1⟩,ceBodyT cK l fu st.n wh sp st.w re q.n0 hf d (scQ env) oM t f p hc hm v st'.n sp1 st'.w re1 (dfNm d) hx⟩
  | er k st' wh'=>
   intro ea he
   obtain ⟨sp,re,rfl,hr⟩:=he
   obtain ⟨eb,hb,t,f,p,hc,hm,hx⟩:=z _ ⟨sp,re,rfl,hr⟩
   exact ⟨eb,hb,ceBodyE cK l fu st.n wh sp st.w re q.n0 hf d (scQ env) oM t f p hc hm k eb hx⟩
 | @callA d args st wh h=>
  intro q s c name hn ea he
  obtain ⟨sp,re,rfl,hr⟩:=he
  exact ⟨_,⟨sp,re,rfl,hr⟩,ceKA cK l fu st.n wh sp st.w re hl.1 name args d hn h⟩
 | @callN d args st wh h h1=>
  intro q s c name hn ea he
  obtain ⟨sp,re,rfl,hr⟩:=he
  refine ⟨_,⟨sp,re,rfl,hr⟩,?_⟩
  by_cases hp:0<(dfP d).length
  ·exact ceKm cK l fu st.n wh sp st.w re hl.1 name args d hn h oM oM
  ·exact ceKn cK l fu st.n wh sp st.w re hl.1 name args d hn h oM
 | @callG d args st wh o h h1 h2 g ih=>
  intro q s c name hn
  have z:=ih q ⟨s.1,bnds_sm s.2 SmBs_nil⟩ ⟨c.1,bnds_ce c.2 CeBs_nil⟩
  cases o with
  | ok vs st'=>
   intro v hv ea he
   obtain ⟨sp,re,rfl,hr⟩:=he
   obtain ⟨eb,hb,hx⟩:=z v hv _ ⟨sp,re,rfl,hr⟩
   exact ⟨eb,hb,ceKo cK l fu st.n wh sp st.w re hl.1 name args d hn h oM oM (Nat.le_trans s.1.2 dD) v eb hx⟩
  | er k st' wh'=>
   intro ea he
   obtain ⟨sp,re,rfl,hr⟩:=he
   obtain ⟨eb,hb,hx⟩:=z _ ⟨sp,re,rfl,hr⟩
   exact ⟨eb,hb,ceKe cK l fu st.n wh sp st.w re hl.1 name args d hn h oM oM (Nat.le_trans s.1.2 dD) k eb hx⟩
 | @conA d st wh h=>intro q s c; exact .inl ⟨h,rfl⟩
 | @conG d st wh o h g ih=>
  intro q s c
  have z:=ih q ⟨s,SmBs_nil⟩ ⟨c,CeBs_nil⟩
  have wk:WkL [.xp 0 0,.agg (dfL d),.nilp] [.xp 0 0,.agg (dfL d),scQ []] := .c (.r _) (.c (.r _) (.c (.qo _ rfl) (.r _)))
  refine .inr ⟨h,?_⟩
  cases o with
  | ok vs st'=>
   intro v hv ea he
   obtain ⟨eb,hb,hx⟩:=z v hv ea he
   exact ⟨eb,hb,Ob.eff_arg wk hx⟩
  | er k st' wh'=>
   intro ea he
   obtain ⟨eb,hb,hx⟩:=z ea he
   exact ⟨eb,hb,Ob.eff_arg wk hx⟩
 | @appO f args st wh h=>intro q s c ea he; exact ⟨ea,he,cePo f args ea h⟩
 | @appU f args st wh h h1 h2=>
  intro q s c ea he
  obtain ⟨sp,re,rfl,hr⟩:=he
  exact ⟨_,⟨sp,re,rfl,hr⟩,cePe f args _ _ h h1 19 (ceKu cK l fu st.n wh sp st.w re hl.1 (vlNm f) args h2)⟩
 | @appN f args st wh d o h h1 h2 g ih=>
  intro q s c
  have z:=ih q ⟨hl.2 _ (findD_mem h2),s.2⟩ ⟨hd _ (findD_mem h2),c.2⟩ (vlNm f) h2
  cases o with
  | ok vs st'=>
   intro v hv ea he
   obtain ⟨eb,hb,hx⟩:=z v hv ea he
   exact ⟨eb,hb,cePn f args ea eb h h1 v hx⟩
  | er k st' wh'=>
   intro ea he
   obtain ⟨eb,hb,hx⟩:=z ea he
   exact ⟨eb,hb,cePe f args ea eb h h1 k hx⟩
 | @appL f args st wh h h1 h2=>
  intro q s c ea he
  refine ⟨ea,he,?_⟩
  by_cases hb:(vlB f).length=1
  ·exact cePm f args ea h h1 oM oM
  ·exact cePl f args ea h h1 oM
 | @appF f args st wh h h1 h2 h3 h4=>
  intro q s c ea he
  obtain ⟨sp,re,rfl,hr⟩:=he
  exact ⟨_,⟨sp,re,rfl,hr⟩,cePf cK l fu st.n wh sp st.w re q.n0 hf f args h h1 oM oM h4⟩
 | @appG f args st wh o h h1 h2 h3 h4 g ih=>
  intro q s c
  obtain ⟨-,hp,hbn,hb,-,hbs⟩:=SmV_parts s.1
  obtain ⟨-,cb,-,cbs⟩:=CeV_parts c.1
  have hmem:(vlB f).getD 0 default∈vlB f:=by simp [List.getD,h2]
  have z:=ih (q.tick h4 (cb _ hmem)) ⟨bnds_sm s.2 (SmBs_rev.2 hbs),hb _ hmem⟩ ⟨bnds_ce c.2 (CeBs_rev.2 cbs),cb _ hmem⟩
  cases o with
  | ok vs st'=>
   intro v hv ea he
   obtain ⟨sp,re,rfl,hr⟩:=he
   obtain ⟨eb,hb1,t,f1,p,hc,hm,hx⟩:=z v hv _ ⟨sp,re,rfl,hr⟩
   exact ⟨eb,hb1,cePT cK l fu st.n wh sp st.w re q.n0 hf f args h h1 oM oM oM hbn hp t f1 p hc hm v eb hx⟩
  | er k st' wh'=>
   intro ea he
   obtain ⟨sp,re,rfl,hr⟩:=he
   obtain ⟨eb,hb1,t,f1,p,hc,hm,hx⟩:=z _ ⟨sp,re,rfl,hr⟩
   exact ⟨eb,hb1,cePE cK l fu st.n wh sp st.w re q.n0 hf f args h h1 oM oM oM hbn hp t f1 p hc hm k eb hx⟩
 | liN=>intro q s c ea he; exact ⟨ea,he,rfl,rfl⟩
 | @liE env x xs st wh k st1 wh1 g ih=>
  intro q s c ea he
  have q1:Okk fu (szE x) st:=q.le (by show szE x<=szEs (x::xs); rw [szEs_cons]; omega)
  obtain ⟨eb,hb,hx⟩:=ih q1 ⟨s.1,s.2 _ List.mem_cons_self⟩ ⟨c.1,c.2 _ List.mem_cons_self⟩ ea he
  exact ⟨eb,hb,.inl hx⟩
 | @liR env x xs st wh v k st1 st2 wh2 g g2 ih ih2=>
  intro q s c ea he
  have q1:Okk fu (szE x) st:=q.le (by show szE x<=szEs (x::xs); rw [szEs_cons]; omega)
  have s1:SmT (.ex env x):=⟨s.1,s.2 _ List.mem_cons_self⟩
  have cc1:CeT st.s.length (.ex env x):=⟨c.1,c.2 _ List.mem_cons_self⟩
  obtain ⟨a1,a2⟩:=g.good niS hl hd q.nf s1 cc1
  obtain ⟨eb,hb,hx⟩:=ih q1 s1 cc1 v rfl ea he
  obtain ⟨ec,hc,hy⟩:=ih2 (q.step a1 (by show szE x+szEs xs<=szEs (x::xs); rw [szEs_cons]; omega)) ⟨s.1,fun y hy=>s.2 y (List.mem_cons_of_mem _ hy)⟩ ⟨c.1.mono a1.s,fun y hy=>c.2 y (List.mem_cons_of_mem _ hy)⟩ eb hb
  exact ⟨ec,hc,.inr ⟨v,eb,hx,hy⟩⟩
 | @liC env x xs st wh v st1 st2 vs g g2 ih ih2=>
  intro q s c ea he
  have q1:Okk fu (szE x) st:=q.le (by show szE x<=szEs (x::xs); rw [szEs_cons]; omega)
  have s1:SmT (.ex env x):=⟨s.1,s.2 _ List.mem_cons_self⟩
  have cc1:CeT st.s.length (.ex env x):=⟨c.1,c.2 _ List.mem_cons_self⟩
  obtain ⟨a1,a2⟩:=g.good niS hl hd q.nf s1 cc1
  obtain ⟨eb,hb,hx⟩:=ih q1 s1 cc1 v rfl ea he
  obtain ⟨ec,hc,hy⟩:=ih2 (q.step a1 (by show szE x+szEs xs<=szEs (x::xs); rw [szEs_cons]; omega)) ⟨s.1,fun y hy=>s.2 y (List.mem_cons_of_mem _ hy)⟩ ⟨c.1.mono a1.s,fun y hy=>c.2 y (List.mem_cons_of_mem _ hy)⟩ eb hb
  exact ⟨ec,hc,v,eb,vs,hx,hy,rfl⟩
 | @exR env x st wh h=>intro q s c ea he; exact ⟨ea,he,_,_,_,cp0 h,m219,Ob.eff_pur ea (ceW (.xp 0 0) (scQ env))⟩
 | @exIo env x st wh h h1 h2=>intro q s c; exact one_cc cK l fu ol fun ea he=>⟨ea,he,_,_,_,cp1 h h1,m221,Ob.eff_pur ea (ceC_1 x (.xp 0 0) (scQ env) h1 ((cInt_eq _).trans h2))⟩
 | @exIe env x st wh h h1 h2=>intro q s c ea he; exact ⟨ea,he,_,_,_,cp1 h h1,m221,Ob.eff_pur ea (ceC_2 x (.xp 0 0) (scQ env) h1 ((cInt_eq _).trans h2))⟩
 | @exB env x st wh h h1=>intro q s c; exact one_cc cK l fu ol fun ea he=>⟨ea,he,_,_,_,cp2 h h1,m221,Ob.eff_pur ea (ceC_3 x (.xp 0 0) (scQ env) oM)⟩
 | @exVb env x st wh v h h1 h2=>intro q s c; exact one_cc cK l fu ol fun ea he=>⟨ea,he,_,_,_,cp3 h h1,m223,Ob.eff_pur ea (ceVb (exNm x) (.xp 0 0) (scQ env) v (cGetS h2))⟩
 | @exVu env x st wh h h1 h2 h3=>
  intro q s c ea he
  obtain ⟨sp,re,rfl,hr⟩:=he
  exact ⟨_,⟨sp,re,rfl,hr⟩,_,_,_,cp3 h h1,m223,ceVu cK l fu st.n wh sp st.w re hl.1 (exNm x) (scQ env) (gtN_of h2) h3⟩
 | @exVf env x st wh d h h1 h2 h3 h4=>
  intro q s c
  refine one_cc cK l fu ol fun ea he=>?_
  obtain ⟨sp,re,rfl,hr⟩:=he
  exact ⟨_,⟨sp,re,rfl,hr⟩,_,_,_,cp3 h h1,m223,ceVf cK l fu st.n wh sp st.w re hl.1 (exNm x) (scQ env) (gtN_of h2) d h3 oM⟩
 | @exVc env x st wh d o h h1 h2 h3 h4 g ih=>
  intro q s c
  rcases ih (q.le (Nat.zero_le _)) (hl.2 _ (findD_mem h3)) (hd _ (findD_mem h3)) with ⟨h5,rfl⟩ | ⟨h5,z⟩
  ·intro ea he
   obtain ⟨sp,re,rfl,hr⟩:=he
   exact ⟨_,⟨sp,re,rfl,hr⟩,_,_,_,cp3 h h1,m223,ceVa cK l fu st.n wh sp st.w re hl.1 (exNm x) (scQ env) (gtN_of h2) d h3 oM h5⟩
  ·cases o with
   | ok vs st'=>
    intro v hv ea he
    obtain ⟨sp,re,rfl,hr⟩:=he
    obtain ⟨eb,hb,hx⟩:=z v hv _ ⟨sp,re,rfl,hr⟩
    exact ⟨eb,hb,_,_,_,cp3 h h1,m223,ceVo cK l fu st.n wh sp st.w re hl.1 (exNm x) (scQ env) (gtN_of h2) d h3 oM h5 v eb hx⟩
   | er k st' wh'=>
    intro ea he
    obtain ⟨sp,re,rfl,hr⟩:=he
    obtain ⟨eb,hb,hx⟩:=z _ ⟨sp,re,rfl,hr⟩
    exact ⟨eb,hb,_,_,_,cp3 h h1,m223,ceVe cK l fu st.n wh sp st.w re hl.1 (exNm x) (scQ env) (gtN_of h2) d h3 oM h5 k eb hx⟩
 | @exCe env x st wh k st1 wh1 h h1 g ih=>
  intro q s c ea he
  have kk:=kids_ce c.2
  have q1:Okk fu (szTk (.li env (exK x))) st:=q.le (by have:=kk.2; show szEs (exK x)<=szE x; omega)
  have s1:SmT (.li env (exK x)):=⟨s.1,kids_sm s.2⟩
  have cc1:CeT st.s.length (.li env (exK x)):=⟨c.1,kk.1⟩
  have ln:=(szE_lens s.2).1
  obtain ⟨eb,hb,hx⟩:=ih q1 s1 cc1 ea he
  exact ⟨eb,hb,_,_,_,cp4 h h1,m224,ceBe x (scQ env) ea eb k (ceLe _ _ ln ea k eb hx)⟩
 | @exCo env x st wh vs st1 h h1 g ih=>
  intro q s c
  refine one_cc cK l fu ol fun ea he=>?_
  have kk:=kids_ce c.2
  have q1:Okk fu (szTk (.li env (exK x))) st:=q.le (by have:=kk.2; show szEs (exK x)<=szE x; omega)
  have s1:SmT (.li env (exK x)):=⟨s.1,kids_sm s.2⟩
  have cc1:CeT st.s.length (.li env (exK x)):=⟨c.1,kk.1⟩
  have ln:=(szE_lens s.2).1
  obtain ⟨eb,hb,hx⟩:=ih q1 s1 cc1 ea he
  exact ⟨eb,hb,_,_,_,cp4 h h1,m224,ceBo x (scQ env) ea eb vs (ceLi _ _ ln ea vs eb hx)⟩
 | @exKe env x st wh k st1 wh1 h h1 g ih=>
  intro q s c ea he
  have kk:=kids_ce c.2
  have q1:Okk fu (szTk (.li env (exK x))) st:=q.le (by have:=kk.2; show szEs (exK x)<=szE x; omega)
  have s1:SmT (.li env (exK x)):=⟨s.1,kids_sm s.2⟩
  have cc1:CeT st.s.length (.li env (exK x)):=⟨c.1,kk.1⟩
  have ln:=(szE_lens s.2).1
  obtain ⟨eb,hb,hx⟩:=ih q1 s1 cc1 ea he
  exact ⟨eb,hb,_,_,_,cp5 h h1,m225,ceIe x (scQ env) ea eb k (ceLe _ _ ln ea k eb hx)⟩
 | @exKa env x st wh vs st1 f o h h1 g h2 g2 ih ih2=>
  intro q s c
  have kk:=kids_ce c.2
  have q1:Okk fu (szTk (.li env (exK x))) st:=q.le (by have:=kk.2; show szEs (exK x)<=szE x; omega)
  have s1:SmT (.li env (exK x)):=⟨s.1,kids_sm s.2⟩
  have cc1:CeT st.s.length (.li env (exK x)):=⟨c.1,kk.1⟩
  have ln:=(szE_lens s.2).1
  obtain ⟨a1,a2⟩:=g.good niS hl hd q.nf s1 cc1
  have z:=ih2 (q.step a1 (by have:=kk.2; show szEs (exK x)+0<=szE x; omega)) ⟨findB_sm s.1 h2,a2.1⟩ ⟨(findB_ce c.1 h2).mono a1.s,a2.2⟩
  cases o with
  | ok us st'=>
   intro v hv ea he
   obtain ⟨eb,hb,hx⟩:=ih q1 s1 cc1 ea he
   obtain ⟨ec,hc,hy⟩:=z v hv eb hb
   exact ⟨ec,hc,_,_,_,cp5 h h1,m225,ceIao x (scQ env) ea eb ec vs (ceLi _ _ ln ea vs eb hx) f (cGetS h2) v hy⟩
  | er k st' wh'=>
   intro ea he
   obtain ⟨eb,hb,hx⟩:=ih q1 s1 cc1 ea he
   obtain ⟨ec,hc,hy⟩:=z eb hb
   exact ⟨ec,hc,_,_,_,cp5 h h1,m225,ceIae x (scQ env) ea eb ec vs (ceLi _ _ ln ea vs eb hx) f (cGetS h2) k hy⟩
 | @exKu env x st wh vs st1 h h1 g h2 h3 ih=>
  intro q s c ea he
  have kk:=kids_ce c.2
  have q1:Okk fu (szTk (.li env (exK x))) st:=q.le (by have:=kk.2; show szEs (exK x)<=szE x; omega)
  have s1:SmT (.li env (exK x)):=⟨s.1,kids_sm s.2⟩
  have cc1:CeT st.s.length (.li env (exK x)):=⟨c.1,kk.1⟩
  have ln:=(szE_lens s.2).1
  obtain ⟨eb,hb,hx⟩:=ih q1 s1 cc1 ea he
  obtain ⟨sp,re,rfl,hr⟩:=hb
  exact ⟨_,⟨sp,re,rfl,hr⟩,_,_,_,cp5 h h1,m225,ceIce x (scQ env) ea _ _ vs (ceLi _ _ ln ea vs _ hx) (gtN_of h2) 19 (ceKu cK l fu st1.n wh sp st1.w re hl.1 (exNm x) vs h3)⟩
 | @exKc env x st wh vs st1 d o h h1 g h2 h3 g2 ih ih2=>
  intro q s c
  have kk:=kids_ce c.2
  have q1:Okk fu (szTk (.li env (exK x))) st:=q.le (by have:=kk.2; show szEs (exK x)<=szE x; omega)
  have s1:SmT (.li env (exK x)):=⟨s.1,kids_sm s.2⟩
  have cc1:CeT st.s.length (.li env (exK x)):=⟨c.1,kk.1⟩
  have ln:=(szE_lens s.2).1
  obtain ⟨a1,a2⟩:=g.good niS hl hd q.nf s1 cc1
  have z:=ih2 (q.step a1 (by have:=kk.2; show szEs (exK x)+0<=szE x; omega)) ⟨hl.2 _ (findD_mem h3),a2.1⟩ ⟨hd _ (findD_mem h3),a2.2⟩ (exNm x) h3
  cases o with
  | ok us st'=>
   intro v hv ea he
   obtain ⟨eb,hb,hx⟩:=ih q1 s1 cc1 ea he
   obtain ⟨ec,hc,hy⟩:=z v hv eb hb
   exact ⟨ec,hc,_,_,_,cp5 h h1,m225,ceIco x (scQ env) ea eb ec vs (ceLi _ _ ln ea vs eb hx) (gtN_of h2) v hy⟩
  | er k st' wh'=>
   intro ea he
   obtain ⟨eb,hb,hx⟩:=ih q1 s1 cc1 ea he
   obtain ⟨ec,hc,hy⟩:=z eb hb
   exact ⟨ec,hc,_,_,_,cp5 h h1,m225,ceIce x (scQ env) ea eb ec vs (ceLi _ _ ln ea vs eb hx) (gtN_of h2) k hy⟩
 | @exL env x st wh h h1=>intro q s c; exact one_cc cK l fu ol fun ea he=>⟨ea,he,_,_,_,cp6 h h1,m226,Ob.eff_pur ea (cFnT x env (rt_len1 h (.inl h1)) s.2)⟩
 | @exTe env x st wh k st1 wh1 h h1 g ih=>
  intro q s c ea he
  have hk:=rt_len2 h (.inl h1)
  have k0:=kid_ce c.2 (i:=0) oM
  have q1:Okk fu (szTk (.ex env (kid x 0))) st:=q.le (by show szE (kid x 0)<=szE x; omega)
  have s1:SmT (.ex env (kid x 0)):=⟨s.1,szE_kid s.2 oM⟩
  have cc1:CeT st.s.length (.ex env (kid x 0)):=⟨c.1,k0.1⟩
  obtain ⟨t2,f2,p2,hc2,hm2⟩:=comp_ok (kid x 1)
  obtain ⟨eb,hb,t,f,p,hc,hm,hx⟩:=ih q1 s1 cc1 ea he
  exact ⟨eb,hb,_,_,_,cp7 h h1,m227,ceTe x (scR env) hk ea eb t f p hc hm t2 f2 p2 hc2 hm2 k hx⟩
 | @exTo env x st wh v st1 o h h1 g g2 ih ih2=>
  intro q s c
  have hk:=rt_len2 h (.inl h1)
  have k0:=kid_ce c.2 (i:=0) oM
  have q1:Okk fu (szTk (.ex env (kid x 0))) st:=q.le (by show szE (kid x 0)<=szE x; omega)
  have s1:SmT (.ex env (kid x 0)):=⟨s.1,szE_kid s.2 oM⟩
  have cc1:CeT st.s.length (.ex env (kid x 0)):=⟨c.1,k0.1⟩
  obtain ⟨a1,a2⟩:=g.good niS hl hd q.nf s1 cc1
  have k1:=kid_ce c.2 (i:=1) oM
  have kk:=kid2_ce (x:=x) (i:=0) (j:=1) oM oM
  have q2:Okk fu (szE (kid x 1)) st1:=q.step a1 (by show szE (kid x 0)+szE (kid x 1)<=szE x; omega)
  have z:=ih2 q2 ⟨by rw [SmBs_cons]; exact ⟨a2.one.1,s.1⟩,szE_kid s.2 oM⟩ ⟨by rw [CeBs_cons]; exact ⟨a2.one.2,c.1.mono a1.s⟩,k1.1⟩
  cases o with
  | ok us st'=>
   intro u hu ea he
   obtain ⟨eb,hb,t,f,p,hc,hm,hx⟩:=ih q1 s1 cc1 v rfl ea he
   obtain ⟨ec,hec,t2,f2,p2,hc2,hm2,hy⟩:=z u hu eb hb
   exact ⟨ec,hec,_,_,_,cp7 h h1,m227,ceTo x (scR env) hk ea eb ec t f p hc hm t2 f2 p2 hc2 hm2 v u hx (qoA rfl hy)⟩
  | er k st' wh'=>
   intro ea he
   obtain ⟨eb,hb,t,f,p,hc,hm,hx⟩:=ih q1 s1 cc1 v rfl ea he
   obtain ⟨ec,hec,t2,f2,p2,hc2,hm2,hy⟩:=z eb hb
   exact ⟨ec,hec,_,_,_,cp7 h h1,m227,ceTf x (scR env) hk ea eb ec t f p hc hm t2 f2 p2 hc2 hm2 v k hx (qoA rfl hy)⟩
 | @exFe env x st wh k st1 wh1 h h1 g ih=>
  intro q s c ea he
  have hk:=rt_len3 h h1
  have k0:=kid_ce c.2 (i:=0) oM
  have q1:Okk fu (szTk (.ex env (kid x 0))) st:=q.le (by show szE (kid x 0)<=szE x; omega)
  have s1:SmT (.ex env (kid x 0)):=⟨s.1,szE_kid s.2 oM⟩
  have cc1:CeT st.s.length (.ex env (kid x 0)):=⟨c.1,k0.1⟩
  obtain ⟨eb,hb,t,f,p,hc,hm,hx⟩:=ih q1 s1 cc1 ea he
  exact ⟨eb,hb,_,_,_,cp8 h h1,m228,ceFe x (scQ env) hk ea eb t f p hc hm k hx⟩
 | @exFs env x st wh v st1 h h1 g h2 ih=>
  intro q s c ea he
  have hk:=rt_len3 h h1
  have k0:=kid_ce c.2 (i:=0) oM
  have q1:Okk fu (szTk (.ex env (kid x 0))) st:=q.le (by show szE (kid x 0)<=szE x; omega)
  have s1:SmT (.ex env (kid x 0)):=⟨s.1,szE_kid s.2 oM⟩
  have cc1:CeT st.s.length (.ex env (kid x 0)):=⟨c.1,k0.1⟩
  obtain ⟨eb,hb,t,f,p,hc,hm,hx⟩:=ih q1 s1 cc1 v rfl ea he
  exact ⟨eb,hb,_,_,_,cp8 h h1,m228,ceFs x (scQ env) hk ea eb t f p hc hm v hx h2⟩
 | @exFt env x st wh v st1 o h h1 g h2 h3 g2 ih ih2=>
  intro q s c
  have hk:=rt_len3 h h1
  have k0:=kid_ce c.2 (i:=0) oM
  have q1:Okk fu (szTk (.ex env (kid x 0))) st:=q.le (by show szE (kid x 0)<=szE x; omega)
  have s1:SmT (.ex env (kid x 0)):=⟨s.1,szE_kid s.2 oM⟩
  have cc1:CeT st.s.length (.ex env (kid x 0)):=⟨c.1,k0.1⟩
  obtain ⟨a1,a2⟩:=g.good niS hl hd q.nf s1 cc1
  have k1:=kid_ce c.2 (i:=1) oM
  have kk:=kid2_ce (x:=x) (i:=0) (j:=1) oM oM
  have q2:Okk fu (szE (kid x 1)) st1:=q.step a1 (by show szE (kid x 0)+szE (kid x 1)<=szE x; omega)
  have z:=ih2 q2 ⟨s.1,szE_kid s.2 oM⟩ ⟨c.1.mono a1.s,k1.1⟩
  cases o with
  | ok us st'=>
   intro u hu ea he
   obtain ⟨eb,hb,t,f,p,hc,hm,hx⟩:=ih q1 s1 cc1 v rfl ea he
   obtain ⟨ec,hec,t2,f2,p2,hc2,hm2,hy⟩:=z u hu eb hb
   exact ⟨ec,hec,_,_,_,cp8 h h1,m228,ceFto x (scQ env) hk ea eb ec t f p hc hm v hx h2 h3 t2 f2 p2 hc2 hm2 u hy⟩
  | er k st' wh'=>
   intro ea he
   obtain ⟨eb,hb,t,f,p,hc,hm,hx⟩:=ih q1 s1 cc1 v rfl ea he
   obtain ⟨ec,hec,t2,f2,p2,hc2,hm2,hy⟩:=z eb hb
   exact ⟨ec,hec,_,_,_,cp8 h h1,m228,ceFte x (scQ env) hk ea eb ec t f p hc hm v hx h2 h3 t2 f2 p2 hc2 hm2 k hy⟩
 | @exFf env x st wh v st1 o h h1 g h2 h3 g2 ih ih2=>
  intro q s c
  have hk:=rt_len3 h h1
  have k0:=kid_ce c.2 (i:=0) oM
  have q1:Okk fu (szTk (.ex env (kid x 0))) st:=q.le (by show szE (kid x 0)<=szE x; omega)
  have s1:SmT (.ex env (kid x 0)):=⟨s.1,szE_kid s.2 oM⟩
  have cc1:CeT st.s.length (.ex env (kid x 0)):=⟨c.1,k0.1⟩
  obtain ⟨a1,a2⟩:=g.good niS hl hd q.nf s1 cc1
  have k1:=kid_ce c.2 (i:=2) oM
  have kk:=kid2_ce (x:=x) (i:=0) (j:=2) oM oM
  have q2:Okk fu (szE (kid x 2)) st1:=q.step a1 (by show szE (kid x 0)+szE (kid x 2)<=szE x; omega)
  have z:=ih2 q2 ⟨s.1,szE_kid s.2 oM⟩ ⟨c.1.mono a1.s,k1.1⟩
  cases o with
  | ok us st'=>
   intro u hu ea he
   obtain ⟨eb,hb,t,f,p,hc,hm,hx⟩:=ih q1 s1 cc1 v rfl ea he
   obtain ⟨ec,hec,t2,f2,p2,hc2,hm2,hy⟩:=z u hu eb hb
   exact ⟨ec,hec,_,_,_,cp8 h h1,m228,ceFfo x (scQ env) hk ea eb ec t f p hc hm v hx h2 h3 t2 f2 p2 hc2 hm2 u hy⟩
  | er k st' wh'=>
   intro ea he
   obtain ⟨eb,hb,t,f,p,hc,hm,hx⟩:=ih q1 s1 cc1 v rfl ea he
   obtain ⟨ec,hec,t2,f2,p2,hc2,hm2,hy⟩:=z eb hb
   exact ⟨ec,hec,_,_,_,cp8 h h1,m228,ceFfe x (scQ env) hk ea eb ec t f p hc hm v hx h2 h3 t2 f2 p2 hc2 hm2 k hy⟩
 | @exMe env x st wh k st1 wh1 h h1 g ih=>
  intro q s c ea he
  have hk:=rt_len1 h (.inr (.inl h1))
  have k0:=kid_ce c.2 (i:=0) oM
  have q1:Okk fu (szTk (.ex env (kid x 0))) st:=q.le (by show szE (kid x 0)<=szE x; omega)
  have s1:SmT (.ex env (kid x 0)):=⟨s.1,szE_kid s.2 oM⟩
  have cc1:CeT st.s.length (.ex env (kid x 0)):=⟨c.1,k0.1⟩
  obtain ⟨eb,hb,t,f,p,hc,hm,hx⟩:=ih q1 s1 cc1 ea he
  exact ⟨eb,hb,_,_,_,cp9 h h1,m229,ceMe x env hk ea eb t f p hc hm k hx⟩
 | @exMs env x st wh v st1 h h1 g h2 ih=>
  intro q s c ea he
  have hk:=rt_len1 h (.inr (.inl h1))
  have k0:=kid_ce c.2 (i:=0) oM
  have q1:Okk fu (szTk (.ex env (kid x 0))) st:=q.le (by show szE (kid x 0)<=szE x; omega)
  have s1:SmT (.ex env (kid x 0)):=⟨s.1,szE_kid s.2 oM⟩
  have cc1:CeT st.s.length (.ex env (kid x 0)):=⟨c.1,k0.1⟩
  obtain ⟨eb,hb,t,f,p,hc,hm,hx⟩:=ih q1 s1 cc1 v rfl ea he
  exact ⟨eb,hb,_,_,_,cp9 h h1,m229,ceMs x env hk ea eb t f p hc hm v hx h2⟩
 | @exMn env x st wh v st1 h h1 g h2 h3 ih=>
  intro q s c ea he
  have hk:=rt_len1 h (.inr (.inl h1))
  have k0:=kid_ce c.2 (i:=0) oM
  have q1:Okk fu (szTk (.ex env (kid x 0))) st:=q.le (by show szE (kid x 0)<=szE x; omega)
  have s1:SmT (.ex env (kid x 0)):=⟨s.1,szE_kid s.2 oM⟩
  have cc1:CeT st.s.length (.ex env (kid x 0)):=⟨c.1,k0.1⟩
  obtain ⟨eb,hb,t,f,p,hc,hm,hx⟩:=ih q1 s1 cc1 v rfl ea he
  exact ⟨eb,hb,_,_,_,cp9 h h1,m229,ceMn x env hk ea eb t f p hc hm v hx (szE_lens s.2).2.2 h2 h3⟩
 | @exMl env x st wh v st1 a h h1 g h2 h3 h4 ih=>
  intro q s c ea he
  have hk:=rt_len1 h (.inr (.inl h1))
  have k0:=kid_ce c.2 (i:=0) oM
  have q1:Okk fu (szTk (.ex env (kid x 0))) st:=q.le (by show szE (kid x 0)<=szE x; omega)
  have s1:SmT (.ex env (kid x 0)):=⟨s.1,szE_kid s.2 oM⟩
  have cc1:CeT st.s.length (.ex env (kid x 0)):=⟨c.1,k0.1⟩
  obtain ⟨eb,hb,t,f,p,hc,hm,hx⟩:=ih q1 s1 cc1 v rfl ea he
  exact ⟨eb,hb,_,_,_,cp9 h h1,m229,ceMl x env hk ea eb t f p hc hm v hx (szE_lens s.2).2.2 h2 a h3 h4⟩
 | @exMo env x st wh v st1 a o h h1 g h2 h3 h4 g2 ih ih2=>
  intro q s c
  have hk:=rt_len1 h (.inr (.inl h1))
  have k0:=kid_ce c.2 (i:=0) oM
  have q1:Okk fu (szTk (.ex env (kid x 0))) st:=q.le (by show szE (kid x 0)<=szE x; omega)
  have s1:SmT (.ex env (kid x 0)):=⟨s.1,szE_kid s.2 oM⟩
  have cc1:CeT st.s.length (.ex env (kid x 0)):=⟨c.1,k0.1⟩
  obtain ⟨a1,a2⟩:=g.good niS hl hd q.nf s1 cc1
  have ka:=alt_ce c.2 (findA_mem h3) oM
  have al:=szE_alt s.2 (findA_mem h3)
  obtain ⟨-,-,-,-,hvs,-⟩:=SmV_parts a2.one.1
  obtain ⟨-,-,cvs,-⟩:=CeV_parts a2.one.2
  have z:=ih2 (q.step a1 (by show szE (kid x 0)+szE (alB a)<=szE x; omega)) ⟨bnds_sm hvs s.1,al.1⟩ ⟨bnds_ce cvs (c.1.mono a1.s),ka.1⟩
  cases o with
  | ok us st'=>
   intro u hu ea he
   obtain ⟨eb,hb,t,f,p,hc,hm,hx⟩:=ih q1 s1 cc1 v rfl ea he
   obtain ⟨ec,hec,hy⟩:=z u hu eb hb
   exact ⟨ec,hec,_,_,_,cp9 h h1,m229,ceMo x env hk ea eb ec t f p hc hm v hx (szE_lens s.2).2.2 h2 a h3 h4 al.2 u hy⟩
  | er k st' wh'=>
   intro ea he
   obtain ⟨eb,hb,t,f,p,hc,hm,hx⟩:=ih q1 s1 cc1 v rfl ea he
   obtain ⟨ec,hec,hy⟩:=z eb hb
   exact ⟨ec,hec,_,_,_,cp9 h h1,m229,ceMf x env hk ea eb ec t f p hc hm v hx (szE_lens s.2).2.2 h2 a h3 h4 al.2 k hy⟩
 | @exAe env x st wh k st1 wh1 h h1 g ih=>
  intro q s c ea he
  have hk:=rt_len2 h oM
  have k0:=kid_ce c.2 (i:=0) oM
  have q1:Okk fu (szTk (.ex env (kid x 0))) st:=q.le (by show szE (kid x 0)<=szE x; omega)
  have s1:SmT (.ex env (kid x 0)):=⟨s.1,szE_kid s.2 oM⟩
  have cc1:CeT st.s.length (.ex env (kid x 0)):=⟨c.1,k0.1⟩
  obtain ⟨eb,hb,t,f,p,hc,hm,hx⟩:=ih q1 s1 cc1 ea he
  exact ⟨eb,hb,_,_,_,(h1.elim (fun h1=>cp19 h h1) (fun h1=>cp20 h h1)),m230,ceAe x (scQ env) hk ea eb t f p hc hm k hx⟩
 | @exAs env x st wh v st1 h h1 g h2 ih=>
  intro q s c ea he
  have hk:=rt_len2 h oM
  have k0:=kid_ce c.2 (i:=0) oM
  have q1:Okk fu (szTk (.ex env (kid x 0))) st:=q.le (by show szE (kid x 0)<=szE x; omega)
  have s1:SmT (.ex env (kid x 0)):=⟨s.1,szE_kid s.2 oM⟩
  have cc1:CeT st.s.length (.ex env (kid x 0)):=⟨c.1,k0.1⟩
  obtain ⟨eb,hb,t,f,p,hc,hm,hx⟩:=ih q1 s1 cc1 v rfl ea he
  exact ⟨eb,hb,_,_,_,(h1.elim (fun h1=>cp19 h h1) (fun h1=>cp20 h h1)),m230,ceAs x (scQ env) hk ea eb t f p hc hm v hx h2⟩
 | @exAq env x st wh v st1 h h1 g h2 h3 ih=>
  intro q s c
  refine one_cc cK l fu ol fun ea he=>?_
  have hk:=rt_len2 h oM
  have k0:=kid_ce c.2 (i:=0) oM
  have q1:Okk fu (szTk (.ex env (kid x 0))) st:=q.le (by show szE (kid x 0)<=szE x; omega)
  have s1:SmT (.ex env (kid x 0)):=⟨s.1,szE_kid s.2 oM⟩
  have cc1:CeT st.s.length (.ex env (kid x 0)):=⟨c.1,k0.1⟩
  obtain ⟨eb,hb,t,f,p,hc,hm,hx⟩:=ih q1 s1 cc1 v rfl ea he
  exact ⟨eb,hb,_,_,_,(h1.elim (fun h1=>cp19 h h1) (fun h1=>cp20 h h1)),m230,ceAq x (scQ env) hk ea eb t f p hc hm v hx h2 (lzc_t h3)⟩
 | @exAr env x st wh v st1 k st2 wh2 h h1 g h2 h3 g2 ih ih2=>
  intro q s c ea he
  have hk:=rt_len2 h oM
  have k0:=kid_ce c.2 (i:=0) oM
  have q1:Okk fu (szTk (.ex env (kid x 0))) st:=q.le (by show szE (kid x 0)<=szE x; omega)
  have s1:SmT (.ex env (kid x 0)):=⟨s.1,szE_kid s.2 oM⟩
  have cc1:CeT st.s.length (.ex env (kid x 0)):=⟨c.1,k0.1⟩
  obtain ⟨a1,a2⟩:=g.good niS hl hd q.nf s1 cc1
  have k1:=kid_ce c.2 (i:=1) oM
  have kk:=kid2_ce (x:=x) (i:=0) (j:=1) oM oM
  have q2:Okk fu (szE (kid x 1)) st1:=q.step a1 (by show szE (kid x 0)+szE (kid x 1)<=szE x; omega)
  obtain ⟨eb,hb,t,f,p,hc,hm,hx⟩:=ih q1 s1 cc1 v rfl ea he
  obtain ⟨ec,hec,t2,f2,p2,hc2,hm2,hy⟩:=ih2 q2 ⟨s.1,szE_kid s.2 oM⟩ ⟨c.1.mono a1.s,k1.1⟩ eb hb
  exact ⟨ec,hec,_,_,_,(h1.elim (fun h1=>cp19 h h1) (fun h1=>cp20 h h1)),m230,ceAr x (scQ env) hk ea eb ec t f p hc hm v hx h2 (lzc_f h3) t2 f2 p2 hc2 hm2 k hy⟩
 | @exAt env x st wh v st1 u st2 h h1 g h2 h3 g2 h4 ih ih2=>
  intro q s c ea he
  have hk:=rt_len2 h oM
  have k0:=kid_ce c.2 (i:=0) oM
  have q1:Okk fu (szTk (.ex env (kid x 0))) st:=q.le (by show szE (kid x 0)<=szE x; omega)
  have s1:SmT (.ex env (kid x 0)):=⟨s.1,szE_kid s.2 oM⟩
  have cc1:CeT st.s.length (.ex env (kid x 0)):=⟨c.1,k0.1⟩
  obtain ⟨a1,a2⟩:=g.good niS hl hd q.nf s1 cc1
  have k1:=kid_ce c.2 (i:=1) oM
  have kk:=kid2_ce (x:=x) (i:=0) (j:=1) oM oM
  have q2:Okk fu (szE (kid x 1)) st1:=q.step a1 (by show szE (kid x 0)+szE (kid x 1)<=szE x; omega)
  obtain ⟨eb,hb,t,f,p,hc,hm,hx⟩:=ih q1 s1 cc1 v rfl ea he
  obtain ⟨ec,hec,t2,f2,p2,hc2,hm2,hy⟩:=ih2 q2 ⟨s.1,szE_kid s.2 oM⟩ ⟨c.1.mono a1.s,k1.1⟩ u rfl eb hb
  exact ⟨ec,hec,_,_,_,(h1.elim (fun h1=>cp19 h h1) (fun h1=>cp20 h h1)),m230,ceAo_1 x (scQ env) hk ea eb ec t f p hc hm v hx h2 (lzc_f h3) t2 f2 p2 hc2 hm2 u hy h4⟩
 | @exAo env x st wh v st1 u st2 h h1 g h2 h3 g2 h4 ih ih2=>
  intro q s c
  refine one_cc cK l fu ol fun ea he=>?_
  have hk:=rt_len2 h oM
  have k0:=kid_ce c.2 (i:=0) oM
  have q1:Okk fu (szTk (.ex env (kid x 0))) st:=q.le (by show szE (kid x 0)<=szE x; omega)
  have s1:SmT (.ex env (kid x 0)):=⟨s.1,szE_kid s.2 oM⟩
  have cc1:CeT st.s.length (.ex env (kid x 0)):=⟨c.1,k0.1⟩
  obtain ⟨a1,a2⟩:=g.good niS hl hd q.nf s1 cc1
  have k1:=kid_ce c.2 (i:=1) oM
  have kk:=kid2_ce (x:=x) (i:=0) (j:=1) oM oM
  have q2:Okk fu (szE (kid x 1)) st1:=q.step a1 (by show szE (kid x 0)+szE (kid x 1)<=szE x; omega)
  obtain ⟨eb,hb,t,f,p,hc,hm,hx⟩:=ih q1 s1 cc1 v rfl ea he
  obtain ⟨ec,hec,t2,f2,p2,hc2,hm2,hy⟩:=ih2 q2 ⟨s.1,szE_kid s.2 oM⟩ ⟨c.1.mono a1.s,k1.1⟩ u rfl eb hb
  exact ⟨ec,hec,_,_,_,(h1.elim (fun h1=>cp19 h h1) (fun h1=>cp20 h h1)),m230,ceAo_2 x (scQ env) hk ea eb ec t f p hc hm v hx h2 (lzc_f h3) t2 f2 p2 hc2 hm2 u hy h4⟩
 | @exU env x st wh o h h1 g ih=>
  intro q s c
  have hk:=rt_pos h h1
  have k0:=kid_ce c.2 (i:=(exK x).length - 1) oM
  have z:=ih (q.le (by show szE (kid x _)<=szE x; omega)) ⟨s.1,szE_kid s.2 oM⟩ ⟨c.1,k0.1⟩
  have e1:(((exK x).length:Int) - 1).toNat=(exK x).length - 1:=by omega
  have e2:kid x ((exK x).length - 1)=(exK x).getD (((exK x).length:Int) - 1).toNat default:=by rw [e1]
  rw [e2] at z
  have cp:cpA x 231 237 (.agg (exL x)):=h1.elim (fun h1=>cp25 h h1) (fun h1=>cp26 h h1)
  cases o with
  | ok us st'=>
   intro u hu ea he
   obtain ⟨eb,hb,t,f,p,hc,hm,hx⟩:=z u hu ea he
   exact ⟨eb,hb,_,_,_,cp,m231,ceUo x (scQ env) hk (szE_lens s.2).1 ea eb t f p hc hm u hx⟩
  | er k st' wh'=>
   intro ea he
   obtain ⟨eb,hb,t,f,p,hc,hm,hx⟩:=z ea he
   exact ⟨eb,hb,_,_,_,cp,m231,ceUe x (scQ env) hk (szE_lens s.2).1 ea eb t f p hc hm k hx⟩
 | @exOe env x st wh k st1 wh1 h h1 g ih=>
  intro q s c ea he
  have kk:=kids_ce c.2
  have q1:Okk fu (szTk (.li env (exK x))) st:=q.le (by have:=kk.2; show szEs (exK x)<=szE x; omega)
  have s1:SmT (.li env (exK x)):=⟨s.1,kids_sm s.2⟩
  have cc1:CeT st.s.length (.li env (exK x)):=⟨c.1,kk.1⟩
  have ln:=(szE_lens s.2).1
  have hk:=rt_len1 h (.inr (.inr (.inr h1)))
  obtain ⟨eb,hb,hx⟩:=ih q1 s1 cc1 ea he
  rw [one_kidc hk] at hx
  obtain ⟨t,f,p,hc,hm,hy⟩:=lxE_one hx
  have cp:cpA x 232 238 (.agg (exL x)):=by
   rcases h1 with h1 | h1 | h1 | h1
   ·exact cp15 h h1
   ·exact cp21 h h1
   ·exact cp22 h h1
   ·exact cp23 h h1
  exact ⟨eb,hb,_,_,_,cp,m232,ceSe x (scQ env) hk ea eb t f p hc hm k hy⟩
 | @exOo env x st wh v st1 h h1 g ih=>
  intro q s c
  have kk:=kids_ce c.2
  have q1:Okk fu (szTk (.li env (exK x))) st:=q.le (by have:=kk.2; show szEs (exK x)<=szE x; omega)
  have s1:SmT (.li env (exK x)):=⟨s.1,kids_sm s.2⟩
  have cc1:CeT st.s.length (.li env (exK x)):=⟨c.1,kk.1⟩
  have ln:=(szE_lens s.2).1
  obtain ⟨a1,a2⟩:=g.good niS hl hd q.nf s1 cc1
  have hk:=rt_len1 h (.inr (.inr (.inr h1)))
  have hcel:=(q.step a1 (k2:=0) (by have:=kk.2; show szEs (exK x)+0<=szE x; omega)).cells
  simp only [cok_st] at hcel
  have z:=fun ea eb he hx=>conf1 cK l fu ol x st1 wh env v h h1 hk rfl oM (CeV_parts a2.one.2).1 ea eb he hx
  show CcX cK l fu ol env x st wh (cxc (cS1 (exO x) v st1) st1 wh)
  cases hr:cS1 (exO x) v st1 with
  | ok r=>
   refine one_cc cK l fu ol fun ea he=>?_
   obtain ⟨eb,hb,hx⟩:=ih q1 s1 cc1 ea he
   rw [one_kidc hk] at hx
   have y:=z ea eb hb (lxO_one hx)
   rw [hr] at y
   exact y
  | error k=>
   intro ea he
   obtain ⟨eb,hb,hx⟩:=ih q1 s1 cc1 ea he
   rw [one_kidc hk] at hx
   have y:=z ea eb hb (lxO_one hx)
   rw [hr] at y
   exact ⟨eb,hb,y⟩
 | @exWe env x st wh k st1 wh1 h h1 g ih=>
  intro q s c ea he
  have kk:=kids_ce c.2
  have q1:Okk fu (szTk (.li env (exK x))) st:=q.le (by have:=kk.2; show szEs (exK x)<=szE x; omega)
  have s1:SmT (.li env (exK x)):=⟨s.1,kids_sm s.2⟩
  have cc1:CeT st.s.length (.li env (exK x)):=⟨c.1,kk.1⟩
  have ln:=(szE_lens s.2).1
  have no:∀n:Int,¬isTwo n->¬exO x=n:=fun n hn he=>hn (he ▸ h1)
  obtain ⟨eb,hb,hx⟩:=ih q1 s1 cc1 ea he
  exact ⟨eb,hb,_,_,_,cpW h (no 1 dD) (no 2 dD) (no 3 dD) (no 4 dD) (no 5 dD) (no 6 dD) (no 7 dD) (no 8 dD) (no 9 dD) (no 19 dD) (no 20 dD) (no 25 dD) (no 26 dD) (no 15 dD) (no 21 dD) (no 22 dD) (no 23 dD),m233,ceDe x (scQ env) ea eb k (ceLe _ _ ln ea k eb hx)⟩
 | @exWo env x st wh v u st1 h h1 g ih=>
  intro q s c
  have kk:=kids_ce c.2
  have q1:Okk fu (szTk (.li env (exK x))) st:=q.le (by have:=kk.2; show szEs (exK x)<=szE x; omega)
  have s1:SmT (.li env (exK x)):=⟨s.1,kids_sm s.2⟩
  have cc1:CeT st.s.length (.li env (exK x)):=⟨c.1,kk.1⟩
  have ln:=(szE_lens s.2).1
  obtain ⟨a1,a2⟩:=g.good niS hl hd q.nf s1 cc1
  have qq:=q.step a1 (k2:=0) (by have:=kk.2; show szEs (exK x)+0<=szE x; omega)
  have hcel:=qq.cells
  simp only [cok_st] at hcel
  have p2:=a2.2
  rw [CeVs] at p2
  have z:=fun ea eb he hx=>conf2 cK l fu ol x st1 wh env v u h h1 ln qq.w0 oM (CeV_parts p2.1).1 ea eb he hx
  show CcX cK l fu ol env x st wh (cxc (cS2 (exO x) v u st1) st1 wh)
  cases hr:cS2 (exO x) v u st1 with
  | ok r=>
   refine one_cc cK l fu ol fun ea he=>?_
   obtain ⟨eb,hb,hx⟩:=ih q1 s1 cc1 ea he
   have y:=z ea eb hb hx
   rw [hr] at y
   exact y
  | error k=>
   intro ea he
   obtain ⟨eb,hb,hx⟩:=ih q1 s1 cc1 ea he
   have y:=z ea eb hb hx
   rw [hr] at y
   exact ⟨eb,hb,y⟩
end
section
variable (cK:C5) (l:List Df) (fu:Int) (ol:List LV)
theorem cel_ok(st:St)(wh:BA)(k:Int)(hb:st.s.length<=1000000000)(e:Ext)(he:ExS cK l fu ol st wh e):∃e',ExS cK l fu ol { st with s:=st.s++[k] } wh e'/\Ef 94 [.xp 0 0,.int .i64 k] e (.ret (.agg (vlL (vX 4 st.s.length)))) e':=by
 obtain ⟨sp,re,rfl,⟨hs,rfl,rfl⟩ | ⟨c,rfl,rfl⟩⟩:=he
 ·rw [hs]
  exact ⟨_,⟨_,_,rfl,.inr ⟨0,rfl,rfl⟩⟩,ceCellN cK l fu st.n wh st.w ol k⟩
 ·refine ⟨_,⟨_,_,rfl,.inr ⟨c+1,rfl,rfl⟩⟩,?_⟩
  have z:=ceCellC cK l fu st.n wh st.w ol c st.s hb k
  have e1:((↑(List.length st.s+(0+1)):Int) - 1)=st.s.length:=by omega
  rw [e1] at z
  have e2:(st.s++[k]).length=st.s.length+[k].length:=by simp
  rw [e2]
  exact z
mutual
theorem plc_V(n w:Int)(wh:BA):∀ (v:Vl) (s:List Int),SmV v->s.length+cnV v<=1000000000->∀ea,ExS cK l fu ol ⟨n,s,w⟩ wh ea->∃eb,ExS cK l fu ol ⟨n,(plV v s).2,w⟩ wh eb/\chO fnP v ea (plV v s).1 eb
 | .mk op k nm kids ps body binds,s,h,hb,ea,he=>by
  rw [SmV] at h
  rw [cnV] at hb
  by_cases ho:op=4
  ·rw [iP ho] at hb
   obtain ⟨e0,he0,hc⟩:=cel_ok cK l fu ol ⟨n,s,w⟩ wh k (by simp only; omega) ea he
   obtain ⟨eb,heb,hk⟩:=plc_Vs n w wh kids (s++[k]) h.2.2.2.2.1 (by simp only [List.length_append,List.length_cons,List.length_nil]; omega) e0 he0
   obtain ⟨ec,hec,hd⟩:=plc_Bs n w wh binds (plVs kids (s++[k])).2 h.2.2.2.2.2 (by rw [plVs_len]; simp only [List.length_append,List.length_cons,List.length_nil]; omega) eb heb
   rw [plV]
   simp only [iP ho]
   refine ⟨ec,hec,?_⟩
   obtain ⟨sp,re,rfl,hr⟩:=he
   exact chP op k nm kids ps body binds (.ro [.xp 0 0] 0) ho _ e0 eb ec oM oM s.length (ch2 cK l fu n wh sp w re k (vX 4 s.length) e0 hc) _ _ hk hd
  ·rw [iN ho] at hb
   obtain ⟨eb,heb,hk⟩:=plc_Vs n w wh kids s h.2.2.2.2.1 oM ea he
   obtain ⟨ec,hec,hd⟩:=plc_Bs n w wh binds (plVs kids s).2 h.2.2.2.2.2 (by rw [plVs_len]; omega) eb heb
   rw [plV]
   simp only [iN ho]
   exact ⟨ec,hec,chN op k nm kids ps body binds fnP ho ea eb ec oM oM _ _ hk hd⟩
theorem plc_Vs(n w:Int)(wh:BA):∀ (vs:List Vl) (s:List Int),SmVs vs->s.length+cnVs vs<=1000000000->∀ea,ExS cK l fu ol ⟨n,s,w⟩ wh ea->∃eb,ExS cK l fu ol ⟨n,(plVs vs s).2,w⟩ wh eb/\chK fnP vs ea (plVs vs s).1 eb
 | [],s,_,_,ea,he=>by rw [plVs]; exact ⟨ea,he,rfl,rfl⟩
 | v::r,s,h,hb,ea,he=>by
  rw [SmVs] at h
  rw [cnVs] at hb
  obtain ⟨eb,heb,hv⟩:=plc_V n w wh v s h.1 oM ea he
  obtain ⟨ec,hec,hr⟩:=plc_Vs n w wh r (plV v s).2 h.2 (by rw [plV_len]; omega) eb heb
  rw [plVs]
  exact ⟨ec,hec,_,eb,_,hv,hr,rfl⟩
theorem plc_Bs(n w:Int)(wh:BA):∀ (vs:List Bd) (s:List Int),SmBs vs->s.length+cnBs vs<=1000000000->∀ea,ExS cK l fu ol ⟨n,s,w⟩ wh ea->∃eb,ExS cK l fu ol ⟨n,(plBs vs s).2,w⟩ wh eb/\chB fnP vs ea (plBs vs s).1 eb
 | [],s,_,_,ea,he=>by rw [plBs]; exact ⟨ea,he,rfl,rfl⟩
 | .mk nm v::r,s,h,hb,ea,he=>by
  rw [SmBs] at h
  rw [cnBs] at hb
  obtain ⟨eb,heb,hv⟩:=plc_V n w wh v s h.1 oM ea he
  obtain ⟨ec,hec,hr⟩:=plc_Bs n w wh r (plV v s).2 h.2 (by rw [plV_len]; omega) eb heb
  rw [plBs]
  exact ⟨ec,hec,_,eb,_,hv,hr,rfl⟩
end
mutual
theorem rdc_V(n w:Int)(wh:BA)(s:List Int)(e:Ext)(he:ExS cK l fu ol ⟨n,s,w⟩ wh e):∀ (v:Vl),SmV v->CeV s.length v->chO fnR v e (rdV s v) e
 | .mk op k nm kids ps body binds,h,hc=>by
  rw [SmV] at h
  rw [CeV] at hc
  have hk:=rdc_Vs n w wh s e he kids h.2.2.2.2.1 hc.2.2.1
  have hd:=rdc_Bs n w wh s e he binds h.2.2.2.2.2 hc.2.2.2
  rw [rdV]
  by_cases ho:op=4
  ·simp only [iP ho]
   have hj:=hc.1 ho
   obtain ⟨sp,re,rfl,⟨hs,rfl,rfl⟩ | ⟨c,rfl,rfl⟩⟩:=he
   ·simp only at hs; rw [hs] at hj; simp only [List.length_nil] at hj; omega
   ·exact chR op k nm kids ps body binds (.ro [.xp 0 0] 0) ho _ _ _ _ oM oM (s.getD k.toNat 0) (ch3 cK l fu n wh w ol c s k hj) _ _ hk hd
  ·simp only [iN ho]
   exact chN op k nm kids ps body binds fnR ho e e e oM oM _ _ hk hd
theorem rdc_Vs(n w:Int)(wh:BA)(s:List Int)(e:Ext)(he:ExS cK l fu ol ⟨n,s,w⟩ wh e):∀ (vs:List Vl),SmVs vs->CeVs s.length vs->chK fnR vs e (rdVs s vs) e
 | [],_,_=>by rw [rdVs]; exact ⟨rfl,rfl⟩
 | v::r,h,hc=>by
  rw [SmVs] at h
  rw [CeVs] at hc
  rw [rdVs]
  exact ⟨_,e,_,rdc_V n w wh s e he v h.1 hc.1,rdc_Vs n w wh s e he r h.2 hc.2,rfl⟩
theorem rdc_Bs(n w:Int)(wh:BA)(s:List Int)(e:Ext)(he:ExS cK l fu ol ⟨n,s,w⟩ wh e):∀ (vs:List Bd),SmBs vs->CeBs s.length vs->chB fnR vs e (rdBs s vs) e
 | [],_,_=>by rw [rdBs]; exact ⟨rfl,rfl⟩
 | .mk nm v::r,h,hc=>by
  rw [SmBs] at h
  rw [CeBs] at hc
  rw [rdBs]
  exact ⟨_,e,_,rdc_V n w wh s e he v h.1 hc.1,rdc_Bs n w wh s e he r h.2 hc.2,rfl⟩
end
end
def Cal(l:List Df)(fu:Int)(name:BA)(us:List Vl)(s:List Int)(o:Co):Prop:=
 (findD name l=none/\o = .er 19 ⟨0,s,0⟩ nm0)∨∃d,findD name l=some d/\Cv cS l fu (.call d us) ⟨0,s,0⟩ nm0 o
def coV:Co->Vl
 | .ok [v] st=>rdV st.s v
 | _=>default
def coE:Co->Int
 | .ok _ _=>0
 | .er k _ _=>k
def coW:Co->BA
 | .ok _ _=>nm0
 | .er _ _ w=>w
section
variable (cK:C5) (l:List Df) (fu:Int)
theorem cal_ok(hf:fu<=1000000)(hl:SmL l)(hd:∀d∈l,szE (dfB d)<=1048576){name:BA}{us:List Vl}{s:List Int}(hs:SmVs us)(hc:CeVs s.length us)(h0:0<=fu)(h1:(s.length:Int)+fu * 1048576<=900000000){o:Co}(h:Cal l fu name us s o) :
  CcR cK l fu zO 95 [.xp 0 0,.str name,.sl 7 (Vl.cs us)] ⟨0,s,0⟩ nm0 o/\Gr fu 0 ⟨0,s,0⟩ o.st/\CoO o/\ShC (.con default) o:=by
 rcases h with ⟨h2,rfl⟩ | ⟨d,h2,h3⟩
 ·refine ⟨fun ea he=>?_,Gr.r _ h0,trivial,tV⟩
  obtain ⟨sp,re,rfl,hr⟩:=he
  exact ⟨_,⟨sp,re,rfl,hr⟩,ceKu cK l fu 0 nm0 sp 0 re hl.1 name us h2⟩
 ·have s1:SmT (.call d us):=⟨hl.2 _ (findD_mem h2),hs⟩
  have cc1:CeT s.length (.call d us):=⟨hd _ (findD_mem h2),hc⟩
  have g:=h3.good niS hl hd h0 s1 cc1
  exact ⟨confC cK l fu zO hf hl hd h3 ⟨Int.le_refl _,h0,Int.le_refl _,by show (s.length:Int)+(fu - 0) * 1048576+(0:Nat)<=_; omega,by show (0:Int)+(fu - 0) * 1048576+(0:Nat)<=_; omega⟩ s1 cc1 name h2,g.1,g.2,h3.shape.tr trivial trivial⟩
theorem exC_ok(hf:fu<=1000000)(hl:SmL l)(hd:∀d∈l,szE (dfB d)<=1048576){name:BA}{args:List Vl}(ha:SmVs args)(hb:BoVs args)(hn:args.length<=1000000000)(h0:0<=fu)(h1:(cnVs args:Int)+fu * 1048576<=900000000){o:Co}(h:Cal l fu name (plVs args []).1 (plVs args []).2 o) :
  ∃wh sp rr,((o.st.s=[]/\sp = .nilsl)∨∃c,sp = .ysl 2 c o.st.s.length)/\SmV (coV o)/\Ef 60 [.xp 0 0,.str name,.sl 7 (Vl.cs args)] (EM cK l fu 0 nm0 .nilsl 0 []) (.ret (.agg (otL (coV o) (coE o) (coW o) o.st.n))) (EM cK l fu o.st.n wh sp o.st.w rr):=by
 have hlen:=plVs_len args []
 simp only [List.length_nil] at hlen
 have hpl:=plVs_ok args [] ha hb
 obtain ⟨hr,hg,hco,hsh⟩:=cal_ok cK l fu hf hl hd hpl.1 hpl.2 h0 oM h
 obtain ⟨eb,heb,hk⟩:=plc_Vs cK l fu zO 0 0 nm0 args [] ha (by simp only [List.length_nil]; omega) (EZ cK l fu) ⟨.nilsl,[(1,zO)],rfl,.inl ⟨rfl,rfl,rfl⟩⟩
 have re1:∀ {s:List Int} {sp:PV} {re:Ext},SR zO s sp re->∃rr,re=(1,zO)::rr/\((s=[]/\sp = .nilsl)∨∃c,sp = .ysl 2 c s.length):=by
  rintro s sp re (⟨h1,h2,h3⟩ | ⟨c,h2,h3⟩)
  ·exact ⟨_,h3,.inl ⟨h1,h2⟩⟩
  ·exact ⟨_,h3,.inr ⟨c,h2⟩⟩
 cases o with
 | ok vs st'=>
  have hv:vs.length=1:=hsh
  obtain ⟨v,rfl⟩:=List.length_eq_one_iff.1 hv
  obtain ⟨ec,hec,hx⟩:=hr v rfl eb heb
  have hrd:=rdc_V cK l fu zO st'.n st'.w nm0 st'.s ec hec v hco.one.1 hco.one.2
  obtain ⟨sp,re,rfl,hsr⟩:=hec
  obtain ⟨rr,rfl,hsp⟩:=re1 hsr
  exact ⟨_,_,_,hsp,rdV_sm _ _ hco.one.1,xeT cK l fu name args hn _ eb hk v (rdV st'.s v) st'.n nm0 sp st'.w rr hx hrd⟩
 | er k st' wh'=>
  obtain ⟨ec,hec,hx⟩:=hr eb heb
  obtain ⟨sp,re,rfl,hsr⟩:=hec
  obtain ⟨rr,rfl,hsp⟩:=re1 hsr
  exact ⟨_,_,_,hsp,SmV_vX 0 0,xeE cK l fu name args hn _ eb hk k st'.n wh' sp st'.w rr hx⟩
theorem cCall_ok(hx:PV.noX (mdM cK l)=true)(hl:SmL l)(hd:∀d∈l,szE (dfB d)<=1048576){name:BA}{args:List Vl}(ha:SmVs args)(hb:BoVs args)(hn:args.length<=1000000000)(h0:0<=fu)(hf:fu<=300)(h1:(cnVs args:Int)<=4000000){o:Co}(h:Cal l fu name (plVs args []).1 (plVs args []).2 o) :
  SmV (coV o)/\Pu 28 [mdM cK l,.str name,.sl 7 (Vl.cs args),.int .i64 fu] (.ret (.tup [.agg (otL (coV o) (coE o) (coW o) o.st.n),.int .i64 o.st.s.length])):=by
 have hfl:fl' fu=fu:=fl_eq h0 oM
 have hbg:=xBeg cK l fu
 have hbg:Ef 59 [mdM cK l,.int .i64 fu] [] (.ret (.xp 0 0)) (EM cK l fu 0 nm0 .nilsl 0 []):=by
  have e:∀f:Int,f=fu->Ef 59 [mdM cK l,.int .i64 fu] [] (.ret (.xp 0 0)) (EM cK l f 0 nm0 .nilsl 0 [])->Ef 59 [mdM cK l,.int .i64 fu] [] (.ret (.xp 0 0)) (EM cK l fu 0 nm0 .nilsl 0 []):=by
   rintro f rfl z; exact z
  exact e _ hfl hbg
 obtain ⟨wh,sp,rr,hsp,hsm,hxe⟩:=exC_ok cK l fu oM hl hd ha hb hn h0 oM h
 refine ⟨hsm,?_⟩
 have hargs:noXs [mdM cK l,.str name,.sl 7 (Vl.cs args),.int .i64 fu]=true:=by
  have e1:PV.noX (.sl 7 (Vl.cs args))=true:=by rw [PV.noX,vls_nx]
  have e2:PV.noX (.str name)=true:=rfl
  rw [noXs,hx,noXs,e2,noXs,e1]
  rfl
 have hres:∀k:Int,CRes.noX (.ret (.tup [.agg (otL (coV o) (coE o) (coW o) o.st.n),.int .i64 k]))=true:=fun k=>by
  have:=otL_nx (coV o) (coE o) o.st.n (coW o)
  rw [CRes.noX,PV.noX,noXs,this]
  rfl
 rcases hsp with ⟨hs,rfl⟩ | ⟨c,rfl⟩
 ·rw [hs]
  exact Ob.pur_of_eff hargs (hres _) (cCallN cK l fu fu name args hbg _ _ _ _ _ _ _ _ hxe)
 ·exact Ob.pur_of_eff hargs (hres _) (cCallR cK l fu fu name args hbg _ _ _ _ _ _ _ _ c o.st.s.length hxe)
end
set_option maxRecDepth 100000
def bnc1(o:Option Co)(k:Vl->St->Option Co):Option Co:=match o with
 | some (.ok [v] s)=>k v s
 | some (.er c s w)=>some (.er c s w)
 | _=>none
theorem bnc1_some{o:Option Co}{k:Vl->St->Option Co}{r:Co}(h:bnc1 o k=some r):(∃v s,o=some (.ok [v] s)/\k v s=some r)∨∃c s w,o=some (.er c s w)/\r = .er c s w:=by
 unfold bnc1 at h
 split at h
 ·exact .inl ⟨_,_,rfl,h⟩
 ·injection h with h; exact .inr ⟨_,_,_,rfl,h.symm⟩
 ·cases h
def bncL(o:Option Co)(k:List Vl->St->Option Co):Option Co:=match o with
 | some (.ok vs s)=>k vs s
 | some (.er c s w)=>some (.er c s w)
 | _=>none
theorem bncL_some{o:Option Co}{k:List Vl->St->Option Co}{r:Co}(h:bncL o k=some r):(∃v s,o=some (.ok v s)/\k v s=some r)∨∃c s w,o=some (.er c s w)/\r = .er c s w:=by
 unfold bncL at h
 split at h
 ·exact .inl ⟨_,_,rfl,h⟩
 ·injection h with h; exact .inr ⟨_,_,_,rfl,h.symm⟩
 ·cases h
theorem itc_some{c:Prop} [Decidable c] {a b:Option Co} {r:Co} (h:(if c then a else b)=some r):(c/\a=some r)∨(¬c/\b=some r):=by
 by_cases hc:c
 ·rw [iP hc] at h; exact .inl ⟨hc,h⟩
 ·rw [iN hc] at h; exact .inr ⟨hc,h⟩
def evc(m:CSem)(l:List Df)(fu:Int):Nat->Tk->St->BA->Option Co
 | 0,_,_,_=>none
 | n+1,.run d env,st,wh=>if fu<=st.n then some (.er 24 st wh) else evc m l fu n (.ex env (dfB d)) st.tick (dfNm d)
 | n+1,.call d args,st,wh=>if dfM d=1 then some (.er 26 st wh) else if 0<(dfP d).length/\(dfP d).length=args.length then evc m l fu n (.run d (bnds (dfP d) args [])) st wh else some (.er 19 st wh)
 | n+1,.con d,st,wh=>if dfM d=1 then some (.er 26 st wh) else evc m l fu n (.run d []) st wh
 | _+1,.app _ _,_,_=>none
 | _+1,.li _ [],st,_=>some (.ok [] st)
 | n+1,.li env (x::xs),st,wh=>bnc1 (evc m l fu n (.ex env x) st wh) fun v s=>bncL (evc m l fu n (.li env xs) s wh) fun vs s2=>some (.ok (v::vs) s2)
 | n+1,.ex env x,st,wh=>
  if eRight_r0 (exO x) (exK x)=true then
   if exO x=1 then if nIn_r0 (exN x)=true then some (.ok [vI (exN x)] st) else none
   else if exO x=2 then some (.ok [vB (exN x != 0)] st)
   else if exO x=3 then match findB (exNm x) env with
    | some v=>some (.ok [v] st)
    | none=>match findD (exNm x) l with
     | none=>none
     | some d=>if 0<(dfP d).length then none else evc m l fu n (.con d) st wh
   else if exO x=5 then bncL (evc m l fu n (.li env (exK x)) st wh) fun vs s=>match findB (exNm x) env with
    | some _=>none
    | none=>match findD (exNm x) l with
     | none=>none
     | some d=>evc m l fu n (.call d vs) s wh
   else if exO x=7 then bnc1 (evc m l fu n (.ex env (kid x 0)) st wh) fun v s=>evc m l fu n (.ex (.mk (exNm x) v::env) (kid x 1)) s wh
   else if exO x=8 then bnc1 (evc m l fu n (.ex env (kid x 0)) st wh) fun v s=>if vlO v=2 then if vlN v=0 then evc m l fu n (.ex env (kid x 2)) s wh else evc m l fu n (.ex env (kid x 1)) s wh else none
   else if exO x=19∨exO x=20 then bnc1 (evc m l fu n (.ex env (kid x 0)) st wh) fun v s=>if vlO v=2 then if (vlN v != 0)=(exO x==20) then some (.ok [vB (vlN v != 0)] s) else bnc1 (evc m l fu n (.ex env (kid x 1)) s wh) fun u s2=>if vlO u=2 then some (.ok [vB (vlN u != 0)] s2) else none else none
   else if isOne (exO x) then bnc1 (evc m l fu n (.li env (exK x)) st wh) fun v s=>some (m.one (exO x) v s wh)
   else if isTwo (exO x) then bncL (evc m l fu n (.li env (exK x)) st wh) fun vs s=>match vs with
    | [v,u]=>some (m.two (exO x) v u s wh)
    | _=>none
   else none
  else none
theorem evc_ok{m:CSem}{l:List Df}{fu:Int}:∀ (n:Nat) (t:Tk) (st:St) (wh:BA) (o:Co),evc m l fu n t st wh=some o->Cv m l fu t st wh o
 | 0,_,_,_,_,h=>by simp [evc] at h
 | n+1,.run d env,st,wh,o,h=>by
  simp only [evc] at h
  split at h
  ·injection h with h; subst h; exact .runF (by assumption)
  ·exact .runG oM (evc_ok n _ _ _ _ h)
 | n+1,.call d args,st,wh,o,h=>by
  simp only [evc] at h
  split at h
  ·injection h with h; subst h; exact .callA (by assumption)
  ·split at h
   ·rename_i h1 h2; exact .callG h1 h2.1 h2.2 (evc_ok n _ _ _ _ h)
   ·injection h with h; subst h; exact .callN (by assumption) (by assumption)
 | n+1,.con d,st,wh,o,h=>by
  simp only [evc] at h
  split at h
  ·injection h with h; subst h; exact .conA (by assumption)
  ·exact .conG (by assumption) (evc_ok n _ _ _ _ h)
 | n+1,.app _ _,_,_,_,h=>by simp [evc] at h
 | n+1,.li env [],st,wh,o,h=>by
  simp only [evc] at h
  injection h with h; subst h; exact .liN
 | n+1,.li env (x::xs),st,wh,o,h=>by
  simp only [evc] at h
  rcases bnc1_some h with ⟨v,s,h1,h2⟩ | ⟨c,s,w,h1,rfl⟩
  ·rcases bncL_some h2 with ⟨vs,s2,h3,h4⟩ | ⟨c,s2,w,h3,rfl⟩
   ·injection h4 with h4; subst h4; exact .liC (evc_ok n _ _ _ _ h1) (evc_ok n _ _ _ _ h3)
   ·exact .liR (evc_ok n _ _ _ _ h1) (evc_ok n _ _ _ _ h3)
  ·exact .liE (evc_ok n _ _ _ _ h1)
 | n+1,.ex env x,st,wh,o,h=>by
  rw [evc] at h
  rcases itc_some h with ⟨hr,h⟩ | ⟨-,h⟩
  case inr=>cases h
  rcases itc_some h with ⟨h1,h⟩ | ⟨-,h⟩
  ·rcases itc_some h with ⟨h2,h⟩ | ⟨-,h⟩
   ·injection h with h; subst h; exact .exIo hr h1 h2
   ·cases h
  rcases itc_some h with ⟨h1,h⟩ | ⟨-,h⟩
  ·injection h with h; subst h; exact .exB hr h1
  rcases itc_some h with ⟨h1,h⟩ | ⟨-,h⟩
  ·cases hv:findB (exNm x) env with
   | some v=>rw [hv] at h; injection h with h; subst h; exact .exVb hr h1 hv
   | none=>
    rw [hv] at h
    cases hd:findD (exNm x) l with
    | none=>rw [hd] at h; cases h
    | some d=>
     rw [hd] at h
     rcases itc_some h with ⟨-,h⟩ | ⟨h2,h⟩
     ·cases h
     ·exact .exVc hr h1 hv hd h2 (evc_ok n _ _ _ _ h)
  rcases itc_some h with ⟨h1,h⟩ | ⟨-,h⟩
  ·rcases bncL_some h with ⟨vs,s,h2,h3⟩ | ⟨c,s,w,h2,rfl⟩
   ·cases hv:findB (exNm x) env with
    | some v=>rw [hv] at h3; cases h3
    | none=>
     rw [hv] at h3
     cases hd:findD (exNm x) l with
     | none=>rw [hd] at h3; cases h3
     | some d=>
      rw [hd] at h3
      exact .exKc hr h1 (evc_ok n _ _ _ _ h2) hv hd (evc_ok n _ _ _ _ h3)
   ·exact .exKe hr h1 (evc_ok n _ _ _ _ h2)
  rcases itc_some h with ⟨h1,h⟩ | ⟨-,h⟩
  ·rcases bnc1_some h with ⟨v,s,h2,h3⟩ | ⟨c,s,w,h2,rfl⟩
   ·exact .exTo hr h1 (evc_ok n _ _ _ _ h2) (evc_ok n _ _ _ _ h3)
   ·exact .exTe hr h1 (evc_ok n _ _ _ _ h2)
  rcases itc_some h with ⟨h1,h⟩ | ⟨-,h⟩
  ·rcases bnc1_some h with ⟨v,s,h2,h3⟩ | ⟨c,s,w,h2,rfl⟩
   ·rcases itc_some h3 with ⟨hb,h3⟩ | ⟨-,h3⟩
    ·rcases itc_some h3 with ⟨hz,h3⟩ | ⟨hz,h3⟩
     ·exact .exFf hr h1 (evc_ok n _ _ _ _ h2) hb hz (evc_ok n _ _ _ _ h3)
     ·exact .exFt hr h1 (evc_ok n _ _ _ _ h2) hb hz (evc_ok n _ _ _ _ h3)
    ·cases h3
   ·exact .exFe hr h1 (evc_ok n _ _ _ _ h2)
  rcases itc_some h with ⟨h1,h⟩ | ⟨-,h⟩
  ·rcases bnc1_some h with ⟨v,s,h2,h3⟩ | ⟨c,s,w,h2,rfl⟩
   ·rcases itc_some h3 with ⟨hb,h3⟩ | ⟨-,h3⟩
    ·rcases itc_some h3 with ⟨hz,h3⟩ | ⟨hz,h3⟩
     ·injection h3 with h3; subst h3
      exact .exAq hr h1 (evc_ok n _ _ _ _ h2) hb hz
     ·rcases bnc1_some h3 with ⟨u,s2,h4,h5⟩ | ⟨c,s2,w,h4,rfl⟩
      ·rcases itc_some h5 with ⟨hu,h5⟩ | ⟨-,h5⟩
       ·injection h5 with h5; subst h5
        exact .exAo hr h1 (evc_ok n _ _ _ _ h2) hb hz (evc_ok n _ _ _ _ h4) hu
       ·cases h5
      ·exact .exAr hr h1 (evc_ok n _ _ _ _ h2) hb hz (evc_ok n _ _ _ _ h4)
    ·cases h3
   ·exact .exAe hr h1 (evc_ok n _ _ _ _ h2)
  rcases itc_some h with ⟨h1,h⟩ | ⟨-,h⟩
  ·rcases bnc1_some h with ⟨v,s,h2,h3⟩ | ⟨c,s,w,h2,rfl⟩
   ·injection h3 with h3; subst h3
    exact .exOo hr h1 (evc_ok n _ _ _ _ h2)
   ·exact .exOe hr h1 (evc_ok n _ _ _ _ h2)
  rcases itc_some h with ⟨h1,h⟩ | ⟨-,h⟩
  ·rcases bncL_some h with ⟨vs,s,h2,h3⟩ | ⟨c,s,w,h2,rfl⟩
   ·match vs,h2,h3 with
    | [v,u],h2,h3=>
     injection h3 with h3; subst h3
     exact .exWo hr h1 (evc_ok n _ _ _ _ h2)
    | [],_,h3=>cases h3
    | [_],_,h3=>cases h3
    | _::_::_::_,_,h3=>cases h3
   ·exact .exWe hr h1 (evc_ok n _ _ _ _ h2)
  ·cases h
section
variable (cK:C5) (l:List Df) (fu:Int)
theorem cWri_ok(hx:PV.noX (mdM cK l)=true)(hl:SmL l)(hd:∀d∈l,szE (dfB d)<=1048576){name:BA}{args:List Vl}(ha:SmVs args)(hb:BoVs args)(hn:args.length<=1000000000)(h0:0<=fu)(hf:fu<=300)(h1:(cnVs args:Int)<=4000000){o:Co}(h:Cal l fu name (plVs args []).1 (plVs args []).2 o) :
  Pu 31 [mdM cK l,.str name,.sl 7 (Vl.cs args),.int .i64 fu] (.ret (.int .i64 o.st.w)):=by
 have hfl:fl' fu=fu:=fl_eq h0 oM
 have hbg:=xBeg cK l fu
 have hbg:Ef 59 [mdM cK l,.int .i64 fu] [] (.ret (.xp 0 0)) (EM cK l fu 0 nm0 .nilsl 0 []):=by
  have e:∀f:Int,f=fu->Ef 59 [mdM cK l,.int .i64 fu] [] (.ret (.xp 0 0)) (EM cK l f 0 nm0 .nilsl 0 [])->Ef 59 [mdM cK l,.int .i64 fu] [] (.ret (.xp 0 0)) (EM cK l fu 0 nm0 .nilsl 0 []):=by
   rintro f rfl z; exact z
  exact e _ hfl hbg
 obtain ⟨wh,sp,rr,hsp,hsm,hxe⟩:=exC_ok cK l fu oM hl hd ha hb hn h0 oM h
 have hargs:noXs [mdM cK l,.str name,.sl 7 (Vl.cs args),.int .i64 fu]=true:=by
  have e1:PV.noX (.sl 7 (Vl.cs args))=true:=by rw [PV.noX,vls_nx]
  have e2:PV.noX (.str name)=true:=rfl
  rw [noXs,hx,noXs,e2,noXs,e1]
  rfl
 exact Ob.pur_of_eff hargs rfl (cWri cK l fu fu name args hbg _ _ _ _ _ _ _ _ _ hxe)
end
end Go.Proofs.YtgonmmckkikmaaaGreat
