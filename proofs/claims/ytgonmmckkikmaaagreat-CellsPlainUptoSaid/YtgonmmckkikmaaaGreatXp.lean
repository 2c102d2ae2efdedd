/- Values of Go as plain data, an evaluator over them, and what the functions of the program return; part p. -/
import Derived.Test.YtgonmmckkikmaaaGreatXg
import Derived.Test.YtgonmmckkikmaaaGreatXl
import Derived.Test.YtgonmmckkikmaaaGreatXo
set_option linter.unusedSectionVars false
set_option linter.unusedSimpArgs false
set_option linter.unusedVariables false
namespace Go.Proofs.YtgonmmckkikmaaaGreat
open Go.Pv Tryz
set_option maxRecDepth 100000
section
variable (cK:C5) (l:List Df) (fu st:Int) (wh:BA) (x:Ex) (s:List Bd) (hk:(exK x).length=2) (v:Vl) (st':Int) (hv:evOk cK l fu s ((exK x).getD 0 default) st wh v st')
include cK l fu st wh x s hk v st' hv
theorem eLazyS(hb:¬vlO v=2):Ef 117 [.xp 1 0,.agg (exL x),scP s] (EE cK l fu st wh) (.panic (stopP 19)) (EE cK l fu st' wh):=
 ef mdE [am ((0:Int)<=0/\0<((Ex.cs (exK x)).length:Int)) qZ,xEx (exK x) 0,ce hv,cl (@eNeed_1 (vlO v==2) sA)] func117
theorem eLazyQ(hb:vlO v=2)(hq:(if true=true then (vlN v != 0)==(exO x==20) else !(vlN v != 0)==(exO x==20))=true):Ef 117 [.xp 1 0,.agg (exL x),scP s] (EE cK l fu st wh) (rA (v4 2 (eTruth_r0 (vlN v != 0)) nm0 [])) (EE cK l fu st' wh):=
 ef mdE [am ((0:Int)<=0/\0<((Ex.cs (exK x)).length:Int)) qZ,xEx (exK x) 0,ce hv,cl (@eNeed_2 (vlO v==2) sA),bt (if true=true then (vlN v != 0)==(exO x==20) else !(vlN v != 0)==(exO x==20)) hq,cl (@eTruth (vlN v != 0))] func117
end
theorem ite_ne{c:Prop} [Decidable c] {a b k:Int} (ha:¬a=k) (hb:¬b=k):¬(if c then a else b)=k:=by split <;> assumption
def semE:Sem where
 fr:=freeS
 o1 op a:=if eOne_s op (vlO a) (vlN a)=true then .ok (vX (eOne_t_r0 op (vlO a) (vlN a)) (eOne_t_r1 op (vlO a) (vlN a))) else .error (eOne_f_r0 op (vlO a) (vlN a))
 o2 op a b:=if eCompute_s op (vlO a) (vlN a) (vlO b) (vlN b)=true then .ok (vX (eCompute_t_r0 op (vlO a) (vlN a) (vlO b) (vlN b)) (eCompute_t_r1 op (vlO a) (vlN a) (vlO b) (vlN b))) else .error (eCompute_f_r0 op (vlO a) (vlN a) (vlO b) (vlN b))
 u1 op a:=by
  split
  ·simp
  ·intro h
   injection h with h
   revert h
   unfold eOne_f_r0
   repeat' refine ite_ne ?_ ?_
   all_goals decide
 u2 op a b:=by
  split
  ·simp
  ·intro h
   injection h with h
   revert h
   unfold eCompute_f_r0
   repeat' refine ite_ne ?_ ?_
   all_goals decide
theorem semE_small:SmSem semE where
 fr:=freeS_len
 o1 op a v h:=by
  simp only [semE] at h
  split at h
  ·injection h with h; subst h; exact SmV_vX _ _
  ·cases h
 o2 op a b v h:=by
  simp only [semE] at h
  split at h
  ·injection h with h; subst h; exact SmV_vX _ _
  ·cases h
section
variable (cK:C5) (l:List Df) (fu:Int)
def CfR(f:Nat)(args:List PV)(st:Int)(wh:BA):Oc->Prop
 | .ok vs st'=>∀v,vs=[v]->fOk cK l fu f args st wh v st'
 | .er k st' wh'=>fEr cK l fu f args st wh k st' wh'
def Cf:Tk->Int->BA->Oc->Prop
 | .ex env x,st,wh,o=>CfR cK l fu 108 [.agg (exL x),scP env,.ro [.xp 1 0] 0,.xp 3 0] st wh o
 | .li env xs,st,wh,.ok vs st'=>LiOk cK l fu env wh xs st vs st'
 | .li env xs,st,wh,.er k st' wh'=>LiEr cK l fu env wh xs st k st' wh'
 | .app f args,st,wh,o=>CfR cK l fu 114 [.xp 1 0,.agg (vlL f),.sl 7 (Vl.cs args)] st wh o
 | .call d args,st,wh,o=>CfR cK l fu 53 [.xp 1 0,.agg (dfL d),.sl 7 (Vl.cs args)] st wh o
 | .con d,st,wh,o=>CfR cK l fu 47 [.xp 1 0,.agg (dfL d)] st wh o
 | .run d env,st,wh,o=>CfR cK l fu 79 [.xp 1 0,.agg (dfL d),scP env] st wh o
theorem one_cf{f:Nat}{args:List PV}{st st':Int}{wh:BA}{v:Vl}(h:fOk cK l fu f args st wh v st'):CfR cK l fu f args st wh (.ok [v] st'):=fun w hw=>by
 injection hw with h1 h2
 subst h1
 exact h
theorem eInt_s(n:Int):eInteger_s n true=nIn_r0 n:=by
 unfold eInteger_s
 cases nIn_r0 n <;> simp
theorem lz_true{a b:Bool}(h:a=b):(if true=true then a==b else !a==b)=true:=by subst h; cases a <;> rfl
theorem lz_false{a b:Bool}(h:¬a=b):(if true=true then a==b else !a==b)=false:=by cases a <;> cases b <;> first | rfl | exact absurd rfl h
theorem one_kid{x:Ex}(hk:(exK x).length=1):exK x=[(exK x).getD 0 default]:=by
 match h:exK x,hk with
 | [y],_=>rfl
theorem li1_er{x:Ex}{env:List Bd}{st k st1:Int}{wh wh1:BA}(hk:(exK x).length=1)(h:LiEr cK l fu env wh (exK x) st k st1 wh1):evEr cK l fu env ((exK x).getD 0 default) st wh k st1 wh1:=by
 rw [one_kid hk] at h
 rcases h with h | ⟨v,st',-,h⟩
 ·exact h
 ·exact h.elim
theorem li1_ok{x:Ex}{env:List Bd}{st st1:Int}{wh:BA}{v:Vl}(hk:(exK x).length=1)(h:LiOk cK l fu env wh (exK x) st [v] st1):evOk cK l fu env ((exK x).getD 0 default) st wh v st1:=by
 rw [one_kid hk] at h
 obtain ⟨w,st',vs,h1,⟨rfl,rfl⟩,h3⟩:=h
 injection h3 with h3 h4
 subst h3
 exact h1
theorem conf(hf:fu<=1000000)(hl:SmL l){t:Tk}{st:Int}{wh:BA}{o:Oc}(h:Ev semE l fu t st wh o):0<=st->SmT t->Cf cK l fu t st wh o:=by
 induction h with
 | @runF d env st wh h=>intro h0 s; exact eRunF cK l fu st wh h0 hf d env h
 | @runG d env st wh o h g ih=>
  intro h0 s
  have c:=ih oM ⟨s.2,s.1.1⟩
  cases o with
  | ok vs st'=>exact fun v hv=>eRunT cK l fu st wh h0 hf d env oM v st' (c v hv)
  | er k st' wh'=>exact eRunE cK l fu st wh h0 hf d env oM k st' wh' c
 | @callA d args st wh h=>intro h0 s; exact eCallA cK l fu st wh d args h
 | @callN d args st wh h h1=>
  intro h0 s
  by_cases hp:0<(dfP d).length
  ·exact eCallM cK l fu st wh d args h oM oM
  ·exact eCallN cK l fu st wh d args h oM
 | @callG d args st wh o h h1 h2 g ih=>
  intro h0 s
  have c:=ih h0 ⟨s.1,bnds_sm s.2 SmBs_nil⟩
  cases o with
  | ok vs st'=>exact fun v hv=>eCallT cK l fu st wh d args h oM oM (Nat.le_trans s.1.2 dD) v st' (c v hv)
  | er k st' wh'=>exact eCallE cK l fu st wh d args h oM oM (Nat.le_trans s.1.2 dD) k st' wh' c
 | @conA d st wh h=>intro h0 s; exact eConstA cK l fu st wh d h
 | @conG d st wh o h g ih=>
  intro h0 s
  have c:=ih h0 ⟨s,SmBs_nil⟩
  cases o with
  | ok vs st'=>exact fun v hv=>eConstT cK l fu st wh d h v st' (c v hv)
  | er k st' wh'=>exact eConstE cK l fu st wh d h k st' wh' c
 | @appO f args st wh h=>intro h0 s; exact eAppO cK l fu st wh f args h
 | @appU f args st wh h h1 h2=>intro h0 s; exact eAppU cK l fu st wh f args hl.1 h h1 h2
 | @appN f args st wh d o h h1 h2 g ih=>
  intro h0 s
  have c:=ih h0 ⟨hl.2 _ (findD_mem h2),s.2⟩
  cases o with
  | ok vs st'=>exact fun v hv=>eAppT2 cK l fu st wh f args hl.1 h h1 d h2 v st' (c v hv)
  | er k st' wh'=>exact eAppE2 cK l fu st wh f args hl.1 h h1 d h2 k st' wh' c
 | @appL f args st wh h h1 h2=>
  intro h0 s
  by_cases hb:(vlB f).length=1
  ·exact eAppL_1 cK l fu st wh f args h h1 h2 oM
  ·exact eAppL_2 cK l fu st wh f args h h1 h2 oM
 | @appF f args st wh h h1 h2 h3 h4=>intro h0 s; exact eAppF cK l fu st wh f args h0 hf h h1 h2 h3 h4
 | @appG f args st wh o h h1 h2 h3 h4 g ih=>
  intro h0 s
  obtain ⟨-,hp,hbn,hb,-,hbs⟩:=SmV_parts s.1
  have c:=ih oM ⟨bnds_sm s.2 (SmBs_rev.2 hbs),hb _ (by simp [List.getD,h2])⟩
  cases o with
  | ok vs st'=>exact fun v hv=>eAppT cK l fu st wh f args h0 hf hbn hp h h1 h2 h3 oM v st' (c v hv)
  | er k st' wh'=>exact eAppE cK l fu st wh f args h0 hf hbn hp h h1 h2 h3 oM k st' wh' c
 | liN=>intro h0 s; exact ⟨rfl,rfl⟩
 | liE g ih=>intro h0 s; exact .inl (ih h0 ⟨s.1,s.2 _ List.mem_cons_self⟩)
 | liR g g2 ih ih2=>
  intro h0 s
  have hm:=g.mono
  simp only [ok_st] at hm
  exact .inr ⟨_,_,ih h0 ⟨s.1,s.2 _ List.mem_cons_self⟩ _ rfl,ih2 oM ⟨s.1,fun y hy=>s.2 y (List.mem_cons_of_mem _ hy)⟩⟩
 | liC g g2 ih ih2=>
  intro h0 s
  have hm:=g.mono
  simp only [ok_st] at hm
  exact ⟨_,_,_,ih h0 ⟨s.1,s.2 _ List.mem_cons_self⟩ _ rfl,ih2 oM ⟨s.1,fun y hy=>s.2 y (List.mem_cons_of_mem _ hy)⟩,rfl⟩
 | @exR env x st wh h=>intro h0 s; exact xR cK l fu st wh x env h
 | @exIo env x st wh h h1 h2=>intro h0 s; exact one_cf cK l fu (xIo cK l fu st wh x env h h1 ((eInt_s _).trans h2))
 | @exIe env x st wh h h1 h2=>intro h0 s; exact xIe cK l fu st wh x env h h1 ((eInt_s _).trans h2)
 | @exB env x st wh h h1=>intro h0 s; exact one_cf cK l fu (xB cK l fu st wh x env h h1)
 | @exVb env x st wh v h h1 h2=>intro h0 s; exact one_cf cK l fu (xVo cK l fu st wh x env h h1 v st (eVarB cK l fu st wh (exNm x) env v h2))
 | @exVu env x st wh h h1 h2 h3=>intro h0 s; exact xVe cK l fu st wh x env h h1 19 st wh (eVarU cK l fu st wh (exNm x) env hl.1 h2 h3)
 | @exVf env x st wh d h h1 h2 h3 h4=>intro h0 s; exact one_cf cK l fu (xVo cK l fu st wh x env h h1 (vF (dfNm d)) st (eVarF cK l fu st wh (exNm x) env hl.1 h2 d h3 oM))
 | @exVc env x st wh d o h h1 h2 h3 h4 g ih=>
  intro h0 s
  have c:=ih h0 (hl.2 _ (findD_mem h3))
  cases o with
  | ok vs st'=>exact fun v hv=>xVo cK l fu st wh x env h h1 v st' (eVarT cK l fu st wh (exNm x) env hl.1 h2 d h3 oM v st' (c v hv))
  | er k st' wh'=>exact xVe cK l fu st wh x env h h1 k st' wh' (eVarE cK l fu st wh (exNm x) env hl.1 h2 d h3 oM k st' wh' c)
 | @exCe env x st wh k st1 wh1 h h1 g ih=>intro h0 s; exact xCe cK l fu st wh x env h h1 (szE_lens s.2).1 k st1 wh1 (ih h0 ⟨s.1,kids_sm s.2⟩)
 | @exCo env x st wh vs st1 h h1 g ih=>intro h0 s; exact one_cf cK l fu (xCo cK l fu st wh x env h h1 (szE_lens s.2).1 vs st1 (ih h0 ⟨s.1,kids_sm s.2⟩))
 | @exKe env x st wh k st1 wh1 h h1 g ih=>intro h0 s; exact xKe cK l fu st wh x env h h1 (szE_lens s.2).1 k st1 wh1 (ih h0 ⟨s.1,kids_sm s.2⟩)
 | @exKa env x st wh vs st1 f o h h1 g h2 g2 ih ih2=>
  intro h0 s
  have hm:=g.mono
  simp only [ok_st] at hm
  have a:=ih h0 ⟨s.1,kids_sm s.2⟩
  have b:=ih2 oM ⟨findB_sm s.1 h2,g.small semE_small hl ⟨s.1,kids_sm s.2⟩⟩
  cases o with
  | ok us st'=>exact fun v hv=>xKao cK l fu st wh x env h h1 (szE_lens s.2).1 vs st1 a f h2 v st' (b v hv)
  | er k st' wh'=>exact xKae cK l fu st wh x env h h1 (szE_lens s.2).1 vs st1 a f h2 k st' wh' b
 | @exKu env x st wh vs st1 h h1 g h2 h3 ih=>intro h0 s; exact xKu cK l fu st wh x env h h1 (szE_lens s.2).1 hl.1 vs st1 (ih h0 ⟨s.1,kids_sm s.2⟩) h2 h3
 | @exKc env x st wh vs st1 d o h h1 g h2 h3 g2 ih ih2=>
  intro h0 s
  have hm:=g.mono
  simp only [ok_st] at hm
  have a:=ih h0 ⟨s.1,kids_sm s.2⟩
  have b:=ih2 oM ⟨hl.2 _ (findD_mem h3),g.small semE_small hl ⟨s.1,kids_sm s.2⟩⟩
  cases o with
  | ok us st'=>exact fun v hv=>xKco cK l fu st wh x env h h1 (szE_lens s.2).1 hl.1 vs st1 a h2 d h3 v st' (b v hv)
  | er k st' wh'=>exact xKce cK l fu st wh x env h h1 (szE_lens s.2).1 hl.1 vs st1 a h2 d h3 k st' wh' b
 | @exL env x st wh h h1=>intro h0 s; exact one_cf cK l fu (xL cK l fu st wh x env h h1 (rt_len1 h (.inl h1)) s.2)
 | @exTe env x st wh k st1 wh1 h h1 g ih=>
  intro h0 s
  have hk:=rt_len2 h (.inl h1)
  exact xTe cK l fu st wh x env h h1 hk k st1 wh1 (ih h0 ⟨s.1,szE_kid s.2 oM⟩)
 | @exTo env x st wh v st1 o h h1 g g2 ih ih2=>
  intro h0 s
  have hk:=rt_len2 h (.inl h1)
  have hm:=g.mono
  simp only [ok_st] at hm
  have s1:SmT (.ex env (kid x 0)):=⟨s.1,szE_kid s.2 oM⟩
  have a:=ih h0 s1 v rfl
  have b:=ih2 oM ⟨by rw [SmBs_cons]; exact ⟨SmVs_one.1 (g.small semE_small hl s1),s.1⟩,szE_kid s.2 oM⟩
  cases env with
  | nil=>
   cases o with
   | ok us st'=>exact fun u hu=>xTo0 cK l fu st wh x h h1 hk v st1 a u st' (b u hu)
   | er k st' wh'=>exact xTf0 cK l fu st wh x h h1 hk v st1 a k st' wh' b
  | cons y r=>
   cases o with
   | ok us st'=>exact fun u hu=>xTo1 cK l fu st wh x y r h h1 hk v st1 a u st' (b u hu)
   | er k st' wh'=>exact xTf1 cK l fu st wh x y r h h1 hk v st1 a k st' wh' b
 | @exFe env x st wh k st1 wh1 h h1 g ih=>
  intro h0 s
  have hk:=rt_len3 h h1
  exact xFe cK l fu st wh x env h h1 hk k st1 wh1 (ih h0 ⟨s.1,szE_kid s.2 oM⟩)
 | @exFs env x st wh v st1 h h1 g h2 ih=>
  intro h0 s
  have hk:=rt_len3 h h1
  exact xFs cK l fu st wh x env h h1 hk v st1 (ih h0 ⟨s.1,szE_kid s.2 oM⟩ v rfl) h2
 | @exFt env x st wh v st1 o h h1 g h2 h3 g2 ih ih2=>
  intro h0 s
  have hk:=rt_len3 h h1
  have hm:=g.mono
  simp only [ok_st] at hm
  have a:=ih h0 ⟨s.1,szE_kid s.2 oM⟩ v rfl
  have b:=ih2 oM ⟨s.1,szE_kid s.2 oM⟩
  cases o with
  | ok us st'=>exact fun u hu=>xFto cK l fu st wh x env h h1 hk v st1 a h2 h3 u st' (b u hu)
  | er k st' wh'=>exact xFte cK l fu st wh x env h h1 hk v st1 a h2 h3 k st' wh' b
 | @exFf env x st wh v st1 o h h1 g h2 h3 g2 ih ih2=>
  intro h0 s
  have hk:=rt_len3 h h1
  have hm:=g.mono
  simp only [ok_st] at hm
  have a:=ih h0 ⟨s.1,szE_kid s.2 oM⟩ v rfl
  have b:=ih2 oM ⟨s.1,szE_kid s.2 oM⟩
  cases o with
  | ok us st'=>exact fun u hu=>xFfo cK l fu st wh x env h h1 hk v st1 a h2 h3 u st' (b u hu)
  | er k st' wh'=>exact xFfe cK l fu st wh x env h h1 hk v st1 a h2 h3 k st' wh' b
 | @exMe env x st wh k st1 wh1 h h1 g ih=>
  intro h0 s
  have hk:=rt_len1 h (.inr (.inl h1))
  exact xMe cK l fu st wh x env h h1 hk k st1 wh1 (ih h0 ⟨s.1,szE_kid s.2 oM⟩)
 | @exMs env x st wh v st1 h h1 g h2 ih=>
  intro h0 s
  have hk:=rt_len1 h (.inr (.inl h1))
  exact xMf cK l fu st wh x env h h1 hk v st1 (ih h0 ⟨s.1,szE_kid s.2 oM⟩ v rfl) 19 st1 wh (eMatS cK l fu st1 wh v (exA x) env h2)
 | @exMn env x st wh v st1 h h1 g h2 h3 ih=>
  intro h0 s
  have hk:=rt_len1 h (.inr (.inl h1))
  exact xMf cK l fu st wh x env h h1 hk v st1 (ih h0 ⟨s.1,szE_kid s.2 oM⟩ v rfl) 23 st1 wh (eMatN cK l fu st1 wh v (exA x) env (szE_lens s.2).2.2 h2 h3)
 | @exMl env x st wh v st1 a h h1 g h2 h3 h4 ih=>
  intro h0 s
  have hk:=rt_len1 h (.inr (.inl h1))
  exact xMf cK l fu st wh x env h h1 hk v st1 (ih h0 ⟨s.1,szE_kid s.2 oM⟩ v rfl) 19 st1 wh (eMatL cK l fu st1 wh v (exA x) env (szE_lens s.2).2.2 h2 a h3 h4)
 | @exMo env x st wh v st1 a o h h1 g h2 h3 h4 g2 ih ih2=>
  intro h0 s
  have hk:=rt_len1 h (.inr (.inl h1))
  have hm:=g.mono
  simp only [ok_st] at hm
  have s1:SmT (.ex env (kid x 0)):=⟨s.1,szE_kid s.2 oM⟩
  have ca:=ih h0 s1 v rfl
  have al:=szE_alt s.2 (findA_mem h3)
  obtain ⟨-,-,-,-,hvs,-⟩:=SmV_parts (SmVs_one.1 (g.small semE_small hl s1))
  have b:=ih2 oM ⟨bnds_sm hvs s.1,al.1⟩
  cases o with
  | ok us st'=>exact fun u hu=>xMo cK l fu st wh x env h h1 hk v st1 ca u st' (eMatT cK l fu st1 wh v (exA x) env (szE_lens s.2).2.2 h2 a h3 h4 al.2 u st' (b u hu))
  | er k st' wh'=>exact xMf cK l fu st wh x env h h1 hk v st1 ca k st' wh' (eMatE cK l fu st1 wh v (exA x) env (szE_lens s.2).2.2 h2 a h3 h4 al.2 k st' wh' b)
 | @exAe env x st wh k st1 wh1 h h1 g ih=>
  intro h0 s
  have hk:=rt_len2 h oM
  have z:=eLazyE cK l fu st wh x env hk k st1 wh1 (ih h0 ⟨s.1,szE_kid s.2 oM⟩)
  rcases h1 with h1 | h1
  ·exact xA19e cK l fu st wh x env h h1 k st1 wh1 z
  ·exact xA20e cK l fu st wh x env h h1 k st1 wh1 z
 | @exAs env x st wh v st1 h h1 g h2 ih=>
  intro h0 s
  have hk:=rt_len2 h oM
  have z:=eLazyS cK l fu st wh x env hk v st1 (ih h0 ⟨s.1,szE_kid s.2 oM⟩ v rfl) h2
  rcases h1 with h1 | h1
  ·exact xA19e cK l fu st wh x env h h1 19 st1 wh z
  ·exact xA20e cK l fu st wh x env h h1 19 st1 wh z
 | @exAq env x st wh v st1 h h1 g h2 h3 ih=>
  intro h0 s
  have hk:=rt_len2 h oM
  have z:=eLazyQ cK l fu st wh x env hk v st1 (ih h0 ⟨s.1,szE_kid s.2 oM⟩ v rfl) h2 (lz_true h3)
  rcases h1 with h1 | h1
  ·exact one_cf cK l fu (xA19o cK l fu st wh x env h h1 (vB (vlN v != 0)) st1 z)
  ·exact one_cf cK l fu (xA20o cK l fu st wh x env h h1 (vB (vlN v != 0)) st1 z)
 | @exAr env x st wh v st1 k st2 wh2 h h1 g h2 h3 g2 ih ih2=>
  intro h0 s
  have hk:=rt_len2 h oM
  have hm:=g.mono
  simp only [ok_st] at hm
  have z:=eLazyT_3 cK l fu st wh x env hk v st1 (ih h0 ⟨s.1,szE_kid s.2 oM⟩ v rfl) k st2 wh2 (ih2 oM ⟨s.1,szE_kid s.2 oM⟩) h2 (lz_false h3)
  rcases h1 with h1 | h1
  ·exact xA19e cK l fu st wh x env h h1 k st2 wh2 z
  ·exact xA20e cK l fu st wh x env h h1 k st2 wh2 z
 | @exAt env x st wh v st1 u st2 h h1 g h2 h3 g2 h4 ih ih2=>
  intro h0 s
  have hk:=rt_len2 h oM
  have hm:=g.mono
  simp only [ok_st] at hm
  have z:=eLazyV_2 cK l fu st wh x env hk v st1 (ih h0 ⟨s.1,szE_kid s.2 oM⟩ v rfl) h2 u st2 (ih2 oM ⟨s.1,szE_kid s.2 oM⟩ u rfl) (lz_false h3) h4
  rcases h1 with h1 | h1
  ·exact xA19e cK l fu st wh x env h h1 19 st2 wh z
  ·exact xA20e cK l fu st wh x env h h1 19 st2 wh z
 | @exAo env x st wh v st1 u st2 h h1 g h2 h3 g2 h4 ih ih2=>
  intro h0 s
  have hk:=rt_len2 h oM
  have hm:=g.mono
  simp only [ok_st] at hm
  have z:=eLazyV_3 cK l fu st wh x env hk v st1 (ih h0 ⟨s.1,szE_kid s.2 oM⟩ v rfl) h2 u st2 (ih2 oM ⟨s.1,szE_kid s.2 oM⟩ u rfl) (lz_false h3) h4
  rcases h1 with h1 | h1
  ·exact one_cf cK l fu (xA19o cK l fu st wh x env h h1 (vB (vlN u != 0)) st2 z)
  ·exact one_cf cK l fu (xA20o cK l fu st wh x env h h1 (vB (vlN u != 0)) st2 z)
 | @exU env x st wh o h h1 g ih=>
  intro h0 s
  have hk:=rt_pos h h1
  have c:=ih h0 ⟨s.1,szE_kid s.2 oM⟩
  have e1:(((exK x).length:Int) - 1).toNat=(exK x).length - 1:=by omega
  have e2:kid x ((exK x).length - 1)=(exK x).getD (((exK x).length:Int) - 1).toNat default:=by rw [e1]
  rw [e2] at c
  cases o with
  | ok us st'=>
   rcases h1 with h1 | h1
   ·exact fun u hu=>xU25o cK l fu st wh x env h h1 hk (szE_lens s.2).1 u st' (c u hu)
   ·exact fun u hu=>xU26o cK l fu st wh x env h h1 hk (szE_lens s.2).1 u st' (c u hu)
  | er k st' wh'=>
   rcases h1 with h1 | h1
   ·exact xU25e cK l fu st wh x env h h1 hk (szE_lens s.2).1 k st' wh' c
   ·exact xU26e cK l fu st wh x env h h1 hk (szE_lens s.2).1 k st' wh' c
 | @exOe env x st wh k st1 wh1 h h1 g ih=>
  intro h0 s
  have hk:=rt_len1 h (.inr (.inr (.inr h1)))
  have a:=li1_er cK l fu hk (ih h0 ⟨s.1,kids_sm s.2⟩)
  rcases h1 with h1 | h1 | h1 | h1
  ·exact xO15e cK l fu st wh x env h h1 hk k st1 wh1 a
  ·exact xO21e cK l fu st wh x env h h1 hk k st1 wh1 a
  ·exact xO22e cK l fu st wh x env h h1 hk k st1 wh1 a
  ·exact xO23e cK l fu st wh x env h h1 hk k st1 wh1 a
 | @exOo env x st wh v st1 h h1 g ih=>
  intro h0 s
  have hk:=rt_len1 h (.inr (.inr (.inr h1)))
  have a:=li1_ok cK l fu hk (ih h0 ⟨s.1,kids_sm s.2⟩)
  show CfR cK l fu 108 _ st wh (exc (semE.o1 (exO x) v) st1 wh)
  simp only [semE]
  by_cases hs:eOne_s (exO x) (vlO v) (vlN v)=true
  ·rw [iP hs]
   simp only [exc]
   rcases h1 with h1 | h1 | h1 | h1
   ·exact one_cf cK l fu (xO15t cK l fu st wh x env h h1 hk v st1 a (by rw [<-h1]; exact hs))
   ·exact one_cf cK l fu (xO21t cK l fu st wh x env h h1 hk v st1 a (by rw [<-h1]; exact hs))
   ·exact one_cf cK l fu (xO22t cK l fu st wh x env h h1 hk v st1 a (by rw [<-h1]; exact hs))
   ·exact one_cf cK l fu (xO23t cK l fu st wh x env h h1 hk v st1 a (by rw [<-h1]; exact hs))
  ·rw [iN hs]
   simp only [exc,CfR]
   rcases h1 with h1 | h1 | h1 | h1
   ·exact xO15f cK l fu st wh x env h h1 hk v st1 a (by rw [<-h1]; simpa using hs)
   ·exact xO21f cK l fu st wh x env h h1 hk v st1 a (by rw [<-h1]; simpa using hs)
   ·exact xO22f cK l fu st wh x env h h1 hk v st1 a (by rw [<-h1]; simpa using hs)
   ·exact xO23f cK l fu st wh x env h h1 hk v st1 a (by rw [<-h1]; simpa using hs)
 | @exWe env x st wh k st1 wh1 h h1 g ih=>
  intro h0 s
  have no:∀n:Int,¬isTwo n->¬exO x=n:=fun n hn he=>hn (he ▸ h1)
  exact xWe cK l fu st wh x env h (no 1 dD) (no 2 dD) (no 3 dD) (no 4 dD) (no 5 dD) (no 6 dD) (no 7 dD) (no 8 dD) (no 9 dD) (no 15 dD) (no 19 dD) (no 20 dD) (no 21 dD) (no 22 dD) (no 23 dD) (no 25 dD) (no 26 dD) (szE_lens s.2).1 k st1 wh1 (ih h0 ⟨s.1,kids_sm s.2⟩)
 | @exWo env x st wh v u st1 h h1 g ih=>
  intro h0 s
  have no:∀n:Int,¬isTwo n->¬exO x=n:=fun n hn he=>hn (he ▸ h1)
  have a:=ih h0 ⟨s.1,kids_sm s.2⟩
  show CfR cK l fu 108 _ st wh (exc (semE.o2 (exO x) v u) st1 wh)
  simp only [semE]
  by_cases hs:eCompute_s (exO x) (vlO v) (vlN v) (vlO u) (vlN u)=true
  ·rw [iP hs]
   exact one_cf cK l fu (xWt cK l fu st wh x env h (no 1 dD) (no 2 dD) (no 3 dD) (no 4 dD) (no 5 dD) (no 6 dD) (no 7 dD) (no 8 dD) (no 9 dD) (no 15 dD) (no 19 dD) (no 20 dD) (no 21 dD) (no 22 dD) (no 23 dD) (no 25 dD) (no 26 dD) (szE_lens s.2).1 v u st1 a hs)
  ·rw [iN hs]
   exact xWf cK l fu st wh x env h (no 1 dD) (no 2 dD) (no 3 dD) (no 4 dD) (no 5 dD) (no 6 dD) (no 7 dD) (no 8 dD) (no 9 dD) (no 15 dD) (no 19 dD) (no 20 dD) (no 21 dD) (no 22 dD) (no 23 dD) (no 25 dD) (no 26 dD) (szE_lens s.2).1 v u st1 a (by simpa using hs)
end
theorem findD_nm{n:BA}:∀ {l:List Df} {d:Df},findD n l=some d->dfNm d=n
 | b::r,d,h=>by
  rw [findD] at h
  split at h
  ·injection h with h; subst h; assumption
  ·exact findD_nm h
def LnT:Tk->Prop
 | .ex env x=>env.length+szE x<=900000000
 | .li env xs=>∀x∈xs,env.length+szE x<=900000000
 | .run _ env=>env.length<=800000000
 | _=>True
section
variable (cK:C5) (l:List Df) (fu:Int)
theorem env_ln{env:List Bd}{x:Ex}(n:LnT (.ex env x)):env.reverse.length<=1000000000:=by
 have n':env.length+szE x<=900000000:=n
 rw [List.length_reverse]
 omega
theorem wkA{a b:List PV}(h:WkL a b):Wk (.agg a) (.agg b) := .agg h.1 h.2
theorem kid_ln{env:List Bd}{x:Ex}{i:Nat}(n:LnT (.ex env x))(h:i<(exK x).length):LnT (.ex env (kid x i)):=by
 have n':env.length+szE x<=900000000:=n
 have h1:=szE_eq x
 have h2:=kid_bulk (kid_mem h)
 show env.length+szE ((exK x).getD i default)<=900000000
 omega
theorem kid_ln1{env:List Bd}{x:Ex}{i:Nat}{b:Bd}(n:LnT (.ex env x))(h:i<(exK x).length):LnT (.ex (b::env) (kid x i)):=by
 have n':env.length+szE x<=900000000:=n
 have h1:=szE_eq x
 have h2:=kid_bulk (kid_mem h)
 show (b::env).length+szE ((exK x).getD i default)<=900000000
 rw [List.length_cons]
 omega
theorem kids_ln{env:List Bd}{x:Ex}(n:LnT (.ex env x)):LnT (.li env (exK x)):=fun y hy=>by
 have n':env.length+szE x<=900000000:=n
 have h1:=szE_eq x
 have h2:=kid_bulk hy
 omega
theorem alt_ln{env:List Bd}{x:Ex}{a:Al}{vs:List Vl}(n:LnT (.ex env x))(h:a∈exA x):LnT (.ex (bnds (alNs a) vs env) (alB a)):=by
 have n':env.length+szE x<=900000000:=n
 have h1:=szE_eq x
 have h2:=alt_bulk h
 have h3:=bnds_len (alNs a) vs env
 show (bnds (alNs a) vs env).length+szE (alB a)<=900000000
 omega
end
theorem eCallL(cK:C5)(l:List Df)(fu:Int)(name:BA)(args:List Vl)(u:Vl)(er st1:Int)(wh1:BA)(ext1:Ext)(he:Ef 41 [mdM cK l,.int .i64 fu,.fn (.func 52) [] [.ro [.str name] 0,.ro [.sl 7 (Vl.cs args)] 0]] [] (.ret (.agg (otL u er wh1 st1))) ext1):Ef 21 [mdM cK l,.str name,.sl 7 (Vl.cs args),pI fu] ([]) (rA [pI (vlO u),pI (vlN u),.str (vlNm u),.sl 7 (Vl.cs (vlK u)),.sl 1 (nmsC (vlP u)),.sl 7 (Ex.cs (vlB u)),.sl 8 (Bd.cs (vlBd u)),pI er,.str wh1,pI st1]) (ext1):=
 ef mdR [ce he] func21
def ocL:Oc->List PV
 | .ok [v] st=>otL v 0 nm0 st
 | .ok _ st=>otL default 0 nm0 st
 | .er k st wh=>otL default k wh st
theorem fl_le(fu:Int):fl' fu<=1000000/\0<=fl' fu:=by
 unfold fl' flX
 simp only [if_true,Bool.false_eq_true,if_false]
 split <;> split <;> omega
theorem fl_eq{fu:Int}(h0:0<=fu)(h1:fu<=100000):fl' fu=fu:=by
 unfold fl' flX
 simp only [if_true,Bool.false_eq_true,if_false]
 split <;> split <;> omega
theorem otL_nx(v:Vl)(er st:Int)(wh:BA):PV.noX (.agg (otL v er wh st))=true:=by
 have h:=vlL_nx v
 simp only [noXs,Bool.and_true,Bool.and_eq_true] at h
 simp only [PV.noX,otL,List.cons_append,List.nil_append,noXs,Bool.and_true,Bool.and_eq_true]
 simp [PV.noX] at h ⊢
 exact h
section
variable (cK:C5) (l:List Df) (fu:Int)
theorem exe_ok{g:Nat}{caps:List PV}{o:Oc}(ho:Sh (.con default) o)(h:CfR cK l (fl' fu) g (.xp 1 0::caps) 0 nm0 o):∃u er st1 wh1 ext1,ocL o=otL u er wh1 st1/\Ef 41 [mdM cK l,.int .i64 fu,.fn (.func g) [] caps] [] (.ret (.agg (otL u er wh1 st1))) ext1:=by
 cases o with
 | ok vs st=>
  obtain ⟨v,rfl⟩:=sh1 ho trivial
  exact ⟨v,0,st,nm0,_,rfl,exeT cK l fu g caps v st (h v rfl)⟩
 | er k st wh=>exact ⟨default,k,st,wh,_,rfl,exeE cK l fu g caps k st wh h⟩
theorem eCall_ok(hx:PV.noX (mdM cK l)=true)(hl:SmL l){name:BA}{args:List Vl}(ha:SmVs args){o:Oc}(h:(findD name l=none/\o = .er 19 0 nm0)∨∃d,findD name l=some d/\Ev semE l (fl' fu) (.call d args) 0 nm0 o) :
  Pu 21 [mdM cK l,.str name,.sl 7 (Vl.cs args),.int .i64 fu] (.ret (.agg (ocL o))):=by
 have hr:CfR cK l (fl' fu) 52 [.xp 1 0,.ro [.str name] 0,.ro [.sl 7 (Vl.cs args)] 0] 0 nm0 o/\Sh (.con default) o:=by
  rcases h with ⟨h1,rfl⟩ | ⟨d,h1,h2⟩
  ·exact ⟨xcaU cK l (fl' fu) 0 nm0 name args hl.1 h1,tV⟩
  ·have hc:=conf cK l (fl' fu) (fl_le fu).1 hl h2 oM ⟨hl.2 _ (findD_mem h1),ha⟩
   refine ⟨?_,h2.shape.tr trivial trivial⟩
   cases o with
   | ok vs st=>exact fun v hv=>xcaT cK l (fl' fu) 0 nm0 name args hl.1 d h1 v st (hc v hv)
   | er k st wh=>exact xcaE cK l (fl' fu) 0 nm0 name args hl.1 d h1 k st wh hc
 obtain ⟨u,er,st1,wh1,ext1,h1,h2⟩:=exe_ok cK l fu hr.2 hr.1
 rw [h1]
 refine Ob.pur_of_eff ?_ (by rw [CRes.noX]; exact otL_nx ..) (eCallL cK l fu name args u er st1 wh1 ext1 h2)
 have e1:PV.noX (.sl 7 (Vl.cs args))=true:=by rw [PV.noX,vls_nx]
 have e2:PV.noX (.str name)=true:=rfl
 rw [noXs,hx,noXs,e2,noXs,e1]
 rfl
end
section
variable (cK:C5) (l:List Df) (fu:Int)
end
end Go.Proofs.YtgonmmckkikmaaaGreat
