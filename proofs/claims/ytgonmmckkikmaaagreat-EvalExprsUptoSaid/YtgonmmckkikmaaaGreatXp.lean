/- Values of Go as plain data, an evaluator over them, and what the functions of the program return; part p. -/
import Derived.Test.YtgonmmckkikmaaaGreatXg
import Derived.Test.YtgonmmckkikmaaaGreatXl
import Derived.Test.YtgonmmckkikmaaaGreatXo
set_option linter.unusedSectionVars false
set_option linter.unusedSimpArgs false
set_option linter.unusedVariables false
namespace Go.Proofs.YtgonmmckkikmaaaGreat
open Go.Pv
set_option maxRecDepth 100000
section
variable (c0 c1 c2 c3 c4:PV) (l:List Df) (fu st:Int) (wh:ByteArray) (x:Ex) (s:List Bd) (hk:(exK x).length=2) (v:Vl) (st':Int) (hv:evOk c0 c1 c2 c3 c4 l fu s ((exK x).getD 0 default) st wh v st')
include c0 c1 c2 c3 c4 l fu st wh x s hk v st' hv
theorem eLazyS (hb:¬vlO v=2):Ef 117 ([.xp 1 0,.agg (exL x),scP s]) (EE c0 c1 c2 c3 c4 l fu st wh) (.panic (stopP 19)) (EE c0 c1 c2 c3 c4 l fu st' wh):=
 ef mdE [am ((0:Int)<=0/\0<((Ex.cs (exK x)).length:Int)) (by (simp only [Ex.cs_len]; omega)),xEx (exK x) 0,ce hv,cl (@eNeed_1 (vlO v==2) (by simp_all))] Tryz.func117
theorem eLazyQ (hb:vlO v=2) (hq:(if true=true then (vlN v != 0)==(exO x==20) else !(vlN v != 0)==(exO x==20))=true):Ef 117 ([.xp 1 0,.agg (exL x),scP s]) (EE c0 c1 c2 c3 c4 l fu st wh) (rA [pI 2,pI (eTruth_r0 (vlN v != 0)),.str (ByteArray.mk #[]),.sl 7 [],.sl 1 [],.sl 7 [],.sl 8 []]) (EE c0 c1 c2 c3 c4 l fu st' wh):=
 ef mdE [am ((0:Int)<=0/\0<((Ex.cs (exK x)).length:Int)) (by (simp only [Ex.cs_len]; omega)),xEx (exK x) 0,ce hv,cl (@eNeed_2 (vlO v==2) (by simp_all)),bt (if true=true then (vlN v != 0)==(exO x==20) else !(vlN v != 0)==(exO x==20)) hq,cl (@eTruth (vlN v != 0))] Tryz.func117
end
end Go.Proofs.YtgonmmckkikmaaaGreat
namespace Go.Proofs.YtgonmmckkikmaaaGreat
open Go.Pv
theorem ite_ne {c:Prop} [Decidable c] {a b k:Int} (ha:¬a=k) (hb:¬b=k):¬(if c then a else b)=k:=by split <;> assumption
def semE:Sem where
 fr:=freeS
 o1 op a:=if eOne_s op (vlO a) (vlN a)=true then .ok (vX (eOne_t_r0 op (vlO a) (vlN a)) (eOne_t_r1 op (vlO a) (vlN a))) else .error (eOne_f_r0 op (vlO a) (vlN a))
 o2 op a b:=if eCompute_s op (vlO a) (vlN a) (vlO b) (vlN b)=true then .ok (vX (eCompute_t_r0 op (vlO a) (vlN a) (vlO b) (vlN b)) (eCompute_t_r1 op (vlO a) (vlN a) (vlO b) (vlN b))) else .error (eCompute_f_r0 op (vlO a) (vlN a) (vlO b) (vlN b))
 u1 op a:=by
  split
  ·simp
  ·intro h
   injection h with h
   revert h
   unfold eOne_f_r0
   repeat' refine ite_ne ?_ ?_
   all_goals decide
 u2 op a b:=by
  split
  ·simp
  ·intro h
   injection h with h
   revert h
   unfold eCompute_f_r0
   repeat' refine ite_ne ?_ ?_
   all_goals decide
theorem semE_small:SmSem semE where
 fr:=freeS_len
 o1 op a v h:=by
  simp only [semE] at h
  split at h
  ·injection h with h; subst h; exact SmV_vX _ _
  ·cases h
 o2 op a b v h:=by
  simp only [semE] at h
  split at h
  ·injection h with h; subst h; exact SmV_vX _ _
  ·cases h
section
variable (c0 c1 c2 c3 c4:PV) (l:List Df) (fu:Int)
def CfR (f:Nat) (args:List PV) (st:Int) (wh:ByteArray):Oc->Prop
 | .ok vs st'=>∀v,vs=[v]->fOk c0 c1 c2 c3 c4 l fu f args st wh v st'
 | .er k st' wh'=>fEr c0 c1 c2 c3 c4 l fu f args st wh k st' wh'
def Cf:Tk->Int->ByteArray->Oc->Prop
 | .ex env x,st,wh,o=>CfR c0 c1 c2 c3 c4 l fu 108 [.agg (exL x),scP env,.ro [.xp 1 0] 0,.xp 3 0] st wh o
 | .li env xs,st,wh,.ok vs st'=>LiOk c0 c1 c2 c3 c4 l fu env wh xs st vs st'
 | .li env xs,st,wh,.er k st' wh'=>LiEr c0 c1 c2 c3 c4 l fu env wh xs st k st' wh'
 | .app f args,st,wh,o=>CfR c0 c1 c2 c3 c4 l fu 114 [.xp 1 0,.agg (vlL f),.sl 7 (Vl.cs args)] st wh o
 | .call d args,st,wh,o=>CfR c0 c1 c2 c3 c4 l fu 53 [.xp 1 0,.agg (dfL d),.sl 7 (Vl.cs args)] st wh o
 | .con d,st,wh,o=>CfR c0 c1 c2 c3 c4 l fu 47 [.xp 1 0,.agg (dfL d)] st wh o
 | .run d env,st,wh,o=>CfR c0 c1 c2 c3 c4 l fu 79 [.xp 1 0,.agg (dfL d),scP env] st wh o
theorem one_cf {f:Nat} {args:List PV} {st st':Int} {wh:ByteArray} {v:Vl} (h:fOk c0 c1 c2 c3 c4 l fu f args st wh v st'):CfR c0 c1 c2 c3 c4 l fu f args st wh (.ok [v] st'):=fun w hw=>by
 injection hw with h1 h2
 subst h1
 exact h
theorem eInt_s (n:Int):eInteger_s n true=nIn_r0 n:=by
 unfold eInteger_s
 cases nIn_r0 n <;> simp
theorem lz_true {a b:Bool} (h:a=b):(if true=true then a==b else !a==b)=true:=by subst h; cases a <;> rfl
theorem lz_false {a b:Bool} (h:¬a=b):(if true=true then a==b else !a==b)=false:=by cases a <;> cases b <;> first | rfl | exact absurd rfl h
theorem one_kid {x:Ex} (hk:(exK x).length=1):exK x=[(exK x).getD 0 default]:=by
 match h:exK x,hk with
 | [y],_=>rfl
theorem li1_er {x:Ex} {env:List Bd} {st k st1:Int} {wh wh1:ByteArray} (hk:(exK x).length=1) (h:LiEr c0 c1 c2 c3 c4 l fu env wh (exK x) st k st1 wh1):evEr c0 c1 c2 c3 c4 l fu env ((exK x).getD 0 default) st wh k st1 wh1:=by
 rw [one_kid hk] at h
 rcases h with h | ⟨v,st', -,h⟩
 ·exact h
 ·exact h.elim
theorem li1_ok {x:Ex} {env:List Bd} {st st1:Int} {wh:ByteArray} {v:Vl} (hk:(exK x).length=1) (h:LiOk c0 c1 c2 c3 c4 l fu env wh (exK x) st [v] st1):evOk c0 c1 c2 c3 c4 l fu env ((exK x).getD 0 default) st wh v st1:=by
 rw [one_kid hk] at h
 obtain ⟨w,st',vs,h1,⟨rfl,rfl⟩,h3⟩:=h
 injection h3 with h3 h4
 subst h3
 exact h1
theorem conf (hf:fu<=1000000) (hl:SmL l) {t:Tk} {st:Int} {wh:ByteArray} {o:Oc} (h:Ev semE l fu t st wh o):0<=st->SmT t->Cf c0 c1 c2 c3 c4 l fu t st wh o:=by
 induction h with
 | @runF d env st wh h=>intro h0 s; exact eRunF c0 c1 c2 c3 c4 l fu st wh h0 hf d env h
 | @runG d env st wh o h g ih=>
  intro h0 s
  have c:=ih (by omega) ⟨s.2,s.1.1⟩
  cases o with
  | ok vs st'=>exact fun v hv=>eRunT c0 c1 c2 c3 c4 l fu st wh h0 hf d env (by omega) v st' (c v hv)
  | er k st' wh'=>exact eRunE c0 c1 c2 c3 c4 l fu st wh h0 hf d env (by omega) k st' wh' c
 | @callA d args st wh h=>intro h0 s; exact eCallA c0 c1 c2 c3 c4 l fu st wh d args h
 | @callN d args st wh h h1=>
  intro h0 s
  by_cases hp:0<(dfP d).length
  ·exact eCallM c0 c1 c2 c3 c4 l fu st wh d args h (by omega) (by omega)
  ·exact eCallN c0 c1 c2 c3 c4 l fu st wh d args h (by omega)
 | @callG d args st wh o h h1 h2 g ih=>
  intro h0 s
  have c:=ih h0 ⟨s.1,bnds_sm s.2 SmBs_nil⟩
  cases o with
  | ok vs st'=>exact fun v hv=>eCallT c0 c1 c2 c3 c4 l fu st wh d args h (by omega) (by omega) (Nat.le_trans s.1.2 (by decide)) v st' (c v hv)
  | er k st' wh'=>exact eCallE c0 c1 c2 c3 c4 l fu st wh d args h (by omega) (by omega) (Nat.le_trans s.1.2 (by decide)) k st' wh' c
 | @conA d st wh h=>intro h0 s; exact eConstA c0 c1 c2 c3 c4 l fu st wh d h
 | @conG d st wh o h g ih=>
  intro h0 s
  have c:=ih h0 ⟨s,SmBs_nil⟩
  cases o with
  | ok vs st'=>exact fun v hv=>eConstT c0 c1 c2 c3 c4 l fu st wh d h v st' (c v hv)
  | er k st' wh'=>exact eConstE c0 c1 c2 c3 c4 l fu st wh d h k st' wh' c
 | @appO f args st wh h=>intro h0 s; exact eAppO c0 c1 c2 c3 c4 l fu st wh f args h
 | @appU f args st wh h h1 h2=>intro h0 s; exact eAppU c0 c1 c2 c3 c4 l fu st wh f args hl.1 h h1 h2
 | @appN f args st wh d o h h1 h2 g ih=>
  intro h0 s
  have c:=ih h0 ⟨hl.2 _ (findD_mem h2),s.2⟩
  cases o with
  | ok vs st'=>exact fun v hv=>eAppT2 c0 c1 c2 c3 c4 l fu st wh f args hl.1 h h1 d h2 v st' (c v hv)
  | er k st' wh'=>exact eAppE2 c0 c1 c2 c3 c4 l fu st wh f args hl.1 h h1 d h2 k st' wh' c
 | @appL f args st wh h h1 h2=>
  intro h0 s
  by_cases hb:(vlB f).length=1
  ·exact eAppL_1 c0 c1 c2 c3 c4 l fu st wh f args h h1 h2 (by omega)
  ·exact eAppL_2 c0 c1 c2 c3 c4 l fu st wh f args h h1 h2 (by omega)
 | @appF f args st wh h h1 h2 h3 h4=>intro h0 s; exact eAppF c0 c1 c2 c3 c4 l fu st wh f args h0 hf h h1 h2 h3 h4
 | @appG f args st wh o h h1 h2 h3 h4 g ih=>
  intro h0 s
  obtain ⟨-,hp,hbn,hb, -,hbs⟩:=SmV_parts s.1
  have c:=ih (by omega) ⟨bnds_sm s.2 (SmBs_rev.2 hbs),hb _ (by simp [List.getD,h2])⟩
  cases o with
  | ok vs st'=>exact fun v hv=>eAppT c0 c1 c2 c3 c4 l fu st wh f args h0 hf hbn hp h h1 h2 h3 (by omega) v st' (c v hv)
  | er k st' wh'=>exact eAppE c0 c1 c2 c3 c4 l fu st wh f args h0 hf hbn hp h h1 h2 h3 (by omega) k st' wh' c
 | liN=>intro h0 s; exact ⟨rfl,rfl⟩
 | liE g ih=>intro h0 s; exact .inl (ih h0 ⟨s.1,s.2 _ List.mem_cons_self⟩)
 | liR g g2 ih ih2=>
  intro h0 s
  have hm:=g.mono
  simp only [ok_st] at hm
  exact .inr ⟨_,_,ih h0 ⟨s.1,s.2 _ List.mem_cons_self⟩ _ rfl,ih2 (by omega) ⟨s.1,fun y hy=>s.2 y (List.mem_cons_of_mem _ hy)⟩⟩
 | liC g g2 ih ih2=>
  intro h0 s
  have hm:=g.mono
  simp only [ok_st] at hm
  exact ⟨_,_,_,ih h0 ⟨s.1,s.2 _ List.mem_cons_self⟩ _ rfl,ih2 (by omega) ⟨s.1,fun y hy=>s.2 y (List.mem_cons_of_mem _ hy)⟩,rfl⟩
 | @exR env x st wh h=>intro h0 s; exact xR c0 c1 c2 c3 c4 l fu st wh x env h
 | @exIo env x st wh h h1 h2=>intro h0 s; exact one_cf c0 c1 c2 c3 c4 l fu (xIo c0 c1 c2 c3 c4 l fu st wh x env h h1 ((eInt_s _).trans h2))
 | @exIe env x st wh h h1 h2=>intro h0 s; exact xIe c0 c1 c2 c3 c4 l fu st wh x env h h1 ((eInt_s _).trans h2)
 | @exB env x st wh h h1=>intro h0 s; exact one_cf c0 c1 c2 c3 c4 l fu (xB c0 c1 c2 c3 c4 l fu st wh x env h h1)
 | @exVb env x st wh v h h1 h2=>intro h0 s; exact one_cf c0 c1 c2 c3 c4 l fu (xVo c0 c1 c2 c3 c4 l fu st wh x env h h1 v st (eVarB c0 c1 c2 c3 c4 l fu st wh (exNm x) env v h2))
 | @exVu env x st wh h h1 h2 h3=>intro h0 s; exact xVe c0 c1 c2 c3 c4 l fu st wh x env h h1 19 st wh (eVarU c0 c1 c2 c3 c4 l fu st wh (exNm x) env hl.1 h2 h3)
 | @exVf env x st wh d h h1 h2 h3 h4=>intro h0 s; exact one_cf c0 c1 c2 c3 c4 l fu (xVo c0 c1 c2 c3 c4 l fu st wh x env h h1 (vF (dfNm d)) st (eVarF c0 c1 c2 c3 c4 l fu st wh (exNm x) env hl.1 h2 d h3 (by omega)))
 | @exVc env x st wh d o h h1 h2 h3 h4 g ih=>
  intro h0 s
  have c:=ih h0 (hl.2 _ (findD_mem h3))
  cases o with
  | ok vs st'=>exact fun v hv=>xVo c0 c1 c2 c3 c4 l fu st wh x env h h1 v st' (eVarT c0 c1 c2 c3 c4 l fu st wh (exNm x) env hl.1 h2 d h3 (by omega) v st' (c v hv))
  | er k st' wh'=>exact xVe c0 c1 c2 c3 c4 l fu st wh x env h h1 k st' wh' (eVarE c0 c1 c2 c3 c4 l fu st wh (exNm x) env hl.1 h2 d h3 (by omega) k st' wh' c)
 | @exCe env x st wh k st1 wh1 h h1 g ih=>intro h0 s; exact xCe c0 c1 c2 c3 c4 l fu st wh x env h h1 (szE_lens s.2).1 k st1 wh1 (ih h0 ⟨s.1,kids_sm s.2⟩)
 | @exCo env x st wh vs st1 h h1 g ih=>intro h0 s; exact one_cf c0 c1 c2 c3 c4 l fu (xCo c0 c1 c2 c3 c4 l fu st wh x env h h1 (szE_lens s.2).1 vs st1 (ih h0 ⟨s.1,kids_sm s.2⟩))
 | @exKe env x st wh k st1 wh1 h h1 g ih=>intro h0 s; exact xKe c0 c1 c2 c3 c4 l fu st wh x env h h1 (szE_lens s.2).1 k st1 wh1 (ih h0 ⟨s.1,kids_sm s.2⟩)
 | @exKa env x st wh vs st1 f o h h1 g h2 g2 ih ih2=>
  intro h0 s
  have hm:=g.mono
  simp only [ok_st] at hm
  have a:=ih h0 ⟨s.1,kids_sm s.2⟩
  have b:=ih2 (by omega) ⟨findB_sm s.1 h2,g.small semE_small hl ⟨s.1,kids_sm s.2⟩⟩
  cases o with
  | ok us st'=>exact fun v hv=>xKao c0 c1 c2 c3 c4 l fu st wh x env h h1 (szE_lens s.2).1 vs st1 a f h2 v st' (b v hv)
  | er k st' wh'=>exact xKae c0 c1 c2 c3 c4 l fu st wh x env h h1 (szE_lens s.2).1 vs st1 a f h2 k st' wh' b
 | @exKu env x st wh vs st1 h h1 g h2 h3 ih=>intro h0 s; exact xKu c0 c1 c2 c3 c4 l fu st wh x env h h1 (szE_lens s.2).1 hl.1 vs st1 (ih h0 ⟨s.1,kids_sm s.2⟩) h2 h3
 | @exKc env x st wh vs st1 d o h h1 g h2 h3 g2 ih ih2=>
  intro h0 s
  have hm:=g.mono
  simp only [ok_st] at hm
  have a:=ih h0 ⟨s.1,kids_sm s.2⟩
  have b:=ih2 (by omega) ⟨hl.2 _ (findD_mem h3),g.small semE_small hl ⟨s.1,kids_sm s.2⟩⟩
  cases o with
  | ok us st'=>exact fun v hv=>xKco c0 c1 c2 c3 c4 l fu st wh x env h h1 (szE_lens s.2).1 hl.1 vs st1 a h2 d h3 v st' (b v hv)
  | er k st' wh'=>exact xKce c0 c1 c2 c3 c4 l fu st wh x env h h1 (szE_lens s.2).1 hl.1 vs st1 a h2 d h3 k st' wh' b
 | @exL env x st wh h h1=>intro h0 s; exact one_cf c0 c1 c2 c3 c4 l fu (xL c0 c1 c2 c3 c4 l fu st wh x env h h1 (rt_len1 h (.inl h1)) s.2)
 | @exTe env x st wh k st1 wh1 h h1 g ih=>
  intro h0 s
  have hk:=rt_len2 h (.inl h1)
  exact xTe c0 c1 c2 c3 c4 l fu st wh x env h h1 hk k st1 wh1 (ih h0 ⟨s.1,szE_kid s.2 (by omega)⟩)
 | @exTo env x st wh v st1 o h h1 g g2 ih ih2=>
  intro h0 s
  have hk:=rt_len2 h (.inl h1)
  have hm:=g.mono
  simp only [ok_st] at hm
  have s1:SmT (.ex env (kid x 0)):=⟨s.1,szE_kid s.2 (by omega)⟩
  have a:=ih h0 s1 v rfl
  have b:=ih2 (by omega) ⟨by rw [SmBs_cons]; exact ⟨SmVs_one.1 (g.small semE_small hl s1),s.1⟩,szE_kid s.2 (by omega)⟩
  cases env with
  | nil=>
   cases o with
   | ok us st'=>exact fun u hu=>xTo0 c0 c1 c2 c3 c4 l fu st wh x h h1 hk v st1 a u st' (b u hu)
   | er k st' wh'=>exact xTf0 c0 c1 c2 c3 c4 l fu st wh x h h1 hk v st1 a k st' wh' b
  | cons y r=>
   cases o with
   | ok us st'=>exact fun u hu=>xTo1 c0 c1 c2 c3 c4 l fu st wh x y r h h1 hk v st1 a u st' (b u hu)
   | er k st' wh'=>exact xTf1 c0 c1 c2 c3 c4 l fu st wh x y r h h1 hk v st1 a k st' wh' b
 | @exFe env x st wh k st1 wh1 h h1 g ih=>
  intro h0 s
  have hk:=rt_len3 h h1
  exact xFe c0 c1 c2 c3 c4 l fu st wh x env h h1 hk k st1 wh1 (ih h0 ⟨s.1,szE_kid s.2 (by omega)⟩)
 | @exFs env x st wh v st1 h h1 g h2 ih=>
  intro h0 s
  have hk:=rt_len3 h h1
  exact xFs c0 c1 c2 c3 c4 l fu st wh x env h h1 hk v st1 (ih h0 ⟨s.1,szE_kid s.2 (by omega)⟩ v rfl) h2
 | @exFt env x st wh v st1 o h h1 g h2 h3 g2 ih ih2=>
  intro h0 s
  have hk:=rt_len3 h h1
  have hm:=g.mono
  simp only [ok_st] at hm
  have a:=ih h0 ⟨s.1,szE_kid s.2 (by omega)⟩ v rfl
  have b:=ih2 (by omega) ⟨s.1,szE_kid s.2 (by omega)⟩
  cases o with
  | ok us st'=>exact fun u hu=>xFto c0 c1 c2 c3 c4 l fu st wh x env h h1 hk v st1 a h2 h3 u st' (b u hu)
  | er k st' wh'=>exact xFte c0 c1 c2 c3 c4 l fu st wh x env h h1 hk v st1 a h2 h3 k st' wh' b
 | @exFf env x st wh v st1 o h h1 g h2 h3 g2 ih ih2=>
  intro h0 s
  have hk:=rt_len3 h h1
  have hm:=g.mono
  simp only [ok_st] at hm
  have a:=ih h0 ⟨s.1,szE_kid s.2 (by omega)⟩ v rfl
  have b:=ih2 (by omega) ⟨s.1,szE_kid s.2 (by omega)⟩
  cases o with
  | ok us st'=>exact fun u hu=>xFfo c0 c1 c2 c3 c4 l fu st wh x env h h1 hk v st1 a h2 h3 u st' (b u hu)
  | er k st' wh'=>exact xFfe c0 c1 c2 c3 c4 l fu st wh x env h h1 hk v st1 a h2 h3 k st' wh' b
 | @exMe env x st wh k st1 wh1 h h1 g ih=>
  intro h0 s
  have hk:=rt_len1 h (.inr (.inl h1))
  exact xMe c0 c1 c2 c3 c4 l fu st wh x env h h1 hk k st1 wh1 (ih h0 ⟨s.1,szE_kid s.2 (by omega)⟩)
 | @exMs env x st wh v st1 h h1 g h2 ih=>
  intro h0 s
  have hk:=rt_len1 h (.inr (.inl h1))
  exact xMf c0 c1 c2 c3 c4 l fu st wh x env h h1 hk v st1 (ih h0 ⟨s.1,szE_kid s.2 (by omega)⟩ v rfl) 19 st1 wh (eMatS c0 c1 c2 c3 c4 l fu st1 wh v (exA x) env h2)
 | @exMn env x st wh v st1 h h1 g h2 h3 ih=>
  intro h0 s
  have hk:=rt_len1 h (.inr (.inl h1))
  exact xMf c0 c1 c2 c3 c4 l fu st wh x env h h1 hk v st1 (ih h0 ⟨s.1,szE_kid s.2 (by omega)⟩ v rfl) 23 st1 wh (eMatN c0 c1 c2 c3 c4 l fu st1 wh v (exA x) env (szE_lens s.2).2.2 h2 h3)
 | @exMl env x st wh v st1 a h h1 g h2 h3 h4 ih=>
  intro h0 s
  have hk:=rt_len1 h (.inr (.inl h1))
  exact xMf c0 c1 c2 c3 c4 l fu st wh x env h h1 hk v st1 (ih h0 ⟨s.1,szE_kid s.2 (by omega)⟩ v rfl) 19 st1 wh (eMatL c0 c1 c2 c3 c4 l fu st1 wh v (exA x) env (szE_lens s.2).2.2 h2 a h3 h4)
 | @exMo env x st wh v st1 a o h h1 g h2 h3 h4 g2 ih ih2=>
  intro h0 s
  have hk:=rt_len1 h (.inr (.inl h1))
  have hm:=g.mono
  simp only [ok_st] at hm
  have s1:SmT (.ex env (kid x 0)):=⟨s.1,szE_kid s.2 (by omega)⟩
  have ca:=ih h0 s1 v rfl
  have al:=szE_alt s.2 (findA_mem h3)
  obtain ⟨-, -, -, -,hvs, -⟩:=SmV_parts (SmVs_one.1 (g.small semE_small hl s1))
  have b:=ih2 (by omega) ⟨bnds_sm hvs s.1,al.1⟩
  cases o with
  | ok us st'=>exact fun u hu=>xMo c0 c1 c2 c3 c4 l fu st wh x env h h1 hk v st1 ca u st' (eMatT c0 c1 c2 c3 c4 l fu st1 wh v (exA x) env (szE_lens s.2).2.2 h2 a h3 h4 al.2 u st' (b u hu))
  | er k st' wh'=>exact xMf c0 c1 c2 c3 c4 l fu st wh x env h h1 hk v st1 ca k st' wh' (eMatE c0 c1 c2 c3 c4 l fu st1 wh v (exA x) env (szE_lens s.2).2.2 h2 a h3 h4 al.2 k st' wh' b)
 | @exAe env x st wh k st1 wh1 h h1 g ih=>
  intro h0 s
  have hk:=rt_len2 h (by omega)
  have z:=eLazyE c0 c1 c2 c3 c4 l fu st wh x env hk k st1 wh1 (ih h0 ⟨s.1,szE_kid s.2 (by omega)⟩)
  rcases h1 with h1 | h1
  ·exact xA19e c0 c1 c2 c3 c4 l fu st wh x env h h1 k st1 wh1 z
  ·exact xA20e c0 c1 c2 c3 c4 l fu st wh x env h h1 k st1 wh1 z
 | @exAs env x st wh v st1 h h1 g h2 ih=>
  intro h0 s
  have hk:=rt_len2 h (by omega)
  have z:=eLazyS c0 c1 c2 c3 c4 l fu st wh x env hk v st1 (ih h0 ⟨s.1,szE_kid s.2 (by omega)⟩ v rfl) h2
  rcases h1 with h1 | h1
  ·exact xA19e c0 c1 c2 c3 c4 l fu st wh x env h h1 19 st1 wh z
  ·exact xA20e c0 c1 c2 c3 c4 l fu st wh x env h h1 19 st1 wh z
 | @exAq env x st wh v st1 h h1 g h2 h3 ih=>
  intro h0 s
  have hk:=rt_len2 h (by omega)
  have z:=eLazyQ c0 c1 c2 c3 c4 l fu st wh x env hk v st1 (ih h0 ⟨s.1,szE_kid s.2 (by omega)⟩ v rfl) h2 (lz_true h3)
  rcases h1 with h1 | h1
  ·exact one_cf c0 c1 c2 c3 c4 l fu (xA19o c0 c1 c2 c3 c4 l fu st wh x env h h1 (vB (vlN v != 0)) st1 z)
  ·exact one_cf c0 c1 c2 c3 c4 l fu (xA20o c0 c1 c2 c3 c4 l fu st wh x env h h1 (vB (vlN v != 0)) st1 z)
 | @exAr env x st wh v st1 k st2 wh2 h h1 g h2 h3 g2 ih ih2=>
  intro h0 s
  have hk:=rt_len2 h (by omega)
  have hm:=g.mono
  simp only [ok_st] at hm
  have z:=eLazyT_3 c0 c1 c2 c3 c4 l fu st wh x env hk v st1 (ih h0 ⟨s.1,szE_kid s.2 (by omega)⟩ v rfl) k st2 wh2 (ih2 (by omega) ⟨s.1,szE_kid s.2 (by omega)⟩) h2 (lz_false h3)
  rcases h1 with h1 | h1
  ·exact xA19e c0 c1 c2 c3 c4 l fu st wh x env h h1 k st2 wh2 z
  ·exact xA20e c0 c1 c2 c3 c4 l fu st wh x env h h1 k st2 wh2 z
 | @exAt env x st wh v st1 u st2 h h1 g h2 h3 g2 h4 ih ih2=>
  intro h0 s
  have hk:=rt_len2 h (by omega)
  have hm:=g.mono
  simp only [ok_st] at hm
  have z:=eLazyV_2 c0 c1 c2 c3 c4 l fu st wh x env hk v st1 (ih h0 ⟨s.1,szE_kid s.2 (by omega)⟩ v rfl) h2 u st2 (ih2 (by omega) ⟨s.1,szE_kid s.2 (by omega)⟩ u rfl) (lz_false h3) h4
  rcases h1 with h1 | h1
  ·exact xA19e c0 c1 c2 c3 c4 l fu st wh x env h h1 19 st2 wh z
  ·exact xA20e c0 c1 c2 c3 c4 l fu st wh x env h h1 19 st2 wh z
 | @exAo env x st wh v st1 u st2 h h1 g h2 h3 g2 h4 ih ih2=>
  intro h0 s
  have hk:=rt_len2 h (by omega)
  have hm:=g.mono
  simp only [ok_st] at hm
  have z:=eLazyV_3 c0 c1 c2 c3 c4 l fu st wh x env hk v st1 (ih h0 ⟨s.1,szE_kid s.2 (by omega)⟩ v rfl) h2 u st2 (ih2 (by omega) ⟨s.1,szE_kid s.2 (by omega)⟩ u rfl) (lz_false h3) h4
  rcases h1 with h1 | h1
  ·exact one_cf c0 c1 c2 c3 c4 l fu (xA19o c0 c1 c2 c3 c4 l fu st wh x env h h1 (vB (vlN u != 0)) st2 z)
  ·exact one_cf c0 c1 c2 c3 c4 l fu (xA20o c0 c1 c2 c3 c4 l fu st wh x env h h1 (vB (vlN u != 0)) st2 z)
 | @exU env x st wh o h h1 g ih=>
  intro h0 s
  have hk:=rt_pos h h1
  have c:=ih h0 ⟨s.1,szE_kid s.2 (by omega)⟩
  have e1:(((exK x).length:Int) - 1).toNat=(exK x).length - 1:=by omega
  have e2:kid x ((exK x).length - 1)=(exK x).getD (((exK x).length:Int) - 1).toNat default:=by rw [e1]
  rw [e2] at c
  cases o with
  | ok us st'=>
   rcases h1 with h1 | h1
   ·exact fun u hu=>xU25o c0 c1 c2 c3 c4 l fu st wh x env h h1 hk (szE_lens s.2).1 u st' (c u hu)
   ·exact fun u hu=>xU26o c0 c1 c2 c3 c4 l fu st wh x env h h1 hk (szE_lens s.2).1 u st' (c u hu)
  | er k st' wh'=>
   rcases h1 with h1 | h1
   ·exact xU25e c0 c1 c2 c3 c4 l fu st wh x env h h1 hk (szE_lens s.2).1 k st' wh' c
   ·exact xU26e c0 c1 c2 c3 c4 l fu st wh x env h h1 hk (szE_lens s.2).1 k st' wh' c
 | @exOe env x st wh k st1 wh1 h h1 g ih=>
  intro h0 s
  have hk:=rt_len1 h (.inr (.inr (.inr h1)))
  have a:=li1_er c0 c1 c2 c3 c4 l fu hk (ih h0 ⟨s.1,kids_sm s.2⟩)
  rcases h1 with h1 | h1 | h1 | h1
  ·exact xO15e c0 c1 c2 c3 c4 l fu st wh x env h h1 hk k st1 wh1 a
  ·exact xO21e c0 c1 c2 c3 c4 l fu st wh x env h h1 hk k st1 wh1 a
  ·exact xO22e c0 c1 c2 c3 c4 l fu st wh x env h h1 hk k st1 wh1 a
  ·exact xO23e c0 c1 c2 c3 c4 l fu st wh x env h h1 hk k st1 wh1 a
 | @exOo env x st wh v st1 h h1 g ih=>
  intro h0 s
  have hk:=rt_len1 h (.inr (.inr (.inr h1)))
  have a:=li1_ok c0 c1 c2 c3 c4 l fu hk (ih h0 ⟨s.1,kids_sm s.2⟩)
  show CfR c0 c1 c2 c3 c4 l fu 108 _ st wh (exc (semE.o1 (exO x) v) st1 wh)
  simp only [semE]
  by_cases hs:eOne_s (exO x) (vlO v) (vlN v)=true
  ·rw [if_pos hs]
   simp only [exc]
   rcases h1 with h1 | h1 | h1 | h1
   ·exact one_cf c0 c1 c2 c3 c4 l fu (xO15t c0 c1 c2 c3 c4 l fu st wh x env h h1 hk v st1 a (by rw [<-h1]; exact hs))
   ·exact one_cf c0 c1 c2 c3 c4 l fu (xO21t c0 c1 c2 c3 c4 l fu st wh x env h h1 hk v st1 a (by rw [<-h1]; exact hs))
   ·exact one_cf c0 c1 c2 c3 c4 l fu (xO22t c0 c1 c2 c3 c4 l fu st wh x env h h1 hk v st1 a (by rw [<-h1]; exact hs))
   ·exact one_cf c0 c1 c2 c3 c4 l fu (xO23t c0 c1 c2 c3 c4 l fu st wh x env h h1 hk v st1 a (by rw [<-h1]; exact hs))
  ·rw [if_neg hs]
   simp only [exc,CfR]
   rcases h1 with h1 | h1 | h1 | h1
   ·exact xO15f c0 c1 c2 c3 c4 l fu st wh x env h h1 hk v st1 a (by rw [<-h1]; simpa using hs)
   ·exact xO21f c0 c1 c2 c3 c4 l fu st wh x env h h1 hk v st1 a (by rw [<-h1]; simpa using hs)
   ·exact xO22f c0 c1 c2 c3 c4 l fu st wh x env h h1 hk v st1 a (by rw [<-h1]; simpa using hs)
   ·exact xO23f c0 c1 c2 c3 c4 l fu st wh x env h h1 hk v st1 a (by rw [<-h1]; simpa using hs)
 | @exWe env x st wh k st1 wh1 h h1 g ih=>
  intro h0 s
  have no:∀n:Int,¬isTwo n->¬exO x=n:=fun n hn he=>hn (he ▸ h1)
  exact xWe c0 c1 c2 c3 c4 l fu st wh x env h (no 1 (by decide)) (no 2 (by decide)) (no 3 (by decide)) (no 4 (by decide)) (no 5 (by decide)) (no 6 (by decide)) (no 7 (by decide)) (no 8 (by decide)) (no 9 (by decide)) (no 15 (by decide)) (no 19 (by decide)) (no 20 (by decide)) (no 21 (by decide)) (no 22 (by decide)) (no 23 (by decide)) (no 25 (by decide)) (no 26 (by decide)) (szE_lens s.2).1 k st1 wh1 (ih h0 ⟨s.1,kids_sm s.2⟩)
 | @exWo env x st wh v u st1 h h1 g ih=>
  intro h0 s
  have no:∀n:Int,¬isTwo n->¬exO x=n:=fun n hn he=>hn (he ▸ h1)
  have a:=ih h0 ⟨s.1,kids_sm s.2⟩
  show CfR c0 c1 c2 c3 c4 l fu 108 _ st wh (exc (semE.o2 (exO x) v u) st1 wh)
  simp only [semE]
  by_cases hs:eCompute_s (exO x) (vlO v) (vlN v) (vlO u) (vlN u)=true
  ·rw [if_pos hs]
   exact one_cf c0 c1 c2 c3 c4 l fu (xWt c0 c1 c2 c3 c4 l fu st wh x env h (no 1 (by decide)) (no 2 (by decide)) (no 3 (by decide)) (no 4 (by decide)) (no 5 (by decide)) (no 6 (by decide)) (no 7 (by decide)) (no 8 (by decide)) (no 9 (by decide)) (no 15 (by decide)) (no 19 (by decide)) (no 20 (by decide)) (no 21 (by decide)) (no 22 (by decide)) (no 23 (by decide)) (no 25 (by decide)) (no 26 (by decide)) (szE_lens s.2).1 v u st1 a hs)
  ·rw [if_neg hs]
   exact xWf c0 c1 c2 c3 c4 l fu st wh x env h (no 1 (by decide)) (no 2 (by decide)) (no 3 (by decide)) (no 4 (by decide)) (no 5 (by decide)) (no 6 (by decide)) (no 7 (by decide)) (no 8 (by decide)) (no 9 (by decide)) (no 15 (by decide)) (no 19 (by decide)) (no 20 (by decide)) (no 21 (by decide)) (no 22 (by decide)) (no 23 (by decide)) (no 25 (by decide)) (no 26 (by decide)) (szE_lens s.2).1 v u st1 a (by simpa using hs)
end
end Go.Proofs.YtgonmmckkikmaaaGreat
namespace Go.Proofs.YtgonmmckkikmaaaGreat
open Go.Pv
theorem rAr_ud (op a b:Int):¬rArith_r2 op a b=24:=by
 unfold rArith_r2
 repeat' refine ite_ne ?_ ?_
 all_goals decide
def semR:Sem where
 fr:=freeR
 o1 op a:=if rOp1_r2 op a=0 then .ok (vX (rOp1_r0 op a) (rOp1_r1 op a)) else .error (rOp1_r2 op a)
 o2 op a b:=if rOp2_r2 op a b=0 then .ok (vX (rOp2_r0 op a b) (rOp2_r1 op a b)) else .error (rOp2_r2 op a b)
 u1 op a:=by
  split
  ·simp
  ·intro h
   injection h with h
   revert h
   unfold rOp1_r2
   repeat' refine ite_ne ?_ ?_
   all_goals decide
 u2 op a b:=by
  split
  ·simp
  ·intro h
   injection h with h
   revert h
   unfold rOp2_r2
   repeat' refine ite_ne ?_ ?_
   all_goals first | exact rAr_ud _ _ _ | decide
theorem semR_small:SmSem semR where
 fr:=freeR_len
 o1 op a v h:=by
  simp only [semR] at h
  split at h
  ·injection h with h; subst h; exact SmV_vX _ _
  ·cases h
 o2 op a b v h:=by
  simp only [semR] at h
  split at h
  ·injection h with h; subst h; exact SmV_vX _ _
  ·cases h
theorem findD_nm {n:ByteArray}:∀ {l:List Df} {d:Df},findD n l=some d->dfNm d=n
 | b::r,d,h=>by
  rw [findD] at h
  split at h
  ·injection h with h; subst h; assumption
  ·exact findD_nm h
def LnT:Tk->Prop
 | .ex env x=>env.length+szE x<=900000000
 | .li env xs=>∀x∈xs,env.length+szE x<=900000000
 | .run _ env=>env.length<=800000000
 | _=>True
section
variable (c0 c1 c2 c3 c4:PV) (l:List Df) (fu:Int)
def Rf:Tk->Int->ByteArray->Oc->Prop
 | .ex env x,st,wh,o=>RfR c0 c1 c2 c3 c4 l fu 40 (evA env.reverse x) st wh o
 | .li env xs,st,wh,.ok vs st'=>vO c0 c1 c2 c3 c4 l fu env.reverse xs st wh vs st'
 | .li env xs,st,wh,.er k st' wh'=>vE c0 c1 c2 c3 c4 l fu env.reverse xs st wh k st' wh'
 | .app f args,st,wh,o=>RfR c0 c1 c2 c3 c4 l fu 101 [.xp 0 0,.agg (vlL f),.sl 7 (Vl.cs args)] st wh o
 | .call d args,st,wh,o=>∀name,findD name l=some d->RfR c0 c1 c2 c3 c4 l fu 51 [.xp 0 0,.str name,.sl 7 (Vl.cs args)] st wh o
 | .con d,st,wh,o=>RfR c0 c1 c2 c3 c4 l fu 50 [.xp 0 0,.agg (dfL d)] st wh o
 | .run d env,st,wh,o=>(fu<=st/\o = .er 24 st wh)∨(st<fu/\RfR c0 c1 c2 c3 c4 l fu 81 [.xp 0 0,.str (dfNm d),.sl 8 (Bd.cs env.reverse),.agg (exL (dfB d))] (st+1) wh o)
theorem one_rf {f:Nat} {args:List PV} {st st':Int} {wh:ByteArray} {v:Vl} (h:qO c0 c1 c2 c3 c4 l fu f args st wh v st'):RfR c0 c1 c2 c3 c4 l fu f args st wh (.ok [v] st'):=fun w hw=>by
 injection hw with h1 h2
 subst h1
 exact h
theorem fail_rf {f:Nat} {args:List PV} {st k st1:Int} {wh wh1:ByteArray} (hk:¬k=0) (h:∀big,∃v big1,qEr c0 c1 c2 c3 c4 l fu f args st wh big v k st1 wh1 big1):RfR c0 c1 c2 c3 c4 l fu f args st wh (.er k st1 wh1):=⟨hk,h⟩
theorem rr {x:Ex} (h:rt x):rRight_r0 (exO x) (exK x)=true:=by rw [rRight_eq]; exact h
theorem env_ln {env:List Bd} {x:Ex} (n:LnT (.ex env x)):env.reverse.length<=1000000000:=by
 have n':env.length+szE x<=900000000:=n
 rw [List.length_reverse]
 omega
theorem wkA {a b:List PV} (h:WkL a b):Wk (.agg a) (.agg b) := .agg h.1 h.2
theorem kid_ln {env:List Bd} {x:Ex} {i:Nat} (n:LnT (.ex env x)) (h:i<(exK x).length):LnT (.ex env (kid x i)):=by
 have n':env.length+szE x<=900000000:=n
 have h1:=szE_eq x
 have h2:=kid_bulk (kid_mem h)
 show env.length+szE ((exK x).getD i default)<=900000000
 omega
theorem kid_ln1 {env:List Bd} {x:Ex} {i:Nat} {b:Bd} (n:LnT (.ex env x)) (h:i<(exK x).length):LnT (.ex (b::env) (kid x i)):=by
 have n':env.length+szE x<=900000000:=n
 have h1:=szE_eq x
 have h2:=kid_bulk (kid_mem h)
 show (b::env).length+szE ((exK x).getD i default)<=900000000
 rw [List.length_cons]
 omega
theorem kids_ln {env:List Bd} {x:Ex} (n:LnT (.ex env x)):LnT (.li env (exK x)):=fun y hy=>by
 have n':env.length+szE x<=900000000:=n
 have h1:=szE_eq x
 have h2:=kid_bulk hy
 omega
theorem alt_ln {env:List Bd} {x:Ex} {a:Al} {vs:List Vl} (n:LnT (.ex env x)) (h:a∈exA x):LnT (.ex (bnds (alNs a) vs env) (alB a)):=by
 have n':env.length+szE x<=900000000:=n
 have h1:=szE_eq x
 have h2:=alt_bulk h
 have h3:=bnds_len (alNs a) vs env
 show (bnds (alNs a) vs env).length+szE (alB a)<=900000000
 omega
theorem rf_step {f f':Nat} {args args':List PV} {st st1:Int} {wh:ByteArray} {o:Oc} (c:RfR c0 c1 c2 c3 c4 l fu f args st1 wh o) (pre:∀big,∃big1,(∀v st2 big2,qOk c0 c1 c2 c3 c4 l fu f args st1 wh big1 v st2 big2->qOk c0 c1 c2 c3 c4 l fu f' args' st wh big v st2 big2)/\(∀v k st2 wh2 big2,¬k=0->qEr c0 c1 c2 c3 c4 l fu f args st1 wh big1 v k st2 wh2 big2->∃v',qEr c0 c1 c2 c3 c4 l fu f' args' st wh big v' k st2 wh2 big2)):RfR c0 c1 c2 c3 c4 l fu f' args' st wh o:=by
 cases o with
 | ok vs st'=>
  intro v hv big
  obtain ⟨b1,h1, -⟩:=pre big
  obtain ⟨b2,h2⟩:=c v hv b1
  exact ⟨b2,h1 _ _ _ h2⟩
 | er k st' wh'=>
  refine ⟨c.1,fun big=>?_⟩
  obtain ⟨b1, -,h1⟩:=pre big
  obtain ⟨v,b2,h2⟩:=c.2 b1
  obtain ⟨v',h3⟩:=h1 _ _ _ _ _ c.1 h2
  exact ⟨v',b2,h3⟩
theorem confR (hf:fu<=1000000) (hl:SmL l) {t:Tk} {st:Int} {wh:ByteArray} {o:Oc} (h:Ev semR l fu t st wh o):0<=st->SmT t->LnT t->Rf c0 c1 c2 c3 c4 l fu t st wh o:=by
 induction h with
 | @runF d env st wh h=>intro h0 s n; exact .inl ⟨h,rfl⟩
 | @runG d env st wh o h g ih=>
  intro h0 s n
  have c:=ih (by omega) ⟨s.2,s.1.1⟩ (by have:=s.1.1; have n':env.length<=800000000:=n; show env.length+szE (dfB d)<=900000000; omega)
  refine .inr ⟨h,?_⟩
  cases o with
  | ok vs st'=>
   intro v hv big
   obtain ⟨b1,h1⟩:=c v hv big
   exact ⟨b1,rWitO c0 c1 c2 c3 c4 l fu (st+1) wh big (dfNm d) env.reverse (dfB d) v st' b1 h1⟩
  | er k st' wh'=>
   refine ⟨c.1,fun big=>?_⟩
   obtain ⟨v,b1,h1⟩:=c.2 big
   exact ⟨v,b1,rWitE c0 c1 c2 c3 c4 l fu (st+1) wh big (dfNm d) env.reverse (dfB d) v k st' wh' b1 h1 c.1⟩
 | @callA d args st wh h=>intro h0 s n name hd; exact fail_rf c0 c1 c2 c3 c4 l fu (by decide) fun big=>⟨default,big,rNamA c0 c1 c2 c3 c4 l fu st wh big name args hl.1 d hd h⟩
 | @callN d args st wh h h1=>
  intro h0 s n name hd
  refine fail_rf c0 c1 c2 c3 c4 l fu (by decide) fun big=>⟨default,big,?_⟩
  by_cases hp:(dfP d).length=0
  ·exact rNamN_1 c0 c1 c2 c3 c4 l fu st wh big name args hl.1 d hd h h1 (by omega)
  ·exact rNamN_2 c0 c1 c2 c3 c4 l fu st wh big name args hl.1 d hd h h1 (by omega)
 | @callG d args st wh o h h1 h2 g ih=>
  intro h0 s n name hd
  have hp:(dfP d).length<=400000000:=s.1.2
  have hlen:=bnds_len (dfP d) args []
  simp only [List.length_nil] at hlen
  have c:=ih h0 ⟨s.1,bnds_sm s.2 SmBs_nil⟩ (show (bnds (dfP d) args []).length<=800000000 by omega)
  have hb:Pu 70 [.nilsl,.sl 1 (nmsC (dfP d)),.sl 7 (Vl.cs args)] (.ret (.sl 8 (Bd.cs (bou_f args (dfP d) 0 [])))):=Ob.pur_arg (.c (.n 8) (.c (.r _) (.c (.r _) (.r _)))) (rBound [] (dfP d) args (by simp) (by omega))
  have he:(bnds (dfP d) args []).reverse=bou_f args (dfP d) 0 []:=(bou_eq args (dfP d) []).symm
  have hnm:=findD_nm hd
  rcases c with ⟨h3,rfl⟩ | ⟨h3,c⟩
  ·exact fail_rf c0 c1 c2 c3 c4 l fu (by decide) fun big=>⟨default,big,rNamF c0 c1 c2 c3 c4 l fu st wh big name args hl.1 h0 hf d hd h h1 h2 h3⟩
  ·rw [he,hnm] at c
   cases o with
   | ok vs st'=>
    intro v hv big
    obtain ⟨b1,h4⟩:=c v hv big
    exact ⟨b1,rNamO c0 c1 c2 c3 c4 l fu st wh big name args hl.1 h0 hf d hd h h1 h2 (by omega) hb v st' b1 h4⟩
   | er k st' wh'=>
    refine ⟨c.1,fun big=>?_⟩
    obtain ⟨v,b1,h4⟩:=c.2 big
    exact ⟨v,b1,rNamE c0 c1 c2 c3 c4 l fu st wh big name args hl.1 h0 hf d hd h h1 h2 (by omega) hb v k st' wh' b1 h4 c.1⟩
 | @conA d st wh h=>intro h0 s n; exact fail_rf c0 c1 c2 c3 c4 l fu (by decide) fun big=>⟨default,big,rConA c0 c1 c2 c3 c4 l fu st wh big d h⟩
 | @conG d st wh o h g ih=>
  intro h0 s n
  rcases ih h0 ⟨s,SmBs_nil⟩ (show ([]:List Bd).length<=800000000 by simp) with ⟨h3,rfl⟩ | ⟨h3,c⟩
  ·exact fail_rf c0 c1 c2 c3 c4 l fu (by decide) fun big=>⟨default,big,rConF c0 c1 c2 c3 c4 l fu st wh big d h0 hf h h3⟩
  ·have wk:WkL [.xp 0 0,.str (dfNm d),.nilsl,.agg (exL (dfB d))] [.xp 0 0,.str (dfNm d),.sl 8 (Bd.cs ([]:List Bd).reverse),.agg (exL (dfB d))] := .c (.r _) (.c (.r _) (.c (.n 8) (.c (.r _) (.r _))))
   cases o with
   | ok vs st'=>
    intro v hv big
    obtain ⟨b1,h4⟩:=c v hv big
    exact ⟨b1,rConO c0 c1 c2 c3 c4 l fu st wh big d h0 hf h (by omega) v st' b1 (Ob.eff_arg wk h4)⟩
   | er k st' wh'=>
    refine ⟨c.1,fun big=>?_⟩
    obtain ⟨v,b1,h4⟩:=c.2 big
    exact ⟨v,b1,rConE c0 c1 c2 c3 c4 l fu st wh big d h0 hf h (by omega) v k st' wh' b1 (Ob.eff_arg wk h4) c.1⟩
 | @appO f args st wh h=>intro h0 s n; exact fail_rf c0 c1 c2 c3 c4 l fu (by decide) fun big=>⟨default,big,rAppO c0 c1 c2 c3 c4 l fu st wh big f args h⟩
 | @appU f args st wh h h1 h2=>intro h0 s n; exact fail_rf c0 c1 c2 c3 c4 l fu (by decide) fun big=>⟨default,big,rAppM c0 c1 c2 c3 c4 l fu st wh big f args h h1 default 19 st wh big (rNamU c0 c1 c2 c3 c4 l fu st wh big (vlNm f) args hl.1 h2) (by decide)⟩
 | @appN f args st wh d o h h1 h2 g ih=>
  intro h0 s n
  have c:=ih h0 ⟨hl.2 _ (findD_mem h2),s.2⟩ trivial (vlNm f) h2
  cases o with
  | ok vs st'=>
   intro v hv big
   obtain ⟨b1,h4⟩:=c v hv big
   exact ⟨b1,rAppN c0 c1 c2 c3 c4 l fu st wh big f args h h1 v st' b1 h4⟩
  | er k st' wh'=>
   refine ⟨c.1,fun big=>?_⟩
   obtain ⟨v,b1,h4⟩:=c.2 big
   exact ⟨v,b1,rAppM c0 c1 c2 c3 c4 l fu st wh big f args h h1 v k st' wh' b1 h4 c.1⟩
 | @appL f args st wh h h1 h2=>
  intro h0 s n
  refine fail_rf c0 c1 c2 c3 c4 l fu (by decide) fun big=>⟨default,big,?_⟩
  by_cases hb:(vlB f).length=1
  ·exact rAppL_2 c0 c1 c2 c3 c4 l fu st wh big f args h h1 h2 (by omega)
  ·exact rAppL_1 c0 c1 c2 c3 c4 l fu st wh big f args h h1 h2 (by omega)
 | @appF f args st wh h h1 h2 h3 h4=>intro h0 s n; exact fail_rf c0 c1 c2 c3 c4 l fu (by decide) fun big=>⟨default,big,rAppF c0 c1 c2 c3 c4 l fu st wh big f args h0 hf h h1 h2 h3 h4⟩
 | @appG f args st wh o h h1 h2 h3 h4 g ih=>
  intro h0 s n
  obtain ⟨-, -, -,hb, -,hbs⟩:=SmV_parts s.1
  obtain ⟨hp,hbn⟩:=SmV_lens s.1
  have hbody:=hb ((vlB f).getD 0 default) (by simp [List.getD,h2])
  have hlen:=bnds_len (vlP f) args (vlBd f).reverse
  rw [List.length_reverse] at hlen
  have c:RfR c0 c1 c2 c3 c4 l fu 40 (evA (bnds (vlP f) args (vlBd f).reverse).reverse ((vlB f).getD 0 default)) (st+1) wh o:=ih (by omega) ⟨bnds_sm s.2 (SmBs_rev.2 hbs),hbody⟩ (show (bnds (vlP f) args (vlBd f).reverse).length+szE _<=900000000 by omega)
  have he:(bnds (vlP f) args (vlBd f).reverse).reverse=bou_f args (vlP f) 0 (vlBd f):=by
   have:=bou_eq args (vlP f) (vlBd f).reverse
   rw [List.reverse_reverse] at this
   exact this.symm
  rw [he] at c
  cases o with
  | ok vs st'=>
   intro v hv big
   obtain ⟨b1,h5⟩:=c v hv big
   exact ⟨b1,rAppG c0 c1 c2 c3 c4 l fu st wh big f args h0 hf h h1 h2 h3 (by omega) (by omega) (by omega) v st' b1 h5⟩
  | er k st' wh'=>
   refine ⟨c.1,fun big=>?_⟩
   obtain ⟨v,b1,h5⟩:=c.2 big
   exact ⟨v,b1,rAppH c0 c1 c2 c3 c4 l fu st wh big f args h0 hf h h1 h2 h3 (by omega) (by omega) (by omega) v k st' wh' b1 h5 c.1⟩
 | liN=>intro h0 s n big; exact ⟨big,rfl,rfl,rfl⟩
 | liE g ih=>
  intro h0 s n
  have c:=ih h0 ⟨s.1,s.2 _ List.mem_cons_self⟩ (n _ List.mem_cons_self)
  refine ⟨c.1,fun big=>?_⟩
  obtain ⟨v,b1,h1⟩:=c.2 big
  exact ⟨[v],b1,.inl ⟨v,h1,rfl⟩⟩
 | liR g g2 ih ih2=>
  intro h0 s n
  have hm:=g.mono
  simp only [ok_st] at hm
  have c:=ih h0 ⟨s.1,s.2 _ List.mem_cons_self⟩ (n _ List.mem_cons_self)
  have c2:=ih2 (by omega) ⟨s.1,fun y hy=>s.2 y (List.mem_cons_of_mem _ hy)⟩ (fun y hy=>n y (List.mem_cons_of_mem _ hy))
  refine ⟨c2.1,fun big=>?_⟩
  obtain ⟨b1,h1⟩:=c _ rfl big
  obtain ⟨vs,b2,h2⟩:=c2.2 b1
  exact ⟨_::vs,b2,.inr ⟨_,_,b1,vs,h1,h2,rfl⟩⟩
 | liC g g2 ih ih2=>
  intro h0 s n
  have hm:=g.mono
  simp only [ok_st] at hm
  have c:=ih h0 ⟨s.1,s.2 _ List.mem_cons_self⟩ (n _ List.mem_cons_self)
  have c2:=ih2 (by omega) ⟨s.1,fun y hy=>s.2 y (List.mem_cons_of_mem _ hy)⟩ (fun y hy=>n y (List.mem_cons_of_mem _ hy))
  intro big
  obtain ⟨b1,h1⟩:=c _ rfl big
  obtain ⟨b2,h2⟩:=c2 b1
  exact ⟨b2,_,_,b1,_,h1,h2,rfl⟩
 | @exR env x st wh h=>intro h0 s n; exact fail_rf c0 c1 c2 c3 c4 l fu (by decide) fun big=>⟨default,big,yR c0 c1 c2 c3 c4 l fu st wh big env.reverse x (by rw [rRight_eq]; exact h)⟩
 | @exIo env x st wh h h1 h2=>intro h0 s n; exact one_rf c0 c1 c2 c3 c4 l fu fun big=>⟨big,yIo c0 c1 c2 c3 c4 l fu st wh big env.reverse x (rr h) h1 h2⟩
 | @exIe env x st wh h h1 h2=>intro h0 s n; exact fail_rf c0 c1 c2 c3 c4 l fu (by decide) fun big=>⟨default,big,yIe c0 c1 c2 c3 c4 l fu st wh big env.reverse x (rr h) h1 h2⟩
 | @exB env x st wh h h1=>intro h0 s n; exact one_rf c0 c1 c2 c3 c4 l fu fun big=>⟨big,yB c0 c1 c2 c3 c4 l fu st wh big env.reverse x (rr h) h1⟩
 | @exVb env x st wh v h h1 h2=>
  intro h0 s n
  have nl:=env_ln n
  have e1:fbV (exNm x) env.reverse.reverse=v:=by rw [List.reverse_reverse,fbV,h2]; rfl
  have z:=fun big=>rVarB c0 c1 c2 c3 c4 l fu st wh big env.reverse (exNm x) nl (by rw [List.reverse_reverse,fbO,h2]; rfl)
  rw [e1] at z
  exact one_rf c0 c1 c2 c3 c4 l fu fun big=>⟨big,yVo c0 c1 c2 c3 c4 l fu st wh big env.reverse x (rr h) h1 v st big (z big)⟩
 | @exVu env x st wh h h1 h2 h3=>
  intro h0 s n
  have nl:=env_ln n
  exact fail_rf c0 c1 c2 c3 c4 l fu (by decide) fun big=>⟨default,big,yVe c0 c1 c2 c3 c4 l fu st wh big env.reverse x (rr h) h1 default 19 st wh big (rVarU c0 c1 c2 c3 c4 l fu st wh big env.reverse (exNm x) nl hl.1 (by rw [List.reverse_reverse,fbO,h2]; rfl) h3) (by decide)⟩
 | @exVf env x st wh d h h1 h2 h3 h4=>
  intro h0 s n
  have nl:=env_ln n
  rw [findD_nm h3]
  exact one_rf c0 c1 c2 c3 c4 l fu fun big=>⟨big,yVo c0 c1 c2 c3 c4 l fu st wh big env.reverse x (rr h) h1 (vF (exNm x)) st big (rVarF c0 c1 c2 c3 c4 l fu st wh big env.reverse (exNm x) nl hl.1 (by rw [List.reverse_reverse,fbO,h2]; rfl) d h3 h4)⟩
 | @exVc env x st wh d o h h1 h2 h3 h4 g ih=>
  intro h0 s n
  have nl:=env_ln n
  have c:=ih h0 (hl.2 _ (findD_mem h3)) trivial
  have hb:fbO (exNm x) env.reverse.reverse=false:=by rw [List.reverse_reverse,fbO,h2]; rfl
  cases o with
  | ok vs st'=>
   intro v hv big
   obtain ⟨b1,h9⟩:=c v hv big
   exact ⟨b1,yVo c0 c1 c2 c3 c4 l fu st wh big env.reverse x (rr h) h1 v st' b1 (rVarO c0 c1 c2 c3 c4 l fu st wh big env.reverse (exNm x) nl hl.1 hb d h3 h4 v st' b1 h9)⟩
  | er k st' wh'=>
   refine ⟨c.1,fun big=>?_⟩
   obtain ⟨v,b1,h9⟩:=c.2 big
   exact ⟨v,b1,yVe c0 c1 c2 c3 c4 l fu st wh big env.reverse x (rr h) h1 v k st' wh' b1 (rVarE c0 c1 c2 c3 c4 l fu st wh big env.reverse (exNm x) nl hl.1 hb d h3 h4 v k st' wh' b1 h9 c.1) c.1⟩
 | @exL env x st wh h h1=>
  intro h0 s n
  have nl:=env_ln n
  have hk:=rt_len1 h (.inl h1)
  refine one_rf c0 c1 c2 c3 c4 l fu fun big=>?_
  have sm:=SmV_lam (fr:=freeR) freeR_len s.2 (env:=env.reverse.reverse) (by rw [List.reverse_reverse]; exact s.1) hk
  obtain ⟨b1,h9⟩:=grown_ok c0 c1 c2 c3 c4 l fu st wh big sm
  have z:=yL c0 c1 c2 c3 c4 l fu st wh big env.reverse x (rr h) h1 hk s.2 nl b1 h9
  rw [List.reverse_reverse] at z
  exact ⟨b1,z⟩
 | @exCe env x st wh k st1 wh1 h h1 g ih=>
  intro h0 s n
  have c:=ih h0 ⟨s.1,kids_sm s.2⟩ (kids_ln n)
  refine fail_rf c0 c1 c2 c3 c4 l fu c.1 fun big=>?_
  obtain ⟨vs,b1,hv⟩:=vE_vals c0 c1 c2 c3 c4 l fu (szE_lens s.2).1 c big
  exact ⟨default,b1,yCe c0 c1 c2 c3 c4 l fu st wh big env.reverse x (rr h) (by omega) (by omega) (by omega) (by omega) (by omega) (by omega) (by omega) (by omega) (by omega) (by omega) (by omega) (by omega) vs k st1 wh1 b1 hv c.1⟩
 | @exCo env x st wh vs st1 h h1 g ih=>
  intro h0 s n
  have c:=ih h0 ⟨s.1,kids_sm s.2⟩ (kids_ln n)
  have sm:=SmVs_one.1 ((Ev.exCo h h1 g).small semR_small hl s)
  refine one_rf c0 c1 c2 c3 c4 l fu fun big=>?_
  obtain ⟨b1,hv⟩:=vO_vals c0 c1 c2 c3 c4 l fu (szE_lens s.2).1 c big
  obtain ⟨b2,hw⟩:=grown_ok c0 c1 c2 c3 c4 l fu st1 wh b1 sm
  exact ⟨b2,yCo c0 c1 c2 c3 c4 l fu st wh big env.reverse x (rr h) h1 vs st1 b1 hv b2 (Ob.eff_arg (.c (.r _) (.c (wkA (.c (.r _) (.c (.r _) (.c (.r _) (.c (.r _) (.c (.n 1) (.c (.n 7) (.c (.n 8) (.r _))))))))) (.r _))) hw)⟩
 | @exKe env x st wh k st1 wh1 h h1 g ih=>
  intro h0 s n
  have c:=ih h0 ⟨s.1,kids_sm s.2⟩ (kids_ln n)
  refine fail_rf c0 c1 c2 c3 c4 l fu c.1 fun big=>?_
  obtain ⟨vs,b1,hv⟩:=vE_vals c0 c1 c2 c3 c4 l fu (szE_lens s.2).1 c big
  exact ⟨default,b1,yKe c0 c1 c2 c3 c4 l fu st wh big env.reverse x (rr h) h1 default k st1 wh1 b1 (rCalE c0 c1 c2 c3 c4 l fu st wh big env.reverse x vs k st1 wh1 b1 hv c.1) c.1⟩
 | @exKa env x st wh vs st1 f o h h1 g h2 g2 ih ih2=>
  intro h0 s n
  have nl:=env_ln n
  have hm:=g.mono
  simp only [ok_st] at hm
  have a:=ih h0 ⟨s.1,kids_sm s.2⟩ (kids_ln n)
  have b:RfR c0 c1 c2 c3 c4 l fu 101 [.xp 0 0,.agg (vlL f),.sl 7 (Vl.cs vs)] st1 wh o:=ih2 (by omega) ⟨findB_sm s.1 h2,g.small semR_small hl ⟨s.1,kids_sm s.2⟩⟩ trivial
  have e1:fbV (exNm x) env.reverse.reverse=f:=by rw [List.reverse_reverse,fbV,h2]; rfl
  have hb:fbO (exNm x) env.reverse.reverse=true:=by rw [List.reverse_reverse,fbO,h2]; rfl
  rw [<-e1] at b
  refine rf_step c0 c1 c2 c3 c4 l fu b fun big=>?_
  obtain ⟨b1,hv⟩:=vO_vals c0 c1 c2 c3 c4 l fu (szE_lens s.2).1 a big
  exact ⟨b1,fun u st2 b2 hw=>yKo c0 c1 c2 c3 c4 l fu st wh big env.reverse x (rr h) h1 u st2 b2 (rCalA c0 c1 c2 c3 c4 l fu st wh big env.reverse x nl vs st1 b1 hv hb u st2 b2 hw),fun u k st2 wh2 b2 hk hw=>⟨u,yKe c0 c1 c2 c3 c4 l fu st wh big env.reverse x (rr h) h1 u k st2 wh2 b2 (rCalB c0 c1 c2 c3 c4 l fu st wh big env.reverse x nl vs st1 b1 hv hb u k st2 wh2 b2 hw hk) hk⟩⟩
 | @exKu env x st wh vs st1 h h1 g h2 h3 ih=>
  intro h0 s n
  have nl:=env_ln n
  have a:=ih h0 ⟨s.1,kids_sm s.2⟩ (kids_ln n)
  have hb:fbO (exNm x) env.reverse.reverse=false:=by rw [List.reverse_reverse,fbO,h2]; rfl
  refine fail_rf c0 c1 c2 c3 c4 l fu (by decide) fun big=>?_
  obtain ⟨b1,hv⟩:=vO_vals c0 c1 c2 c3 c4 l fu (szE_lens s.2).1 a big
  exact ⟨default,b1,yKe c0 c1 c2 c3 c4 l fu st wh big env.reverse x (rr h) h1 default 19 st1 wh b1 (rCalD c0 c1 c2 c3 c4 l fu st wh big env.reverse x nl vs st1 b1 hv hb default 19 st1 wh b1 (rNamU c0 c1 c2 c3 c4 l fu st1 wh b1 (exNm x) vs hl.1 h3) (by decide)) (by decide)⟩
 | @exKc env x st wh vs st1 d o h h1 g h2 h3 g2 ih ih2=>
  intro h0 s n
  have nl:=env_ln n
  have hm:=g.mono
  simp only [ok_st] at hm
  have a:=ih h0 ⟨s.1,kids_sm s.2⟩ (kids_ln n)
  have b:=ih2 (by omega) ⟨hl.2 _ (findD_mem h3),g.small semR_small hl ⟨s.1,kids_sm s.2⟩⟩ trivial (exNm x) h3
  have hb:fbO (exNm x) env.reverse.reverse=false:=by rw [List.reverse_reverse,fbO,h2]; rfl
  refine rf_step c0 c1 c2 c3 c4 l fu b fun big=>?_
  obtain ⟨b1,hv⟩:=vO_vals c0 c1 c2 c3 c4 l fu (szE_lens s.2).1 a big
  exact ⟨b1,fun u st2 b2 hw=>yKo c0 c1 c2 c3 c4 l fu st wh big env.reverse x (rr h) h1 u st2 b2 (rCalC c0 c1 c2 c3 c4 l fu st wh big env.reverse x nl vs st1 b1 hv hb u st2 b2 hw),fun u k st2 wh2 b2 hk hw=>⟨u,yKe c0 c1 c2 c3 c4 l fu st wh big env.reverse x (rr h) h1 u k st2 wh2 b2 (rCalD c0 c1 c2 c3 c4 l fu st wh big env.reverse x nl vs st1 b1 hv hb u k st2 wh2 b2 hw hk) hk⟩⟩
 | @exTe env x st wh k st1 wh1 h h1 g ih=>
  intro h0 s n
  have nl:=env_ln n
  have hk:=rt_len2 h (.inl h1)
  have c:=ih h0 ⟨s.1,szE_kid s.2 (by omega)⟩ (kid_ln n (by omega))
  refine fail_rf c0 c1 c2 c3 c4 l fu c.1 fun big=>?_
  obtain ⟨v,b1,hv⟩:=c.2 big
  exact ⟨default,b1,yTe c0 c1 c2 c3 c4 l fu st wh big env.reverse x (rr h) h1 hk nl v k st1 wh1 b1 hv c.1⟩
 | @exTo env x st wh v st1 o h h1 g g2 ih ih2=>
  intro h0 s n
  have nl:=env_ln n
  have hk:=rt_len2 h (.inl h1)
  have hm:=g.mono
  simp only [ok_st] at hm
  have s1:SmT (.ex env (kid x 0)):=⟨s.1,szE_kid s.2 (by omega)⟩
  have a:=ih h0 s1 (kid_ln n (by omega)) v rfl
  have b:RfR c0 c1 c2 c3 c4 l fu 40 (evA (Bd.mk (exNm x) v::env).reverse (kid x 1)) st1 wh o:=ih2 (by omega) ⟨by rw [SmBs_cons]; exact ⟨SmVs_one.1 (g.small semR_small hl s1),s.1⟩,szE_kid s.2 (by omega)⟩ (kid_ln1 n (by omega))
  rw [List.reverse_cons] at b
  refine rf_step c0 c1 c2 c3 c4 l fu b fun big=>?_
  obtain ⟨b1,hv⟩:=a big
  exact ⟨b1,fun u st2 b2 hw=>yTo c0 c1 c2 c3 c4 l fu st wh big env.reverse x (rr h) h1 hk nl v st1 b1 hv u st2 b2 hw,fun u k st2 wh2 b2 hk2 hw=>⟨_,yTf c0 c1 c2 c3 c4 l fu st wh big env.reverse x (rr h) h1 hk nl v st1 b1 hv u k st2 wh2 b2 hw hk2⟩⟩
 | @exFe env x st wh k st1 wh1 h h1 g ih=>
  intro h0 s n
  have hk:=rt_len3 h h1
  have c:=ih h0 ⟨s.1,szE_kid s.2 (by omega)⟩ (kid_ln n (by omega))
  refine fail_rf c0 c1 c2 c3 c4 l fu c.1 fun big=>?_
  obtain ⟨v,b1,hv⟩:=c.2 big
  have z:=rTruE c0 c1 c2 c3 c4 l fu st wh big env.reverse (kid x 0) v k st1 wh1 b1 hv c.1
  rcases hb:(vlN v != 0) with _ | _
  ·exact ⟨default,b1,yFe_2 c0 c1 c2 c3 c4 l fu st wh big env.reverse x (rr h) h1 hk _ k st1 wh1 b1 z c.1 hb⟩
  ·exact ⟨default,b1,yFe_1 c0 c1 c2 c3 c4 l fu st wh big env.reverse x (rr h) h1 hk _ k st1 wh1 b1 z c.1 hb⟩
 | @exFs env x st wh v st1 h h1 g h2 ih=>
  intro h0 s n
  have hk:=rt_len3 h h1
  have c:=ih h0 ⟨s.1,szE_kid s.2 (by omega)⟩ (kid_ln n (by omega)) v rfl
  refine fail_rf c0 c1 c2 c3 c4 l fu (by decide) fun big=>?_
  obtain ⟨b1,hv⟩:=c big
  have z:=rTruS c0 c1 c2 c3 c4 l fu st wh big env.reverse (kid x 0) v st1 b1 hv h2
  rcases hb:(vlN v != 0) with _ | _
  ·exact ⟨default,b1,yFe_2 c0 c1 c2 c3 c4 l fu st wh big env.reverse x (rr h) h1 hk _ 19 st1 wh b1 z (by decide) hb⟩
  ·exact ⟨default,b1,yFe_1 c0 c1 c2 c3 c4 l fu st wh big env.reverse x (rr h) h1 hk _ 19 st1 wh b1 z (by decide) hb⟩
 | @exFt env x st wh v st1 o h h1 g h2 h3 g2 ih ih2=>
  intro h0 s n
  have hk:=rt_len3 h h1
  have hm:=g.mono
  simp only [ok_st] at hm
  have a:=ih h0 ⟨s.1,szE_kid s.2 (by omega)⟩ (kid_ln n (by omega)) v rfl
  have b:=ih2 (by omega) ⟨s.1,szE_kid s.2 (by omega)⟩ (kid_ln n (by omega))
  refine rf_step c0 c1 c2 c3 c4 l fu b fun big=>?_
  obtain ⟨b1,hv⟩:=a big
  have z:=rTruO c0 c1 c2 c3 c4 l fu st wh big env.reverse (kid x 0) v st1 b1 hv h2
  exact ⟨b1,fun u st2 b2 hw=>yFto c0 c1 c2 c3 c4 l fu st wh big env.reverse x (rr h) h1 hk _ st1 b1 z (by simpa using h3) u st2 b2 hw,fun u k st2 wh2 b2 hk2 hw=>⟨_,yFte c0 c1 c2 c3 c4 l fu st wh big env.reverse x (rr h) h1 hk _ st1 b1 z (by simpa using h3) u k st2 wh2 b2 hw hk2⟩⟩
 | @exFf env x st wh v st1 o h h1 g h2 h3 g2 ih ih2=>
  intro h0 s n
  have hk:=rt_len3 h h1
  have hm:=g.mono
  simp only [ok_st] at hm
  have a:=ih h0 ⟨s.1,szE_kid s.2 (by omega)⟩ (kid_ln n (by omega)) v rfl
  have b:=ih2 (by omega) ⟨s.1,szE_kid s.2 (by omega)⟩ (kid_ln n (by omega))
  refine rf_step c0 c1 c2 c3 c4 l fu b fun big=>?_
  obtain ⟨b1,hv⟩:=a big
  have z:=rTruO c0 c1 c2 c3 c4 l fu st wh big env.reverse (kid x 0) v st1 b1 hv h2
  exact ⟨b1,fun u st2 b2 hw=>yFfo c0 c1 c2 c3 c4 l fu st wh big env.reverse x (rr h) h1 hk _ st1 b1 z (by simpa using h3) u st2 b2 hw,fun u k st2 wh2 b2 hk2 hw=>⟨_,yFfe c0 c1 c2 c3 c4 l fu st wh big env.reverse x (rr h) h1 hk _ st1 b1 z (by simpa using h3) u k st2 wh2 b2 hw hk2⟩⟩
 | @exMe env x st wh k st1 wh1 h h1 g ih=>
  intro h0 s n
  have hk:=rt_len1 h (.inr (.inl h1))
  have c:=ih h0 ⟨s.1,szE_kid s.2 (by omega)⟩ (kid_ln n (by omega))
  refine fail_rf c0 c1 c2 c3 c4 l fu c.1 fun big=>?_
  obtain ⟨v,b1,hv⟩:=c.2 big
  exact ⟨_,b1,yMe c0 c1 c2 c3 c4 l fu st wh big env.reverse x (rr h) h1 default k st1 wh1 b1 (rMatE c0 c1 c2 c3 c4 l fu st wh big env.reverse x hk v k st1 wh1 b1 hv c.1) c.1⟩
 | @exMs env x st wh v st1 h h1 g h2 ih=>
  intro h0 s n
  have hk:=rt_len1 h (.inr (.inl h1))
  have c:=ih h0 ⟨s.1,szE_kid s.2 (by omega)⟩ (kid_ln n (by omega)) v rfl
  refine fail_rf c0 c1 c2 c3 c4 l fu (by decide) fun big=>?_
  obtain ⟨b1,hv⟩:=c big
  exact ⟨_,b1,yMe c0 c1 c2 c3 c4 l fu st wh big env.reverse x (rr h) h1 default 19 st1 wh b1 (rMatS c0 c1 c2 c3 c4 l fu st wh big env.reverse x hk v st1 b1 hv h2) (by decide)⟩
 | @exMn env x st wh v st1 h h1 g h2 h3 ih=>
  intro h0 s n
  have hk:=rt_len1 h (.inr (.inl h1))
  have c:=ih h0 ⟨s.1,szE_kid s.2 (by omega)⟩ (kid_ln n (by omega)) v rfl
  refine fail_rf c0 c1 c2 c3 c4 l fu (by decide) fun big=>?_
  obtain ⟨b1,hv⟩:=c big
  exact ⟨_,b1,yMe c0 c1 c2 c3 c4 l fu st wh big env.reverse x (rr h) h1 default 23 st1 wh b1 (rMatN c0 c1 c2 c3 c4 l fu st wh big env.reverse x hk v st1 b1 hv h2 (szE_lens s.2).2.2 h3) (by decide)⟩
 | @exMl env x st wh v st1 a h h1 g h2 h3 h4 ih=>
  intro h0 s n
  have hk:=rt_len1 h (.inr (.inl h1))
  have c:=ih h0 ⟨s.1,szE_kid s.2 (by omega)⟩ (kid_ln n (by omega)) v rfl
  refine fail_rf c0 c1 c2 c3 c4 l fu (by decide) fun big=>?_
  obtain ⟨b1,hv⟩:=c big
  exact ⟨_,b1,yMe c0 c1 c2 c3 c4 l fu st wh big env.reverse x (rr h) h1 default 19 st1 wh b1 (rMatL c0 c1 c2 c3 c4 l fu st wh big env.reverse x hk v st1 b1 hv h2 (szE_lens s.2).2.2 a h3 h4) (by decide)⟩
 | @exMo env x st wh v st1 a o h h1 g h2 h3 h4 g2 ih ih2=>
  intro h0 s n
  have nl:=env_ln n
  have hk:=rt_len1 h (.inr (.inl h1))
  have hm:=g.mono
  simp only [ok_st] at hm
  have s1:SmT (.ex env (kid x 0)):=⟨s.1,szE_kid s.2 (by omega)⟩
  have ca:=ih h0 s1 (kid_ln n (by omega)) v rfl
  have al:=szE_alt s.2 (findA_mem h3)
  obtain ⟨-, -, -, -,hvs, -⟩:=SmV_parts (SmVs_one.1 (g.small semR_small hl s1))
  have b:RfR c0 c1 c2 c3 c4 l fu 40 (evA (bnds (alNs a) (vlK v) env).reverse (alB a)) st1 wh o:=ih2 (by omega) ⟨bnds_sm hvs s.1,al.1⟩ (alt_ln n (findA_mem h3))
  have he:(bnds (alNs a) (vlK v) env).reverse=bou_f (vlK v) (alNs a) 0 env.reverse:=(bou_eq (vlK v) (alNs a) env).symm
  rw [he] at b
  refine rf_step c0 c1 c2 c3 c4 l fu b fun big=>?_
  obtain ⟨b1,hv⟩:=ca big
  exact ⟨b1,fun u st2 b2 hw=>yMo c0 c1 c2 c3 c4 l fu st wh big env.reverse x (rr h) h1 u st2 b2 (rMatT c0 c1 c2 c3 c4 l fu st wh big env.reverse x hk v st1 b1 hv h2 (szE_lens s.2).2.2 a h3 h4 al.2 nl u st2 b2 hw),fun u k st2 wh2 b2 hk2 hw=>⟨_,yMe c0 c1 c2 c3 c4 l fu st wh big env.reverse x (rr h) h1 u k st2 wh2 b2 (rMatF c0 c1 c2 c3 c4 l fu st wh big env.reverse x hk v st1 b1 hv h2 (szE_lens s.2).2.2 a h3 h4 al.2 nl u k st2 wh2 b2 hw hk2) hk2⟩⟩
 | @exAe env x st wh k st1 wh1 h h1 g ih=>
  intro h0 s n
  have hk:=rt_len2 h (by omega)
  have c:=ih h0 ⟨s.1,szE_kid s.2 (by omega)⟩ (kid_ln n (by omega))
  refine fail_rf c0 c1 c2 c3 c4 l fu c.1 fun big=>?_
  obtain ⟨v,b1,hv⟩:=c.2 big
  have z:=rTruE c0 c1 c2 c3 c4 l fu st wh big env.reverse (kid x 0) v k st1 wh1 b1 hv c.1
  rcases h1 with h1 | h1
  ·rcases hx:(if true=true then (vlN v != 0)==(exO x==20) else !(vlN v != 0)==(exO x==20)) with _ | _
   ·exact ⟨vX 2 0,b1,yA19e_2 c0 c1 c2 c3 c4 l fu st wh big env.reverse x (rr h) h1 hk _ k st1 wh1 b1 z c.1 hx⟩
   ·exact ⟨vX 2 (rBool_r0 (exO x==20)),b1,yA19e_1 c0 c1 c2 c3 c4 l fu st wh big env.reverse x (rr h) h1 hk _ k st1 wh1 b1 z c.1 hx⟩
  ·rcases hx:(if true=true then (vlN v != 0)==(exO x==20) else !(vlN v != 0)==(exO x==20)) with _ | _
   ·exact ⟨vX 2 0,b1,yA20e_2 c0 c1 c2 c3 c4 l fu st wh big env.reverse x (rr h) h1 hk _ k st1 wh1 b1 z c.1 hx⟩
   ·exact ⟨vX 2 (rBool_r0 (exO x==20)),b1,yA20e_1 c0 c1 c2 c3 c4 l fu st wh big env.reverse x (rr h) h1 hk _ k st1 wh1 b1 z c.1 hx⟩
 | @exAs env x st wh v st1 h h1 g h2 ih=>
  intro h0 s n
  have hk:=rt_len2 h (by omega)
  have c:=ih h0 ⟨s.1,szE_kid s.2 (by omega)⟩ (kid_ln n (by omega)) v rfl
  refine fail_rf c0 c1 c2 c3 c4 l fu (by decide) fun big=>?_
  obtain ⟨b1,hv⟩:=c big
  have z:=rTruS c0 c1 c2 c3 c4 l fu st wh big env.reverse (kid x 0) v st1 b1 hv h2
  rcases h1 with h1 | h1
  ·rcases hx:(if true=true then (vlN v != 0)==(exO x==20) else !(vlN v != 0)==(exO x==20)) with _ | _
   ·exact ⟨vX 2 0,b1,yA19e_2 c0 c1 c2 c3 c4 l fu st wh big env.reverse x (rr h) h1 hk _ 19 st1 wh b1 z (by decide) hx⟩
   ·exact ⟨vX 2 (rBool_r0 (exO x==20)),b1,yA19e_1 c0 c1 c2 c3 c4 l fu st wh big env.reverse x (rr h) h1 hk _ 19 st1 wh b1 z (by decide) hx⟩
  ·rcases hx:(if true=true then (vlN v != 0)==(exO x==20) else !(vlN v != 0)==(exO x==20)) with _ | _
   ·exact ⟨vX 2 0,b1,yA20e_2 c0 c1 c2 c3 c4 l fu st wh big env.reverse x (rr h) h1 hk _ 19 st1 wh b1 z (by decide) hx⟩
   ·exact ⟨vX 2 (rBool_r0 (exO x==20)),b1,yA20e_1 c0 c1 c2 c3 c4 l fu st wh big env.reverse x (rr h) h1 hk _ 19 st1 wh b1 z (by decide) hx⟩
 | @exAq env x st wh v st1 h h1 g h2 h3 ih=>
  intro h0 s n
  have hk:=rt_len2 h (by omega)
  have c:=ih h0 ⟨s.1,szE_kid s.2 (by omega)⟩ (kid_ln n (by omega)) v rfl
  refine one_rf c0 c1 c2 c3 c4 l fu fun big=>?_
  obtain ⟨b1,hv⟩:=c big
  have z:=rTruO c0 c1 c2 c3 c4 l fu st wh big env.reverse (kid x 0) v st1 b1 hv h2
  rw [h3]
  rcases h1 with h1 | h1
  ·exact ⟨b1,yA19q c0 c1 c2 c3 c4 l fu st wh big env.reverse x (rr h) h1 hk _ st1 b1 z (by rw [h3,h1]; rfl)⟩
  ·exact ⟨b1,yA20q c0 c1 c2 c3 c4 l fu st wh big env.reverse x (rr h) h1 hk _ st1 b1 z (by rw [h3,h1]; rfl)⟩
 | @exAr env x st wh v st1 k st2 wh2 h h1 g h2 h3 g2 ih ih2=>
  intro h0 s n
  have hk:=rt_len2 h (by omega)
  have hm:=g.mono
  simp only [ok_st] at hm
  have a:=ih h0 ⟨s.1,szE_kid s.2 (by omega)⟩ (kid_ln n (by omega)) v rfl
  have b:=ih2 (by omega) ⟨s.1,szE_kid s.2 (by omega)⟩ (kid_ln n (by omega))
  have hb19:exO x=19->(vlN v != 0)=true:=fun e=>by rw [e] at h3; revert h3; cases (vlN v != 0) <;> simp
  have hb20:exO x=20->(vlN v != 0)=false:=fun e=>by rw [e] at h3; revert h3; cases (vlN v != 0) <;> simp
  refine fail_rf c0 c1 c2 c3 c4 l fu b.1 fun big=>?_
  obtain ⟨b1,hv⟩:=a big
  have z:=rTruO c0 c1 c2 c3 c4 l fu st wh big env.reverse (kid x 0) v st1 b1 hv h2
  obtain ⟨u,b2,hw⟩:=b.2 b1
  have zz:=rTruE c0 c1 c2 c3 c4 l fu st1 wh b1 env.reverse (kid x 1) u k st2 wh2 b2 hw b.1
  rcases h1 with h1 | h1
  ·exact ⟨vX 2 (rBool_r0 (vlN u != 0)),b2,yA19f c0 c1 c2 c3 c4 l fu st wh big env.reverse x (rr h) h1 hk _ st1 b1 z (hb19 h1) _ k st2 wh2 b2 zz b.1⟩
  ·exact ⟨vX 2 (rBool_r0 (vlN u != 0)),b2,yA20f c0 c1 c2 c3 c4 l fu st wh big env.reverse x (rr h) h1 hk _ st1 b1 z (hb20 h1) _ k st2 wh2 b2 zz b.1⟩
 | @exAt env x st wh v st1 u st2 h h1 g h2 h3 g2 h4 ih ih2=>
  intro h0 s n
  have hk:=rt_len2 h (by omega)
  have hm:=g.mono
  simp only [ok_st] at hm
  have a:=ih h0 ⟨s.1,szE_kid s.2 (by omega)⟩ (kid_ln n (by omega)) v rfl
  have b:=ih2 (by omega) ⟨s.1,szE_kid s.2 (by omega)⟩ (kid_ln n (by omega))
  have hb19:exO x=19->(vlN v != 0)=true:=fun e=>by rw [e] at h3; revert h3; cases (vlN v != 0) <;> simp
  have hb20:exO x=20->(vlN v != 0)=false:=fun e=>by rw [e] at h3; revert h3; cases (vlN v != 0) <;> simp
  refine fail_rf c0 c1 c2 c3 c4 l fu (by decide) fun big=>?_
  obtain ⟨b1,hv⟩:=a big
  have z:=rTruO c0 c1 c2 c3 c4 l fu st wh big env.reverse (kid x 0) v st1 b1 hv h2
  obtain ⟨b2,hw⟩:=b u rfl b1
  have zz:=rTruS c0 c1 c2 c3 c4 l fu st1 wh b1 env.reverse (kid x 1) u st2 b2 hw h4
  rcases h1 with h1 | h1
  ·exact ⟨vX 2 (rBool_r0 (vlN u != 0)),b2,yA19f c0 c1 c2 c3 c4 l fu st wh big env.reverse x (rr h) h1 hk _ st1 b1 z (hb19 h1) _ 19 st2 wh b2 zz (by decide)⟩
  ·exact ⟨vX 2 (rBool_r0 (vlN u != 0)),b2,yA20f c0 c1 c2 c3 c4 l fu st wh big env.reverse x (rr h) h1 hk _ st1 b1 z (hb20 h1) _ 19 st2 wh b2 zz (by decide)⟩
 | @exAo env x st wh v st1 u st2 h h1 g h2 h3 g2 h4 ih ih2=>
  intro h0 s n
  have hk:=rt_len2 h (by omega)
  have hm:=g.mono
  simp only [ok_st] at hm
  have a:=ih h0 ⟨s.1,szE_kid s.2 (by omega)⟩ (kid_ln n (by omega)) v rfl
  have b:=ih2 (by omega) ⟨s.1,szE_kid s.2 (by omega)⟩ (kid_ln n (by omega))
  have hb19:exO x=19->(vlN v != 0)=true:=fun e=>by rw [e] at h3; revert h3; cases (vlN v != 0) <;> simp
  have hb20:exO x=20->(vlN v != 0)=false:=fun e=>by rw [e] at h3; revert h3; cases (vlN v != 0) <;> simp
  refine one_rf c0 c1 c2 c3 c4 l fu fun big=>?_
  obtain ⟨b1,hv⟩:=a big
  have z:=rTruO c0 c1 c2 c3 c4 l fu st wh big env.reverse (kid x 0) v st1 b1 hv h2
  obtain ⟨b2,hw⟩:=b u rfl b1
  have zz:=rTruO c0 c1 c2 c3 c4 l fu st1 wh b1 env.reverse (kid x 1) u st2 b2 hw h4
  rcases h1 with h1 | h1
  ·exact ⟨b2,yA19o c0 c1 c2 c3 c4 l fu st wh big env.reverse x (rr h) h1 hk _ st1 b1 z (hb19 h1) _ st2 b2 zz⟩
  ·exact ⟨b2,yA20o c0 c1 c2 c3 c4 l fu st wh big env.reverse x (rr h) h1 hk _ st1 b1 z (hb20 h1) _ st2 b2 zz⟩
 | @exU env x st wh o h h1 g ih=>
  intro h0 s n
  have hk:=rt_pos h h1
  have c:RfR c0 c1 c2 c3 c4 l fu 40 (evA env.reverse (kid x ((exK x).length - 1))) st wh o:=ih h0 ⟨s.1,szE_kid s.2 (by omega)⟩ (kid_ln n (by omega))
  have e1:(((exK x).length:Int) - 1).toNat=(exK x).length - 1:=by omega
  have e2:kid x ((exK x).length - 1)=(exK x).getD (((exK x).length:Int) - 1).toNat default:=by rw [e1]
  rw [e2] at c
  have hn:=(szE_lens s.2).1
  refine rf_step c0 c1 c2 c3 c4 l fu c fun big=>⟨big,?_⟩
  rcases h1 with h1 | h1
  ·exact ⟨fun u st2 b2 hw=>yU25o c0 c1 c2 c3 c4 l fu st wh big env.reverse x (rr h) h1 hk hn u st2 b2 hw,fun u k st2 wh2 b2 hk2 hw=>⟨_,yU25e c0 c1 c2 c3 c4 l fu st wh big env.reverse x (rr h) h1 hk hn u k st2 wh2 b2 hw hk2⟩⟩
  ·exact ⟨fun u st2 b2 hw=>yU26o c0 c1 c2 c3 c4 l fu st wh big env.reverse x (rr h) h1 hk hn u st2 b2 hw,fun u k st2 wh2 b2 hk2 hw=>⟨_,yU26e c0 c1 c2 c3 c4 l fu st wh big env.reverse x (rr h) h1 hk hn u k st2 wh2 b2 hw hk2⟩⟩
 | @exOe env x st wh k st1 wh1 h h1 g ih=>
  intro h0 s n
  have no:∀n:Int,¬isOne n->¬exO x=n:=fun n hn he=>hn (he ▸ h1)
  have c:=ih h0 ⟨s.1,kids_sm s.2⟩ (kids_ln n)
  refine fail_rf c0 c1 c2 c3 c4 l fu c.1 fun big=>?_
  obtain ⟨vs,b1,hv⟩:=vE_vals c0 c1 c2 c3 c4 l fu (szE_lens s.2).1 c big
  exact ⟨default,b1,yCe c0 c1 c2 c3 c4 l fu st wh big env.reverse x (rr h) (no 1 (by unfold isOne; omega)) (no 2 (by unfold isOne; omega)) (no 3 (by unfold isOne; omega)) (no 5 (by unfold isOne; omega)) (no 6 (by unfold isOne; omega)) (no 7 (by unfold isOne; omega)) (no 8 (by unfold isOne; omega)) (no 9 (by unfold isOne; omega)) (no 19 (by unfold isOne; omega)) (no 20 (by unfold isOne; omega)) (no 25 (by unfold isOne; omega)) (no 26 (by unfold isOne; omega)) vs k st1 wh1 b1 hv c.1⟩
 | @exWe env x st wh k st1 wh1 h h1 g ih=>
  intro h0 s n
  have no:∀n:Int,¬isTwo n->¬exO x=n:=fun n hn he=>hn (he ▸ h1)
  have c:=ih h0 ⟨s.1,kids_sm s.2⟩ (kids_ln n)
  refine fail_rf c0 c1 c2 c3 c4 l fu c.1 fun big=>?_
  obtain ⟨vs,b1,hv⟩:=vE_vals c0 c1 c2 c3 c4 l fu (szE_lens s.2).1 c big
  exact ⟨default,b1,yCe c0 c1 c2 c3 c4 l fu st wh big env.reverse x (rr h) (no 1 (by unfold isTwo; omega)) (no 2 (by unfold isTwo; omega)) (no 3 (by unfold isTwo; omega)) (no 5 (by unfold isTwo; omega)) (no 6 (by unfold isTwo; omega)) (no 7 (by unfold isTwo; omega)) (no 8 (by unfold isTwo; omega)) (no 9 (by unfold isTwo; omega)) (no 19 (by unfold isTwo; omega)) (no 20 (by unfold isTwo; omega)) (no 25 (by unfold isTwo; omega)) (no 26 (by unfold isTwo; omega)) vs k st1 wh1 b1 hv c.1⟩
 | @exOo env x st wh v st1 h h1 g ih=>
  intro h0 s n
  have no:∀n:Int,¬isOne n->¬exO x=n:=fun n hn he=>hn (he ▸ h1)
  have c:=ih h0 ⟨s.1,kids_sm s.2⟩ (kids_ln n)
  have z:∀big,∃b1,Ef 40 (evA env.reverse x) (RR c0 c1 c2 c3 c4 l fu st 0 wh big) (.ret (.agg (vlL (vX (rOp1_r0 (exO x) v) (rOp1_r1 (exO x) v))))) (RR c0 c1 c2 c3 c4 l fu st1 (rOp1_r2 (exO x) v) wh b1):=fun big=>by
   obtain ⟨b1,hv⟩:=vO_vals c0 c1 c2 c3 c4 l fu (szE_lens s.2).1 c big
   refine ⟨b1,yW c0 c1 c2 c3 c4 l fu st wh big env.reverse x (rr h) (no 1 (by unfold isOne; omega)) (no 2 (by unfold isOne; omega)) (no 3 (by unfold isOne; omega)) (no 5 (by unfold isOne; omega)) (no 6 (by unfold isOne; omega)) (no 7 (by unfold isOne; omega)) (no 8 (by unfold isOne; omega)) (no 9 (by unfold isOne; omega)) (no 19 (by unfold isOne; omega)) (no 20 (by unfold isOne; omega)) (no 25 (by unfold isOne; omega)) (no 26 (by unfold isOne; omega)) (no 4 (by unfold isOne; omega)) [v] st1 b1 hv _ _ ?_⟩
   rw [Vl.cs_eq]
   exact rOp1 c0 c1 c2 c3 c4 l fu st1 wh b1 (exO x) v h1
  show RfR c0 c1 c2 c3 c4 l fu 40 _ st wh (exc (semR.o1 (exO x) v) st1 wh)
  simp only [semR]
  by_cases hs:rOp1_r2 (exO x) v=0
  ·rw [if_pos hs]
   rw [hs] at z
   exact one_rf c0 c1 c2 c3 c4 l fu z
  ·rw [if_neg hs]
   exact fail_rf c0 c1 c2 c3 c4 l fu hs fun big=>⟨_,z big⟩
 | @exWo env x st wh v u st1 h h1 g ih=>
  intro h0 s n
  have no:∀n:Int,¬isTwo n->¬exO x=n:=fun n hn he=>hn (he ▸ h1)
  have c:=ih h0 ⟨s.1,kids_sm s.2⟩ (kids_ln n)
  have z:∀big,∃b1,Ef 40 (evA env.reverse x) (RR c0 c1 c2 c3 c4 l fu st 0 wh big) (.ret (.agg (vlL (vX (rOp2_r0 (exO x) v u) (rOp2_r1 (exO x) v u))))) (RR c0 c1 c2 c3 c4 l fu st1 (rOp2_r2 (exO x) v u) wh b1):=fun big=>by
   obtain ⟨b1,hv⟩:=vO_vals c0 c1 c2 c3 c4 l fu (szE_lens s.2).1 c big
   refine ⟨b1,yW c0 c1 c2 c3 c4 l fu st wh big env.reverse x (rr h) (no 1 (by unfold isTwo; omega)) (no 2 (by unfold isTwo; omega)) (no 3 (by unfold isTwo; omega)) (no 5 (by unfold isTwo; omega)) (no 6 (by unfold isTwo; omega)) (no 7 (by unfold isTwo; omega)) (no 8 (by unfold isTwo; omega)) (no 9 (by unfold isTwo; omega)) (no 19 (by unfold isTwo; omega)) (no 20 (by unfold isTwo; omega)) (no 25 (by unfold isTwo; omega)) (no 26 (by unfold isTwo; omega)) (no 4 (by unfold isTwo; omega)) [v,u] st1 b1 hv _ _ ?_⟩
   rw [Vl.cs_eq]
   exact rOp2 c0 c1 c2 c3 c4 l fu st1 wh b1 (exO x) v u h1
  show RfR c0 c1 c2 c3 c4 l fu 40 _ st wh (exc (semR.o2 (exO x) v u) st1 wh)
  simp only [semR]
  by_cases hs:rOp2_r2 (exO x) v u=0
  ·rw [if_pos hs]
   rw [hs] at z
   exact one_rf c0 c1 c2 c3 c4 l fu z
  ·rw [if_neg hs]
   exact fail_rf c0 c1 c2 c3 c4 l fu hs fun big=>⟨_,z big⟩
end
end Go.Proofs.YtgonmmckkikmaaaGreat
namespace Go.Proofs.YtgonmmckkikmaaaGreat
open Go.Pv
set_option maxRecDepth 100000
section
variable (c0 c1 c2 c3 c4:PV) (l:List Df) (fu:Int)
include c0 c1 c2 c3 c4 l fu
theorem eExprL (bs:List Bd) (x:Ex) (u:Vl) (er st1:Int) (wh1:ByteArray) (ext1:Ext) (he:Ef 41 [mdM c0 c1 c2 c3 c4 l,.int .i64 fu,.fn (.func 42) [] [.ro [.sl 8 (Bd.cs bs)] 0,.ro (exL x) 0]] [] (.ret (.agg (otL u er wh1 st1))) ext1):Ef 16 ([mdM c0 c1 c2 c3 c4 l,.sl 8 (Bd.cs bs),.agg (exL x),pI fu]) ([]) (rA [pI (vlO u),pI (vlN u),.str (vlNm u),.sl 7 (Vl.cs (vlK u)),.sl 1 (nmsC (vlP u)),.sl 7 (Ex.cs (vlB u)),.sl 8 (Bd.cs (vlBd u)),pI er,.str wh1,pI st1]) (ext1):=
 ef mdR [ce he] Tryz.func16
theorem eCallL (name:ByteArray) (args:List Vl) (u:Vl) (er st1:Int) (wh1:ByteArray) (ext1:Ext) (he:Ef 41 [mdM c0 c1 c2 c3 c4 l,.int .i64 fu,.fn (.func 52) [] [.ro [.str name] 0,.ro [.sl 7 (Vl.cs args)] 0]] [] (.ret (.agg (otL u er wh1 st1))) ext1):Ef 21 ([mdM c0 c1 c2 c3 c4 l,.str name,.sl 7 (Vl.cs args),pI fu]) ([]) (rA [pI (vlO u),pI (vlN u),.str (vlNm u),.sl 7 (Vl.cs (vlK u)),.sl 1 (nmsC (vlP u)),.sl 7 (Ex.cs (vlB u)),.sl 8 (Bd.cs (vlBd u)),pI er,.str wh1,pI st1]) (ext1):=
 ef mdR [ce he] Tryz.func21
theorem eConsL (name:ByteArray) (u:Vl) (er st1:Int) (wh1:ByteArray) (ext1:Ext) (he:Ef 41 [mdM c0 c1 c2 c3 c4 l,.int .i64 fu,.fn (.func 44) [] [.ro [.str name] 0]] [] (.ret (.agg (otL u er wh1 st1))) ext1):Ef 18 ([mdM c0 c1 c2 c3 c4 l,.str name,pI fu]) ([]) (rA [pI (vlO u),pI (vlN u),.str (vlNm u),.sl 7 (Vl.cs (vlK u)),.sl 1 (nmsC (vlP u)),.sl 7 (Ex.cs (vlB u)),.sl 8 (Bd.cs (vlBd u)),pI er,.str wh1,pI st1]) (ext1):=
 ef mdR [ce he] Tryz.func18
end
def ocL:Oc->List PV
 | .ok [v] st=>otL v 0 nm0 st
 | .ok _ st=>otL default 0 nm0 st
 | .er k st wh=>otL default k wh st
theorem fl_le (fu:Int):fl' fu<=1000000/\0<=fl' fu:=by
 unfold fl' flX
 simp only [if_true,Bool.false_eq_true,if_false]
 split <;> split <;> omega
theorem otL_nx (v:Vl) (er st:Int) (wh:ByteArray):PV.noX (.agg (otL v er wh st))=true:=by
 have h:=vlL_nx v
 simp only [noXs,Bool.and_true,Bool.and_eq_true] at h
 simp only [PV.noX,otL,List.cons_append,List.nil_append,noXs,Bool.and_true,Bool.and_eq_true]
 simp [PV.noX] at h ⊢
 exact h
section
variable (c0 c1 c2 c3 c4:PV) (l:List Df) (fu:Int)
theorem exe_ok {g:Nat} {caps:List PV} {o:Oc} (ho:Sh (.con default) o) (h:CfR c0 c1 c2 c3 c4 l (fl' fu) g (.xp 1 0::caps) 0 nm0 o):∃u er st1 wh1 ext1,ocL o=otL u er wh1 st1/\Ef 41 [mdM c0 c1 c2 c3 c4 l,.int .i64 fu,.fn (.func g) [] caps] [] (.ret (.agg (otL u er wh1 st1))) ext1:=by
 cases o with
 | ok vs st=>
  obtain ⟨v,rfl⟩:=sh1 ho trivial
  exact ⟨v,0,st,nm0,_,rfl,exeT c0 c1 c2 c3 c4 l fu g caps v st (h v rfl)⟩
 | er k st wh=>exact ⟨default,k,st,wh,_,rfl,exeE c0 c1 c2 c3 c4 l fu g caps k st wh h⟩
theorem eExpr_ok (hx:PV.noX (mdM c0 c1 c2 c3 c4 l)=true) (hl:SmL l) {bs:List Bd} {x:Ex} (hb:SmBs bs) (hn:bs.length<=1000000000) (hs:szE x<=100000000) {o:Oc} (h:Ev semE l (fl' fu) (.ex bs.reverse x) 0 nm0 o) :
  Pu 16 [mdM c0 c1 c2 c3 c4 l,.sl 8 (Bd.cs bs),.agg (exL x),.int .i64 fu] (.ret (.agg (ocL o))):=by
 have hc:=conf c0 c1 c2 c3 c4 l (fl' fu) (fl_le fu).1 hl h (by omega) ⟨SmBs_rev.2 hb,hs⟩
 have hr:CfR c0 c1 c2 c3 c4 l (fl' fu) 42 [.xp 1 0,.ro [.sl 8 (Bd.cs bs)] 0,.ro (exL x) 0] 0 nm0 o:=by
  cases o with
  | ok vs st=>exact fun v hv=>xprT c0 c1 c2 c3 c4 l (fl' fu) 0 nm0 bs x hn v st (hc v hv)
  | er k st wh=>exact xprE c0 c1 c2 c3 c4 l (fl' fu) 0 nm0 bs x hn k st wh hc
 obtain ⟨u,er,st1,wh1,ext1,h1,h2⟩:=exe_ok c0 c1 c2 c3 c4 l fu (h.shape.tr trivial trivial) hr
 rw [h1]
 refine Ob.pur_of_eff ?_ (by rw [CRes.noX]; exact otL_nx ..) (eExprL c0 c1 c2 c3 c4 l fu bs x u er st1 wh1 ext1 h2)
 rw [noXs,hx,noXs,PV.noX,bds_nx,noXs,PV.noX,exL_nx]
 rfl
theorem eCall_ok (hx:PV.noX (mdM c0 c1 c2 c3 c4 l)=true) (hl:SmL l) {name:ByteArray} {args:List Vl} (ha:SmVs args) {o:Oc} (h:(findD name l=none/\o = .er 19 0 nm0)∨∃d,findD name l=some d/\Ev semE l (fl' fu) (.call d args) 0 nm0 o) :
  Pu 21 [mdM c0 c1 c2 c3 c4 l,.str name,.sl 7 (Vl.cs args),.int .i64 fu] (.ret (.agg (ocL o))):=by
 have hr:CfR c0 c1 c2 c3 c4 l (fl' fu) 52 [.xp 1 0,.ro [.str name] 0,.ro [.sl 7 (Vl.cs args)] 0] 0 nm0 o/\Sh (.con default) o:=by
  rcases h with ⟨h1,rfl⟩ | ⟨d,h1,h2⟩
  ·exact ⟨xcaU c0 c1 c2 c3 c4 l (fl' fu) 0 nm0 name args hl.1 h1,trivial⟩
  ·have hc:=conf c0 c1 c2 c3 c4 l (fl' fu) (fl_le fu).1 hl h2 (by omega) ⟨hl.2 _ (findD_mem h1),ha⟩
   refine ⟨?_,h2.shape.tr trivial trivial⟩
   cases o with
   | ok vs st=>exact fun v hv=>xcaT c0 c1 c2 c3 c4 l (fl' fu) 0 nm0 name args hl.1 d h1 v st (hc v hv)
   | er k st wh=>exact xcaE c0 c1 c2 c3 c4 l (fl' fu) 0 nm0 name args hl.1 d h1 k st wh hc
 obtain ⟨u,er,st1,wh1,ext1,h1,h2⟩:=exe_ok c0 c1 c2 c3 c4 l fu hr.2 hr.1
 rw [h1]
 refine Ob.pur_of_eff ?_ (by rw [CRes.noX]; exact otL_nx ..) (eCallL c0 c1 c2 c3 c4 l fu name args u er st1 wh1 ext1 h2)
 have e1:PV.noX (.sl 7 (Vl.cs args))=true:=by rw [PV.noX,vls_nx]
 have e2:PV.noX (.str name)=true:=rfl
 rw [noXs,hx,noXs,e2,noXs,e1]
 rfl
end
end Go.Proofs.YtgonmmckkikmaaaGreat
namespace Go.Proofs.YtgonmmckkikmaaaGreat
open Go.Pv
set_option maxRecDepth 100000
def rl (fu:Int):Int:=if fu<0 then 0 else if fu>100000 then 100000 else fu
theorem rl_le (fu:Int):rl fu<=1000000/\0<=rl fu:=by
 unfold rl
 split
 ·omega
 ·split <;> omega
theorem rStartT (c0 c1 c2 c3 c4:PV) (l:List Df) (fu:Int):Ef 39 [mdM c0 c1 c2 c3 c4 l,.int .i64 fu] [] (.ret (.xp 0 0)) (RR c0 c1 c2 c3 c4 l (rl fu) 0 0 nm0 false):=by
 unfold rl
 split
 ·exact rStart_1 c0 c1 c2 c3 c4 l fu (by assumption)
 ·split
  ·exact rStart_2 c0 c1 c2 c3 c4 l fu (by assumption) (by assumption)
  ·exact rStart_3 c0 c1 c2 c3 c4 l fu (by assumption) (by assumption)
theorem rBigX (c0 c1 c2 c3 c4:PV) (l:List Df) (fu:Int) (bs:List Bd) (x:Ex) (v:Vl) (er st1:Int) (wh1:ByteArray) (big1:Bool) (he:Ef 40 [.xp 0 0,.sl 8 (Bd.cs bs),.agg (exL x)] (RR c0 c1 c2 c3 c4 l (rl fu) 0 0 nm0 false) (.ret (.agg (vlL v))) (RR c0 c1 c2 c3 c4 l (rl fu) st1 er wh1 big1)):Ef 14 ([mdM c0 c1 c2 c3 c4 l,.sl 8 (Bd.cs bs),.agg (exL x),pI fu]) ([]) (rB big1) (RR c0 c1 c2 c3 c4 l (rl fu) st1 er wh1 big1):=
 ef mdL [ce (@rStartT (c0) (c1) (c2) (c3) (c4) (l) (fu)),ce he] Tryz.func14
section
variable (c0 c1 c2 c3 c4:PV) (l:List Df) (fu:Int)
theorem rfR_out {f:Nat} {args:List PV} {o:Oc} (hs:Sh (.con default) o) (h:RfR c0 c1 c2 c3 c4 l fu f args 0 nm0 o):∃v er st1 wh1 big1,Ef f args (RR c0 c1 c2 c3 c4 l fu 0 0 nm0 false) (.ret (.agg (vlL v))) (RR c0 c1 c2 c3 c4 l fu st1 er wh1 big1):=by
 cases o with
 | ok vs st=>
  obtain ⟨v,rfl⟩:=sh1 hs trivial
  obtain ⟨b,hb⟩:=h v rfl false
  exact ⟨v,0,st,nm0,b,hb⟩
 | er k st wh=>
  obtain ⟨v,b,hb⟩:=h.2 false
  exact ⟨v,k,st,wh,b,hb⟩
theorem bigExpr_ok (hx:PV.noX (mdM c0 c1 c2 c3 c4 l)=true) (hl:SmL l) {bs:List Bd} {x:Ex} (hb:SmBs bs) (hn:bs.length+szE x<=100000000):∃b,Pu 14 [mdM c0 c1 c2 c3 c4 l,.sl 8 (Bd.cs bs),.agg (exL x),.int .i64 fu] (.ret (.bool b)):=by
 obtain ⟨o,h⟩:=total_ex semR l (rl fu) bs.reverse x 0 nm0
 have hc:RfR c0 c1 c2 c3 c4 l (rl fu) 40 (evA bs.reverse.reverse x) 0 nm0 o:=confR c0 c1 c2 c3 c4 l (rl fu) (rl_le fu).1 hl h (by omega) ⟨SmBs_rev.2 hb,by omega⟩ (by show bs.reverse.length+szE x<=900000000; rw [List.length_reverse]; omega)
 rw [List.reverse_reverse] at hc
 obtain ⟨v,er,st1,wh1,big1,he⟩:=rfR_out c0 c1 c2 c3 c4 l (rl fu) (h.shape.tr trivial trivial) hc
 refine ⟨big1,Ob.pur_of_eff ?_ rfl (rBigX c0 c1 c2 c3 c4 l fu bs x v er st1 wh1 big1 he)⟩
 rw [noXs,hx,noXs,PV.noX,bds_nx,noXs,PV.noX,exL_nx]
 rfl
end
end Go.Proofs.YtgonmmckkikmaaaGreat
