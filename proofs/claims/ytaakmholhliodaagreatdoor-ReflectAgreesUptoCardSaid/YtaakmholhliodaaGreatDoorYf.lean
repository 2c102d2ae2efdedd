/- Values of Go as plain data, an evaluator over them, and what the functions of the program return; part Yf. -/
import Derived.Test.YtaakmholhliodaaGreatDoorYc
import Derived.Test.YtaakmholhliodaaGreatDoorYb
import Derived.Test.YtaakmholhliodaaGreatDoorYd
import Derived.Test.YtaakmholhliodaaGreatDoorYa
set_option linter.unusedSectionVars false
set_option linter.unusedSimpArgs false
set_option linter.unusedVariables false
namespace Go.Proofs.YtaakmholhliodaaGreatDoor
open Go.Proofs.Tryz
open Go.Pv Go.Proofs.Tryz
set_option maxRecDepth 100000
abbrev dsA_I(l:List BA)(j:Int)(ks:List BA)  : S:=S.mk [(2,.v (.bool false)),(3,.v (PV.mp 0)),(7,vL 1 (nmsC l)),(8,vI6 (l.length:Int)),(9,vI6 j)] [] [(0,[LV.mm (MM.s (mks ks))])]
inductive dsA_R where
 | e0 (ks:List BA)
 | e1 (ks:List BA)
def dsA_f  : List BA->(List BA)->dsA_R
 | [],ks=>(dsA_R.e1 ks)
 | el::r,ks=>(if memB el ks=true then (dsA_R.e0 ks) else dsA_f  r (adN el ks))
noncomputable def dsA_q (l:List BA)  : dsA_R->PExit × S
 | .e0 ks=>(.ret,S.mk [(2,.v (.bool false)),(3,.v (PV.mp 0)),(7,vL 1 (nmsC l)),(8,vI6 (l.length:Int))] [] [(0,[LV.mm (MM.s (mks ks))])])
 | .e1 ks=>(.exit 0,S.mk [(2,.v (.bool false)),(3,.v (PV.mp 0)),(7,vL 1 (nmsC l)),(8,vI6 (l.length:Int))] [] [(0,[LV.mm (MM.s (mks ks))])])
theorem dsA_lp(l:List BA)(hN:l.length<=1000000000)(ks:List BA):(Ob.loop 19 (loopF f161 0) (dsA_I l 0 ks) (dsA_q l  (dsA_f  (l)  ks)).1 (dsA_q l  (dsA_f  (l)  ks)).2).ok prog:=by
 refine rng l.length (fun j ks=>dsA_I l j ks) (fun i ks=>dsA_f  (List.drop i (l))  ks) (dsA_q l) (fun i ks=>True) kR ?_ ks trivial
 rintro i ks hi -
 rcases Nat.lt_or_ge i (l.length) with hlt | hge
 ·have hd:=drop_at0 hlt
  refine t0 ?_;refine tp [rgNm hlt,av (.v (luRes false (mget (List.getD l i nm0) (mks ks)) (.bool false))) (.v (.bool (memB (List.getD l i nm0) ks))) (by (simp only [lu_mks]; done))] ?_;by_cases h0:memB (List.getD l i nm0) ks=true
  ·exact tX mdW [bt1 h0] (dsA_R.e0 ks) (by rw [hd,dsA_f,iP h0])
  ·exact tS mdW [bf1 (bFT h0),wr ((i:Int)+1)] [2,3,7,8,9] [] hlt (adN (List.getD l i nm0) ks) (S.mk [(2,.v (.bool false)),(3,.v (PV.mp 0)),(7,vL 1 (nmsC l)),(8,vI6 (l.length:Int)),(9,vI6 ((i:Int)+1))] [] [(0,[LV.mm (MM.s (mupd (List.getD l i nm0) (.bool true) (mks ks)))])]) ⟨⟨W,W,W,W,W,tVv⟩,trivial,(by first | rfl | (simp only [List.nil_append,nmsC_app,nmsC_snoc,Pr.cs_snoc,Tp.cs_snoc,Ex.cs_snoc,Vr.cs_snoc,Df.cs_snoc,mks_ad]; done) | (simp only [List.nil_append,nmsC_app,nmsC_snoc,Pr.cs_snoc,Tp.cs_snoc,Ex.cs_snoc,Vr.cs_snoc,Df.cs_snoc,mks_ad]; rfl))⟩ trivial (by rw [hd,dsA_f,iN h0])
 ·have he:i=l.length:=by omega
  exact lX mdW [df ((i:Int)<(l.length:Int))] (dsA_R.e1 ks) (by rw [he,List.drop_length,dsA_f])
theorem dsA_0(l:List BA)(ks:List BA)(hN:l.length<=1000000000)(p0:List BA)(hres:(dsA_f  (l)  ks)=(dsA_R.e0 p0)):(Ob.loop 19 (loopF f161 0) (dsA_I l 0 ks) (dsA_q l  (dsA_R.e0 p0)).1 (dsA_q l  (dsA_R.e0 p0)).2).ok prog:=
 rz (dsA_lp l hN ks) hres
theorem dsA_1(l:List BA)(ks:List BA)(hN:l.length<=1000000000)(p0:List BA)(hres:(dsA_f  (l)  ks)=(dsA_R.e1 p0)):(Ob.loop 19 (loopF f161 0) (dsA_I l 0 ks) (dsA_q l  (dsA_R.e1 p0)).1 (dsA_q l  (dsA_R.e1 p0)).2).ok prog:=
 rz (dsA_lp l hN ks) hres
def disB(l:List BA):Bool:=match dsA_f l [] with
 | .e0 _=>false
 | .e1 _=>true
theorem ds0(l:List BA)(hN:l.length<=1000000000)(k0:List BA)(hres:dsA_f l [] = .e0 k0):(Ob.loop 19 (loopF f161 0) (dsA_I l 0 []) (dsA_q l (.e0 k0)).1 (dsA_q l (.e0 k0)).2).ok prog:=dsA_0 l [] hN k0 hres
theorem ds1(l:List BA)(hN:l.length<=1000000000)(k0:List BA)(hres:dsA_f l [] = .e1 k0):(Ob.loop 19 (loopF f161 0) (dsA_I l 0 []) (dsA_q l (.e1 k0)).1 (dsA_q l (.e1 k0)).2).ok prog:=dsA_1 l [] hN k0 hres
section
variable (l:List BA) (hN:l.length<=1000000000) (hy0:List BA)
include l hN hy0
theorem dsL_1(hx1:dsA_f l []=dsA_R.e0 hy0):Ef 161 [.sl 1 (nmsC l)] ([]) (rB false) ([(0,[LV.mm (MM.s (mks hy0))])]):=
 ef mdW [sl (nmsC_len l),lq (@ds0 l hN hy0 hx1)] func161
theorem dsL_2(hx1:dsA_f l []=dsA_R.e1 hy0):Ef 161 [.sl 1 (nmsC l)] ([]) (rB true) ([(0,[LV.mm (MM.s (mks hy0))])]):=
 ef mdW [sl (nmsC_len l),lq (@ds1 l hN hy0 hx1)] func161
end
theorem dsT(l:List BA)(hN:l.length<=1000000000):Pu 161 [.sl 1 (nmsC l)] (.ret (.bool (disB l))):=by
 have hx:noXs [.sl 1 (nmsC l)]=true:=by rw [noXs,PV.noX,nms_nx]; rfl
 unfold disB
 cases h:dsA_f l [] with
 | e0 k=>first | exact Ob.pur_of_eff hx rfl (dsL_1 l hN k h) | exact Ob.pur_of_eff hx rfl (dsL_2 l hN k h)
 | e1 k=>first | exact Ob.pur_of_eff hx rfl (dsL_1 l hN k h) | exact Ob.pur_of_eff hx rfl (dsL_2 l hN k h)
theorem twL(l:List BA)(hN:l.length<=1000000000):Pu 146 [.sl 1 (nmsC l)] (rB !disB l):=
 pm mdL [cl (@dsT l hN)] func146
abbrev bdA_I(l:List Pm)(j:Int)(out:List BA)(e:Ext):S:=S.mk [(2,.v .nilsl),(3,.uniq 9 1 (nmsC out)),(6,vL 10 (Pm.cs l)),(7,vI6 (l.length:Int)),(8,vI6 j)] [] e
def bdA_f  : List Pm->(List BA)->(List BA)
 | [],out=>(out)
 | el::r,out=>bdA_f  r (out++[pmNm el])
def bdA_q(l:List Pm)(e:Ext)(p:(List BA)):PExit × S:=(.exit 0,S.mk [(2,.v .nilsl),(3,.uniq 9 1 (nmsC p)),(6,vL 10 (Pm.cs l)),(7,vI6 (l.length:Int))] [] e)
theorem bdA(l:List Pm)(out:List BA)(e:Ext)(hN:l.length<=1000000000)(hv:List.length out<=0):(Ob.loop 19 (loopF f145 0) (bdA_I l 0 out e) (bdA_q l e (bdA_f  (l)  out)).1 (bdA_q l e (bdA_f  (l)  out)).2).ok prog:=by
 refine rng l.length (fun j out=>bdA_I l j out e) (fun i out=>bdA_f  (List.drop i (l))  out) (bdA_q l e) (fun i out=>(out.length<=i)) kR ?_ out (by first | exact hv | omega)
 rintro i out hi hv
 try simp only at hv
 rcases Nat.lt_or_ge i (l.length) with hlt | hge
 ·have hd:=drop_at hlt
  exact lS mdL [rgPm hlt,am (List.length (nmsC out++[[.str (pmNm (List.getD l i default))]]) * (15+1)<=140737488355328) (by (simp only [List.length_append,List.length_cons,List.length_nil,nmsC_len]; omega)),wr ((i:Int)+1)] [2,3,6,7,8] [] hlt (out++[pmNm (List.getD l i default)]) (S.mk [(2,.v .nilsl),(3,.uniq 9 1 (nmsC out++[[PV.str (pmNm (List.getD l i default))]])),(6,vL 10 (Pm.cs l)),(7,vI6 (l.length:Int)),(8,vI6 ((i:Int)+1))] [] e) ⟨⟨W,(.inl (by first | (simp only [List.nil_append,nmsC_app,nmsC_snoc,Pr.cs_snoc,Tp.cs_snoc,Ex.cs_snoc,Vr.cs_snoc,Df.cs_snoc,mks_ad]; done) | (simp only [List.nil_append,nmsC_app,nmsC_snoc,Pr.cs_snoc,Tp.cs_snoc,Ex.cs_snoc,Vr.cs_snoc,Df.cs_snoc,mks_ad]; rfl))),W,W,W,tVv⟩,trivial,rfl⟩ (by first | assumption | omega | (simp only [List.length_append,List.length_cons,List.length_nil] at *; omega) | simp_all) (by rw [hd,bdA_f])
 ·have he:i=l.length:=by omega
  exact lX mdL [df ((i:Int)<(l.length:Int))] (out) (by rw [he,List.drop_length,bdA_f])
theorem bdA_e:∀ (l:List Pm) (out:List BA),bdA_f l out=out++l.map pmNm
 | [],out=>by simp [bdA_f]
 | p::r,out=>by simp [bdA_f,bdA_e r]
theorem bdL(l:List Pm)(hN:l.length<=1000000000):Pu 145 [.sl 10 (Pm.cs l)] (.own 9 1 (nmsC (bdA_f l []))):=
 pu mdL (fun e=>[sl (Pm.cs_len l),lp (S.mk [(2,.v .nilsl),(3,.v .nilsl),(6,vL 10 (Pm.cs l)),(7,vI6 (l.length:Int)),(8,vI6 0)] [] e) (@bdA l ([]) e hN (by (simp only [List.length_nil]; omega))) ⟨⟨W,Wq,W,W,W,tVv⟩,trivial,rfl⟩]) func145
abbrev coA_I(l:List Al)(j:Int)(out:List BA)(e:Ext):S:=S.mk [(2,.v .nilsl),(3,.uniq 9 1 (nmsC out)),(6,vL 9 (Al.cs l)),(7,vI6 (l.length:Int)),(8,vI6 j)] [] e
def coA_f  : List Al->(List BA)->(List BA)
 | [],out=>(out)
 | el::r,out=>coA_f  r (out++[alC el])
def coA_q(l:List Al)(e:Ext)(p:(List BA)):PExit × S:=(.exit 0,S.mk [(2,.v .nilsl),(3,.uniq 9 1 (nmsC p)),(6,vL 9 (Al.cs l)),(7,vI6 (l.length:Int))] [] e)
theorem coA(l:List Al)(out:List BA)(e:Ext)(hN:l.length<=1000000000)(hv:List.length out<=0):(Ob.loop 19 (loopF f147 0) (coA_I l 0 out e) (coA_q l e (coA_f  (l)  out)).1 (coA_q l e (coA_f  (l)  out)).2).ok prog:=by
 refine rng l.length (fun j out=>coA_I l j out e) (fun i out=>coA_f  (List.drop i (l))  out) (coA_q l e) (fun i out=>(out.length<=i)) kR ?_ out (by first | exact hv | omega)
 rintro i out hi hv
 try simp only at hv
 rcases Nat.lt_or_ge i (l.length) with hlt | hge
 ·have hd:=drop_at hlt
  exact lS mdL [rgAl hlt,am (List.length (nmsC out++[[.str (alC (List.getD l i default))]]) * (15+1)<=140737488355328) (by (simp only [List.length_append,List.length_cons,List.length_nil,nmsC_len]; omega)),wr ((i:Int)+1)] [2,3,6,7,8] [] hlt (out++[alC (List.getD l i default)]) (S.mk [(2,.v .nilsl),(3,.uniq 9 1 (nmsC out++[[PV.str (alC (List.getD l i default))]])),(6,vL 9 (Al.cs l)),(7,vI6 (l.length:Int)),(8,vI6 ((i:Int)+1))] [] e) ⟨⟨W,(.inl (by first | (simp only [List.nil_append,nmsC_app,nmsC_snoc,Pr.cs_snoc,Tp.cs_snoc,Ex.cs_snoc,Vr.cs_snoc,Df.cs_snoc,mks_ad]; done) | (simp only [List.nil_append,nmsC_app,nmsC_snoc,Pr.cs_snoc,Tp.cs_snoc,Ex.cs_snoc,Vr.cs_snoc,Df.cs_snoc,mks_ad]; rfl))),W,W,W,tVv⟩,trivial,rfl⟩ (by first | assumption | omega | (simp only [List.length_append,List.length_cons,List.length_nil] at *; omega) | simp_all) (by rw [hd,coA_f])
 ·have he:i=l.length:=by omega
  exact lX mdL [df ((i:Int)<(l.length:Int))] (out) (by rw [he,List.drop_length,coA_f])
theorem coA_e:∀ (l:List Al) (out:List BA),coA_f l out=out++l.map alC
 | [],out=>by simp [coA_f]
 | p::r,out=>by simp [coA_f,coA_e r]
theorem coL(l:List Al)(hN:l.length<=1000000000):Pu 147 [.sl 9 (Al.cs l)] (.own 9 1 (nmsC (coA_f l []))):=
 pu mdL (fun e=>[sl (Al.cs_len l),lp (S.mk [(2,.v .nilsl),(3,.v .nilsl),(6,vL 9 (Al.cs l)),(7,vI6 (l.length:Int)),(8,vI6 0)] [] e) (@coA l ([]) e hN (by (simp only [List.length_nil]; omega))) ⟨⟨W,Wq,W,W,W,tVv⟩,trivial,rfl⟩]) func147
abbrev xfN_I(l:List BA)(g:Nat)(caps:List PV)(pe:BA->Bool)(j:Int)(e:Ext):S:=S.mk [(0,vL 1 (nmsC l)),(1,.v (.fn (.func g) [] caps)),(4,vI6 0),(7,vI6 (l.length:Int)),(8,vI6 j)] [] e
inductive xfN_R where
 | e0 (i:Nat)
 | e1
def xfN_f(pe:BA->Bool):List BA->Nat->xfN_R
 | [],i=>(xfN_R.e1)
 | el::r,i=>(if pe el=true then (xfN_R.e0 i) else xfN_f pe r (i+1))
def xfN_q(l:List BA)(g:Nat)(caps:List PV)(pe:BA->Bool)(e:Ext):xfN_R->PExit × S
 | .e0 i=>(.ret,S.mk [(0,vL 1 (nmsC l)),(1,.v (.fn (.func g) [] caps)),(4,vI6 (i:Int)),(7,vI6 (l.length:Int))] [] e)
 | .e1=>(.exit 0,S.mk [(0,vL 1 (nmsC l)),(1,.v (.fn (.func g) [] caps)),(4,vI6 0),(7,vI6 (l.length:Int))] [] e)
theorem xfN_lp(l:List BA)(g:Nat)(caps:List PV)(pe:BA->Bool)(hwk:∀ (w:BA),w∈l->Pu g (.str w::caps) (.ret (.bool (pe w))))(e:Ext)(hN:l.length<=1000000000):(Ob.loop 19 (loopF f116 0) (xfN_I l g caps pe 0  e) (xfN_q l g caps pe e (xfN_f pe (l) 0)).1 (xfN_q l g caps pe e (xfN_f pe (l) 0)).2).ok prog:=by
 refine rng l.length (fun j _=>xfN_I l g caps pe j  e) (fun i _=>xfN_f pe (List.drop i (l)) i) (xfN_q l g caps pe e) (fun i _=>True) kR ?_ () trivial
 rintro i u hi -
 rcases Nat.lt_or_ge i (l.length) with hlt | hge
 ·have hd:=drop_at0 hlt
  refine t0 ?_;refine tp [rgNm hlt,cl (@hwk (List.getD l i nm0) (by simp_all [mget_mks,lu_mks,tn1,Bool.not_eq_true,Bool.not_eq_false]))] ?_;by_cases h0:pe (List.getD l i nm0)=true
  ·exact tX mdL [bt1 h0] (xfN_R.e0 i) (by rw [hd,xfN_f,iP h0])
  ·exact tN mdL [bf1 (bFT h0),wr ((i:Int)+1)] hlt () trivial (by rw [hd,xfN_f,iN h0])
 ·have he:i=l.length:=by omega
  exact lX mdL [df ((i:Int)<(l.length:Int))] (xfN_R.e1) (by rw [he,List.drop_length,xfN_f])
theorem xfN_x(pe:BA->Bool):∀ (l:List BA) (k:Nat),xfN_f pe l k=if l.findIdx pe<l.length then .e0 (k+l.findIdx pe) else .e1
 | [],k=>by simp [xfN_f]
 | c::r,k=>by
  by_cases h:pe c=true
  ·simp [xfN_f,h,List.findIdx_cons]
  ·have h':pe c=false:=by cases hh:pe c <;> simp_all
   simp only [xfN_f,h',Bool.false_eq_true,if_false,xfN_x pe r (k+1),List.length_cons,List.findIdx_cons,cond_false]
   by_cases h2:r.findIdx pe<r.length
   ·rw [iP h2,iP oM]; congr 1; omega
   ·rw [iN h2,iN oM]
section
variable (l:List BA) (g:Nat) (caps:List PV) (pe:BA->Bool) (hwk:∀ (w:BA),w∈l->Pu g (.str w::caps) (.ret (.bool (pe w)))) (hN:l.length<=1000000000)
include l g caps pe hwk hN
theorem xfNL_1(hy0:Nat)(hx1:xfN_f pe l 0=xfN_R.e0 hy0):Pu 116 [.sl 1 (nmsC l),.fn (.func g) [] caps] (rI (hy0:Int)):=
 pu mdL (fun e=>[sl (nmsC_len l),lq (rz (xfN_lp (l) (g) (caps) (pe) hwk (e) hN) hx1)]) func116
theorem xfNL_2(hx0:xfN_f pe l 0=xfN_R.e1):Pu 116 [.sl 1 (nmsC l),.fn (.func g) [] caps] (rI (-1)):=
 pu mdL (fun e=>[sl (nmsC_len l),lq (rz (xfN_lp (l) (g) (caps) (pe) hwk (e) hN) hx0)]) func116
end
theorem xfNT(l:List BA)(g:Nat)(caps:List PV)(pe:BA->Bool)(hwk:∀ (w:BA),w∈l->Pu g (.str w::caps) (.ret (.bool (pe w))))(hN:l.length<=1000000000):Pu 116 [.sl 1 (nmsC l),.fn (.func g) [] caps] (.ret (.int .i64 (fxE pe l))):=by
 unfold fxE
 by_cases h:l.findIdx pe<l.length
 ·rw [iP h]; have e:xfN_f pe l 0 = .e0 (l.findIdx pe):=by rw [xfN_x,iP h,Nat.zero_add]
  first | exact xfNL_1 l g caps pe hwk hN _ e | exact xfNL_2 l g caps pe hwk hN _ e
 ·rw [iN h]; have e:xfN_f pe l 0 = .e1:=by rw [xfN_x,iN h]
  first | exact xfNL_1 l g caps pe hwk hN e | exact xfNL_2 l g caps pe hwk hN e
theorem cfN(l:List BA)(g:Nat)(caps:List PV)(pe:BA->Bool)(hwk:∀ (w:BA),w∈l->Pu g (.str w::caps) (.ret (.bool (pe w))))(hN:l.length<=1000000000):Pu 148 [.sl 1 (nmsC l),.fn (.func g) [] caps] (rB (decide (fxE pe l>=0))):=
 pm mdL [cl (@xfNT l g caps pe hwk hN)] func148
abbrev xfA_I(l:List Al)(g:Nat)(caps:List PV)(pe:Al->Bool)(j:Int)(e:Ext):S:=S.mk [(0,vL 9 (Al.cs l)),(1,.v (.fn (.func g) [] caps)),(4,vI6 0),(7,vI6 (l.length:Int)),(8,vI6 j)] [] e
inductive xfA_R where
 | e0 (i:Nat)
 | e1
def xfA_f(pe:Al->Bool):List Al->Nat->xfA_R
 | [],i=>(xfA_R.e1)
 | el::r,i=>(if pe el=true then (xfA_R.e0 i) else xfA_f pe r (i+1))
def xfA_q(l:List Al)(g:Nat)(caps:List PV)(pe:Al->Bool)(e:Ext):xfA_R->PExit × S
 | .e0 i=>(.ret,S.mk [(0,vL 9 (Al.cs l)),(1,.v (.fn (.func g) [] caps)),(4,vI6 (i:Int)),(7,vI6 (l.length:Int))] [] e)
 | .e1=>(.exit 0,S.mk [(0,vL 9 (Al.cs l)),(1,.v (.fn (.func g) [] caps)),(4,vI6 0),(7,vI6 (l.length:Int))] [] e)
theorem xfA_lp(l:List Al)(g:Nat)(caps:List PV)(pe:Al->Bool)(hwk:∀ (w:Al),w∈l->Pu g (.agg (alL w)::caps) (.ret (.bool (pe w))))(e:Ext)(hN:l.length<=1000000000):(Ob.loop 19 (loopF f160 0) (xfA_I l g caps pe 0  e) (xfA_q l g caps pe e (xfA_f pe (l) 0)).1 (xfA_q l g caps pe e (xfA_f pe (l) 0)).2).ok prog:=by
 refine rng l.length (fun j _=>xfA_I l g caps pe j  e) (fun i _=>xfA_f pe (List.drop i (l)) i) (xfA_q l g caps pe e) (fun i _=>True) kR ?_ () trivial
 rintro i u hi -
 rcases Nat.lt_or_ge i (l.length) with hlt | hge
 ·have hd:=drop_at hlt
  refine t0 ?_;refine tp [rgAl hlt,cl (@hwk (List.getD l i default) (by simp_all [mget_mks,lu_mks,tn1,Bool.not_eq_true,Bool.not_eq_false]))] ?_;by_cases h0:pe (List.getD l i default)=true
  ·exact tX mdL [bt1 h0] (xfA_R.e0 i) (by rw [hd,xfA_f,iP h0])
  ·exact tN mdL [bf1 (bFT h0),wr ((i:Int)+1)] hlt () trivial (by rw [hd,xfA_f,iN h0])
 ·have he:i=l.length:=by omega
  exact lX mdL [df ((i:Int)<(l.length:Int))] (xfA_R.e1) (by rw [he,List.drop_length,xfA_f])
theorem xfA_x(pe:Al->Bool):∀ (l:List Al) (k:Nat),xfA_f pe l k=if l.findIdx pe<l.length then .e0 (k+l.findIdx pe) else .e1
 | [],k=>by simp [xfA_f]
 | c::r,k=>by
  by_cases h:pe c=true
  ·simp [xfA_f,h,List.findIdx_cons]
  ·have h':pe c=false:=by cases hh:pe c <;> simp_all
   simp only [xfA_f,h',Bool.false_eq_true,if_false,xfA_x pe r (k+1),List.length_cons,List.findIdx_cons,cond_false]
   by_cases h2:r.findIdx pe<r.length
   ·rw [iP h2,iP oM]; congr 1; omega
   ·rw [iN h2,iN oM]
section
variable (l:List Al) (g:Nat) (caps:List PV) (pe:Al->Bool) (hwk:∀ (w:Al),w∈l->Pu g (.agg (alL w)::caps) (.ret (.bool (pe w)))) (hN:l.length<=1000000000)
include l g caps pe hwk hN
theorem xfAL_1(hy0:Nat)(hx1:xfA_f pe l 0=xfA_R.e0 hy0):Pu 160 [.sl 9 (Al.cs l),.fn (.func g) [] caps] (rI (hy0:Int)):=
 pu mdL (fun e=>[sl (Al.cs_len l),lq (rz (xfA_lp (l) (g) (caps) (pe) hwk (e) hN) hx1)]) func160
theorem xfAL_2(hx0:xfA_f pe l 0=xfA_R.e1):Pu 160 [.sl 9 (Al.cs l),.fn (.func g) [] caps] (rI (-1)):=
 pu mdL (fun e=>[sl (Al.cs_len l),lq (rz (xfA_lp (l) (g) (caps) (pe) hwk (e) hN) hx0)]) func160
end
theorem xfAT(l:List Al)(g:Nat)(caps:List PV)(pe:Al->Bool)(hwk:∀ (w:Al),w∈l->Pu g (.agg (alL w)::caps) (.ret (.bool (pe w))))(hN:l.length<=1000000000):Pu 160 [.sl 9 (Al.cs l),.fn (.func g) [] caps] (.ret (.int .i64 (fxE pe l))):=by
 unfold fxE
 by_cases h:l.findIdx pe<l.length
 ·rw [iP h]; have e:xfA_f pe l 0 = .e0 (l.findIdx pe):=by rw [xfA_x,iP h,Nat.zero_add]
  first | exact xfAL_1 l g caps pe hwk hN _ e | exact xfAL_2 l g caps pe hwk hN _ e
 ·rw [iN h]; have e:xfA_f pe l 0 = .e1:=by rw [xfA_x,iN h]
  first | exact xfAL_1 l g caps pe hwk hN e | exact xfAL_2 l g caps pe hwk hN e
theorem cfA(l:List Al)(g:Nat)(caps:List PV)(pe:Al->Bool)(hwk:∀ (w:Al),w∈l->Pu g (.agg (alL w)::caps) (.ret (.bool (pe w))))(hN:l.length<=1000000000):Pu 143 [.sl 9 (Al.cs l),.fn (.func g) [] caps] (rB (decide (fxE pe l>=0))):=
 pm mdL [cl (@xfAT l g caps pe hwk hN)] func143
abbrev shL(a b:Bool)(c d:Int)(p q:Bool)(g h:Int)(t:Bool):List PV:=[.bool a,.bool b,.int .i64 c,.int .i64 d,.bool p,.bool q,.int .i64 g,.int .i64 h,.bool t]
abbrev shV(a b:Bool)(c d:Int)(p q:Bool)(g h:Int)(t:Bool):List LV:=[.v (.bool a),.v (.bool b),.v (.int .i64 c),.v (.int .i64 d),.v (.bool p),.v (.bool q),.v (.int .i64 g),.v (.int .i64 h),.v (.bool t)]
def shS_r0(o:Int):Bool:=(if o=1 then true else (if o=2 then true else (if o=3 then false else (if o=4 then false else (if o=5 then false else (if o=6 then false else (if o=7 then false else (if o=8 then false else (if o=9 then false else (if o=10 then false else (if o=11 then false else (if o=12 then false else (if o=13 then false else (if o=14 then false else (if o=16 then false else (if o=17 then false else (if o=18 then false else (if o=19 then false else (if o=20 then false else (if o=24 then false else (if o=15 then false else (if o=21 then false else (if o=22 then false else (if o=23 then false else (if o=25 then false else (if o=26 then false else false))))))))))))))))))))))))))
def shS_r1(o:Int):Bool:=(if o=1 then false else (if o=2 then false else (if o=3 then true else (if o=4 then true else (if o=5 then true else (if o=6 then false else (if o=7 then true else (if o=8 then false else (if o=9 then false else (if o=10 then false else (if o=11 then false else (if o=12 then false else (if o=13 then false else (if o=14 then false else (if o=16 then false else (if o=17 then false else (if o=18 then false else (if o=19 then false else (if o=20 then false else (if o=24 then false else (if o=15 then false else (if o=21 then false else (if o=22 then false else (if o=23 then false else (if o=25 then true else (if o=26 then false else false))))))))))))))))))))))))))
def shS_r2(o:Int):Int:=(if o=1 then 0 else (if o=2 then 0 else (if o=3 then 0 else (if o=4 then 0 else (if o=5 then 1 else (if o=6 then 1 else (if o=7 then 2 else (if o=8 then 3 else (if o=9 then 1 else (if o=10 then 2 else (if o=11 then 2 else (if o=12 then 2 else (if o=13 then 2 else (if o=14 then 2 else (if o=16 then 2 else (if o=17 then 2 else (if o=18 then 2 else (if o=19 then 2 else (if o=20 then 2 else (if o=24 then 2 else (if o=15 then 1 else (if o=21 then 1 else (if o=22 then 1 else (if o=23 then 1 else (if o=25 then 2 else (if o=26 then 1 else 0))))))))))))))))))))))))))
def shS_r3(o:Int):Int:=(if o=1 then 0 else (if o=2 then 0 else (if o=3 then 0 else (if o=4 then 6 else (if o=5 then 6 else (if o=6 then 1 else (if o=7 then 2 else (if o=8 then 3 else (if o=9 then 1 else (if o=10 then 2 else (if o=11 then 2 else (if o=12 then 2 else (if o=13 then 2 else (if o=14 then 2 else (if o=16 then 2 else (if o=17 then 2 else (if o=18 then 2 else (if o=19 then 2 else (if o=20 then 2 else (if o=24 then 2 else (if o=15 then 1 else (if o=21 then 1 else (if o=22 then 1 else (if o=23 then 1 else (if o=25 then 7 else (if o=26 then 1 else 0))))))))))))))))))))))))))
def shS_r4(o:Int):Bool:=(if o=1 then false else (if o=2 then false else (if o=3 then false else (if o=4 then false else (if o=5 then false else (if o=6 then true else (if o=7 then false else (if o=8 then false else (if o=9 then false else (if o=10 then false else (if o=11 then false else (if o=12 then false else (if o=13 then false else (if o=14 then false else (if o=16 then false else (if o=17 then false else (if o=18 then false else (if o=19 then false else (if o=20 then false else (if o=24 then false else (if o=15 then false else (if o=21 then false else (if o=22 then false else (if o=23 then false else (if o=25 then false else (if o=26 then false else false))))))))))))))))))))))))))
def shS_r5(o:Int):Bool:=(if o=1 then false else (if o=2 then false else (if o=3 then false else (if o=4 then false else (if o=5 then false else (if o=6 then false else (if o=7 then false else (if o=8 then false else (if o=9 then true else (if o=10 then false else (if o=11 then false else (if o=12 then false else (if o=13 then false else (if o=14 then false else (if o=16 then false else (if o=17 then false else (if o=18 then false else (if o=19 then false else (if o=20 then false else (if o=24 then false else (if o=15 then false else (if o=21 then false else (if o=22 then false else (if o=23 then false else (if o=25 then false else (if o=26 then false else false))))))))))))))))))))))))))
def shS_r6(o:Int):Int:=(if o=1 then 0 else (if o=2 then 0 else (if o=3 then 0 else (if o=4 then 0 else (if o=5 then 0 else (if o=6 then 0 else (if o=7 then 0 else (if o=8 then 0 else (if o=9 then 0 else (if o=10 then 0 else (if o=11 then 0 else (if o=12 then 0 else (if o=13 then 0 else (if o=14 then 0 else (if o=16 then 0 else (if o=17 then 0 else (if o=18 then 0 else (if o=19 then 0 else (if o=20 then 0 else (if o=24 then 0 else (if o=15 then 0 else (if o=21 then 0 else (if o=22 then 0 else (if o=23 then 0 else (if o=25 then 0 else (if o=26 then 1 else 0))))))))))))))))))))))))))
def shS_r7(o:Int):Int:=(if o=1 then 0 else (if o=2 then 0 else (if o=3 then 0 else (if o=4 then 1073741824 else (if o=5 then 1073741824 else (if o=6 then 0 else (if o=7 then 1 else (if o=8 then 0 else (if o=9 then 0 else (if o=10 then 0 else (if o=11 then 0 else (if o=12 then 0 else (if o=13 then 0 else (if o=14 then 0 else (if o=16 then 0 else (if o=17 then 0 else (if o=18 then 0 else (if o=19 then 0 else (if o=20 then 0 else (if o=24 then 0 else (if o=15 then 0 else (if o=21 then 0 else (if o=22 then 0 else (if o=23 then 0 else (if o=25 then 0 else (if o=26 then 1 else 0))))))))))))))))))))))))))
def shS_r8(o:Int):Bool:=(if o=1 then false else (if o=2 then false else (if o=3 then false else (if o=4 then true else (if o=5 then true else (if o=6 then false else (if o=7 then true else (if o=8 then false else (if o=9 then false else (if o=10 then false else (if o=11 then false else (if o=12 then false else (if o=13 then false else (if o=14 then false else (if o=16 then false else (if o=17 then false else (if o=18 then false else (if o=19 then false else (if o=20 then false else (if o=24 then false else (if o=15 then false else (if o=21 then false else (if o=22 then false else (if o=23 then false else (if o=25 then false else (if o=26 then true else false))))))))))))))))))))))))))
def shS_r9(o:Int):Bool:=(if o=1 then true else (if o=2 then true else (if o=3 then true else (if o=4 then true else (if o=5 then true else (if o=6 then true else (if o=7 then true else (if o=8 then true else (if o=9 then true else (if o=10 then true else (if o=11 then true else (if o=12 then true else (if o=13 then true else (if o=14 then true else (if o=16 then true else (if o=17 then true else (if o=18 then true else (if o=19 then true else (if o=20 then true else (if o=24 then true else (if o=15 then true else (if o=21 then true else (if o=22 then true else (if o=23 then true else (if o=25 then true else (if o=26 then true else false))))))))))))))))))))))))))
theorem shS(o:Int):Pu 121 [pI o] (.ret (.tup [.agg [.bool (shS_r0 o),.bool (shS_r1 o),pI (shS_r2 o),pI (shS_r3 o),.bool (shS_r4 o),.bool (shS_r5 o),pI (shS_r6 o),pI (shS_r7 o),.bool (shS_r8 o)],.bool (shS_r9 o)])):=by
 refine t0 ?_;by_cases h0:o=1
 ·simp only [shS_r0,shS_r1,shS_r2,shS_r3,shS_r4,shS_r5,shS_r6,shS_r7,shS_r8,shS_r9,iP h0]; exact tM mdL [rp 2 (et1 h0)] func121
 ·refine tp [en1 h0] ?_;by_cases h1:o=2
  ·simp only [shS_r0,shS_r1,shS_r2,shS_r3,shS_r4,shS_r5,shS_r6,shS_r7,shS_r8,shS_r9,iN h0,iP h1]; exact tM mdL [et1 h1] func121
  ·refine tp [en1 h1] ?_;by_cases h2:o=3
   ·simp only [shS_r0,shS_r1,shS_r2,shS_r3,shS_r4,shS_r5,shS_r6,shS_r7,shS_r8,shS_r9,iN h0,iN h1,iP h2]; exact tM mdL [et1 h2] func121
   ·refine tp [en1 h2] ?_;by_cases h3:o=4
    ·simp only [shS_r0,shS_r1,shS_r2,shS_r3,shS_r4,shS_r5,shS_r6,shS_r7,shS_r8,shS_r9,iN h0,iN h1,iN h2,iP h3]; exact tM mdL [et1 h3] func121
    ·refine tp [en1 h3] ?_;by_cases h4:o=5
     ·simp only [shS_r0,shS_r1,shS_r2,shS_r3,shS_r4,shS_r5,shS_r6,shS_r7,shS_r8,shS_r9,iN h0,iN h1,iN h2,iN h3,iP h4]; exact tM mdL [et1 h4] func121
     ·refine tp [en1 h4] ?_;by_cases h5:o=6
      ·simp only [shS_r0,shS_r1,shS_r2,shS_r3,shS_r4,shS_r5,shS_r6,shS_r7,shS_r8,shS_r9,iN h0,iN h1,iN h2,iN h3,iN h4,iP h5]; exact tM mdL [et1 h5] func121
      ·refine tp [en1 h5] ?_;by_cases h6:o=7
       ·simp only [shS_r0,shS_r1,shS_r2,shS_r3,shS_r4,shS_r5,shS_r6,shS_r7,shS_r8,shS_r9,iN h0,iN h1,iN h2,iN h3,iN h4,iN h5,iP h6]; exact tM mdL [et1 h6] func121
       ·refine tp [en1 h6] ?_;by_cases h7:o=8
        ·simp only [shS_r0,shS_r1,shS_r2,shS_r3,shS_r4,shS_r5,shS_r6,shS_r7,shS_r8,shS_r9,iN h0,iN h1,iN h2,iN h3,iN h4,iN h5,iN h6,iP h7]; exact tM mdL [et1 h7] func121
        ·refine tp [en1 h7] ?_;by_cases h8:o=9
         ·simp only [shS_r0,shS_r1,shS_r2,shS_r3,shS_r4,shS_r5,shS_r6,shS_r7,shS_r8,shS_r9,iN h0,iN h1,iN h2,iN h3,iN h4,iN h5,iN h6,iN h7,iP h8]; exact tM mdL [et1 h8] func121
         ·refine tp [en1 h8] ?_;by_cases h9:o=10
          ·simp only [shS_r0,shS_r1,shS_r2,shS_r3,shS_r4,shS_r5,shS_r6,shS_r7,shS_r8,shS_r9,iN h0,iN h1,iN h2,iN h3,iN h4,iN h5,iN h6,iN h7,iN h8,iP h9]; exact tM mdL [rp 2 (et1 h9)] func121
          ·refine tp [en1 h9] ?_;by_cases h10:o=11
           ·simp only [shS_r0,shS_r1,shS_r2,shS_r3,shS_r4,shS_r5,shS_r6,shS_r7,shS_r8,shS_r9,iN h0,iN h1,iN h2,iN h3,iN h4,iN h5,iN h6,iN h7,iN h8,iN h9,iP h10]; exact tM mdL [rp 2 (et1 h10)] func121
           ·refine tp [en1 h10] ?_;by_cases h11:o=12
            ·simp only [shS_r0,shS_r1,shS_r2,shS_r3,shS_r4,shS_r5,shS_r6,shS_r7,shS_r8,shS_r9,iN h0,iN h1,iN h2,iN h3,iN h4,iN h5,iN h6,iN h7,iN h8,iN h9,iN h10,iP h11]; exact tM mdL [rp 2 (et1 h11)] func121
            ·refine tp [en1 h11] ?_;by_cases h12:o=13
             ·simp only [shS_r0,shS_r1,shS_r2,shS_r3,shS_r4,shS_r5,shS_r6,shS_r7,shS_r8,shS_r9,iN h0,iN h1,iN h2,iN h3,iN h4,iN h5,iN h6,iN h7,iN h8,iN h9,iN h10,iN h11,iP h12]; exact tM mdL [rp 2 (et1 h12)] func121
             ·refine tp [en1 h12] ?_;by_cases h13:o=14
              ·simp only [shS_r0,shS_r1,shS_r2,shS_r3,shS_r4,shS_r5,shS_r6,shS_r7,shS_r8,shS_r9,iN h0,iN h1,iN h2,iN h3,iN h4,iN h5,iN h6,iN h7,iN h8,iN h9,iN h10,iN h11,iN h12,iP h13]; exact tM mdL [rp 2 (et1 h13)] func121
              ·refine tp [en1 h13] ?_;by_cases h14:o=16
               ·simp only [shS_r0,shS_r1,shS_r2,shS_r3,shS_r4,shS_r5,shS_r6,shS_r7,shS_r8,shS_r9,iN h0,iN h1,iN h2,iN h3,iN h4,iN h5,iN h6,iN h7,iN h8,iN h9,iN h10,iN h11,iN h12,iN h13,iP h14]; exact tM mdL [rp 2 (et1 h14)] func121
               ·refine tp [en1 h14] ?_;by_cases h15:o=17
                ·simp only [shS_r0,shS_r1,shS_r2,shS_r3,shS_r4,shS_r5,shS_r6,shS_r7,shS_r8,shS_r9,iN h0,iN h1,iN h2,iN h3,iN h4,iN h5,iN h6,iN h7,iN h8,iN h9,iN h10,iN h11,iN h12,iN h13,iN h14,iP h15]; exact tM mdL [rp 2 (et1 h15)] func121
                ·refine tp [en1 h15] ?_;by_cases h16:o=18
                 ·simp only [shS_r0,shS_r1,shS_r2,shS_r3,shS_r4,shS_r5,shS_r6,shS_r7,shS_r8,shS_r9,iN h0,iN h1,iN h2,iN h3,iN h4,iN h5,iN h6,iN h7,iN h8,iN h9,iN h10,iN h11,iN h12,iN h13,iN h14,iN h15,iP h16]; exact tM mdL [rp 2 (et1 h16)] func121
                 ·refine tp [en1 h16] ?_;by_cases h17:o=19
                  ·simp only [shS_r0,shS_r1,shS_r2,shS_r3,shS_r4,shS_r5,shS_r6,shS_r7,shS_r8,shS_r9,iN h0,iN h1,iN h2,iN h3,iN h4,iN h5,iN h6,iN h7,iN h8,iN h9,iN h10,iN h11,iN h12,iN h13,iN h14,iN h15,iN h16,iP h17]; exact tM mdL [rp 2 (et1 h17)] func121
                  ·refine tp [en1 h17] ?_;by_cases h18:o=20
                   ·simp only [shS_r0,shS_r1,shS_r2,shS_r3,shS_r4,shS_r5,shS_r6,shS_r7,shS_r8,shS_r9,iN h0,iN h1,iN h2,iN h3,iN h4,iN h5,iN h6,iN h7,iN h8,iN h9,iN h10,iN h11,iN h12,iN h13,iN h14,iN h15,iN h16,iN h17,iP h18]; exact tM mdL [rp 2 (et1 h18)] func121
                   ·refine tp [en1 h18] ?_;by_cases h19:o=24
                    ·simp only [shS_r0,shS_r1,shS_r2,shS_r3,shS_r4,shS_r5,shS_r6,shS_r7,shS_r8,shS_r9,iN h0,iN h1,iN h2,iN h3,iN h4,iN h5,iN h6,iN h7,iN h8,iN h9,iN h10,iN h11,iN h12,iN h13,iN h14,iN h15,iN h16,iN h17,iN h18,iP h19]; exact tM mdL [et1 h19] func121
                    ·refine tp [en1 h19] ?_;by_cases h20:o=15
                     ·simp only [shS_r0,shS_r1,shS_r2,shS_r3,shS_r4,shS_r5,shS_r6,shS_r7,shS_r8,shS_r9,iN h0,iN h1,iN h2,iN h3,iN h4,iN h5,iN h6,iN h7,iN h8,iN h9,iN h10,iN h11,iN h12,iN h13,iN h14,iN h15,iN h16,iN h17,iN h18,iN h19,iP h20]; exact tM mdL [rp 2 (et1 h20)] func121
                     ·refine tp [en1 h20] ?_;by_cases h21:o=21
                      ·simp only [shS_r0,shS_r1,shS_r2,shS_r3,shS_r4,shS_r5,shS_r6,shS_r7,shS_r8,shS_r9,iN h0,iN h1,iN h2,iN h3,iN h4,iN h5,iN h6,iN h7,iN h8,iN h9,iN h10,iN h11,iN h12,iN h13,iN h14,iN h15,iN h16,iN h17,iN h18,iN h19,iN h20,iP h21]; exact tM mdL [rp 2 (et1 h21)] func121
                      ·refine tp [en1 h21] ?_;by_cases h22:o=22
                       ·simp only [shS_r0,shS_r1,shS_r2,shS_r3,shS_r4,shS_r5,shS_r6,shS_r7,shS_r8,shS_r9,iN h0,iN h1,iN h2,iN h3,iN h4,iN h5,iN h6,iN h7,iN h8,iN h9,iN h10,iN h11,iN h12,iN h13,iN h14,iN h15,iN h16,iN h17,iN h18,iN h19,iN h20,iN h21,iP h22]; exact tM mdL [rp 2 (et1 h22)] func121
                       ·refine tp [en1 h22] ?_;by_cases h23:o=23
                        ·simp only [shS_r0,shS_r1,shS_r2,shS_r3,shS_r4,shS_r5,shS_r6,shS_r7,shS_r8,shS_r9,iN h0,iN h1,iN h2,iN h3,iN h4,iN h5,iN h6,iN h7,iN h8,iN h9,iN h10,iN h11,iN h12,iN h13,iN h14,iN h15,iN h16,iN h17,iN h18,iN h19,iN h20,iN h21,iN h22,iP h23]; exact tM mdL [et1 h23] func121
                        ·refine tp [en1 h23] ?_;by_cases h24:o=25
                         ·simp only [shS_r0,shS_r1,shS_r2,shS_r3,shS_r4,shS_r5,shS_r6,shS_r7,shS_r8,shS_r9,iN h0,iN h1,iN h2,iN h3,iN h4,iN h5,iN h6,iN h7,iN h8,iN h9,iN h10,iN h11,iN h12,iN h13,iN h14,iN h15,iN h16,iN h17,iN h18,iN h19,iN h20,iN h21,iN h22,iN h23,iP h24]; exact tM mdL [et1 h24] func121
                         ·refine tp [en1 h24] ?_;by_cases h25:o=26
                          ·simp only [shS_r0,shS_r1,shS_r2,shS_r3,shS_r4,shS_r5,shS_r6,shS_r7,shS_r8,shS_r9,iN h0,iN h1,iN h2,iN h3,iN h4,iN h5,iN h6,iN h7,iN h8,iN h9,iN h10,iN h11,iN h12,iN h13,iN h14,iN h15,iN h16,iN h17,iN h18,iN h19,iN h20,iN h21,iN h22,iN h23,iN h24,iP h25]; exact tM mdL [et1 h25] func121
                          ·simp only [shS_r0,shS_r1,shS_r2,shS_r3,shS_r4,shS_r5,shS_r6,shS_r7,shS_r8,shS_r9,iN h0,iN h1,iN h2,iN h3,iN h4,iN h5,iN h6,iN h7,iN h8,iN h9,iN h10,iN h11,iN h12,iN h13,iN h14,iN h15,iN h16,iN h17,iN h18,iN h19,iN h20,iN h21,iN h22,iN h23,iN h24,iN h25]; exact tM mdL [en1 h25] func121
theorem ct1(w:Al):Pu 144 [.agg (alL w)] (rB (decide (((alNs w).length:Int)>6))):=
 pm mdL [sl (nmsC_len (alNs w))] func144
abbrev fm1I(t:Tp)(xe:Ext):S:=⟨[(1,.lp 1 0),(2,.v (.int .i64 0))],[(1,tpV t)],xe⟩
abbrev fm2I(t:Tp)(nmd:Bool)(xe:Ext):S:=⟨[(1,.lp 1 0),(2,.v (.int .i64 0)),(3,.v (.bool nmd))],[(1,tpV t)],xe⟩
abbrev fmI(t:Tp)(nmd cmp:Bool)(xe:Ext):S:=⟨[(1,.lp 1 0),(2,.v (.int .i64 0)),(3,.v (.bool nmd)),(4,.v (.bool cmp))],[(1,tpV t)],xe⟩
theorem fm1_1(t:Tp)(xe:Ext)(hx0:tpO t=4)(cx:Cx)(hcx:cx.n=102){Q:PExit->S->Prop}(hq:Q (.normal) (S.mk [(1,.lp 1 0),(2,vI6 0),(3,.v (.bool true))] [(1,tpV t)] xe)):PW prog cx (regF f151 1) (fm1I t xe) Q:=
 pw mdL 102 [rp 4 (et1 hx0)] [1,2,3] [1] hcx hq
theorem fm1_2(t:Tp)(xe:Ext)(hx0:¬tpO t=4)(cx:Cx)(hcx:cx.n=102){Q:PExit->S->Prop}(hq:Q (.normal) (S.mk [(1,.lp 1 0),(2,vI6 0),(3,.v (.bool (tpO t==5)))] [(1,tpV t)] xe)):PW prog cx (regF f151 1) (fm1I t xe) Q:=
 pw mdL 102 [rp 4 (en1 hx0)] [1,2,3] [1] hcx hq
def fm1_v3(t:Tp):Bool:=(if tpO t=4 then (true) else ((tpO t==5)))
theorem fm1J(t:Tp)(xe:Ext):(Ob.frag 102 (regF f151 1) (fm1I t xe) (.normal) (S.mk [(1,.lp 1 0),(2,vI6 0),(3,.v (.bool (fm1_v3 t)))] [(1,tpV t)] xe)).ok prog:=by
 intro cx hcx
 by_cases g0:tpO t=4
 ·exact fm1_1 t xe g0 cx hcx ⟨rfl,by rw [show fm1_v3 t=(true) by unfold fm1_v3; rw [iP g0]]⟩
 ·exact fm1_2 t xe g0 cx hcx ⟨rfl,by rw [show fm1_v3 t=((tpO t==5)) by unfold fm1_v3; rw [iN g0]]⟩
theorem fm2_1(t:Tp)(nmd:Bool)(xe:Ext)(hx0:tpO t=4)(cx:Cx)(hcx:cx.n=102){Q:PExit->S->Prop}(hq:Q (.normal) (S.mk [(1,.lp 1 0),(2,vI6 0),(3,.v (.bool nmd)),(4,.v (.bool true))] [(1,tpV t)] xe)):PW prog cx (regF f151 2) (fm2I t nmd xe) Q:=
 pw mdL 102 [rp 4 (et1 hx0)] [1,2,3,4] [1] hcx hq
theorem fm2_2(t:Tp)(nmd:Bool)(xe:Ext)(hx0:¬tpO t=4)(cx:Cx)(hcx:cx.n=102){Q:PExit->S->Prop}(hq:Q (.normal) (S.mk [(1,.lp 1 0),(2,vI6 0),(3,.v (.bool nmd)),(4,.v (.bool (tpO t==6)))] [(1,tpV t)] xe)):PW prog cx (regF f151 2) (fm2I t nmd xe) Q:=
 pw mdL 102 [rp 4 (en1 hx0)] [1,2,3,4] [1] hcx hq
def fm2_v4(t:Tp)(nmd:Bool):Bool:=(if tpO t=4 then (true) else ((tpO t==6)))
theorem fm2J(t:Tp)(nmd:Bool)(xe:Ext):(Ob.frag 102 (regF f151 2) (fm2I t nmd xe) (.normal) (S.mk [(1,.lp 1 0),(2,vI6 0),(3,.v (.bool nmd)),(4,.v (.bool (fm2_v4 t nmd)))] [(1,tpV t)] xe)).ok prog:=by
 intro cx hcx
 by_cases g0:tpO t=4
 ·exact fm2_1 t nmd xe g0 cx hcx ⟨rfl,by rw [show fm2_v4 t nmd=(true) by unfold fm2_v4; rw [iP g0]]⟩
 ·exact fm2_2 t nmd xe g0 cx hcx ⟨rfl,by rw [show fm2_v4 t nmd=((tpO t==6)) by unfold fm2_v4; rw [iN g0]]⟩
section
variable (t:Tp) (nmd cmp:Bool) (xe:Ext)
include t nmd cmp xe
theorem fm3_1(hx0:tpO t<1)(cx:Cx)(hcx:cx.n=102){Q:PExit->S->Prop}(hq:Q (.normal) (S.mk [(1,.lp 1 0),(2,vI6 0),(3,.v (.bool nmd)),(4,.v (.bool cmp)),(63,.v (.bool true))] [(1,tpV t)] xe)):PW prog cx (regF f151 3) (fmI t nmd cmp xe) Q:=
 pw mdL 102 [rp 4 (dt1 hx0),rp 20 (bt true)] [1,2,3,4,63] [1] hcx hq
theorem fm3_2(hx0:¬tpO t<1)(hx1:tpO t>6)(cx:Cx)(hcx:cx.n=102){Q:PExit->S->Prop}(hq:Q (.normal) (S.mk [(1,.lp 1 0),(2,vI6 0),(3,.v (.bool nmd)),(4,.v (.bool cmp)),(63,.v (.bool true))] [(1,tpV t)] xe)):PW prog cx (regF f151 3) (fmI t nmd cmp xe) Q:=
 pw mdL 102 [rp 4 (df1 hx0),rp 6 (dt1 hx1),rp 14 (bt true)] [1,2,3,4,63] [1] hcx hq
theorem fm3_3(hx0:¬tpO t<1)(hx1:¬tpO t>6)(hx2:¬tpNm t=ByteArray.mk #[])(hx3:nmd=false)(cx:Cx)(hcx:cx.n=102){Q:PExit->S->Prop}(hq:Q (.normal) (S.mk [(1,.lp 1 0),(2,vI6 0),(3,.v (.bool nmd)),(4,.v (.bool cmp)),(63,.v (.bool true))] [(1,tpV t)] xe)):PW prog cx (regF f151 3) (fmI t nmd cmp xe) Q:=
 pw mdL 102 [rp 4 (df1 hx0),rp 4 (df1 hx1),rp 2 (bt (!ByteArray.toList (tpNm t)==ByteArray.toList nm0) (bnT (bsF hx2))),df1 hx1,bt (!ByteArray.toList (tpNm t)==ByteArray.toList nm0) (bnT (bsF hx2)),df1 hx1,rp 7 (bt1 (bnT hx3)),rp 7 (bt true)] [1,2,3,4,63] [1] hcx hq
theorem fm3_4(hx0:¬tpO t<1)(hx1:¬tpO t>6)(hx2:¬tpNm t=ByteArray.mk #[])(hx3:nmd=true)(hx4:((tpA t).length:Int)>0)(hx5:cmp=false)(cx:Cx)(hcx:cx.n=102){Q:PExit->S->Prop}(hq:Q (.normal) (S.mk [(1,.lp 1 0),(2,vI6 0),(3,.v (.bool nmd)),(4,.v (.bool cmp)),(63,.v (.bool true))] [(1,tpV t)] xe)):PW prog cx (regF f151 3) (fmI t nmd cmp xe) Q:=
 pw mdL 102 [rp 4 (df1 hx0),rp 4 (df1 hx1),rp 2 (bt (!ByteArray.toList (tpNm t)==ByteArray.toList nm0) (bnT (bsF hx2))),df1 hx1,bt (!ByteArray.toList (tpNm t)==ByteArray.toList nm0) (bnT (bsF hx2)),df1 hx1,rp 3 (bf1 (bnF hx3)),sl (Tp.cs_len (tpA t)),rp 2 (bf1 (bnF hx3)),rp 2 (dt1 hx4),bf1 (bnF hx3),dt1 hx4,bf1 (bnF hx3),rp 7 (bt1 (bnT hx5))] [1,2,3,4,63] [1] hcx hq
theorem fm3_5(hx0:¬tpO t<1)(hx1:¬tpO t>6)(hx2:¬tpNm t=ByteArray.mk #[])(hx3:nmd=true)(hx4:((tpA t).length:Int)>0)(hx5:cmp=true)(hx6:((tpNs t).length:Int)>0)(cx:Cx)(hcx:cx.n=102){Q:PExit->S->Prop}(hq:Q (.normal) (S.mk [(1,.lp 1 0),(2,vI6 0),(3,.v (.bool nmd)),(4,.v (.bool cmp)),(63,.v (.bool (tpO t != 6)))] [(1,tpV t)] xe)):PW prog cx (regF f151 3) (fmI t nmd cmp xe) Q:=
 pw mdL 102 [rp 4 (df1 hx0),rp 4 (df1 hx1),rp 2 (bt (!ByteArray.toList (tpNm t)==ByteArray.toList nm0) (bnT (bsF hx2))),df1 hx1,bt (!ByteArray.toList (tpNm t)==ByteArray.toList nm0) (bnT (bsF hx2)),df1 hx1,rp 3 (bf1 (bnF hx3)),sl (Tp.cs_len (tpA t)),rp 2 (bf1 (bnF hx3)),rp 2 (dt1 hx4),bf1 (bnF hx3),dt1 hx4,bf1 (bnF hx3),rp 3 (bf1 (bnF hx5)),sl (nmsC_len (tpNs t)),rp 2 (bf1 (bnF hx5)),rp 3 (dt1 hx6),bf1 (bnF hx5),dt1 hx6,bf1 (bnF hx5)] [1,2,3,4,63] [1] hcx hq
theorem fm3_6(hx0:¬tpO t<1)(hx1:¬tpO t>6)(hx2:¬tpNm t=ByteArray.mk #[])(hx3:nmd=true)(hx4:((tpA t).length:Int)>0)(hx5:cmp=true)(hx6:¬((tpNs t).length:Int)>0)(cx:Cx)(hcx:cx.n=102){Q:PExit->S->Prop}(hq:Q (.normal) (S.mk [(1,.lp 1 0),(2,vI6 0),(3,.v (.bool nmd)),(4,.v (.bool cmp)),(63,.v (.bool false))] [(1,tpV t)] xe)):PW prog cx (regF f151 3) (fmI t nmd cmp xe) Q:=
 pw mdL 102 [rp 4 (df1 hx0),rp 4 (df1 hx1),rp 2 (bt (!ByteArray.toList (tpNm t)==ByteArray.toList nm0) (bnT (bsF hx2))),df1 hx1,bt (!ByteArray.toList (tpNm t)==ByteArray.toList nm0) (bnT (bsF hx2)),df1 hx1,rp 3 (bf1 (bnF hx3)),sl (Tp.cs_len (tpA t)),rp 2 (bf1 (bnF hx3)),rp 2 (dt1 hx4),bf1 (bnF hx3),dt1 hx4,bf1 (bnF hx3),rp 3 (bf1 (bnF hx5)),sl (nmsC_len (tpNs t)),rp 2 (bf1 (bnF hx5)),rp 3 (df1 hx6),bf1 (bnF hx5),df1 hx6,bf1 (bnF hx5)] [1,2,3,4,63] [1] hcx hq
theorem fm3_7(hx0:¬tpO t<1)(hx1:¬tpO t>6)(hx2:¬tpNm t=ByteArray.mk #[])(hx3:nmd=true)(hx4:¬((tpA t).length:Int)>0)(hx5:((tpNs t).length:Int)>0)(cx:Cx)(hcx:cx.n=102){Q:PExit->S->Prop}(hq:Q (.normal) (S.mk [(1,.lp 1 0),(2,vI6 0),(3,.v (.bool nmd)),(4,.v (.bool cmp)),(63,.v (.bool (tpO t != 6)))] [(1,tpV t)] xe)):PW prog cx (regF f151 3) (fmI t nmd cmp xe) Q:=
 pw mdL 102 [rp 4 (df1 hx0),rp 4 (df1 hx1),rp 2 (bt (!ByteArray.toList (tpNm t)==ByteArray.toList nm0) (bnT (bsF hx2))),df1 hx1,bt (!ByteArray.toList (tpNm t)==ByteArray.toList nm0) (bnT (bsF hx2)),df1 hx1,rp 3 (bf1 (bnF hx3)),sl (Tp.cs_len (tpA t)),rp 2 (bf1 (bnF hx3)),rp 2 (df1 hx4),bf1 (bnF hx3),df1 hx4,bf1 (bnF hx3),rp 3 (bf false),sl (nmsC_len (tpNs t)),rp 2 (bf false),rp 3 (dt1 hx5),bf false,dt1 hx5,bf false] [1,2,3,4,63] [1] hcx hq
theorem fm3_8(hx0:¬tpO t<1)(hx1:¬tpO t>6)(hx2:¬tpNm t=ByteArray.mk #[])(hx3:nmd=true)(hx4:¬((tpA t).length:Int)>0)(hx5:¬((tpNs t).length:Int)>0)(cx:Cx)(hcx:cx.n=102){Q:PExit->S->Prop}(hq:Q (.normal) (S.mk [(1,.lp 1 0),(2,vI6 0),(3,.v (.bool nmd)),(4,.v (.bool cmp)),(63,.v (.bool false))] [(1,tpV t)] xe)):PW prog cx (regF f151 3) (fmI t nmd cmp xe) Q:=
 pw mdL 102 [rp 4 (df1 hx0),rp 4 (df1 hx1),rp 2 (bt (!ByteArray.toList (tpNm t)==ByteArray.toList nm0) (bnT (bsF hx2))),df1 hx1,bt (!ByteArray.toList (tpNm t)==ByteArray.toList nm0) (bnT (bsF hx2)),df1 hx1,rp 3 (bf1 (bnF hx3)),sl (Tp.cs_len (tpA t)),rp 2 (bf1 (bnF hx3)),rp 2 (df1 hx4),bf1 (bnF hx3),df1 hx4,bf1 (bnF hx3),rp 3 (bf false),sl (nmsC_len (tpNs t)),rp 2 (bf false),rp 3 (df1 hx5),bf false,df1 hx5,bf false] [1,2,3,4,63] [1] hcx hq
theorem fm3_9(hx0:¬tpO t<1)(hx1:¬tpO t>6)(hx2:tpNm t=ByteArray.mk #[])(hx3:((tpA t).length:Int)>0)(hx4:cmp=false)(cx:Cx)(hcx:cx.n=102){Q:PExit->S->Prop}(hq:Q (.normal) (S.mk [(1,.lp 1 0),(2,vI6 0),(3,.v (.bool nmd)),(4,.v (.bool cmp)),(63,.v (.bool true))] [(1,tpV t)] xe)):PW prog cx (regF f151 3) (fmI t nmd cmp xe) Q:=
 pw mdL 102 [rp 4 (df1 hx0),rp 4 (df1 hx1),rp 2 (bf (!ByteArray.toList (tpNm t)==ByteArray.toList nm0) (bnF (bsT hx2))),df1 hx1,bf (!ByteArray.toList (tpNm t)==ByteArray.toList nm0) (bnF (bsT hx2)),df1 hx1,rp 3 (bf false),sl (Tp.cs_len (tpA t)),rp 2 (bf false),rp 2 (dt1 hx3),bf false,dt1 hx3,bf false,rp 7 (bt1 (bnT hx4))] [1,2,3,4,63] [1] hcx hq
theorem fm3_10(hx0:¬tpO t<1)(hx1:¬tpO t>6)(hx2:tpNm t=ByteArray.mk #[])(hx3:((tpA t).length:Int)>0)(hx4:cmp=true)(hx5:((tpNs t).length:Int)>0)(cx:Cx)(hcx:cx.n=102){Q:PExit->S->Prop}(hq:Q (.normal) (S.mk [(1,.lp 1 0),(2,vI6 0),(3,.v (.bool nmd)),(4,.v (.bool cmp)),(63,.v (.bool (tpO t != 6)))] [(1,tpV t)] xe)):PW prog cx (regF f151 3) (fmI t nmd cmp xe) Q:=
 pw mdL 102 [rp 4 (df1 hx0),rp 4 (df1 hx1),rp 2 (bf (!ByteArray.toList (tpNm t)==ByteArray.toList nm0) (bnF (bsT hx2))),df1 hx1,bf (!ByteArray.toList (tpNm t)==ByteArray.toList nm0) (bnF (bsT hx2)),df1 hx1,rp 3 (bf false),sl (Tp.cs_len (tpA t)),rp 2 (bf false),rp 2 (dt1 hx3),bf false,dt1 hx3,bf false,rp 3 (bf1 (bnF hx4)),sl (nmsC_len (tpNs t)),rp 2 (bf1 (bnF hx4)),rp 3 (dt1 hx5),bf1 (bnF hx4),dt1 hx5,bf1 (bnF hx4)] [1,2,3,4,63] [1] hcx hq
theorem fm3_11(hx0:¬tpO t<1)(hx1:¬tpO t>6)(hx2:tpNm t=ByteArray.mk #[])(hx3:((tpA t).length:Int)>0)(hx4:cmp=true)(hx5:¬((tpNs t).length:Int)>0)(cx:Cx)(hcx:cx.n=102){Q:PExit->S->Prop}(hq:Q (.normal) (S.mk [(1,.lp 1 0),(2,vI6 0),(3,.v (.bool nmd)),(4,.v (.bool cmp)),(63,.v (.bool false))] [(1,tpV t)] xe)):PW prog cx (regF f151 3) (fmI t nmd cmp xe) Q:=
 pw mdL 102 [rp 4 (df1 hx0),rp 4 (df1 hx1),rp 2 (bf (!ByteArray.toList (tpNm t)==ByteArray.toList nm0) (bnF (bsT hx2))),df1 hx1,bf (!ByteArray.toList (tpNm t)==ByteArray.toList nm0) (bnF (bsT hx2)),df1 hx1,rp 3 (bf false),sl (Tp.cs_len (tpA t)),rp 2 (bf false),rp 2 (dt1 hx3),bf false,dt1 hx3,bf false,rp 3 (bf1 (bnF hx4)),sl (nmsC_len (tpNs t)),rp 2 (bf1 (bnF hx4)),rp 3 (df1 hx5),bf1 (bnF hx4),df1 hx5,bf1 (bnF hx4)] [1,2,3,4,63] [1] hcx hq
theorem fm3_12(hx0:¬tpO t<1)(hx1:¬tpO t>6)(hx2:tpNm t=ByteArray.mk #[])(hx3:¬((tpA t).length:Int)>0)(hx4:((tpNs t).length:Int)>0)(cx:Cx)(hcx:cx.n=102){Q:PExit->S->Prop}(hq:Q (.normal) (S.mk [(1,.lp 1 0),(2,vI6 0),(3,.v (.bool nmd)),(4,.v (.bool cmp)),(63,.v (.bool (tpO t != 6)))] [(1,tpV t)] xe)):PW prog cx (regF f151 3) (fmI t nmd cmp xe) Q:=
 pw mdL 102 [rp 4 (df1 hx0),rp 4 (df1 hx1),rp 2 (bf (!ByteArray.toList (tpNm t)==ByteArray.toList nm0) (bnF (bsT hx2))),df1 hx1,bf (!ByteArray.toList (tpNm t)==ByteArray.toList nm0) (bnF (bsT hx2)),df1 hx1,rp 3 (bf false),sl (Tp.cs_len (tpA t)),rp 2 (bf false),rp 2 (df1 hx3),bf false,df1 hx3,rp 4 (bf false),sl (nmsC_len (tpNs t)),rp 2 (bf false),rp 3 (dt1 hx4),bf false,dt1 hx4,bf false] [1,2,3,4,63] [1] hcx hq
theorem fm3_13(hx0:¬tpO t<1)(hx1:¬tpO t>6)(hx2:tpNm t=ByteArray.mk #[])(hx3:¬((tpA t).length:Int)>0)(hx4:¬((tpNs t).length:Int)>0)(cx:Cx)(hcx:cx.n=102){Q:PExit->S->Prop}(hq:Q (.normal) (S.mk [(1,.lp 1 0),(2,vI6 0),(3,.v (.bool nmd)),(4,.v (.bool cmp)),(63,.v (.bool false))] [(1,tpV t)] xe)):PW prog cx (regF f151 3) (fmI t nmd cmp xe) Q:=
 pw mdL 102 [rp 4 (df1 hx0),rp 4 (df1 hx1),rp 2 (bf (!ByteArray.toList (tpNm t)==ByteArray.toList nm0) (bnF (bsT hx2))),df1 hx1,bf (!ByteArray.toList (tpNm t)==ByteArray.toList nm0) (bnF (bsT hx2)),df1 hx1,rp 3 (bf false),sl (Tp.cs_len (tpA t)),rp 2 (bf false),rp 2 (df1 hx3),bf false,df1 hx3,rp 4 (bf false),sl (nmsC_len (tpNs t)),rp 2 (bf false),rp 3 (df1 hx4),bf false,df1 hx4,bf false] [1,2,3,4,63] [1] hcx hq
end
def fm3_v63(t:Tp)(nmd cmp:Bool):Bool:=(if tpO t<1 then (true) else (if tpO t>6 then (true) else (if tpNm t=ByteArray.mk #[] then (if ((tpA t).length:Int)>0 then (if cmp=true then (if ((tpNs t).length:Int)>0 then ((tpO t != 6)) else (false)) else (true)) else (if ((tpNs t).length:Int)>0 then ((tpO t != 6)) else (false))) else (if nmd=true then (if ((tpA t).length:Int)>0 then (if cmp=true then (if ((tpNs t).length:Int)>0 then ((tpO t != 6)) else (false)) else (true)) else (if ((tpNs t).length:Int)>0 then ((tpO t != 6)) else (false))) else (true)))))
theorem fm3J(t:Tp)(nmd cmp:Bool)(xe:Ext):(Ob.frag 102 (regF f151 3) (fmI t nmd cmp xe) (.normal) (S.mk [(1,.lp 1 0),(2,vI6 0),(3,.v (.bool nmd)),(4,.v (.bool cmp)),(63,.v (.bool (fm3_v63 t nmd cmp)))] [(1,tpV t)] xe)).ok prog:=by
 intro cx hcx
 by_cases g0:tpO t<1
 ·exact fm3_1 t nmd cmp xe g0 cx hcx ⟨rfl,by rw [show fm3_v63 t nmd cmp=(true) by unfold fm3_v63; rw [iP g0]]⟩
 ·by_cases g1:tpO t>6
  ·exact fm3_2 t nmd cmp xe g0 g1 cx hcx ⟨rfl,by rw [show fm3_v63 t nmd cmp=(true) by unfold fm3_v63; rw [iN g0,iP g1]]⟩
  ·by_cases g2:tpNm t=ByteArray.mk #[]
   ·by_cases g3:((tpA t).length:Int)>0
    ·by_cases g4:cmp=true
     ·by_cases g5:((tpNs t).length:Int)>0
      ·exact fm3_10 t nmd cmp xe g0 g1 g2 g3 g4 g5 cx hcx ⟨rfl,by rw [show fm3_v63 t nmd cmp=((tpO t != 6)) by unfold fm3_v63; rw [iN g0,iN g1,iP g2,iP g3,iP g4,iP g5]]⟩
      ·exact fm3_11 t nmd cmp xe g0 g1 g2 g3 g4 g5 cx hcx ⟨rfl,by rw [show fm3_v63 t nmd cmp=(false) by unfold fm3_v63; rw [iN g0,iN g1,iP g2,iP g3,iP g4,iN g5]]⟩
     ·exact fm3_9 t nmd cmp xe g0 g1 g2 g3 (Bool.eq_false_iff.2 g4) cx hcx ⟨rfl,by rw [show fm3_v63 t nmd cmp=(true) by unfold fm3_v63; rw [iN g0,iN g1,iP g2,iP g3,iN g4]]⟩
    ·by_cases g4:((tpNs t).length:Int)>0
     ·exact fm3_12 t nmd cmp xe g0 g1 g2 g3 g4 cx hcx ⟨rfl,by rw [show fm3_v63 t nmd cmp=((tpO t != 6)) by unfold fm3_v63; rw [iN g0,iN g1,iP g2,iN g3,iP g4]]⟩
     ·exact fm3_13 t nmd cmp xe g0 g1 g2 g3 g4 cx hcx ⟨rfl,by rw [show fm3_v63 t nmd cmp=(false) by unfold fm3_v63; rw [iN g0,iN g1,iP g2,iN g3,iN g4]]⟩
   ·by_cases g3:nmd=true
    ·by_cases g4:((tpA t).length:Int)>0
     ·by_cases g5:cmp=true
      ·by_cases g6:((tpNs t).length:Int)>0
       ·exact fm3_5 t nmd cmp xe g0 g1 g2 g3 g4 g5 g6 cx hcx ⟨rfl,by rw [show fm3_v63 t nmd cmp=((tpO t != 6)) by unfold fm3_v63; rw [iN g0,iN g1,iN g2,iP g3,iP g4,iP g5,iP g6]]⟩
       ·exact fm3_6 t nmd cmp xe g0 g1 g2 g3 g4 g5 g6 cx hcx ⟨rfl,by rw [show fm3_v63 t nmd cmp=(false) by unfold fm3_v63; rw [iN g0,iN g1,iN g2,iP g3,iP g4,iP g5,iN g6]]⟩
      ·exact fm3_4 t nmd cmp xe g0 g1 g2 g3 g4 (Bool.eq_false_iff.2 g5) cx hcx ⟨rfl,by rw [show fm3_v63 t nmd cmp=(true) by unfold fm3_v63; rw [iN g0,iN g1,iN g2,iP g3,iP g4,iN g5]]⟩
     ·by_cases g5:((tpNs t).length:Int)>0
      ·exact fm3_7 t nmd cmp xe g0 g1 g2 g3 g4 g5 cx hcx ⟨rfl,by rw [show fm3_v63 t nmd cmp=((tpO t != 6)) by unfold fm3_v63; rw [iN g0,iN g1,iN g2,iP g3,iN g4,iP g5]]⟩
      ·exact fm3_8 t nmd cmp xe g0 g1 g2 g3 g4 g5 cx hcx ⟨rfl,by rw [show fm3_v63 t nmd cmp=(false) by unfold fm3_v63; rw [iN g0,iN g1,iN g2,iP g3,iN g4,iN g5]]⟩
    ·exact fm3_3 t nmd cmp xe g0 g1 g2 (Bool.eq_false_iff.2 g3) cx hcx ⟨rfl,by rw [show fm3_v63 t nmd cmp=(true) by unfold fm3_v63; rw [iN g0,iN g1,iN g2,iN g3]]⟩
section
variable (t:Tp) (xe:Ext) (hn:erN (coreB (tpNm t))=0)
include t xe hn
theorem fm11_1(hx0:(↑(UInt8.toNat (List.getD (Array.toList (ByteArray.data (tpNm t))) 0 default)):Int)>=65)(cx:Cx)(hcx:cx.n=102){Q:PExit->S->Prop}(hq:Q (.normal) (S.mk [(1,.lp 1 0),(2,vI6 0),(6,.v (.bool (decide ((↑(UInt8.toNat (List.getD (Array.toList (ByteArray.data (tpNm t))) 0 default)):Int)<=90))))] [(1,tpV t)] xe)):PW prog cx (regF f151 11) (fm1I t xe) Q:=
 pw mdL 102 [am ((0:Int)<=0/\0<(↑(ByteArray.size (tpNm t)):Int)) (by (apply core_pos <;> first | assumption | omega | decide)),xBy (tpNm t) 0,rp 3 (dt1 hx0),am ((0:Int)<=0/\0<(↑(ByteArray.size (tpNm t)):Int)) (by (apply core_pos <;> first | assumption | omega | decide)),xBy (tpNm t) 0,rp 2 (dt1 hx0)] [1,2,6] [1] hcx hq
theorem fm11_2(hx0:¬(↑(UInt8.toNat (List.getD (Array.toList (ByteArray.data (tpNm t))) 0 default)):Int)>=65)(cx:Cx)(hcx:cx.n=102){Q:PExit->S->Prop}(hq:Q (.normal) (S.mk [(1,.lp 1 0),(2,vI6 0),(6,.v (.bool false))] [(1,tpV t)] xe)):PW prog cx (regF f151 11) (fm1I t xe) Q:=
 pw mdL 102 [am ((0:Int)<=0/\0<(↑(ByteArray.size (tpNm t)):Int)) (by (apply core_pos <;> first | assumption | omega | decide)),xBy (tpNm t) 0,rp 5 (df1 hx0)] [1,2,6] [1] hcx hq
end
def fm11_v6(t:Tp):Bool:=(if (↑(UInt8.toNat (List.getD (Array.toList (ByteArray.data (tpNm t))) 0 default)):Int)>=65 then ((decide ((↑(UInt8.toNat (List.getD (Array.toList (ByteArray.data (tpNm t))) 0 default)):Int)<=90))) else (false))
theorem fm11J(t:Tp)(xe:Ext)(hn:erN (coreB (tpNm t))=0):(Ob.frag 102 (regF f151 11) (fm1I t xe) (.normal) (S.mk [(1,.lp 1 0),(2,vI6 0),(6,.v (.bool (fm11_v6 t)))] [(1,tpV t)] xe)).ok prog:=by
 intro cx hcx
 by_cases g0:(↑(UInt8.toNat (List.getD (Array.toList (ByteArray.data (tpNm t))) 0 default)):Int)>=65
 ·exact fm11_1 t xe hn g0 cx hcx ⟨rfl,by rw [show fm11_v6 t=((decide ((↑(UInt8.toNat (List.getD (Array.toList (ByteArray.data (tpNm t))) 0 default)):Int)<=90))) by unfold fm11_v6; rw [iP g0]]⟩
 ·exact fm11_2 t xe hn g0 cx hcx ⟨rfl,by rw [show fm11_v6 t=(false) by unfold fm11_v6; rw [iN g0]]⟩
theorem ctcT(l:List Al)(hN:l.length<=1000000000):Pu 143 [.sl 9 (Al.cs l),.fn (.func 144) [] []] (.ret (.bool (decide (fxE (fun w=>decide ((alNs w).length>(6:Int))) l>=0)))):=cfA l 144 [] _ (fun w _=>ct1 w) hN
def ctS_r0(u:Ex)(c:Int)(d:Int)(m:Bool)(o:Bool)(g:Int)(k:Int):Bool:=(if ((exK u).length:Int)<c then false else (if ((exK u).length:Int)>d then false else (if ((exT u).length:Int)<g then false else (if ((exT u).length:Int)>k then false else (if m=true then (if ((exP u).length:Int)<1 then false else (if ((exP u).length:Int)>6 then false else (if o=true then (if ((exA u).length:Int)<1 then false else (if ((exA u).length:Int)>8 then false else (!decide (fxE (fun w=>decide (((alNs w).length:Int)>6)) (exA u)>=0)))) else (!decide (fxE (fun w=>decide (((alNs w).length:Int)>6)) (exA u)>=0))))) else (if o=true then (if ((exA u).length:Int)<1 then false else (if ((exA u).length:Int)>8 then false else (!decide (fxE (fun w=>decide (((alNs w).length:Int)>6)) (exA u)>=0)))) else (!decide (fxE (fun w=>decide (((alNs w).length:Int)>6)) (exA u)>=0))))))))
theorem ctS(u:Ex)(a b:Bool)(c d:Int)(m o:Bool)(g k:Int)(t:Bool)(hN:(exA u).length<=1000000000):Pu 122 [.agg (exL u),.agg (shL a b c d m o g k t)] (rB (ctS_r0 u c d m o g k)):=by
 refine t0 ?_;refine tp [sl (Ex.cs_len (exK u))] ?_;by_cases h0:((exK u).length:Int)<c
 ·simp only [ctS_r0,iP h0]; exact tM mdL [rp 7 (dt1 h0),rp 15 (bt true)] func122
 ·refine tp [rp 3 (df1 h0),sl (Ex.cs_len (exK u)),rp 4 (df1 h0)] ?_;by_cases h1:((exK u).length:Int)>d
  ·simp only [ctS_r0,iN h0,iP h1]; exact tM mdL [rp 7 (dt1 h1),rp 8 (bt true)] func122
  ·refine tp [rp 3 (df1 h1),sl (Tp.cs_len (exT u)),rp 4 (df1 h1)] ?_;by_cases h2:((exT u).length:Int)<g
   ·simp only [ctS_r0,iN h0,iN h1,iP h2]; exact tM mdL [rp 7 (dt1 h2),bt true] func122
   ·refine tp [rp 3 (df1 h2),sl (Tp.cs_len (exT u)),rp 4 (df1 h2)] ?_;by_cases h3:((exT u).length:Int)>k
    ·simp only [ctS_r0,iN h0,iN h1,iN h2,iP h3]; exact tM mdL [dt1 h3] func122
    ·refine tp [df1 h3] ?_;by_cases h4:m=true
     ·refine tp [rp 3 (bt1 h4),sl (Pm.cs_len (exP u)),rp 2 (bt1 h4)] ?_;by_cases h5:((exP u).length:Int)<1
      ·simp only [ctS_r0,iN h0,iN h1,iN h2,iN h3,iP h4,iP h5]; exact tM mdL [rp 4 (dt1 h5),bt1 h4,dt1 h5,bt1 h4,rp 6 (bt true)] func122
      ·refine tp [rp 3 (df1 h5),sl (Pm.cs_len (exP u)),df1 h5,bt1 h4,df1 h5,bt1 h4] ?_;by_cases h6:((exP u).length:Int)>6
       ·simp only [ctS_r0,iN h0,iN h1,iN h2,iN h3,iP h4,iN h5,iP h6]; exact tM mdL [rp 5 (dt1 h6),bt true] func122
       ·refine tp [rp 3 (df1 h6)] ?_;by_cases h7:o=true
        ·refine tp [rp 3 (bt1 h7),sl (Al.cs_len (exA u)),rp 2 (bt1 h7)] ?_;by_cases h8:((exA u).length:Int)<1
         ·simp only [ctS_r0,iN h0,iN h1,iN h2,iN h3,iP h4,iN h5,iN h6,iP h7,iP h8]; exact tM mdL [rp 4 (dt1 h8),bt1 h7,dt1 h8,df1 h6,bt1 h7,df1 h6,bt true] func122
         ·refine tp [rp 3 (df1 h8),sl (Al.cs_len (exA u)),df1 h8,bt1 h7,df1 h8,df1 h6,bt1 h7,df1 h6] ?_;by_cases h9:((exA u).length:Int)>8
          ·simp only [ctS_r0,iN h0,iN h1,iN h2,iN h3,iP h4,iN h5,iN h6,iP h7,iN h8,iP h9]; exact tM mdL [dt1 h9] func122
          ·simp only [ctS_r0,iN h0,iN h1,iN h2,iN h3,iP h4,iN h5,iN h6,iP h7,iN h8,iN h9]; exact tM mdL [df1 h9,cl (@ctcT (exA u) hN)] func122
        ·simp only [ctS_r0,iN h0,iN h1,iN h2,iN h3,iP h4,iN h5,iN h6,iN h7]; exact tM mdL [rp 6 (bf1 (bFT h7)),df1 h6,bf1 (bFT h7),df1 h6,bf false,cl (@ctcT (exA u) hN)] func122
     ·refine tp [rp 7 (bf1 (bFT h4)),rp 3 (bf false)] ?_;by_cases h5:o=true
      ·refine tp [rp 3 (bt1 h5),sl (Al.cs_len (exA u)),rp 2 (bt1 h5)] ?_;by_cases h6:((exA u).length:Int)<1
       ·simp only [ctS_r0,iN h0,iN h1,iN h2,iN h3,iN h4,iP h5,iP h6]; exact tM mdL [rp 4 (dt1 h6),bt1 h5,dt1 h6,bf false,bt1 h5,bf false,bt true] func122
       ·refine tp [rp 3 (df1 h6),sl (Al.cs_len (exA u)),df1 h6,bt1 h5,df1 h6,bf false,bt1 h5,bf false] ?_;by_cases h7:((exA u).length:Int)>8
        ·simp only [ctS_r0,iN h0,iN h1,iN h2,iN h3,iN h4,iP h5,iN h6,iP h7]; exact tM mdL [dt1 h7] func122
        ·simp only [ctS_r0,iN h0,iN h1,iN h2,iN h3,iN h4,iP h5,iN h6,iN h7]; exact tM mdL [df1 h7,cl (@ctcT (exA u) hN)] func122
      ·simp only [ctS_r0,iN h0,iN h1,iN h2,iN h3,iN h4,iN h5]; exact tM mdL [rp 6 (bf1 (bFT h5)),bf false,bf1 (bFT h5),rp 2 (bf false),cl (@ctcT (exA u) hN)] func122
theorem nam1(w:BA):Pu 149 [.str w] (rB (erN (coreB w) != 0)):=
 pm mdL [cl (@nCoT w)] func149
theorem namT(l:List BA)(hN:l.length<=1000000000):Pu 148 [.sl 1 (nmsC l),.fn (.func 149) [] []] (.ret (.bool (decide (fxE (fun w=>erN (coreB w) != 0) l>=0)))):=cfN l 149 [] _ (fun w _=>nam1 w) hN
def altN:List Al->Nat
 | []=>0
 | a::r=>(alNs a).length+1+altN r
theorem altN_drop(l:List Al)(i:Nat)(h:i<l.length):altN (l.drop i)=(alNs (l.getD i default)).length+1+altN (l.drop (i+1)):=by
 rw [List.drop_eq_getElem_cons h,altN]; simp [List.getD,h]
theorem nm_step{u:Ex}{l:List BA}{i:Nat}(h:l.length+altN ((exA u).drop i)<=1000000000)(hi:i<(exA u).length):(l++[alC ((exA u).getD i default)]++alNs ((exA u).getD i default)).length+altN ((exA u).drop (i+1))<=1000000000:=by
 have:=altN_drop (exA u) i hi
 simp only [List.length_append,List.length_cons,List.length_nil]; omega
theorem nm_le{u:Ex}{l:List BA}{i:Nat}(h:l.length+altN ((exA u).drop i)<=1000000000)(hi:i<(exA u).length):(alNs ((exA u).getD i default)).length<=1000000000:=by
 have:=altN_drop (exA u) i hi; omega
theorem nm_p{u:Ex}{l:List BA}{i:Nat}(h:l.length+altN ((exA u).drop i)<=1000000000)(hi:i<(exA u).length):l.length+((alNs ((exA u).getD i default)).length+1)<=1000000000:=by
 have:=altN_drop (exA u) i hi; omega
theorem nm_q{u:Ex}{l:List BA}{i:Nat}(h:l.length+altN ((exA u).drop i)<=1000000000)(hi:i<(exA u).length):(nmsC l++[[PV.str (alC ((exA u).getD i default))]]++nmsC (alNs ((exA u).getD i default))).length * (15+1)<=140737488355328:=by
 have:=altN_drop (exA u) i hi
 simp only [List.length_append,List.length_cons,List.length_nil,nmsC_len]; omega
abbrev nmA_I(u:Ex)(a:Bool)(b:Bool)(c:Int)(d:Int)(m:Bool)(o:Bool)(g:Int)(k:Int)(t:Bool)(j:Int)(l:List BA)(z:Bool)(e:Ext):S:=S.mk [(4,vI6 0),(5,.uniq 9 1 (nmsC l)),(6,.v (.bool z)),(30,vL 9 (Al.cs (exA u))),(31,vI6 ((exA u).length:Int)),(32,vI6 j)] [] e
def nmA_f  : List Al->(List BA)->(Bool)->(List BA) × (Bool)
 | [],l,z=>(l,z)
 | el::r,l,z=>(if z=true then nmA_f  r (l++[alC el]++alNs el) (true) else nmA_f  r (l++[alC el]++alNs el) (!disB (alNs el)))
def nmA_q(u:Ex)(a:Bool)(b:Bool)(c:Int)(d:Int)(m:Bool)(o:Bool)(g:Int)(k:Int)(t:Bool)(e:Ext)(p:(List BA) × (Bool)):PExit × S:=(.exit 0,S.mk [(4,vI6 0),(5,.uniq 9 1 (nmsC (Prod.fst p))),(6,.v (.bool (Prod.snd p))),(30,vL 9 (Al.cs (exA u))),(31,vI6 ((exA u).length:Int))] [] e)
theorem nmA(u:Ex)(a b:Bool)(c d:Int)(m o:Bool)(g k:Int)(t:Bool)(hP:(exP u).length<=1000000000)(hP2:(bdA_f (exP u) []).length<=100000000)(hA2:(coA_f (exA u) []).length<=1000000000)(l:List BA)(z:Bool)(e:Ext)(hN:(exA u).length<=1000000000)(hv:List.length l+altN (List.drop 0 (exA u))<=1000000000):(Ob.loop 54 (loopF f123 0) (nmA_I u a b c d m o g k t 0 l z e) (nmA_q u a b c d m o g k t e (nmA_f  ((exA u))  l z)).1 (nmA_q u a b c d m o g k t e (nmA_f  ((exA u))  l z)).2).ok prog:=by
 refine rng ((exA u).length) (fun j zz=>nmA_I u a b c d m o g k t j zz.1 zz.2 e) (fun i zz=>nmA_f  (List.drop i ((exA u)))  zz.1 zz.2) (nmA_q u a b c d m o g k t e) (fun i zz=>(fun (i:Nat) (l:List BA) (z:Bool)=>(l.length+altN ((exA u).drop i)<=1000000000)) i zz.1 zz.2) kR ?_ (l,z) (by first | exact hv | omega)
 rintro i ⟨l,z⟩ hi hv
 try simp only at hv
 rcases Nat.lt_or_ge i ((exA u).length) with hlt | hge
 ·have hd:=drop_at hlt
  refine t0 ?_;refine tp [rgAl hlt,am (List.length (nmsC l++[[.str (alC (List.getD (exA u) i default))]]) * (15+1)<=140737488355328) (by (simp only [List.length_append,List.length_cons,List.length_nil,nmsC_len]; omega)),am (List.length (nmsC l++[[.str (alC (List.getD (exA u) i default))]]++(fun x=>Prod.snd x) (1,nmsC (alNs (List.getD (exA u) i default)))) * (15+1)<=140737488355328) (by (apply nm_q <;> first | assumption | omega | decide))] ?_;by_cases h0:z=true
  ·exact tS mdL [rp 4 (bt1 h0),wr ((i:Int)+1)] [4,5,6,30,31,32] [] hlt ((l++[alC (List.getD (exA u) i default)]++alNs (List.getD (exA u) i default)),(true)) (S.mk [(4,vI6 0),(5,.uniq 9 1 (nmsC l++[[PV.str (alC (List.getD (exA u) i default))]]++nmsC (alNs (List.getD (exA u) i default)))),(6,.v (.bool true)),(30,vL 9 (Al.cs (exA u))),(31,vI6 ((exA u).length:Int)),(32,vI6 ((i:Int)+1))] [] e) ⟨⟨W,(.inl (by first | (simp only [List.nil_append,nmsC_app,nmsC_snoc,Pr.cs_snoc,Tp.cs_snoc,Ex.cs_snoc,Vr.cs_snoc,Df.cs_snoc]; done) | (simp only [List.nil_append,nmsC_app,nmsC_snoc,Pr.cs_snoc,Tp.cs_snoc,Ex.cs_snoc,Vr.cs_snoc,Df.cs_snoc]; rfl))),W,W,W,W,tVv⟩,trivial,rfl⟩ (by first | assumption | omega | (apply nm_step <;> first | assumption | omega | decide) | (apply nm_le <;> first | assumption | omega | decide) | (apply nm_p <;> first | assumption | omega | decide) | (apply nm_q <;> first | assumption | omega | decide) | (simp only [List.length_append,List.length_cons,List.length_nil] at *; omega) | simp_all) (by rw [hd,nmA_f,iP h0])
  ·exact tS mdL [rp 3 (bf1 (bFT h0)),cl (@twL (alNs (List.getD (exA u) i default)) (by (apply nm_le <;> first | assumption | omega | decide))),bf1 (bFT h0),wr ((i:Int)+1)] [4,5,6,30,31,32] [] hlt ((l++[alC (List.getD (exA u) i default)]++alNs (List.getD (exA u) i default)),(!disB (alNs (List.getD (exA u) i default)))) (S.mk [(4,vI6 0),(5,.uniq 9 1 (nmsC l++[[PV.str (alC (List.getD (exA u) i default))]]++nmsC (alNs (List.getD (exA u) i default)))),(6,.v (.bool !disB (alNs (List.getD (exA u) i default)))),(30,vL 9 (Al.cs (exA u))),(31,vI6 ((exA u).length:Int)),(32,vI6 ((i:Int)+1))] [] e) ⟨⟨W,(.inl (by first | (simp only [List.nil_append,nmsC_app,nmsC_snoc,Pr.cs_snoc,Tp.cs_snoc,Ex.cs_snoc,Vr.cs_snoc,Df.cs_snoc]; done) | (simp only [List.nil_append,nmsC_app,nmsC_snoc,Pr.cs_snoc,Tp.cs_snoc,Ex.cs_snoc,Vr.cs_snoc,Df.cs_snoc]; rfl))),W,W,W,W,tVv⟩,trivial,rfl⟩ (by first | assumption | omega | (apply nm_step <;> first | assumption | omega | decide) | (apply nm_le <;> first | assumption | omega | decide) | (apply nm_p <;> first | assumption | omega | decide) | (apply nm_q <;> first | assumption | omega | decide) | (simp only [List.length_append,List.length_cons,List.length_nil] at *; omega) | simp_all) (by rw [hd,nmA_f,iN h0])
 ·have he:i=(exA u).length:=by omega
  exact lX mdL [df ((i:Int)<((exA u).length:Int))] (l,z) (by rw [he,List.drop_length,nmA_f])
theorem nmA_len:∀ (l:List Al) (x:List BA) (z:Bool),(nmA_f l x z).1.length=x.length+altN l
 | [],x,z=>by simp [nmA_f,altN]
 | w::r,x,z=>by
  have h1:∀y,(nmA_f r (x++[alC w]++alNs w) y).1.length=(x++[alC w]++alNs w).length+altN r:=fun y=>nmA_len r _ y
  simp only [nmA_f,altN]
  split <;> (rw [h1]; simp only [List.length_append,List.length_cons,List.length_nil]; omega)
theorem nm_0{u:Ex}(h:(bdA_f (exP u) []).length<=100000000)(h2:altN (exA u)<=100000000):(bdA_f (exP u) []).length+altN ((exA u).drop 0)<=1000000000:=by rw [List.drop_zero]; omega
theorem nm_1{u:Ex}(h:(bdA_f (exP u) []).length<=100000000)(h2:altN (exA u)<=100000000):(bdA_f (exP u) []++[exNm u]).length+altN ((exA u).drop 0)<=1000000000:=by rw [List.drop_zero,List.length_append,List.length_singleton]; omega
theorem nm_2{u:Ex}{z:Bool}(h:(bdA_f (exP u) []).length<=100000000)(h2:altN (exA u)<=100000000):(nmA_f (exA u) (bdA_f (exP u) []) z).1.length<=1000000000:=by rw [nmA_len]; omega
theorem nm_3{u:Ex}{z:Bool}(h:(bdA_f (exP u) []).length<=100000000)(h2:altN (exA u)<=100000000):(nmA_f (exA u) (bdA_f (exP u) []++[exNm u]) z).1.length<=1000000000:=by rw [nmA_len,List.length_append,List.length_singleton]; omega
section
variable (u:Ex) (a b:Bool) (c d:Int) (m o:Bool) (g k:Int) (t:Bool) (hP:(exP u).length<=1000000000) (hA:(exA u).length<=1000000000) (hP2:(bdA_f (exP u) []).length<=100000000) (hA2:(coA_f (exA u) []).length<=1000000000) (hA3:altN (exA u)<=100000000)
include u a b c d m o g k t hP hA hP2 hA2 hA3
theorem nam_1(hx0:b=true)(hx1:disB (bdA_f (exP u) [])=false)(hx2:fxE (fun w=>erN (coreB w) != 0) (Prod.fst (nmA_f (exA u) (bdA_f (exP u) []++[exNm u]) true))>=0):Pu 123 [.agg (exL u),.agg (shL a b c d m o g k t)] (rI 3):=
 pu mdL (fun e=>[cl (@bdL (exP u) hP),bt1 hx0,am (List.length (nmsC (bdA_f (exP u) [])++[[.str (exNm u)]]) * (15+1)<=140737488355328) (by (simp only [List.length_append,List.length_cons,List.length_nil,nmsC_len]; omega)),cl (@bdL (exP u) hP),cl (@twL (bdA_f (exP u) []) oM),rp 5 (bt1 (bnT hx1)),sl (Al.cs_len (exA u)),lp (S.mk [(4,vI6 0),(5,.uniq 9 1 (nmsC (bdA_f (exP u) [])++[[PV.str (exNm u)]])),(6,.v (.bool true)),(30,vL 9 (Al.cs (exA u))),(31,vI6 ((exA u).length:Int)),(32,vI6 0)] [] e) (@nmA u default default default default default default default default default hP hP2 hA2 (bdA_f (exP u) []++[exNm u]) true e hA (by (apply nm_1 <;> first | assumption | omega | decide))) ⟨⟨W,(by first | exact .inl rfl | exact .inr ⟨rfl,rfl⟩ | exact .inr rfl | exact .inr trivial | exact .inl (by first | (simp only [List.nil_append,nmsC_app,nmsC_snoc,Pr.cs_snoc,Tp.cs_snoc,Ex.cs_snoc,Vr.cs_snoc,Df.cs_snoc]; done) | (simp only [List.nil_append,nmsC_app,nmsC_snoc,Pr.cs_snoc,Tp.cs_snoc,Ex.cs_snoc,Vr.cs_snoc,Df.cs_snoc]; rfl))),W,W,W,W,tVv⟩,trivial,rfl⟩,cl (@namT (Prod.fst (nmA_f (exA u) (bdA_f (exP u) []++[exNm u]) true)) (by (apply nm_3 <;> first | assumption | omega | decide))),dt1 hx2]) func123
theorem nam_2(hx0:b=true)(hx1:disB (bdA_f (exP u) [])=false)(hx2:¬fxE (fun w=>erN (coreB w) != 0) (Prod.fst (nmA_f (exA u) (bdA_f (exP u) []++[exNm u]) true))>=0)(hx3:Prod.snd (nmA_f (exA u) (bdA_f (exP u) []++[exNm u]) true)=true):Pu 123 [.agg (exL u),.agg (shL a b c d m o g k t)] (rI 4):=
 pu mdL (fun e=>[cl (@bdL (exP u) hP),bt1 hx0,am (List.length (nmsC (bdA_f (exP u) [])++[[.str (exNm u)]]) * (15+1)<=140737488355328) (by (simp only [List.length_append,List.length_cons,List.length_nil,nmsC_len]; omega)),cl (@bdL (exP u) hP),cl (@twL (bdA_f (exP u) []) oM),rp 5 (bt1 (bnT hx1)),sl (Al.cs_len (exA u)),lp (S.mk [(4,vI6 0),(5,.uniq 9 1 (nmsC (bdA_f (exP u) [])++[[PV.str (exNm u)]])),(6,.v (.bool true)),(30,vL 9 (Al.cs (exA u))),(31,vI6 ((exA u).length:Int)),(32,vI6 0)] [] e) (@nmA u default default default default default default default default default hP hP2 hA2 (bdA_f (exP u) []++[exNm u]) true e hA (by (apply nm_1 <;> first | assumption | omega | decide))) ⟨⟨W,(by first | exact .inl rfl | exact .inr ⟨rfl,rfl⟩ | exact .inr rfl | exact .inr trivial | exact .inl (by first | (simp only [List.nil_append,nmsC_app,nmsC_snoc,Pr.cs_snoc,Tp.cs_snoc,Ex.cs_snoc,Vr.cs_snoc,Df.cs_snoc]; done) | (simp only [List.nil_append,nmsC_app,nmsC_snoc,Pr.cs_snoc,Tp.cs_snoc,Ex.cs_snoc,Vr.cs_snoc,Df.cs_snoc]; rfl))),W,W,W,W,tVv⟩,trivial,rfl⟩,cl (@namT (Prod.fst (nmA_f (exA u) (bdA_f (exP u) []++[exNm u]) true)) (by (apply nm_3 <;> first | assumption | omega | decide))),df1 hx2,bt1 hx3]) func123
theorem nam_3(hx0:b=true)(hx1:disB (bdA_f (exP u) [])=false)(hx2:¬fxE (fun w=>erN (coreB w) != 0) (Prod.fst (nmA_f (exA u) (bdA_f (exP u) []++[exNm u]) true))>=0)(hx3:Prod.snd (nmA_f (exA u) (bdA_f (exP u) []++[exNm u]) true)=false):Pu 123 [.agg (exL u),.agg (shL a b c d m o g k t)] (rI 0):=
 pu mdL (fun e=>[cl (@bdL (exP u) hP),bt1 hx0,am (List.length (nmsC (bdA_f (exP u) [])++[[.str (exNm u)]]) * (15+1)<=140737488355328) (by (simp only [List.length_append,List.length_cons,List.length_nil,nmsC_len]; omega)),cl (@bdL (exP u) hP),cl (@twL (bdA_f (exP u) []) oM),rp 5 (bt1 (bnT hx1)),sl (Al.cs_len (exA u)),lp (S.mk [(4,vI6 0),(5,.uniq 9 1 (nmsC (bdA_f (exP u) [])++[[PV.str (exNm u)]])),(6,.v (.bool true)),(30,vL 9 (Al.cs (exA u))),(31,vI6 ((exA u).length:Int)),(32,vI6 0)] [] e) (@nmA u default default default default default default default default default hP hP2 hA2 (bdA_f (exP u) []++[exNm u]) true e hA (by (apply nm_1 <;> first | assumption | omega | decide))) ⟨⟨W,(by first | exact .inl rfl | exact .inr ⟨rfl,rfl⟩ | exact .inr rfl | exact .inr trivial | exact .inl (by first | (simp only [List.nil_append,nmsC_app,nmsC_snoc,Pr.cs_snoc,Tp.cs_snoc,Ex.cs_snoc,Vr.cs_snoc,Df.cs_snoc]; done) | (simp only [List.nil_append,nmsC_app,nmsC_snoc,Pr.cs_snoc,Tp.cs_snoc,Ex.cs_snoc,Vr.cs_snoc,Df.cs_snoc]; rfl))),W,W,W,W,tVv⟩,trivial,rfl⟩,cl (@namT (Prod.fst (nmA_f (exA u) (bdA_f (exP u) []++[exNm u]) true)) (by (apply nm_3 <;> first | assumption | omega | decide))),df1 hx2,bf1 hx3]) func123
theorem nam_4(hx0:b=true)(hx1:disB (bdA_f (exP u) [])=true)(hx2:fxE (fun w=>erN (coreB w) != 0) (Prod.fst (nmA_f (exA u) (bdA_f (exP u) []++[exNm u]) !disB (coA_f (exA u) [])))>=0):Pu 123 [.agg (exL u),.agg (shL a b c d m o g k t)] (rI 3):=
 pu mdL (fun e=>[cl (@bdL (exP u) hP),bt1 hx0,am (List.length (nmsC (bdA_f (exP u) [])++[[.str (exNm u)]]) * (15+1)<=140737488355328) (by (simp only [List.length_append,List.length_cons,List.length_nil,nmsC_len]; omega)),cl (@bdL (exP u) hP),cl (@twL (bdA_f (exP u) []) oM),rp 3 (bf1 (bnF hx1)),cl (@coL (exA u) hA),bf1 (bnF hx1),cl (@twL (coA_f (exA u) []) hA2),bf1 (bnF hx1),sl (Al.cs_len (exA u)),lp (S.mk [(4,vI6 0),(5,.uniq 9 1 (nmsC (bdA_f (exP u) [])++[[PV.str (exNm u)]])),(6,.v (.bool !disB (coA_f (exA u) []))),(30,vL 9 (Al.cs (exA u))),(31,vI6 ((exA u).length:Int)),(32,vI6 0)] [] e) (@nmA u default default default default default default default default default hP hP2 hA2 (bdA_f (exP u) []++[exNm u]) (!disB (coA_f (exA u) [])) e hA (by (apply nm_1 <;> first | assumption | omega | decide))) ⟨⟨W,(by first | exact .inl rfl | exact .inr ⟨rfl,rfl⟩ | exact .inr rfl | exact .inr trivial | exact .inl (by first | (simp only [List.nil_append,nmsC_app,nmsC_snoc,Pr.cs_snoc,Tp.cs_snoc,Ex.cs_snoc,Vr.cs_snoc,Df.cs_snoc]; done) | (simp only [List.nil_append,nmsC_app,nmsC_snoc,Pr.cs_snoc,Tp.cs_snoc,Ex.cs_snoc,Vr.cs_snoc,Df.cs_snoc]; rfl))),W,W,W,W,tVv⟩,trivial,rfl⟩,cl (@namT (Prod.fst (nmA_f (exA u) (bdA_f (exP u) []++[exNm u]) !disB (coA_f (exA u) []))) (by (apply nm_3 <;> first | assumption | omega | decide))),dt1 hx2]) func123
theorem nam_5(hx0:b=true)(hx1:disB (bdA_f (exP u) [])=true)(hx2:¬fxE (fun w=>erN (coreB w) != 0) (Prod.fst (nmA_f (exA u) (bdA_f (exP u) []++[exNm u]) !disB (coA_f (exA u) [])))>=0)(hx3:Prod.snd (nmA_f (exA u) (bdA_f (exP u) []++[exNm u]) !disB (coA_f (exA u) []))=true):Pu 123 [.agg (exL u),.agg (shL a b c d m o g k t)] (rI 4):=
 pu mdL (fun e=>[cl (@bdL (exP u) hP),bt1 hx0,am (List.length (nmsC (bdA_f (exP u) [])++[[.str (exNm u)]]) * (15+1)<=140737488355328) (by (simp only [List.length_append,List.length_cons,List.length_nil,nmsC_len]; omega)),cl (@bdL (exP u) hP),cl (@twL (bdA_f (exP u) []) oM),rp 3 (bf1 (bnF hx1)),cl (@coL (exA u) hA),bf1 (bnF hx1),cl (@twL (coA_f (exA u) []) hA2),bf1 (bnF hx1),sl (Al.cs_len (exA u)),lp (S.mk [(4,vI6 0),(5,.uniq 9 1 (nmsC (bdA_f (exP u) [])++[[PV.str (exNm u)]])),(6,.v (.bool !disB (coA_f (exA u) []))),(30,vL 9 (Al.cs (exA u))),(31,vI6 ((exA u).length:Int)),(32,vI6 0)] [] e) (@nmA u default default default default default default default default default hP hP2 hA2 (bdA_f (exP u) []++[exNm u]) (!disB (coA_f (exA u) [])) e hA (by (apply nm_1 <;> first | assumption | omega | decide))) ⟨⟨W,(by first | exact .inl rfl | exact .inr ⟨rfl,rfl⟩ | exact .inr rfl | exact .inr trivial | exact .inl (by first | (simp only [List.nil_append,nmsC_app,nmsC_snoc,Pr.cs_snoc,Tp.cs_snoc,Ex.cs_snoc,Vr.cs_snoc,Df.cs_snoc]; done) | (simp only [List.nil_append,nmsC_app,nmsC_snoc,Pr.cs_snoc,Tp.cs_snoc,Ex.cs_snoc,Vr.cs_snoc,Df.cs_snoc]; rfl))),W,W,W,W,tVv⟩,trivial,rfl⟩,cl (@namT (Prod.fst (nmA_f (exA u) (bdA_f (exP u) []++[exNm u]) !disB (coA_f (exA u) []))) (by (apply nm_3 <;> first | assumption | omega | decide))),df1 hx2,bt1 hx3]) func123
theorem nam_6(hx0:b=true)(hx1:disB (bdA_f (exP u) [])=true)(hx2:¬fxE (fun w=>erN (coreB w) != 0) (Prod.fst (nmA_f (exA u) (bdA_f (exP u) []++[exNm u]) !disB (coA_f (exA u) [])))>=0)(hx3:Prod.snd (nmA_f (exA u) (bdA_f (exP u) []++[exNm u]) !disB (coA_f (exA u) []))=false):Pu 123 [.agg (exL u),.agg (shL a b c d m o g k t)] (rI 0):=
 pu mdL (fun e=>[cl (@bdL (exP u) hP),bt1 hx0,am (List.length (nmsC (bdA_f (exP u) [])++[[.str (exNm u)]]) * (15+1)<=140737488355328) (by (simp only [List.length_append,List.length_cons,List.length_nil,nmsC_len]; omega)),cl (@bdL (exP u) hP),cl (@twL (bdA_f (exP u) []) oM),rp 3 (bf1 (bnF hx1)),cl (@coL (exA u) hA),bf1 (bnF hx1),cl (@twL (coA_f (exA u) []) hA2),bf1 (bnF hx1),sl (Al.cs_len (exA u)),lp (S.mk [(4,vI6 0),(5,.uniq 9 1 (nmsC (bdA_f (exP u) [])++[[PV.str (exNm u)]])),(6,.v (.bool !disB (coA_f (exA u) []))),(30,vL 9 (Al.cs (exA u))),(31,vI6 ((exA u).length:Int)),(32,vI6 0)] [] e) (@nmA u default default default default default default default default default hP hP2 hA2 (bdA_f (exP u) []++[exNm u]) (!disB (coA_f (exA u) [])) e hA (by (apply nm_1 <;> first | assumption | omega | decide))) ⟨⟨W,(by first | exact .inl rfl | exact .inr ⟨rfl,rfl⟩ | exact .inr rfl | exact .inr trivial | exact .inl (by first | (simp only [List.nil_append,nmsC_app,nmsC_snoc,Pr.cs_snoc,Tp.cs_snoc,Ex.cs_snoc,Vr.cs_snoc,Df.cs_snoc]; done) | (simp only [List.nil_append,nmsC_app,nmsC_snoc,Pr.cs_snoc,Tp.cs_snoc,Ex.cs_snoc,Vr.cs_snoc,Df.cs_snoc]; rfl))),W,W,W,W,tVv⟩,trivial,rfl⟩,cl (@namT (Prod.fst (nmA_f (exA u) (bdA_f (exP u) []++[exNm u]) !disB (coA_f (exA u) []))) (by (apply nm_3 <;> first | assumption | omega | decide))),df1 hx2,bf1 hx3]) func123
theorem nam_7(hx0:b=false)(hx1:disB (bdA_f (exP u) [])=false)(hx2:fxE (fun w=>erN (coreB w) != 0) (Prod.fst (nmA_f (exA u) (bdA_f (exP u) []) true))>=0):Pu 123 [.agg (exL u),.agg (shL a b c d m o g k t)] (rI 3):=
 pu mdL (fun e=>[cl (@bdL (exP u) hP),bf1 hx0,cl (@bdL (exP u) hP),cl (@twL (bdA_f (exP u) []) oM),rp 5 (bt1 (bnT hx1)),sl (Al.cs_len (exA u)),lq (@nmA u default default default default default default default default default hP hP2 hA2 (bdA_f (exP u) []) true e hA (by (apply nm_0 <;> first | assumption | omega | decide))),cl (@namT (Prod.fst (nmA_f (exA u) (bdA_f (exP u) []) true)) (by (apply nm_2 <;> first | assumption | omega | decide))),dt1 hx2]) func123
theorem nam_8(hx0:b=false)(hx1:disB (bdA_f (exP u) [])=false)(hx2:¬fxE (fun w=>erN (coreB w) != 0) (Prod.fst (nmA_f (exA u) (bdA_f (exP u) []) true))>=0)(hx3:Prod.snd (nmA_f (exA u) (bdA_f (exP u) []) true)=true):Pu 123 [.agg (exL u),.agg (shL a b c d m o g k t)] (rI 4):=
 pu mdL (fun e=>[cl (@bdL (exP u) hP),bf1 hx0,cl (@bdL (exP u) hP),cl (@twL (bdA_f (exP u) []) oM),rp 5 (bt1 (bnT hx1)),sl (Al.cs_len (exA u)),lq (@nmA u default default default default default default default default default hP hP2 hA2 (bdA_f (exP u) []) true e hA (by (apply nm_0 <;> first | assumption | omega | decide))),cl (@namT (Prod.fst (nmA_f (exA u) (bdA_f (exP u) []) true)) (by (apply nm_2 <;> first | assumption | omega | decide))),df1 hx2,bt1 hx3]) func123
theorem nam_9(hx0:b=false)(hx1:disB (bdA_f (exP u) [])=false)(hx2:¬fxE (fun w=>erN (coreB w) != 0) (Prod.fst (nmA_f (exA u) (bdA_f (exP u) []) true))>=0)(hx3:Prod.snd (nmA_f (exA u) (bdA_f (exP u) []) true)=false):Pu 123 [.agg (exL u),.agg (shL a b c d m o g k t)] (rI 0):=
 pu mdL (fun e=>[cl (@bdL (exP u) hP),bf1 hx0,cl (@bdL (exP u) hP),cl (@twL (bdA_f (exP u) []) oM),rp 5 (bt1 (bnT hx1)),sl (Al.cs_len (exA u)),lq (@nmA u default default default default default default default default default hP hP2 hA2 (bdA_f (exP u) []) true e hA (by (apply nm_0 <;> first | assumption | omega | decide))),cl (@namT (Prod.fst (nmA_f (exA u) (bdA_f (exP u) []) true)) (by (apply nm_2 <;> first | assumption | omega | decide))),df1 hx2,bf1 hx3]) func123
theorem nam_10(hx0:b=false)(hx1:disB (bdA_f (exP u) [])=true)(hx2:fxE (fun w=>erN (coreB w) != 0) (Prod.fst (nmA_f (exA u) (bdA_f (exP u) []) !disB (coA_f (exA u) [])))>=0):Pu 123 [.agg (exL u),.agg (shL a b c d m o g k t)] (rI 3):=
 pu mdL (fun e=>[cl (@bdL (exP u) hP),bf1 hx0,cl (@bdL (exP u) hP),cl (@twL (bdA_f (exP u) []) oM),rp 3 (bf1 (bnF hx1)),cl (@coL (exA u) hA),bf1 (bnF hx1),cl (@twL (coA_f (exA u) []) hA2),bf1 (bnF hx1),sl (Al.cs_len (exA u)),lq (@nmA u default default default default default default default default default hP hP2 hA2 (bdA_f (exP u) []) (!disB (coA_f (exA u) [])) e hA (by (apply nm_0 <;> first | assumption | omega | decide))),cl (@namT (Prod.fst (nmA_f (exA u) (bdA_f (exP u) []) !disB (coA_f (exA u) []))) (by (apply nm_2 <;> first | assumption | omega | decide))),dt1 hx2]) func123
theorem nam_11(hx0:b=false)(hx1:disB (bdA_f (exP u) [])=true)(hx2:¬fxE (fun w=>erN (coreB w) != 0) (Prod.fst (nmA_f (exA u) (bdA_f (exP u) []) !disB (coA_f (exA u) [])))>=0)(hx3:Prod.snd (nmA_f (exA u) (bdA_f (exP u) []) !disB (coA_f (exA u) []))=true):Pu 123 [.agg (exL u),.agg (shL a b c d m o g k t)] (rI 4):=
 pu mdL (fun e=>[cl (@bdL (exP u) hP),bf1 hx0,cl (@bdL (exP u) hP),cl (@twL (bdA_f (exP u) []) oM),rp 3 (bf1 (bnF hx1)),cl (@coL (exA u) hA),bf1 (bnF hx1),cl (@twL (coA_f (exA u) []) hA2),bf1 (bnF hx1),sl (Al.cs_len (exA u)),lq (@nmA u default default default default default default default default default hP hP2 hA2 (bdA_f (exP u) []) (!disB (coA_f (exA u) [])) e hA (by (apply nm_0 <;> first | assumption | omega | decide))),cl (@namT (Prod.fst (nmA_f (exA u) (bdA_f (exP u) []) !disB (coA_f (exA u) []))) (by (apply nm_2 <;> first | assumption | omega | decide))),df1 hx2,bt1 hx3]) func123
theorem nam_12(hx0:b=false)(hx1:disB (bdA_f (exP u) [])=true)(hx2:¬fxE (fun w=>erN (coreB w) != 0) (Prod.fst (nmA_f (exA u) (bdA_f (exP u) []) !disB (coA_f (exA u) [])))>=0)(hx3:Prod.snd (nmA_f (exA u) (bdA_f (exP u) []) !disB (coA_f (exA u) []))=false):Pu 123 [.agg (exL u),.agg (shL a b c d m o g k t)] (rI 0):=
 pu mdL (fun e=>[cl (@bdL (exP u) hP),bf1 hx0,cl (@bdL (exP u) hP),cl (@twL (bdA_f (exP u) []) oM),rp 3 (bf1 (bnF hx1)),cl (@coL (exA u) hA),bf1 (bnF hx1),cl (@twL (coA_f (exA u) []) hA2),bf1 (bnF hx1),sl (Al.cs_len (exA u)),lq (@nmA u default default default default default default default default default hP hP2 hA2 (bdA_f (exP u) []) (!disB (coA_f (exA u) [])) e hA (by (apply nm_0 <;> first | assumption | omega | decide))),cl (@namT (Prod.fst (nmA_f (exA u) (bdA_f (exP u) []) !disB (coA_f (exA u) []))) (by (apply nm_2 <;> first | assumption | omega | decide))),df1 hx2,bf1 hx3]) func123
end
def nam_r0(u:Ex)(b:Bool):Int:=(if b=true then (if disB (bdA_f (exP u) [])=false then (if fxE (fun w=>erN (coreB w) != 0) (Prod.fst (nmA_f (exA u) (bdA_f (exP u) []++[exNm u]) true))>=0 then 3 else (if Prod.snd (nmA_f (exA u) (bdA_f (exP u) []++[exNm u]) true)=true then 4 else 0)) else (if fxE (fun w=>erN (coreB w) != 0) (Prod.fst (nmA_f (exA u) (bdA_f (exP u) []++[exNm u]) !disB (coA_f (exA u) [])))>=0 then 3 else (if Prod.snd (nmA_f (exA u) (bdA_f (exP u) []++[exNm u]) !disB (coA_f (exA u) []))=true then 4 else 0))) else (if disB (bdA_f (exP u) [])=false then (if fxE (fun w=>erN (coreB w) != 0) (Prod.fst (nmA_f (exA u) (bdA_f (exP u) []) true))>=0 then 3 else (if Prod.snd (nmA_f (exA u) (bdA_f (exP u) []) true)=true then 4 else 0)) else (if fxE (fun w=>erN (coreB w) != 0) (Prod.fst (nmA_f (exA u) (bdA_f (exP u) []) !disB (coA_f (exA u) [])))>=0 then 3 else (if Prod.snd (nmA_f (exA u) (bdA_f (exP u) []) !disB (coA_f (exA u) []))=true then 4 else 0))))
theorem nam(u:Ex)(a b:Bool)(c d:Int)(m o:Bool)(g k:Int)(t:Bool)(hP:(exP u).length<=1000000000)(hA:(exA u).length<=1000000000)(hP2:(bdA_f (exP u) []).length<=100000000)(hA2:(coA_f (exA u) []).length<=1000000000)(hA3:altN (exA u)<=100000000):Pu 123 [.agg (exL u),.agg (shL a b c d m o g k t)] (rI (nam_r0 u b)):=by
 by_cases h0:b=true
 ·by_cases h1:disB (bdA_f (exP u) [])=false
  ·by_cases h2:fxE (fun w=>erN (coreB w) != 0) (Prod.fst (nmA_f (exA u) (bdA_f (exP u) []++[exNm u]) true))>=0
   ·simp only [nam_r0,iP h0,iP h1,iP h2]; exact nam_1 u a b c d m o g k t hP hA hP2 hA2 hA3 h0 h1 h2
   ·by_cases h3:Prod.snd (nmA_f (exA u) (bdA_f (exP u) []++[exNm u]) true)=true
    ·simp only [nam_r0,iP h0,iP h1,iN h2,iP h3]; exact nam_2 u a b c d m o g k t hP hA hP2 hA2 hA3 h0 h1 h2 h3
    ·simp only [nam_r0,iP h0,iP h1,iN h2,iN h3]; exact nam_3 u a b c d m o g k t hP hA hP2 hA2 hA3 h0 h1 h2 (bFT h3)
  ·by_cases h2:fxE (fun w=>erN (coreB w) != 0) (Prod.fst (nmA_f (exA u) (bdA_f (exP u) []++[exNm u]) !disB (coA_f (exA u) [])))>=0
   ·simp only [nam_r0,iP h0,iN h1,iP h2]; exact nam_4 u a b c d m o g k t hP hA hP2 hA2 hA3 h0 (bTF h1) h2
   ·by_cases h3:Prod.snd (nmA_f (exA u) (bdA_f (exP u) []++[exNm u]) !disB (coA_f (exA u) []))=true
    ·simp only [nam_r0,iP h0,iN h1,iN h2,iP h3]; exact nam_5 u a b c d m o g k t hP hA hP2 hA2 hA3 h0 (bTF h1) h2 h3
    ·simp only [nam_r0,iP h0,iN h1,iN h2,iN h3]; exact nam_6 u a b c d m o g k t hP hA hP2 hA2 hA3 h0 (bTF h1) h2 (bFT h3)
 ·by_cases h1:disB (bdA_f (exP u) [])=false
  ·by_cases h2:fxE (fun w=>erN (coreB w) != 0) (Prod.fst (nmA_f (exA u) (bdA_f (exP u) []) true))>=0
   ·simp only [nam_r0,iN h0,iP h1,iP h2]; exact nam_7 u a b c d m o g k t hP hA hP2 hA2 hA3 (bFT h0) h1 h2
   ·by_cases h3:Prod.snd (nmA_f (exA u) (bdA_f (exP u) []) true)=true
    ·simp only [nam_r0,iN h0,iP h1,iN h2,iP h3]; exact nam_8 u a b c d m o g k t hP hA hP2 hA2 hA3 (bFT h0) h1 h2 h3
    ·simp only [nam_r0,iN h0,iP h1,iN h2,iN h3]; exact nam_9 u a b c d m o g k t hP hA hP2 hA2 hA3 (bFT h0) h1 h2 (bFT h3)
  ·by_cases h2:fxE (fun w=>erN (coreB w) != 0) (Prod.fst (nmA_f (exA u) (bdA_f (exP u) []) !disB (coA_f (exA u) [])))>=0
   ·simp only [nam_r0,iN h0,iN h1,iP h2]; exact nam_10 u a b c d m o g k t hP hA hP2 hA2 hA3 (bFT h0) (bTF h1) h2
   ·by_cases h3:Prod.snd (nmA_f (exA u) (bdA_f (exP u) []) !disB (coA_f (exA u) []))=true
    ·simp only [nam_r0,iN h0,iN h1,iN h2,iP h3]; exact nam_11 u a b c d m o g k t hP hA hP2 hA2 hA3 (bFT h0) (bTF h1) h2 h3
    ·simp only [nam_r0,iN h0,iN h1,iN h2,iN h3]; exact nam_12 u a b c d m o g k t hP hA hP2 hA2 hA3 (bFT h0) (bTF h1) h2 (bFT h3)
theorem n13_h{u:Pr}(h:¬nd_4_v58 u (pkS_r0 (prO u)) (pkS_r1 (prO u))=true):prO u=8->0<(prK u).length:=fun h8=>by
 rcases Nat.eq_zero_or_pos (prK u).length with h0 | h0
 ·exfalso; apply h
  simp only [nd_4_v58,pnS_r0,pkS_r0,pkS_r1,h8,h0]
  simp
 ·exact h0
theorem n13_h2{u:Pr}(h:nd_4_v58 u (pkS_r0 (prO u)) (pkS_r1 (prO u))=false):prO u=8->0<(prK u).length:=n13_h (by rw [h]; decide)
def mdP:Md:=⟨fun _=>some false,fun t=>t==1000001||t==1000004||t==1000006||t==1000008||t==1000009||t==1000010||t==1000011||t==1000013⟩
section
variable (u:Pr) (hx0:nd_1_v14 u=false) (hx1:nd_4_v58 u (pkS_r0 (prO u)) (pkS_r1 (prO u))=false) (hx2:nd_6_v82 u (pkS_r0 (prO u)) (pkS_r1 (prO u))=false)
include u hx0 hx1 hx2
theorem pnd_5(hx3:nd_8_v91 u (pkS_r0 (prO u)) (pkS_r1 (prO u))=true)(hx4:nd_11_v118 u (pkS_r0 (prO u)) (pkS_r1 (prO u)) (nd_9_v5 u (pkS_r0 (prO u)) (pkS_r1 (prO u))) (nd_10_v6 u (pkS_r0 (prO u)) (pkS_r1 (prO u)) (nd_9_v5 u (pkS_r0 (prO u)) (pkS_r1 (prO u))))=false)(hx5:nd_13a_v129 u (pkS_r0 (prO u)) (pkS_r1 (prO u)) (nd_9_v5 u (pkS_r0 (prO u)) (pkS_r1 (prO u))) (nd_10_v6 u (pkS_r0 (prO u)) (pkS_r1 (prO u)) (nd_9_v5 u (pkS_r0 (prO u)) (pkS_r1 (prO u))))=true):Pu 75 [.agg (prL u)] (rI 6):=
 pu mdP (fun e=>[lg (@nd_1J u e),bf1 hx0,cl (@pkS (prO u)),lg (@nd_4J u (pkS_r0 (prO u)) (pkS_r1 (prO u)) e),bf1 hx1,lg (@nd_6J u (pkS_r0 (prO u)) (pkS_r1 (prO u)) e),bf1 hx2,lg (@nd_8J u (pkS_r0 (prO u)) (pkS_r1 (prO u)) e),bt1 hx3,lg (@nd_9J u (pkS_r0 (prO u)) (pkS_r1 (prO u)) e),lg (@nd_10J u (pkS_r0 (prO u)) (pkS_r1 (prO u)) (nd_9_v5 u (pkS_r0 (prO u)) (pkS_r1 (prO u))) e),lg (@nd_11J u (pkS_r0 (prO u)) (pkS_r1 (prO u)) (nd_9_v5 u (pkS_r0 (prO u)) (pkS_r1 (prO u))) (nd_10_v6 u (pkS_r0 (prO u)) (pkS_r1 (prO u)) (nd_9_v5 u (pkS_r0 (prO u)) (pkS_r1 (prO u)))) e),bf1 hx4,lg (@nd_13aJ u (pkS_r0 (prO u)) (pkS_r1 (prO u)) (nd_9_v5 u (pkS_r0 (prO u)) (pkS_r1 (prO u))) (nd_10_v6 u (pkS_r0 (prO u)) (pkS_r1 (prO u)) (nd_9_v5 u (pkS_r0 (prO u)) (pkS_r1 (prO u)))) (by (apply n13_h2 <;> first | assumption | omega | decide)) e),bt1 hx5]) func75
theorem pnd_6(hx3:nd_8_v91 u (pkS_r0 (prO u)) (pkS_r1 (prO u))=true)(hx4:nd_11_v118 u (pkS_r0 (prO u)) (pkS_r1 (prO u)) (nd_9_v5 u (pkS_r0 (prO u)) (pkS_r1 (prO u))) (nd_10_v6 u (pkS_r0 (prO u)) (pkS_r1 (prO u)) (nd_9_v5 u (pkS_r0 (prO u)) (pkS_r1 (prO u))))=false)(hx5:nd_13a_v129 u (pkS_r0 (prO u)) (pkS_r1 (prO u)) (nd_9_v5 u (pkS_r0 (prO u)) (pkS_r1 (prO u))) (nd_10_v6 u (pkS_r0 (prO u)) (pkS_r1 (prO u)) (nd_9_v5 u (pkS_r0 (prO u)) (pkS_r1 (prO u))))=false):Pu 75 [.agg (prL u)] (rI 0):=
 pu mdP (fun e=>[lg (@nd_1J u e),bf1 hx0,cl (@pkS (prO u)),lg (@nd_4J u (pkS_r0 (prO u)) (pkS_r1 (prO u)) e),bf1 hx1,lg (@nd_6J u (pkS_r0 (prO u)) (pkS_r1 (prO u)) e),bf1 hx2,lg (@nd_8J u (pkS_r0 (prO u)) (pkS_r1 (prO u)) e),bt1 hx3,lg (@nd_9J u (pkS_r0 (prO u)) (pkS_r1 (prO u)) e),lg (@nd_10J u (pkS_r0 (prO u)) (pkS_r1 (prO u)) (nd_9_v5 u (pkS_r0 (prO u)) (pkS_r1 (prO u))) e),lg (@nd_11J u (pkS_r0 (prO u)) (pkS_r1 (prO u)) (nd_9_v5 u (pkS_r0 (prO u)) (pkS_r1 (prO u))) (nd_10_v6 u (pkS_r0 (prO u)) (pkS_r1 (prO u)) (nd_9_v5 u (pkS_r0 (prO u)) (pkS_r1 (prO u)))) e),bf1 hx4,lg (@nd_13aJ u (pkS_r0 (prO u)) (pkS_r1 (prO u)) (nd_9_v5 u (pkS_r0 (prO u)) (pkS_r1 (prO u))) (nd_10_v6 u (pkS_r0 (prO u)) (pkS_r1 (prO u)) (nd_9_v5 u (pkS_r0 (prO u)) (pkS_r1 (prO u)))) (by (apply n13_h2 <;> first | assumption | omega | decide)) e),bf1 hx5]) func75
theorem pnd_7(hx3:nd_8_v91 u (pkS_r0 (prO u)) (pkS_r1 (prO u))=false)(hx4:nd_13b_v129 u (pkS_r0 (prO u)) (pkS_r1 (prO u)) (nd_8_v91 u (pkS_r0 (prO u)) (pkS_r1 (prO u)))=true):Pu 75 [.agg (prL u)] (rI 6):=
 pu mdP (fun e=>[lg (@nd_1J u e),bf1 hx0,cl (@pkS (prO u)),lg (@nd_4J u (pkS_r0 (prO u)) (pkS_r1 (prO u)) e),bf1 hx1,lg (@nd_6J u (pkS_r0 (prO u)) (pkS_r1 (prO u)) e),bf1 hx2,lg (@nd_8J u (pkS_r0 (prO u)) (pkS_r1 (prO u)) e),bf1 hx3,lg (@nd_13bJ u (pkS_r0 (prO u)) (pkS_r1 (prO u)) (nd_8_v91 u (pkS_r0 (prO u)) (pkS_r1 (prO u))) (by (apply n13_h2 <;> first | assumption | omega | decide)) e),bt1 hx4]) func75
theorem pnd_8(hx3:nd_8_v91 u (pkS_r0 (prO u)) (pkS_r1 (prO u))=false)(hx4:nd_13b_v129 u (pkS_r0 (prO u)) (pkS_r1 (prO u)) (nd_8_v91 u (pkS_r0 (prO u)) (pkS_r1 (prO u)))=false):Pu 75 [.agg (prL u)] (rI 0):=
 pu mdP (fun e=>[lg (@nd_1J u e),bf1 hx0,cl (@pkS (prO u)),lg (@nd_4J u (pkS_r0 (prO u)) (pkS_r1 (prO u)) e),bf1 hx1,lg (@nd_6J u (pkS_r0 (prO u)) (pkS_r1 (prO u)) e),bf1 hx2,lg (@nd_8J u (pkS_r0 (prO u)) (pkS_r1 (prO u)) e),bf1 hx3,lg (@nd_13bJ u (pkS_r0 (prO u)) (pkS_r1 (prO u)) (nd_8_v91 u (pkS_r0 (prO u)) (pkS_r1 (prO u))) (by (apply n13_h2 <;> first | assumption | omega | decide)) e),bf1 hx4]) func75
end
def pnd_r0(u:Pr):Int:=(if nd_1_v14 u=true then 1 else (if nd_4_v58 u (pkS_r0 (prO u)) (pkS_r1 (prO u))=true then 1 else (if nd_6_v82 u (pkS_r0 (prO u)) (pkS_r1 (prO u))=true then 2 else (if nd_8_v91 u (pkS_r0 (prO u)) (pkS_r1 (prO u))=true then (if nd_11_v118 u (pkS_r0 (prO u)) (pkS_r1 (prO u)) (nd_9_v5 u (pkS_r0 (prO u)) (pkS_r1 (prO u))) (nd_10_v6 u (pkS_r0 (prO u)) (pkS_r1 (prO u)) (nd_9_v5 u (pkS_r0 (prO u)) (pkS_r1 (prO u))))=true then 3 else (if nd_13a_v129 u (pkS_r0 (prO u)) (pkS_r1 (prO u)) (nd_9_v5 u (pkS_r0 (prO u)) (pkS_r1 (prO u))) (nd_10_v6 u (pkS_r0 (prO u)) (pkS_r1 (prO u)) (nd_9_v5 u (pkS_r0 (prO u)) (pkS_r1 (prO u))))=true then 6 else 0)) else (if nd_13b_v129 u (pkS_r0 (prO u)) (pkS_r1 (prO u)) (nd_8_v91 u (pkS_r0 (prO u)) (pkS_r1 (prO u)))=true then 6 else 0)))))
theorem pnd(u:Pr):Pu 75 [.agg (prL u)] (rI (pnd_r0 u)):=by
 by_cases h0:nd_1_v14 u=true
 ·simp only [pnd_r0,iP h0]; exact pu mdP (fun e=>[lg (@nd_1J u e),bt1 h0]) func75
 ·by_cases h1:nd_4_v58 u (pkS_r0 (prO u)) (pkS_r1 (prO u))=true
  ·simp only [pnd_r0,iN h0,iP h1]; exact pu mdP (fun e=>[lg (@nd_1J u e),bf1 (bFT h0),cl (@pkS (prO u)),lg (@nd_4J u (pkS_r0 (prO u)) (pkS_r1 (prO u)) e),bt1 h1]) func75
  ·by_cases h2:nd_6_v82 u (pkS_r0 (prO u)) (pkS_r1 (prO u))=true
   ·simp only [pnd_r0,iN h0,iN h1,iP h2]; exact pu mdP (fun e=>[lg (@nd_1J u e),bf1 (bFT h0),cl (@pkS (prO u)),lg (@nd_4J u (pkS_r0 (prO u)) (pkS_r1 (prO u)) e),bf1 (bFT h1),lg (@nd_6J u (pkS_r0 (prO u)) (pkS_r1 (prO u)) e),bt1 h2]) func75
   ·by_cases h3:nd_8_v91 u (pkS_r0 (prO u)) (pkS_r1 (prO u))=true
    ·by_cases h4:nd_11_v118 u (pkS_r0 (prO u)) (pkS_r1 (prO u)) (nd_9_v5 u (pkS_r0 (prO u)) (pkS_r1 (prO u))) (nd_10_v6 u (pkS_r0 (prO u)) (pkS_r1 (prO u)) (nd_9_v5 u (pkS_r0 (prO u)) (pkS_r1 (prO u))))=true
     ·simp only [pnd_r0,iN h0,iN h1,iN h2,iP h3,iP h4]; exact pu mdP (fun e=>[lg (@nd_1J u e),bf1 (bFT h0),cl (@pkS (prO u)),lg (@nd_4J u (pkS_r0 (prO u)) (pkS_r1 (prO u)) e),bf1 (bFT h1),lg (@nd_6J u (pkS_r0 (prO u)) (pkS_r1 (prO u)) e),bf1 (bFT h2),lg (@nd_8J u (pkS_r0 (prO u)) (pkS_r1 (prO u)) e),bt1 h3,lg (@nd_9J u (pkS_r0 (prO u)) (pkS_r1 (prO u)) e),lg (@nd_10J u (pkS_r0 (prO u)) (pkS_r1 (prO u)) (nd_9_v5 u (pkS_r0 (prO u)) (pkS_r1 (prO u))) e),lg (@nd_11J u (pkS_r0 (prO u)) (pkS_r1 (prO u)) (nd_9_v5 u (pkS_r0 (prO u)) (pkS_r1 (prO u))) (nd_10_v6 u (pkS_r0 (prO u)) (pkS_r1 (prO u)) (nd_9_v5 u (pkS_r0 (prO u)) (pkS_r1 (prO u)))) e),bt1 h4]) func75
     ·by_cases h5:nd_13a_v129 u (pkS_r0 (prO u)) (pkS_r1 (prO u)) (nd_9_v5 u (pkS_r0 (prO u)) (pkS_r1 (prO u))) (nd_10_v6 u (pkS_r0 (prO u)) (pkS_r1 (prO u)) (nd_9_v5 u (pkS_r0 (prO u)) (pkS_r1 (prO u))))=true
      ·simp only [pnd_r0,iN h0,iN h1,iN h2,iP h3,iN h4,iP h5]; exact pnd_5 u (bFT h0) (bFT h1) (bFT h2) h3 (bFT h4) h5
      ·simp only [pnd_r0,iN h0,iN h1,iN h2,iP h3,iN h4,iN h5]; exact pnd_6 u (bFT h0) (bFT h1) (bFT h2) h3 (bFT h4) (bFT h5)
    ·by_cases h4:nd_13b_v129 u (pkS_r0 (prO u)) (pkS_r1 (prO u)) (nd_8_v91 u (pkS_r0 (prO u)) (pkS_r1 (prO u)))=true
     ·simp only [pnd_r0,iN h0,iN h1,iN h2,iN h3,iP h4]; exact pnd_7 u (bFT h0) (bFT h1) (bFT h2) (bFT h3) h4
     ·simp only [pnd_r0,iN h0,iN h1,iN h2,iN h3,iN h4]; exact pnd_8 u (bFT h0) (bFT h1) (bFT h2) (bFT h3) (bFT h4)
theorem pez_1(l:List Pr)(hx0:¬(l.length:Int)=(0:Int)):Pu 80 [.sl 4 (Pr.cs l),.nilsl,.fn (.func 43) [] []] (rB false):=
 pm mdL [sl (Pr.cs_len l),kp,nt1 hx0] func80
theorem pez_2(l:List Pr)(hx0:(l.length:Int)=(0:Int)):Pu 80 [.sl 4 (Pr.cs l),.nilsl,.fn (.func 43) [] []] (rB true):=
 pm mdL [sl (Pr.cs_len l),kp,nn1 hx0,sl (Pr.cs_len l),ur,df (0<(l.length:Int))] func80
def isNil(l:List Pr):Bool:=decide ((l.length:Int)=0)
theorem pezT(l:List Pr):Pu 80 [.sl 4 (Pr.cs l),.nilsl,.fn (.func 43) [] []] (.ret (.bool (isNil l))):=by
 unfold isNil
 by_cases h:(l.length:Int)=0
 ·rw [decide_eq_true h]; first | exact pez_2 l h | exact pez_1 l h
 ·rw [decide_eq_false h]; first | exact pez_1 l h | exact pez_2 l h
def psz_r0(u:Pr):Bool:=(if prO u=0 then (if prNm u=nm0 then (if prN u=0 then (isNil (prK u)) else false) else false) else false)
theorem psz(u:Pr):Pu 43 [.agg (prL u),.agg [pI 0,.str nm0,pI 0,.nilsl]] (rB (psz_r0 u)):=by
 refine t0 ?_;by_cases h0:prO u=0
 ·refine tp [rp 6 (et1 h0)] ?_;by_cases h1:prNm u=nm0
  ·refine tp [rp 6 (bt (ByteArray.toList (prNm u)==ByteArray.toList nm0) (bsT h1))] ?_;by_cases h2:prN u=0
   ·simp only [psz_r0,iP h0,iP h1,iP h2]; exact tM mdL [rp 5 (et1 h2),cl (@pezT (prK u)),et1 h2] func43
   ·simp only [psz_r0,iP h0,iP h1,iN h2]; exact tM mdL [rp 6 (en1 h2)] func43
  ·simp only [psz_r0,iP h0,iN h1]; exact tM mdL [rp 6 (bf (ByteArray.toList (prNm u)==ByteArray.toList nm0) (bsF h1)),rp 6 (bf false)] func43
 ·simp only [psz_r0,iN h0]; exact tM mdL [rp 6 (en1 h0),rp 12 (bf false)] func43
end Go.Proofs.YtaakmholhliodaaGreatDoor
