/- Values of Go as plain data, an evaluator over them, and what the functions of the program return; part Yh. -/
import Derived.Test.YtmllcplaohkjnaaGreatDoorYg
import Derived.Test.YtmllcplaohkjnaaGreatDoorYf
import Derived.Test.YtmllcplaohkjnaaGreatDoorYa
set_option linter.unusedSectionVars false
set_option linter.unusedSimpArgs false
set_option linter.unusedVariables false
namespace Go.Proofs.YtmllcplaohkjnaaGreatDoor
open Go.Proofs.Tryz
open Go.Pv Go.Proofs.Tryz
set_option maxRecDepth 100000
theorem nd_2(u:Ex)(a b:Bool)(c d:Int)(m o:Bool)(g k:Int)(t:Bool)(z:Bool)(xe:Ext)(cx:Cx)(hcx:cx.n=156){Q:PExit->S->Prop}(hq:Q (.normal) (S.mk [(1,.lp 1 0),(2,vI6 0),(3,.lp 3 0),(4,.v (.bool z)),(5,.v (.bool (!a&&exN u != 0 || !b && !ByteArray.toList (exNm u)==ByteArray.toList nm0||d==0&&decide (((exK u).length:Int)>0) || !m&&decide (((exP u).length:Int)>0) || !o&&decide (((exA u).length:Int)>0) || !t&&decide (((exT u).length:Int)>0))))] [(1,exV u),(3,[.v (.bool a),.v (.bool b),vI6 c,vI6 d,.v (.bool m),.v (.bool o),vI6 g,vI6 k,.v (.bool t)])] xe)):PW prog cx (regF f203 2) (S.mk [(1,.lp 1 0),(2,vI6 0),(3,.lp 3 0),(4,.v (.bool z))] [(1,exV u),(3,shV a b c d m o g k t)] xe) Q:=
 pw mdL 156 [mg,av (.v (.bool (bif !a then exN u != 0 else false))) (.v (.bool (!a&&exN u != 0))) (by (simp only [Bool.cond_false_right]; done)),mg,av (.v (.bool (bif !a&&exN u != 0 then true else bif !b then !ByteArray.toList (exNm u)==ByteArray.toList nm0 else false))) (.v (.bool (!a&&exN u != 0 || !b && !ByteArray.toList (exNm u)==ByteArray.toList nm0))) (by (simp only [Bool.cond_true_left,Bool.cond_false_right]; done)),mg,av (.v (.bool (bif !a&&exN u != 0 || !b && !ByteArray.toList (exNm u)==ByteArray.toList nm0 then true else bif d==0 then decide ((↑((fun x=>List.length (Prod.snd x)) (7,Ex.cs (exK u))):Int)>0) else false))) (.v (.bool (!a&&exN u != 0 || !b && !ByteArray.toList (exNm u)==ByteArray.toList nm0||d==0&&decide (((exK u).length:Int)>0)))) (by (simp only [List.length_nil,Ex.cs_len,Bool.cond_true_left,Bool.cond_false_right]; done)),mg,av (.v (.bool (bif !a&&exN u != 0 || !b && !ByteArray.toList (exNm u)==ByteArray.toList nm0||d==0&&decide (((exK u).length:Int)>0) then true else bif !m then decide ((↑((fun x=>List.length (Prod.snd x)) (10,Pm.cs (exP u))):Int)>0) else false))) (.v (.bool (!a&&exN u != 0 || !b && !ByteArray.toList (exNm u)==ByteArray.toList nm0||d==0&&decide (((exK u).length:Int)>0) || !m&&decide (((exP u).length:Int)>0)))) (by (simp only [List.length_nil,Pm.cs_len,Bool.cond_true_left,Bool.cond_false_right]; done)),mg,av (.v (.bool (bif !a&&exN u != 0 || !b && !ByteArray.toList (exNm u)==ByteArray.toList nm0||d==0&&decide (((exK u).length:Int)>0) || !m&&decide (((exP u).length:Int)>0) then true else bif !o then decide ((↑((fun x=>List.length (Prod.snd x)) (9,Al.cs (exA u))):Int)>0) else false))) (.v (.bool (!a&&exN u != 0 || !b && !ByteArray.toList (exNm u)==ByteArray.toList nm0||d==0&&decide (((exK u).length:Int)>0) || !m&&decide (((exP u).length:Int)>0) || !o&&decide (((exA u).length:Int)>0)))) (by (simp only [List.length_nil,Al.cs_len,Bool.cond_true_left,Bool.cond_false_right]; done)),mg,av (.v (.bool (bif !a&&exN u != 0 || !b && !ByteArray.toList (exNm u)==ByteArray.toList nm0||d==0&&decide (((exK u).length:Int)>0) || !m&&decide (((exP u).length:Int)>0) || !o&&decide (((exA u).length:Int)>0) then true else bif !t then decide ((↑((fun x=>List.length (Prod.snd x)) (9,Tp.cs (exT u))):Int)>0) else false))) (.v (.bool (!a&&exN u != 0 || !b && !ByteArray.toList (exNm u)==ByteArray.toList nm0||d==0&&decide (((exK u).length:Int)>0) || !m&&decide (((exP u).length:Int)>0) || !o&&decide (((exA u).length:Int)>0) || !t&&decide (((exT u).length:Int)>0)))) (by (simp only [List.length_nil,Tp.cs_len,Bool.cond_true_left,Bool.cond_false_right]; done))] [1,2,3,4,5] [1,3] hcx hq
def nd_2_v5(u:Ex)(a b:Bool)(c d:Int)(m o:Bool)(g k:Int)(t:Bool)(z:Bool):Bool:=((!a&&exN u != 0 || !b && !ByteArray.toList (exNm u)==ByteArray.toList nm0||d==0&&decide (((exK u).length:Int)>0) || !m&&decide (((exP u).length:Int)>0) || !o&&decide (((exA u).length:Int)>0) || !t&&decide (((exT u).length:Int)>0)))
theorem nd_2J(u:Ex)(a b:Bool)(c d:Int)(m o:Bool)(g k:Int)(t:Bool)(z:Bool)(xe:Ext):(Ob.frag 156 (regF f203 2) (S.mk [(1,.lp 1 0),(2,vI6 0),(3,.lp 3 0),(4,.v (.bool z))] [(1,exV u),(3,shV a b c d m o g k t)] xe) (.normal) (S.mk [(1,.lp 1 0),(2,vI6 0),(3,.lp 3 0),(4,.v (.bool z)),(5,.v (.bool (nd_2_v5 u a b c d m o g k t z)))] [(1,exV u),(3,[.v (.bool a),.v (.bool b),vI6 c,vI6 d,.v (.bool m),.v (.bool o),vI6 g,vI6 k,.v (.bool t)])] xe)).ok prog:=by
 intro cx hcx
 exact nd_2 u a b c d m o g k t z xe  cx hcx ⟨rfl,by rw [show nd_2_v5 u a b c d m o g k t z=((!a&&exN u != 0 || !b && !ByteArray.toList (exNm u)==ByteArray.toList nm0||d==0&&decide (((exK u).length:Int)>0) || !m&&decide (((exP u).length:Int)>0) || !o&&decide (((exA u).length:Int)>0) || !t&&decide (((exT u).length:Int)>0))) from rfl]⟩
section
variable (u:Ex) (a b:Bool) (c d:Int) (m o:Bool) (g k:Int) (t:Bool) (xe:Ext)
include u a b c d m o g k t xe
theorem nd_7_1(hx0:exO u=1)(cx:Cx)(hcx:cx.n=156){Q:PExit->S->Prop}(hq:Q (.normal) (S.mk [(1,.lp 1 0),(2,vI6 0),(3,.lp 3 0),(92,.v (.bool (!niS_r0 (exN u)||exO u==2&&exN u != 0&&exN u != 1)))] [(1,exV u),(3,[.v (.bool a),.v (.bool b),vI6 c,vI6 d,.v (.bool m),.v (.bool o),vI6 g,vI6 k,.v (.bool t)])] xe)):PW prog cx (regF f203 7) (S.mk [(1,.lp 1 0),(2,vI6 0),(3,.lp 3 0)] [(1,exV u),(3,shV a b c d m o g k t)] xe) Q:=
 pw mdL 156 [rp 3 (et1 hx0),cl (@niS (exN u)),rp 2 (et1 hx0),mg,av (.v (.bool (bif !niS_r0 (exN u) then true else bif bif exO u==2 then exN u != 0 else false then exN u != 1 else false))) (.v (.bool (!niS_r0 (exN u)||exO u==2&&exN u != 0&&exN u != 1))) (by (simp only [Bool.cond_true_left,Bool.cond_false_right]; done))] [1,2,3,92] [1,3] hcx hq
theorem nd_7_2(hx0:¬exO u=1)(hx1:exO u=2)(hx2:¬exN u=0)(cx:Cx)(hcx:cx.n=156){Q:PExit->S->Prop}(hq:Q (.normal) (S.mk [(1,.lp 1 0),(2,vI6 0),(3,.lp 3 0),(92,.v (.bool (exN u != 1)))] [(1,exV u),(3,[.v (.bool a),.v (.bool b),vI6 c,vI6 d,.v (.bool m),.v (.bool o),vI6 g,vI6 k,.v (.bool t)])] xe)):PW prog cx (regF f203 7) (S.mk [(1,.lp 1 0),(2,vI6 0),(3,.lp 3 0)] [(1,exV u),(3,shV a b c d m o g k t)] xe) Q:=
 pw mdL 156 [rp 5 (en1 hx0),rp 4 (bf false),rp 3 (et1 hx1),bf false,et1 hx1,bf false,rp 3 (nt1 hx2),bf false,nt1 hx2,bf false] [1,2,3,92] [1,3] hcx hq
theorem nd_7_3(hx0:¬exO u=1)(hx1:exO u=2)(hx2:exN u=0)(cx:Cx)(hcx:cx.n=156){Q:PExit->S->Prop}(hq:Q (.normal) (S.mk [(1,.lp 1 0),(2,vI6 0),(3,.lp 3 0),(92,.v (.bool false))] [(1,exV u),(3,[.v (.bool a),.v (.bool b),vI6 c,vI6 d,.v (.bool m),.v (.bool o),vI6 g,vI6 k,.v (.bool t)])] xe)):PW prog cx (regF f203 7) (S.mk [(1,.lp 1 0),(2,vI6 0),(3,.lp 3 0)] [(1,exV u),(3,shV a b c d m o g k t)] xe) Q:=
 pw mdL 156 [rp 5 (en1 hx0),rp 4 (bf false),rp 3 (et1 hx1),bf false,et1 hx1,bf false,rp 3 (nn1 hx2),bf false,nn1 hx2,bf false] [1,2,3,92] [1,3] hcx hq
theorem nd_7_4(hx0:¬exO u=1)(hx1:¬exO u=2)(cx:Cx)(hcx:cx.n=156){Q:PExit->S->Prop}(hq:Q (.normal) (S.mk [(1,.lp 1 0),(2,vI6 0),(3,.lp 3 0),(92,.v (.bool false))] [(1,exV u),(3,[.v (.bool a),.v (.bool b),vI6 c,vI6 d,.v (.bool m),.v (.bool o),vI6 g,vI6 k,.v (.bool t)])] xe)):PW prog cx (regF f203 7) (S.mk [(1,.lp 1 0),(2,vI6 0),(3,.lp 3 0)] [(1,exV u),(3,shV a b c d m o g k t)] xe) Q:=
 pw mdL 156 [rp 5 (en1 hx0),rp 4 (bf false),rp 3 (en1 hx1),bf false,en1 hx1,rp 7 (bf false)] [1,2,3,92] [1,3] hcx hq
end
def nd_7_v92(u:Ex)(a b:Bool)(c d:Int)(m o:Bool)(g k:Int)(t:Bool):Bool:=(if exO u=1 then ((!niS_r0 (exN u)||exO u==2&&exN u != 0&&exN u != 1)) else (if exO u=2 then (if exN u=0 then (false) else ((exN u != 1))) else (false)))
theorem nd_7J(u:Ex)(a b:Bool)(c d:Int)(m o:Bool)(g k:Int)(t:Bool)(xe:Ext):(Ob.frag 156 (regF f203 7) (S.mk [(1,.lp 1 0),(2,vI6 0),(3,.lp 3 0)] [(1,exV u),(3,shV a b c d m o g k t)] xe) (.normal) (S.mk [(1,.lp 1 0),(2,vI6 0),(3,.lp 3 0),(92,.v (.bool (nd_7_v92 u a b c d m o g k t)))] [(1,exV u),(3,[.v (.bool a),.v (.bool b),vI6 c,vI6 d,.v (.bool m),.v (.bool o),vI6 g,vI6 k,.v (.bool t)])] xe)).ok prog:=by
 intro cx hcx
 by_cases g0:exO u=1
 ·exact nd_7_1 u a b c d m o g k t xe g0 cx hcx ⟨rfl,by rw [show nd_7_v92 u a b c d m o g k t=((!niS_r0 (exN u)||exO u==2&&exN u != 0&&exN u != 1)) by unfold nd_7_v92; rw [iP g0]]⟩
 ·by_cases g1:exO u=2
  ·by_cases g2:exN u=0
   ·exact nd_7_3 u a b c d m o g k t xe g0 g1 g2 cx hcx ⟨rfl,by rw [show nd_7_v92 u a b c d m o g k t=(false) by unfold nd_7_v92; rw [iN g0,iP g1,iP g2]]⟩
   ·exact nd_7_2 u a b c d m o g k t xe g0 g1 g2 cx hcx ⟨rfl,by rw [show nd_7_v92 u a b c d m o g k t=((exN u != 1)) by unfold nd_7_v92; rw [iN g0,iP g1,iN g2]]⟩
  ·exact nd_7_4 u a b c d m o g k t xe g0 g1 cx hcx ⟨rfl,by rw [show nd_7_v92 u a b c d m o g k t=(false) by unfold nd_7_v92; rw [iN g0,iN g1]]⟩
abbrev dpK_I(u:Ex)(dfz:Ex->Int)(j:Int)(n:Int)(e:Ext):S:=S.mk [(1,.lp 1 0),(2,vI6 0),(3,vI6 n),(9,vL 7 (Ex.cs (exK u))),(10,vI6 ((exK u).length:Int)),(11,vI6 j)] [(1,exV u)] e
def dpK_f(dfz:Ex->Int):List Ex->(Int)->(Int)
 | [],n=>(n)
 | el::r,n=>dpK_f dfz r (mxI true n (dfz el))
def dpK_q(u:Ex)(dfz:Ex->Int)(e:Ext)(p:(Int)):PExit × S:=(.exit 0,S.mk [(1,.lp 1 0),(2,vI6 0),(3,vI6 p),(9,vL 7 (Ex.cs (exK u))),(10,vI6 ((exK u).length:Int))] [(1,exV u)] e)
theorem dpK(u:Ex)(dfz:Ex->Int)(hks:∀w:Ex,w∈exK u->Pu 200 [.agg (exL w)] (.ret (.int .i64 (dfz w))))(n:Int)(e:Ext)(hN:(exK u).length<=1000000000)  : (Ob.loop 35 (loopF f200 0) (dpK_I u dfz 0 n e) (dpK_q u dfz e (dpK_f dfz ((exK u))  n)).1 (dpK_q u dfz e (dpK_f dfz ((exK u))  n)).2).ok prog:=by
 refine rng ((exK u).length) (fun j n=>dpK_I u dfz j n e) (fun i n=>dpK_f dfz (List.drop i ((exK u)))  n) (dpK_q u dfz e) (fun i n=>True) kR ?_ n trivial
 rintro i n hi -
 rcases Nat.lt_or_ge i ((exK u).length) with hlt | hge
 ·have hd:=drop_at hlt
  exact lN mdL [dt ((i:Int)<((exK u).length:Int)),am ((0:Int)<=(i:Int)/\(i:Int)<((Ex.cs (exK u)).length:Int)) (by (simp only [Ex.cs_len]; omega)),ar (List.getD (Ex.cs (exK u)) (Int.toNat (i:Int)) []) (exL (List.getD (exK u) i default)) (by simp only [Int.toNat_natCast,Int.toNat_zero]; rw [@Ex.cs_at (exK u) (i) hlt]; try rfl),cl (@hks (List.getD (exK u) i default) (by simp_all [List.length_map,List.length_append,List.length_cons,List.length_nil,nmsC_len,Pr.cs_len,Tp.cs_len,Pm.cs_len,Ex.cs_len,Al.cs_len,Vr.cs_len,Cn.cs_len,Da.cs_len,Cl.cs_len,Bo.cs_len,Df.cs_len,In.cs_len,Cs.cs_len,Ms.cs_len,Qu.cs_len,Int.toNat_natCast,Bool.cond_true_left,Bool.cond_false_right,Int.toNat_zero,tn1])),wr ((i:Int)+1)] hlt (mxI true n (dfz (List.getD (exK u) i default))) trivial (by rw [hd,dpK_f])
 ·have he:i=(exK u).length:=by omega
  exact lX mdL [df ((i:Int)<((exK u).length:Int))] (n) (by rw [he,List.drop_length,dpK_f])
abbrev dpA_I(u:Ex)(dfz:Ex->Int)(j:Int)(n:Int)(e:Ext):S:=S.mk [(2,vI6 0),(3,vI6 n),(21,vL 9 (Al.cs (exA u))),(22,vI6 ((exA u).length:Int)),(23,vI6 j)] [] e
def dpA_f(dfz:Ex->Int):List Al->(Int)->(Int)
 | [],n=>(n)
 | el::r,n=>dpA_f dfz r (mxI true n (dfz (alB el)))
def dpA_q(u:Ex)(dfz:Ex->Int)(e:Ext)(p:(Int)):PExit × S:=(.exit 2,S.mk [(2,vI6 0),(3,vI6 p),(21,vL 9 (Al.cs (exA u))),(22,vI6 ((exA u).length:Int))] [] e)
theorem dpA(u:Ex)(dfz:Ex->Int)(hks:∀w:Ex,w∈exK u->Pu 200 [.agg (exL w)] (.ret (.int .i64 (dfz w))))(has:∀w:Al,w∈exA u->Pu 200 [.agg (exL (alB w))] (.ret (.int .i64 (dfz (alB w)))))(hNK:(exK u).length<=1000000000)(n:Int)(e:Ext)(hN:(exA u).length<=1000000000)  : (Ob.loop 35 (loopF f200 1) (dpA_I u dfz 0 n e) (dpA_q u dfz e (dpA_f dfz ((exA u))  n)).1 (dpA_q u dfz e (dpA_f dfz ((exA u))  n)).2).ok prog:=by
 refine rng ((exA u).length) (fun j n=>dpA_I u dfz j n e) (fun i n=>dpA_f dfz (List.drop i ((exA u)))  n) (dpA_q u dfz e) (fun i n=>True) kR ?_ n trivial
 rintro i n hi -
 rcases Nat.lt_or_ge i ((exA u).length) with hlt | hge
 ·have hd:=drop_at hlt
  exact lN mdL [dt ((i:Int)<((exA u).length:Int)),am ((0:Int)<=(i:Int)/\(i:Int)<((Al.cs (exA u)).length:Int)) (by (simp only [Al.cs_len]; omega)),ar (List.getD (Al.cs (exA u)) (Int.toNat (i:Int)) []) (alL (List.getD (exA u) i default)) (by simp only [Int.toNat_natCast,Int.toNat_zero]; rw [@Al.cs_at (exA u) (i) hlt]; try rfl),cl (@has (List.getD (exA u) i default) (by simp_all [List.length_map,List.length_append,List.length_cons,List.length_nil,nmsC_len,Pr.cs_len,Tp.cs_len,Pm.cs_len,Ex.cs_len,Al.cs_len,Vr.cs_len,Cn.cs_len,Da.cs_len,Cl.cs_len,Bo.cs_len,Df.cs_len,In.cs_len,Cs.cs_len,Ms.cs_len,Qu.cs_len,Int.toNat_natCast,Bool.cond_true_left,Bool.cond_false_right,Int.toNat_zero,tn1])),wr ((i:Int)+1)] hlt (mxI true n (dfz (alB (List.getD (exA u) i default)))) trivial (by rw [hd,dpA_f])
 ·have he:i=(exA u).length:=by omega
  exact lX mdL [df ((i:Int)<((exA u).length:Int))] (n) (by rw [he,List.drop_length,dpA_f])
def dpD:Nat->Ex->Int
 | 0,_=>0
 | d+1,u=>IntKind.i64.wrap (dpA_f (dpD d) (exA u) (dpK_f (dpD d) (exK u) 0)+1)
theorem dp_ok:∀ (d:Nat) (u:Ex),bulkPs (exL u)<d->d<=100000001->Pu 200 [.agg (exL u)] (.ret (.int .i64 (dpD d u)))
 | 0,_,h,_=>by omega
 | d+1,u,h,hs=>by
  have hb:=ex_bulk u
  have h1:=Ex.bulk (exK u)
  have h2:=Al.bulk (exA u)
  exact pu mdL (fun e=>[sl (Ex.cs_len (exK u)),lp (S.mk [(0,.v (.agg (exL u))),(1,.lp 1 0),(2,vI6 0),(3,vI6 0),(8,.lp 1 3),(9,vL 7 (Ex.cs (exK u))),(10,vI6 ((exK u).length:Int)),(11,vI6 0)] [(1,exV u)] e) (@dpK (u) ((dpD d)) (fun w hw=>dp_ok d w (by have:=Ex.mem hw; omega) oM) (0) (e) oM) xr,sl (Al.cs_len (exA u)),lp (S.mk [(1,.lp 1 0),(2,vI6 0),(3,vI6 (dpK_f (dpD d) (exK u) 0)),(9,vL 7 (Ex.cs (exK u))),(10,vI6 ((exK u).length:Int)),(20,.lp 1 5),(21,vL 9 (Al.cs (exA u))),(22,vI6 ((exA u).length:Int)),(23,vI6 0)] [(1,exV u)] e) (@dpA (u) ((dpD d)) (fun w hw=>dp_ok d w (by have:=Ex.mem hw; omega) oM) (fun w hw=>dp_ok d (alB w) (by have:=Al.mem hw; have:=al_bulk w; omega) oM) oM (dpK_f (dpD d) (exK u) 0) (e) oM) xr,kp]) func200
def dpF(u:Ex):Int:=dpD (bulkPs (exL u)+1) u
theorem dpT(u:Ex)(hs:bulkPs (exL u)<=100000000):Pu 200 [.agg (exL u)] (.ret (.int .i64 (dpF u))):=dp_ok _ u oM oM
mutual
theorem Pr.cnx:∀x:Pr,noXs (Pr.c x)=true
 | .mk _ _ _ k=>by simp only [Pr.c,noXs,PV.noX,Pr.csnx k,Bool.and_self]
theorem Pr.csnx:∀l:List Pr,noXss (Pr.cs l)=true
 | []=>rfl
 | x::r=>by simp only [Pr.cs,noXss,Pr.cnx x,Pr.csnx r,Bool.and_self]
end
mutual
theorem Tp.cnx:∀x:Tp,noXs (Tp.c x)=true
 | .mk _ _ a ns p ps=>by simp only [Tp.c,noXs,PV.noX,Tp.csnx a,nms_nx,Pr.csnx,Bool.and_self]
theorem Tp.csnx:∀l:List Tp,noXss (Tp.cs l)=true
 | []=>rfl
 | x::r=>by simp only [Tp.cs,noXss,Tp.cnx x,Tp.csnx r,Bool.and_self]
end
theorem Pm.nx(x:Pm):noXs (pmL x)=true:=by simp only [noXs,PV.noX,Tp.csnx,nms_nx,Pr.csnx,Bool.and_self]
theorem Pm.csnx:∀l:List Pm,noXss (Pm.cs l)=true
 | []=>rfl
 | x::r=>by simp only [Pm.cs,noXss,Pm.nx x,Pm.csnx r,Bool.and_self]
mutual
theorem Ex.cnx:∀x:Ex,noXs (Ex.c x)=true
 | .mk _ _ _ k p a t=>by simp only [Ex.c,noXs,PV.noX,Ex.csnx k,Pm.csnx,Al.csnx a,Tp.csnx,Bool.and_self]
theorem Ex.csnx:∀l:List Ex,noXss (Ex.cs l)=true
 | []=>rfl
 | x::r=>by simp only [Ex.cs,noXss,Ex.cnx x,Ex.csnx r,Bool.and_self]
theorem Al.cnx:∀x:Al,noXs (Al.c x)=true
 | .mk _ ns b=>by simp only [Al.c,noXs,PV.noX,nms_nx,Ex.cnx b,Bool.and_self]
theorem Al.csnx:∀l:List Al,noXss (Al.cs l)=true
 | []=>rfl
 | x::r=>by simp only [Al.cs,noXss,Al.cnx x,Al.csnx r,Bool.and_self]
end
theorem Ex.nx(x:Ex):noXs (exL x)=true:=by rw [<-Ex.c_eq]; exact Ex.cnx x
theorem Vr.nx(x:Vr):noXs (vrL x)=true:=by simp only [noXs,PV.noX,Pr.csnx,Tp.csnx,Pm.csnx,Ex.csnx,Al.csnx,nms_nx,Bool.and_self]
theorem Vr.csnx:∀l:List Vr,noXss (Vr.cs l)=true
 | []=>rfl
 | x::r=>by simp only [Vr.cs,noXss,Vr.nx x,Vr.csnx r,Bool.and_self]
theorem Cn.nx(x:Cn):noXs (cnL x)=true:=by simp only [noXs,PV.noX,Pr.csnx,Tp.csnx,Pm.csnx,Ex.csnx,Al.csnx,nms_nx,Vr.csnx,Bool.and_self]
theorem Cn.csnx:∀l:List Cn,noXss (Cn.cs l)=true
 | []=>rfl
 | x::r=>by simp only [Cn.cs,noXss,Cn.nx x,Cn.csnx r,Bool.and_self]
theorem Da.nx(x:Da):noXs (daL x)=true:=by simp only [noXs,PV.noX,Pr.csnx,Tp.csnx,Pm.csnx,Ex.csnx,Al.csnx,nms_nx,Vr.csnx,Cn.csnx,Bool.and_self]
theorem Da.csnx:∀l:List Da,noXss (Da.cs l)=true
 | []=>rfl
 | x::r=>by simp only [Da.cs,noXss,Da.nx x,Da.csnx r,Bool.and_self]
theorem Cl.nx(x:Cl):noXs (clL x)=true:=by simp only [noXs,PV.noX,Pr.csnx,Tp.csnx,Pm.csnx,Ex.csnx,Al.csnx,nms_nx,Vr.csnx,Cn.csnx,Da.csnx,Bool.and_self]
theorem Cl.csnx:∀l:List Cl,noXss (Cl.cs l)=true
 | []=>rfl
 | x::r=>by simp only [Cl.cs,noXss,Cl.nx x,Cl.csnx r,Bool.and_self]
theorem Bo.nx(x:Bo):noXs (boL x)=true:=by simp only [noXs,PV.noX,Pr.csnx,Tp.csnx,Pm.csnx,Ex.csnx,Al.csnx,nms_nx,Vr.csnx,Cn.csnx,Da.csnx,Cl.csnx,Bool.and_self]
theorem Bo.csnx:∀l:List Bo,noXss (Bo.cs l)=true
 | []=>rfl
 | x::r=>by simp only [Bo.cs,noXss,Bo.nx x,Bo.csnx r,Bool.and_self]
theorem Df.nx(x:Df):noXs (dfL x)=true:=by simp only [noXs,PV.noX,Pr.csnx,Tp.csnx,Pm.csnx,Ex.csnx,Al.csnx,nms_nx,Vr.csnx,Cn.csnx,Da.csnx,Cl.csnx,Bo.csnx,Bool.and_self]
theorem Df.csnx:∀l:List Df,noXss (Df.cs l)=true
 | []=>rfl
 | x::r=>by simp only [Df.cs,noXss,Df.nx x,Df.csnx r,Bool.and_self]
theorem In.nx(x:In):noXs (inL x)=true:=by simp only [noXs,PV.noX,Pr.csnx,Tp.csnx,Pm.csnx,Ex.csnx,Al.csnx,nms_nx,Vr.csnx,Cn.csnx,Da.csnx,Cl.csnx,Bo.csnx,Df.csnx,Bool.and_self]
theorem In.csnx:∀l:List In,noXss (In.cs l)=true
 | []=>rfl
 | x::r=>by simp only [In.cs,noXss,In.nx x,In.csnx r,Bool.and_self]
theorem Cs.nx(x:Cs):noXs (csL x)=true:=by simp only [noXs,PV.noX,Pr.csnx,Tp.csnx,Pm.csnx,Ex.csnx,Al.csnx,nms_nx,Vr.csnx,Cn.csnx,Da.csnx,Cl.csnx,Bo.csnx,Df.csnx,In.csnx,Bool.and_self]
theorem Cs.csnx:∀l:List Cs,noXss (Cs.cs l)=true
 | []=>rfl
 | x::r=>by simp only [Cs.cs,noXss,Cs.nx x,Cs.csnx r,Bool.and_self]
theorem Ms.nx(x:Ms):noXs (msL x)=true:=by simp only [noXs,PV.noX,Pr.csnx,Tp.csnx,Pm.csnx,Ex.csnx,Al.csnx,nms_nx,Vr.csnx,Cn.csnx,Da.csnx,Cl.csnx,Bo.csnx,Df.csnx,In.csnx,Cs.csnx,Bool.and_self]
theorem Ms.csnx:∀l:List Ms,noXss (Ms.cs l)=true
 | []=>rfl
 | x::r=>by simp only [Ms.cs,noXss,Ms.nx x,Ms.csnx r,Bool.and_self]
theorem Qu.nx(x:Qu):noXs (quL x)=true:=by simp only [noXs,PV.noX,Pr.csnx,Tp.csnx,Pm.csnx,Ex.csnx,Al.csnx,nms_nx,Vr.csnx,Cn.csnx,Da.csnx,Cl.csnx,Bo.csnx,Df.csnx,In.csnx,Cs.csnx,Ms.csnx,Bool.and_self]
theorem Qu.csnx:∀l:List Qu,noXss (Qu.cs l)=true
 | []=>rfl
 | x::r=>by simp only [Qu.cs,noXss,Qu.nx x,Qu.csnx r,Bool.and_self]
theorem noXA{l:List PV}(h:noXs l=true):noXs [.agg l]=true:=by rw [noXs,PV.noX,h]; rfl
def mdS:Md:=⟨fun _=>some false,fun t=>t==1000002||t==1000007⟩
abbrev ndT_I(y:Ex)(a:Bool)(b:Bool)(c:Int)(d:Int)(m:Bool)(o:Bool)(g:Int)(k:Int)(t:Bool)(z:Bool)(j:Int)(e:Ext):S:=S.mk [(1,.lp 1 0),(2,vI6 0),(124,vL 9 (Tp.cs (exT y))),(125,vI6 ((exT y).length:Int)),(126,vI6 j)] [(1,exV y)] e
inductive ndT_R where
 | e0 (el:Tp)
 | e1
def ndT_f  : List Tp->ndT_R
 | []=>(ndT_R.e1)
 | el::r=>(if tyC_r0 el=0 then ndT_f  r  else (ndT_R.e0 el))
def ndT_q(y:Ex)(a:Bool)(b:Bool)(c:Int)(d:Int)(m:Bool)(o:Bool)(g:Int)(k:Int)(t:Bool)(z:Bool)(e:Ext):ndT_R->PExit × S
 | .e0 el=>(.ret,S.mk [(1,.lp 1 0),(2,vI6 (tyC_r0 el)),(124,vL 9 (Tp.cs (exT y))),(125,vI6 ((exT y).length:Int))] [(1,exV y)] e)
 | .e1=>(.exit 1,S.mk [(1,.lp 1 0),(2,vI6 0),(124,vL 9 (Tp.cs (exT y))),(125,vI6 ((exT y).length:Int))] [(1,exV y)] e)
theorem ndT_lp(y:Ex)(a b:Bool)(c d:Int)(m o:Bool)(g k:Int)(t z:Bool)(hsh:Pu 239 [.int .i64 (exO y)] (.ret (.tup [.agg (shL a b c d m o g k t),.bool z])))(hP:(exP y).length<=1000000000)(hA:(exA y).length<=1000000000)(hP2:(bdA_f (exP y) []).length<=100000000)(hA2:(coA_f (exA y) []).length<=1000000000)(hA3:altN (exA y)<=100000000)(htk:∀w:Tp,w∈exT y->Pu 85 [.agg (tpL w)] (.ret (.int .i64 (tyC_r0 w))))(e:Ext)(hN:(exT y).length<=1000000000):(Ob.loop 156 (loopF f203 0) (ndT_I y a b c d m o g k t z 0  e) (ndT_q y a b c d m o g k t z e (ndT_f  (List.drop 0 ((exT y))))).1 (ndT_q y a b c d m o g k t z e (ndT_f  (List.drop 0 ((exT y))))).2).ok prog:=by
 refine rng ((exT y).length) (fun j _=>ndT_I y a b c d m o g k t z j  e) (fun i _=>ndT_f  (List.drop i ((exT y)))) (ndT_q y a b c d m o g k t z e) (fun i _=>True) kR ?_ () trivial
 rintro i u hi -
 rcases Nat.lt_or_ge i ((exT y).length) with hlt | hge
 ·have hd:=drop_at hlt
  by_cases h0:tyC_r0 (List.getD (exT y) i default)=0
  ·exact lN mdS [dt ((i:Int)<((exT y).length:Int)),am ((0:Int)<=(i:Int)/\(i:Int)<((Tp.cs (exT y)).length:Int)) (by (simp only [Tp.cs_len]; omega)),ar (List.getD (Tp.cs (exT y)) (Int.toNat (i:Int)) []) (tpL (List.getD (exT y) i default)) (by simp only [Int.toNat_natCast,Int.toNat_zero]; rw [@Tp.cs_at (exT y) (i) hlt]; try rfl),cl (@htk (List.getD (exT y) i default) (by simp_all [List.length_map,List.length_append,List.length_cons,List.length_nil,nmsC_len,Pr.cs_len,Tp.cs_len,Pm.cs_len,Ex.cs_len,Al.cs_len,Vr.cs_len,Cn.cs_len,Da.cs_len,Cl.cs_len,Bo.cs_len,Df.cs_len,In.cs_len,Cs.cs_len,Ms.cs_len,Qu.cs_len,Int.toNat_natCast,Bool.cond_true_left,Bool.cond_false_right,Int.toNat_zero,tn1])),nn1 h0,wr ((i:Int)+1)] hlt () trivial (by rw [hd,ndT_f,iP h0])
  ·exact lX mdS [dt ((i:Int)<((exT y).length:Int)),am ((0:Int)<=(i:Int)/\(i:Int)<((Tp.cs (exT y)).length:Int)) (by (simp only [Tp.cs_len]; omega)),ar (List.getD (Tp.cs (exT y)) (Int.toNat (i:Int)) []) (tpL (List.getD (exT y) i default)) (by simp only [Int.toNat_natCast,Int.toNat_zero]; rw [@Tp.cs_at (exT y) (i) hlt]; try rfl),cl (@htk (List.getD (exT y) i default) (by simp_all [List.length_map,List.length_append,List.length_cons,List.length_nil,nmsC_len,Pr.cs_len,Tp.cs_len,Pm.cs_len,Ex.cs_len,Al.cs_len,Vr.cs_len,Cn.cs_len,Da.cs_len,Cl.cs_len,Bo.cs_len,Df.cs_len,In.cs_len,Cs.cs_len,Ms.cs_len,Qu.cs_len,Int.toNat_natCast,Bool.cond_true_left,Bool.cond_false_right,Int.toNat_zero,tn1])),nt1 h0] (ndT_R.e0 (List.getD ((exT y)) i default)) (by rw [hd,ndT_f,iN h0])
 ·have he:i=(exT y).length:=by omega
  exact lX mdS [df ((i:Int)<((exT y).length:Int))] (ndT_R.e1) (by rw [he,List.drop_length,ndT_f])
theorem ndT_0(y:Ex)(a b:Bool)(c d:Int)(m o:Bool)(g k:Int)(t z:Bool)(hsh:Pu 239 [.int .i64 (exO y)] (.ret (.tup [.agg (shL a b c d m o g k t),.bool z])))(hP:(exP y).length<=1000000000)(hA:(exA y).length<=1000000000)(hP2:(bdA_f (exP y) []).length<=100000000)(hA2:(coA_f (exA y) []).length<=1000000000)(hA3:altN (exA y)<=100000000)(htk:∀w:Tp,w∈exT y->Pu 85 [.agg (tpL w)] (.ret (.int .i64 (tyC_r0 w))))(e:Ext)(hN:(exT y).length<=1000000000)(p0:Tp)(hres:(ndT_f  ((exT y)))=(ndT_R.e0 p0)):(Ob.loop 156 (loopF f203 0) (ndT_I y a b c d m o g k t z 0  e) (ndT_q y a b c d m o g k t z e (ndT_R.e0 p0)).1 (ndT_q y a b c d m o g k t z e (ndT_R.e0 p0)).2).ok prog:=
 rz (ndT_lp y a b c d m o g k t z hsh hP hA hP2 hA2 hA3 htk e hN) hres
theorem ndT_1(y:Ex)(a b:Bool)(c d:Int)(m o:Bool)(g k:Int)(t z:Bool)(hsh:Pu 239 [.int .i64 (exO y)] (.ret (.tup [.agg (shL a b c d m o g k t),.bool z])))(hP:(exP y).length<=1000000000)(hA:(exA y).length<=1000000000)(hP2:(bdA_f (exP y) []).length<=100000000)(hA2:(coA_f (exA y) []).length<=1000000000)(hA3:altN (exA y)<=100000000)(htk:∀w:Tp,w∈exT y->Pu 85 [.agg (tpL w)] (.ret (.int .i64 (tyC_r0 w))))(e:Ext)(hN:(exT y).length<=1000000000)(hres:(ndT_f  ((exT y)))=(ndT_R.e1)):(Ob.loop 156 (loopF f203 0) (ndT_I y a b c d m o g k t z 0  e) (ndT_q y a b c d m o g k t z e (ndT_R.e1)).1 (ndT_q y a b c d m o g k t z e (ndT_R.e1)).2).ok prog:=
 rz (ndT_lp y a b c d m o g k t z hsh hP hA hP2 hA2 hA3 htk e hN) hres
abbrev ndP_I(y:Ex)(a:Bool)(b:Bool)(c:Int)(d:Int)(m:Bool)(o:Bool)(g:Int)(k:Int)(t:Bool)(z:Bool)(j:Int)(e:Ext):S:=S.mk [(2,vI6 0),(137,vL 10 (Pm.cs (exP y))),(138,vI6 ((exP y).length:Int)),(139,vI6 j)] [] e
inductive ndP_R where
 | e0 (el:Pm)
 | e1
def ndP_f  : List Pm->ndP_R
 | []=>(ndP_R.e1)
 | el::r=>(if tyC_r0 (pmT el)=0 then ndP_f  r  else (if tyZ_r0 (pmT el)=false then (ndP_R.e0 el) else ndP_f  r))
def ndP_q(y:Ex)(a:Bool)(b:Bool)(c:Int)(d:Int)(m:Bool)(o:Bool)(g:Int)(k:Int)(t:Bool)(z:Bool)(e:Ext):ndP_R->PExit × S
 | .e0 el=>(.ret,S.mk [(2,vI6 (tyC_r0 (pmT el))),(137,vL 10 (Pm.cs (exP y))),(138,vI6 ((exP y).length:Int))] [] e)
 | .e1=>(.exit 3,S.mk [(2,vI6 0),(137,vL 10 (Pm.cs (exP y))),(138,vI6 ((exP y).length:Int))] [] e)
theorem ndP_lp(y:Ex)(a b:Bool)(c d:Int)(m o:Bool)(g k:Int)(t z:Bool)(hsh:Pu 239 [.int .i64 (exO y)] (.ret (.tup [.agg (shL a b c d m o g k t),.bool z])))(hP:(exP y).length<=1000000000)(hA:(exA y).length<=1000000000)(hP2:(bdA_f (exP y) []).length<=100000000)(hA2:(coA_f (exA y) []).length<=1000000000)(hA3:altN (exA y)<=100000000)(htk:∀w:Tp,w∈exT y->Pu 85 [.agg (tpL w)] (.ret (.int .i64 (tyC_r0 w))))(hT:(exT y).length<=1000000000)(hpk:∀w:Pm,w∈exP y->Pu 85 [.agg (tpL (pmT w))] (.ret (.int .i64 (tyC_r0 (pmT w)))))(e:Ext)(hN:(exP y).length<=1000000000):(Ob.loop 156 (loopF f203 1) (ndP_I y a b c d m o g k t z 0  e) (ndP_q y a b c d m o g k t z e (ndP_f  (List.drop 0 ((exP y))))).1 (ndP_q y a b c d m o g k t z e (ndP_f  (List.drop 0 ((exP y))))).2).ok prog:=by
 refine rng ((exP y).length) (fun j _=>ndP_I y a b c d m o g k t z j  e) (fun i _=>ndP_f  (List.drop i ((exP y)))) (ndP_q y a b c d m o g k t z e) (fun i _=>True) kR ?_ () trivial
 rintro i u hi -
 rcases Nat.lt_or_ge i ((exP y).length) with hlt | hge
 ·have hd:=drop_at hlt
  by_cases h0:tyC_r0 (pmT (List.getD (exP y) i default))=0
  ·exact lN mdS [dt ((i:Int)<((exP y).length:Int)),am ((0:Int)<=(i:Int)/\(i:Int)<((Pm.cs (exP y)).length:Int)) (by (simp only [Pm.cs_len]; omega)),ar (List.getD (Pm.cs (exP y)) (Int.toNat (i:Int)) []) (pmL (List.getD (exP y) i default)) (by simp only [Int.toNat_natCast,Int.toNat_zero]; rw [@Pm.cs_at (exP y) (i) hlt]; try rfl),cl (@hpk (List.getD (exP y) i default) (by simp_all [List.length_map,List.length_append,List.length_cons,List.length_nil,nmsC_len,Pr.cs_len,Tp.cs_len,Pm.cs_len,Ex.cs_len,Al.cs_len,Vr.cs_len,Cn.cs_len,Da.cs_len,Cl.cs_len,Bo.cs_len,Df.cs_len,In.cs_len,Cs.cs_len,Ms.cs_len,Qu.cs_len,Int.toNat_natCast,Bool.cond_true_left,Bool.cond_false_right,Int.toNat_zero,tn1])),rp 5 (nn1 h0),bf false,wr ((i:Int)+1)] hlt () trivial (by rw [hd,ndP_f,iP h0])
  ·by_cases h1:tyZ_r0 (pmT (List.getD (exP y) i default))=false
   ·exact lX mdS [dt ((i:Int)<((exP y).length:Int)),am ((0:Int)<=(i:Int)/\(i:Int)<((Pm.cs (exP y)).length:Int)) (by (simp only [Pm.cs_len]; omega)),ar (List.getD (Pm.cs (exP y)) (Int.toNat (i:Int)) []) (pmL (List.getD (exP y) i default)) (by simp only [Int.toNat_natCast,Int.toNat_zero]; rw [@Pm.cs_at (exP y) (i) hlt]; try rfl),cl (@hpk (List.getD (exP y) i default) (by simp_all [List.length_map,List.length_append,List.length_cons,List.length_nil,nmsC_len,Pr.cs_len,Tp.cs_len,Pm.cs_len,Ex.cs_len,Al.cs_len,Vr.cs_len,Cn.cs_len,Da.cs_len,Cl.cs_len,Bo.cs_len,Df.cs_len,In.cs_len,Cs.cs_len,Ms.cs_len,Qu.cs_len,Int.toNat_natCast,Bool.cond_true_left,Bool.cond_false_right,Int.toNat_zero,tn1])),rp 3 (nt1 h0),cl (@nnT (pmT (List.getD (exP y) i default))),rp 2 (nt1 h0),bt1 (bnT h1)] (ndP_R.e0 (List.getD ((exP y)) i default)) (by rw [hd,ndP_f,iN h0,iP h1])
   ·exact lN mdS [dt ((i:Int)<((exP y).length:Int)),am ((0:Int)<=(i:Int)/\(i:Int)<((Pm.cs (exP y)).length:Int)) (by (simp only [Pm.cs_len]; omega)),ar (List.getD (Pm.cs (exP y)) (Int.toNat (i:Int)) []) (pmL (List.getD (exP y) i default)) (by simp only [Int.toNat_natCast,Int.toNat_zero]; rw [@Pm.cs_at (exP y) (i) hlt]; try rfl),cl (@hpk (List.getD (exP y) i default) (by simp_all [List.length_map,List.length_append,List.length_cons,List.length_nil,nmsC_len,Pr.cs_len,Tp.cs_len,Pm.cs_len,Ex.cs_len,Al.cs_len,Vr.cs_len,Cn.cs_len,Da.cs_len,Cl.cs_len,Bo.cs_len,Df.cs_len,In.cs_len,Cs.cs_len,Ms.cs_len,Qu.cs_len,Int.toNat_natCast,Bool.cond_true_left,Bool.cond_false_right,Int.toNat_zero,tn1])),rp 3 (nt1 h0),cl (@nnT (pmT (List.getD (exP y) i default))),rp 2 (nt1 h0),bf1 (bnF (bTF h1)),wr ((i:Int)+1)] hlt () trivial (by rw [hd,ndP_f,iN h0,iN h1])
 ·have he:i=(exP y).length:=by omega
  exact lX mdS [df ((i:Int)<((exP y).length:Int))] (ndP_R.e1) (by rw [he,List.drop_length,ndP_f])
theorem ndP_0(y:Ex)(a b:Bool)(c d:Int)(m o:Bool)(g k:Int)(t z:Bool)(hsh:Pu 239 [.int .i64 (exO y)] (.ret (.tup [.agg (shL a b c d m o g k t),.bool z])))(hP:(exP y).length<=1000000000)(hA:(exA y).length<=1000000000)(hP2:(bdA_f (exP y) []).length<=100000000)(hA2:(coA_f (exA y) []).length<=1000000000)(hA3:altN (exA y)<=100000000)(htk:∀w:Tp,w∈exT y->Pu 85 [.agg (tpL w)] (.ret (.int .i64 (tyC_r0 w))))(hT:(exT y).length<=1000000000)(hpk:∀w:Pm,w∈exP y->Pu 85 [.agg (tpL (pmT w))] (.ret (.int .i64 (tyC_r0 (pmT w)))))(e:Ext)(hN:(exP y).length<=1000000000)(p0:Pm)(hres:(ndP_f  ((exP y)))=(ndP_R.e0 p0)):(Ob.loop 156 (loopF f203 1) (ndP_I y a b c d m o g k t z 0  e) (ndP_q y a b c d m o g k t z e (ndP_R.e0 p0)).1 (ndP_q y a b c d m o g k t z e (ndP_R.e0 p0)).2).ok prog:=
 rz (ndP_lp y a b c d m o g k t z hsh hP hA hP2 hA2 hA3 htk hT hpk e hN) hres
theorem ndP_1(y:Ex)(a b:Bool)(c d:Int)(m o:Bool)(g k:Int)(t z:Bool)(hsh:Pu 239 [.int .i64 (exO y)] (.ret (.tup [.agg (shL a b c d m o g k t),.bool z])))(hP:(exP y).length<=1000000000)(hA:(exA y).length<=1000000000)(hP2:(bdA_f (exP y) []).length<=100000000)(hA2:(coA_f (exA y) []).length<=1000000000)(hA3:altN (exA y)<=100000000)(htk:∀w:Tp,w∈exT y->Pu 85 [.agg (tpL w)] (.ret (.int .i64 (tyC_r0 w))))(hT:(exT y).length<=1000000000)(hpk:∀w:Pm,w∈exP y->Pu 85 [.agg (tpL (pmT w))] (.ret (.int .i64 (tyC_r0 (pmT w)))))(e:Ext)(hN:(exP y).length<=1000000000)(hres:(ndP_f  ((exP y)))=(ndP_R.e1)):(Ob.loop 156 (loopF f203 1) (ndP_I y a b c d m o g k t z 0  e) (ndP_q y a b c d m o g k t z e (ndP_R.e1)).1 (ndP_q y a b c d m o g k t z e (ndP_R.e1)).2).ok prog:=
 rz (ndP_lp y a b c d m o g k t z hsh hP hA hP2 hA2 hA3 htk hT hpk e hN) hres
def paE(p:Pm):Int:=if tyC_r0 (pmT p)=0 then 0 else if tyZ_r0 (pmT p)=false then tyC_r0 (pmT p) else 0
theorem ndT_x:∀l:List Tp,(frE tyC_r0 l=0->ndT_f l = .e1)/\(¬frE tyC_r0 l=0->∃w,ndT_f l = .e0 w/\tyC_r0 w=frE tyC_r0 l)
 | []=>⟨fun _=>rfl,fun h=>absurd rfl h⟩
 | x::r=>by
  have ih:=ndT_x r
  by_cases h:tyC_r0 x=0
  ·simp only [frE,ndT_f,h,if_true,not_true_eq_false,if_false]; exact ih
  ·simp only [frE,ndT_f,h,if_false,not_false_eq_true,if_true]; exact ⟨fun h'=>h'.elim,fun _=>⟨x,rfl,rfl⟩⟩
theorem ndP_x:∀l:List Pm,(frE paE l=0->ndP_f l = .e1)/\(¬frE paE l=0->∃w,ndP_f l = .e0 w/\tyC_r0 (pmT w)=frE paE l)
 | []=>⟨fun _=>rfl,fun h=>absurd rfl h⟩
 | x::r=>by
  have ih:=ndP_x r
  by_cases h:tyC_r0 (pmT x)=0
  ·have e:paE x=0:=by unfold paE; rw [iP h]
   simp only [frE,ndP_f,e,h,if_true,not_true_eq_false,if_false]; exact ih
  ·by_cases h2:tyZ_r0 (pmT x)=false
   ·have e:paE x=tyC_r0 (pmT x):=by unfold paE; rw [iN h,iP h2]
    simp only [frE,ndP_f,e,h,h2,if_false,not_false_eq_true,if_true]; exact ⟨fun h'=>h'.elim,fun _=>⟨x,rfl,rfl⟩⟩
   ·have e:paE x=0:=by unfold paE; rw [iN h,iN h2]
    simp only [frE,ndP_f,e,h,h2,if_true,if_false,not_false_eq_true]; exact ih
def sndE(y:Ex)(a b:Bool)(c d:Int)(m o:Bool)(g k:Int)(t z:Bool):Int:=
 if (!z||nd_2_v5 y a b c d m o g k t z)=true then 1 else if ctS_r0 y c d m o g k=false then 13 else if nd_7_v92 y a b c d m o g k t=true then 2
 else if nam_r0 y b=0 then (if frE tyC_r0 (exT y)=0 then frE paE (exP y) else frE tyC_r0 (exT y)) else nam_r0 y b
theorem sndT(y:Ex)(a b:Bool)(c d:Int)(m o:Bool)(g k:Int)(t z:Bool)(hsh:Pu 239 [.int .i64 (exO y)] (.ret (.tup [.agg (shL a b c d m o g k t),.bool z])))(hP:(exP y).length<=1000000000)(hA:(exA y).length<=1000000000)(hP2:(bdA_f (exP y) []).length<=100000000)(hA2:(coA_f (exA y) []).length<=1000000000)(hA3:altN (exA y)<=100000000)(htk:∀w:Tp,w∈exT y->Pu 85 [.agg (tpL w)] (.ret (.int .i64 (tyC_r0 w))))(hT:(exT y).length<=1000000000)(hpk:∀w:Pm,w∈exP y->Pu 85 [.agg (tpL (pmT w))] (.ret (.int .i64 (tyC_r0 (pmT w))))):Pu 203 [.agg (exL y)] (.ret (.int .i64 (sndE y a b c d m o g k t z))):=by
 unfold sndE
 by_cases h0:(!z||nd_2_v5 y a b c d m o g k t z)=true
 ·rw [iP h0]; exact pu mdS (fun e=>[cl hsh,lf (S.mk [(0,.v (.agg (exL y))),(1,.lp 1 0),(2,vI6 0),(14,.lp 1 0),(15,vI6 (exO y)),(16,.v (.tup [.agg [.bool a,.bool b,pI c,pI d,.bool m,.bool o,pI g,pI k,.bool t],.bool z])),(13,.v (.tup [.agg [.bool a,.bool b,pI c,pI d,.bool m,.bool o,pI g,pI k,.bool t],.bool z])),(17,.v (.agg [.bool a,.bool b,pI c,pI d,.bool m,.bool o,pI g,pI k,.bool t])),(18,.v (.bool z)),(3,.lp 3 0),(4,.v (.bool z))] [(1,exV y),(3,[.v (.bool a),.v (.bool b),vI6 c,vI6 d,.v (.bool m),.v (.bool o),vI6 g,vI6 k,.v (.bool t)])] e) (@nd_2J (y) (a) (b) (c) (d) (m) (o) (g) (k) (t) (z) (e)) ⟨⟨W,W,W,W,tVv⟩,⟨⟨W,W,W,W,W,W,W,tVv⟩,⟨W,W,W,W,W,W,W,W,W,tVv⟩,tVv⟩,rfl⟩,mg,av (.v (.bool (bif !z then true else nd_2_v5 y a b c d m o g k t z))) (.v (.bool (!z||nd_2_v5 y a b c d m o g k t z))) rF,bt1 h0]) func203
 ·rw [iN h0]
  have h0:=bFT h0
  by_cases h1:ctS_r0 y c d m o g k=false
  ·rw [iP h1]; exact pu mdS (fun e=>[cl hsh,lf (S.mk [(0,.v (.agg (exL y))),(1,.lp 1 0),(2,vI6 0),(14,.lp 1 0),(15,vI6 (exO y)),(16,.v (.tup [.agg [.bool a,.bool b,pI c,pI d,.bool m,.bool o,pI g,pI k,.bool t],.bool z])),(13,.v (.tup [.agg [.bool a,.bool b,pI c,pI d,.bool m,.bool o,pI g,pI k,.bool t],.bool z])),(17,.v (.agg [.bool a,.bool b,pI c,pI d,.bool m,.bool o,pI g,pI k,.bool t])),(18,.v (.bool z)),(3,.lp 3 0),(4,.v (.bool z))] [(1,exV y),(3,[.v (.bool a),.v (.bool b),vI6 c,vI6 d,.v (.bool m),.v (.bool o),vI6 g,vI6 k,.v (.bool t)])] e) (@nd_2J (y) (a) (b) (c) (d) (m) (o) (g) (k) (t) (z) (e)) ⟨⟨W,W,W,W,tVv⟩,⟨⟨W,W,W,W,W,W,W,tVv⟩,⟨W,W,W,W,W,W,W,W,W,tVv⟩,tVv⟩,rfl⟩,mg,av (.v (.bool (bif !z then true else nd_2_v5 y a b c d m o g k t z))) (.v (.bool (!z||nd_2_v5 y a b c d m o g k t z))) rF,bf1 h0,cl (@ctS (y) (a) (b) (c) (d) (m) (o) (g) (k) (t) hA),bt1 (bnT h1)]) func203
  ·rw [iN h1]
   have h1:=bTF h1
   by_cases h2:nd_7_v92 y a b c d m o g k t=true
   ·rw [iP h2]; exact pu mdS (fun e=>[cl hsh,lf (S.mk [(0,.v (.agg (exL y))),(1,.lp 1 0),(2,vI6 0),(14,.lp 1 0),(15,vI6 (exO y)),(16,.v (.tup [.agg [.bool a,.bool b,pI c,pI d,.bool m,.bool o,pI g,pI k,.bool t],.bool z])),(13,.v (.tup [.agg [.bool a,.bool b,pI c,pI d,.bool m,.bool o,pI g,pI k,.bool t],.bool z])),(17,.v (.agg [.bool a,.bool b,pI c,pI d,.bool m,.bool o,pI g,pI k,.bool t])),(18,.v (.bool z)),(3,.lp 3 0),(4,.v (.bool z))] [(1,exV y),(3,[.v (.bool a),.v (.bool b),vI6 c,vI6 d,.v (.bool m),.v (.bool o),vI6 g,vI6 k,.v (.bool t)])] e) (@nd_2J (y) (a) (b) (c) (d) (m) (o) (g) (k) (t) (z) (e)) ⟨⟨W,W,W,W,tVv⟩,⟨⟨W,W,W,W,W,W,W,tVv⟩,⟨W,W,W,W,W,W,W,W,W,tVv⟩,tVv⟩,rfl⟩,mg,av (.v (.bool (bif !z then true else nd_2_v5 y a b c d m o g k t z))) (.v (.bool (!z||nd_2_v5 y a b c d m o g k t z))) rF,bf1 h0,cl (@ctS (y) (a) (b) (c) (d) (m) (o) (g) (k) (t) hA),bf1 (bnF h1),lf (S.mk [(1,.lp 1 0),(2,vI6 0),(3,.lp 3 0),(4,.v (.bool z)),(5,.v (.bool (nd_2_v5 y a b c d m o g k t z))),(82,.v (.bool z)),(83,.v (.bool !z)),(84,.v (.bool !z)),(86,.v (.bool (!z||nd_2_v5 y a b c d m o g k t z))),(81,.v (.bool (!z||nd_2_v5 y a b c d m o g k t z))),(88,.v (.agg (exL y))),(89,.v (.agg [.bool a,.bool b,pI c,pI d,.bool m,.bool o,pI g,pI k,.bool t])),(90,.v (.bool (ctS_r0 y c d m o g k))),(91,.v (.bool !ctS_r0 y c d m o g k)),(87,.v (.bool !ctS_r0 y c d m o g k))] [(1,exV y),(3,[.v (.bool a),.v (.bool b),vI6 c,vI6 d,.v (.bool m),.v (.bool o),vI6 g,vI6 k,.v (.bool t)])] e) (@nd_7J (y) (a) (b) (c) (d) (m) (o) (g) (k) (t) (e)) ⟨⟨W,W,W,tVv⟩,⟨⟨W,W,W,W,W,W,W,tVv⟩,⟨W,W,W,W,W,W,W,W,W,tVv⟩,tVv⟩,rfl⟩,bt1 h2]) func203
   ·rw [iN h2]
    have h2:=bFT h2
    by_cases h3:nam_r0 y b=0
    ·rw [iP h3]
     by_cases h4:frE tyC_r0 (exT y)=0
     ·rw [iP h4]
      have h4:=(ndT_x (exT y)).1 h4
      by_cases h5:frE paE (exP y)=0
      ·rw [h5]; exact pu mdS (fun e=>[cl hsh,lf (S.mk [(0,.v (.agg (exL y))),(1,.lp 1 0),(2,vI6 0),(14,.lp 1 0),(15,vI6 (exO y)),(16,.v (.tup [.agg [.bool a,.bool b,pI c,pI d,.bool m,.bool o,pI g,pI k,.bool t],.bool z])),(13,.v (.tup [.agg [.bool a,.bool b,pI c,pI d,.bool m,.bool o,pI g,pI k,.bool t],.bool z])),(17,.v (.agg [.bool a,.bool b,pI c,pI d,.bool m,.bool o,pI g,pI k,.bool t])),(18,.v (.bool z)),(3,.lp 3 0),(4,.v (.bool z))] [(1,exV y),(3,[.v (.bool a),.v (.bool b),vI6 c,vI6 d,.v (.bool m),.v (.bool o),vI6 g,vI6 k,.v (.bool t)])] e) (@nd_2J (y) (a) (b) (c) (d) (m) (o) (g) (k) (t) (z) (e)) ⟨⟨W,W,W,W,tVv⟩,⟨⟨W,W,W,W,W,W,W,tVv⟩,⟨W,W,W,W,W,W,W,W,W,tVv⟩,tVv⟩,rfl⟩,mg,av (.v (.bool (bif !z then true else nd_2_v5 y a b c d m o g k t z))) (.v (.bool (!z||nd_2_v5 y a b c d m o g k t z))) rF,bf1 h0,cl (@ctS (y) (a) (b) (c) (d) (m) (o) (g) (k) (t) hA),bf1 (bnF h1),lf (S.mk [(1,.lp 1 0),(2,vI6 0),(3,.lp 3 0),(4,.v (.bool z)),(5,.v (.bool (nd_2_v5 y a b c d m o g k t z))),(82,.v (.bool z)),(83,.v (.bool !z)),(84,.v (.bool !z)),(86,.v (.bool (!z||nd_2_v5 y a b c d m o g k t z))),(81,.v (.bool (!z||nd_2_v5 y a b c d m o g k t z))),(88,.v (.agg (exL y))),(89,.v (.agg [.bool a,.bool b,pI c,pI d,.bool m,.bool o,pI g,pI k,.bool t])),(90,.v (.bool (ctS_r0 y c d m o g k))),(91,.v (.bool !ctS_r0 y c d m o g k)),(87,.v (.bool !ctS_r0 y c d m o g k))] [(1,exV y),(3,[.v (.bool a),.v (.bool b),vI6 c,vI6 d,.v (.bool m),.v (.bool o),vI6 g,vI6 k,.v (.bool t)])] e) (@nd_7J (y) (a) (b) (c) (d) (m) (o) (g) (k) (t) (e)) ⟨⟨W,W,W,tVv⟩,⟨⟨W,W,W,W,W,W,W,tVv⟩,⟨W,W,W,W,W,W,W,W,W,tVv⟩,tVv⟩,rfl⟩,bf1 h2,cl (@nam (y) (a) (b) (c) (d) (m) (o) (g) (k) (t) hP hA hP2 hA2 hA3),nn1 h3,sl (Tp.cs_len (exT y)),lp (S.mk [(1,.lp 1 0),(2,vI6 0),(3,.lp 3 0),(92,.v (.bool (nd_7_v92 y a b c d m o g k t))),(117,.v (.agg (exL y))),(118,.v (.agg [.bool a,.bool b,pI c,pI d,.bool m,.bool o,pI g,pI k,.bool t])),(119,vI6 (nam_r0 y b)),(6,vI6 (nam_r0 y b)),(120,vI6 (nam_r0 y b)),(121,.v (.bool (nam_r0 y b != 0))),(123,.lp 1 6),(124,vL 9 (Tp.cs (exT y))),(125,vI6 ((exT y).length:Int)),(126,vI6 0)] [(1,exV y),(3,[.v (.bool a),.v (.bool b),vI6 c,vI6 d,.v (.bool m),.v (.bool o),vI6 g,vI6 k,.v (.bool t)])] e) (@ndT_1 (y) (a) (b) (c) (d) (m) (o) (g) (k) (t) (z) hsh hP hA hP2 hA2 hA3 htk (e) hT h4) xr,sl (Pm.cs_len (exP y)),lp (S.mk [(1,.lp 1 0),(2,vI6 0),(124,vL 9 (Tp.cs (exT y))),(125,vI6 ((exT y).length:Int)),(136,.lp 1 4),(137,vL 10 (Pm.cs (exP y))),(138,vI6 ((exP y).length:Int)),(139,vI6 0)] [(1,exV y)] e) (@ndP_1 (y) (a) (b) (c) (d) (m) (o) (g) (k) (t) (z) hsh hP hA hP2 hA2 hA3 htk hT hpk (e) hP ((ndP_x (exP y)).1 h5)) xr]) func203
      ·obtain ⟨w,e1,e2⟩:=(ndP_x (exP y)).2 h5
       rw [<-e2]; exact pu mdS (fun e=>[cl hsh,lf (S.mk [(0,.v (.agg (exL y))),(1,.lp 1 0),(2,vI6 0),(14,.lp 1 0),(15,vI6 (exO y)),(16,.v (.tup [.agg [.bool a,.bool b,pI c,pI d,.bool m,.bool o,pI g,pI k,.bool t],.bool z])),(13,.v (.tup [.agg [.bool a,.bool b,pI c,pI d,.bool m,.bool o,pI g,pI k,.bool t],.bool z])),(17,.v (.agg [.bool a,.bool b,pI c,pI d,.bool m,.bool o,pI g,pI k,.bool t])),(18,.v (.bool z)),(3,.lp 3 0),(4,.v (.bool z))] [(1,exV y),(3,[.v (.bool a),.v (.bool b),vI6 c,vI6 d,.v (.bool m),.v (.bool o),vI6 g,vI6 k,.v (.bool t)])] e) (@nd_2J (y) (a) (b) (c) (d) (m) (o) (g) (k) (t) (z) (e)) ⟨⟨W,W,W,W,tVv⟩,⟨⟨W,W,W,W,W,W,W,tVv⟩,⟨W,W,W,W,W,W,W,W,W,tVv⟩,tVv⟩,rfl⟩,mg,av (.v (.bool (bif !z then true else nd_2_v5 y a b c d m o g k t z))) (.v (.bool (!z||nd_2_v5 y a b c d m o g k t z))) rF,bf1 h0,cl (@ctS (y) (a) (b) (c) (d) (m) (o) (g) (k) (t) hA),bf1 (bnF h1),lf (S.mk [(1,.lp 1 0),(2,vI6 0),(3,.lp 3 0),(4,.v (.bool z)),(5,.v (.bool (nd_2_v5 y a b c d m o g k t z))),(82,.v (.bool z)),(83,.v (.bool !z)),(84,.v (.bool !z)),(86,.v (.bool (!z||nd_2_v5 y a b c d m o g k t z))),(81,.v (.bool (!z||nd_2_v5 y a b c d m o g k t z))),(88,.v (.agg (exL y))),(89,.v (.agg [.bool a,.bool b,pI c,pI d,.bool m,.bool o,pI g,pI k,.bool t])),(90,.v (.bool (ctS_r0 y c d m o g k))),(91,.v (.bool !ctS_r0 y c d m o g k)),(87,.v (.bool !ctS_r0 y c d m o g k))] [(1,exV y),(3,[.v (.bool a),.v (.bool b),vI6 c,vI6 d,.v (.bool m),.v (.bool o),vI6 g,vI6 k,.v (.bool t)])] e) (@nd_7J (y) (a) (b) (c) (d) (m) (o) (g) (k) (t) (e)) ⟨⟨W,W,W,tVv⟩,⟨⟨W,W,W,W,W,W,W,tVv⟩,⟨W,W,W,W,W,W,W,W,W,tVv⟩,tVv⟩,rfl⟩,bf1 h2,cl (@nam (y) (a) (b) (c) (d) (m) (o) (g) (k) (t) hP hA hP2 hA2 hA3),nn1 h3,sl (Tp.cs_len (exT y)),lp (S.mk [(1,.lp 1 0),(2,vI6 0),(3,.lp 3 0),(92,.v (.bool (nd_7_v92 y a b c d m o g k t))),(117,.v (.agg (exL y))),(118,.v (.agg [.bool a,.bool b,pI c,pI d,.bool m,.bool o,pI g,pI k,.bool t])),(119,vI6 (nam_r0 y b)),(6,vI6 (nam_r0 y b)),(120,vI6 (nam_r0 y b)),(121,.v (.bool (nam_r0 y b != 0))),(123,.lp 1 6),(124,vL 9 (Tp.cs (exT y))),(125,vI6 ((exT y).length:Int)),(126,vI6 0)] [(1,exV y),(3,[.v (.bool a),.v (.bool b),vI6 c,vI6 d,.v (.bool m),.v (.bool o),vI6 g,vI6 k,.v (.bool t)])] e) (@ndT_1 (y) (a) (b) (c) (d) (m) (o) (g) (k) (t) (z) hsh hP hA hP2 hA2 hA3 htk (e) hT h4) xr,sl (Pm.cs_len (exP y)),lp (S.mk [(1,.lp 1 0),(2,vI6 0),(124,vL 9 (Tp.cs (exT y))),(125,vI6 ((exT y).length:Int)),(136,.lp 1 4),(137,vL 10 (Pm.cs (exP y))),(138,vI6 ((exP y).length:Int)),(139,vI6 0)] [(1,exV y)] e) (@ndP_0 (y) (a) (b) (c) (d) (m) (o) (g) (k) (t) (z) hsh hP hA hP2 hA2 hA3 htk hT hpk (e) hP w e1) xr]) func203
     ·rw [iN h4]
      obtain ⟨w,e1,e2⟩:=(ndT_x (exT y)).2 h4
      rw [<-e2]; exact pu mdS (fun e=>[cl hsh,lf (S.mk [(0,.v (.agg (exL y))),(1,.lp 1 0),(2,vI6 0),(14,.lp 1 0),(15,vI6 (exO y)),(16,.v (.tup [.agg [.bool a,.bool b,pI c,pI d,.bool m,.bool o,pI g,pI k,.bool t],.bool z])),(13,.v (.tup [.agg [.bool a,.bool b,pI c,pI d,.bool m,.bool o,pI g,pI k,.bool t],.bool z])),(17,.v (.agg [.bool a,.bool b,pI c,pI d,.bool m,.bool o,pI g,pI k,.bool t])),(18,.v (.bool z)),(3,.lp 3 0),(4,.v (.bool z))] [(1,exV y),(3,[.v (.bool a),.v (.bool b),vI6 c,vI6 d,.v (.bool m),.v (.bool o),vI6 g,vI6 k,.v (.bool t)])] e) (@nd_2J (y) (a) (b) (c) (d) (m) (o) (g) (k) (t) (z) (e)) ⟨⟨W,W,W,W,tVv⟩,⟨⟨W,W,W,W,W,W,W,tVv⟩,⟨W,W,W,W,W,W,W,W,W,tVv⟩,tVv⟩,rfl⟩,mg,av (.v (.bool (bif !z then true else nd_2_v5 y a b c d m o g k t z))) (.v (.bool (!z||nd_2_v5 y a b c d m o g k t z))) rF,bf1 h0,cl (@ctS (y) (a) (b) (c) (d) (m) (o) (g) (k) (t) hA),bf1 (bnF h1),lf (S.mk [(1,.lp 1 0),(2,vI6 0),(3,.lp 3 0),(4,.v (.bool z)),(5,.v (.bool (nd_2_v5 y a b c d m o g k t z))),(82,.v (.bool z)),(83,.v (.bool !z)),(84,.v (.bool !z)),(86,.v (.bool (!z||nd_2_v5 y a b c d m o g k t z))),(81,.v (.bool (!z||nd_2_v5 y a b c d m o g k t z))),(88,.v (.agg (exL y))),(89,.v (.agg [.bool a,.bool b,pI c,pI d,.bool m,.bool o,pI g,pI k,.bool t])),(90,.v (.bool (ctS_r0 y c d m o g k))),(91,.v (.bool !ctS_r0 y c d m o g k)),(87,.v (.bool !ctS_r0 y c d m o g k))] [(1,exV y),(3,[.v (.bool a),.v (.bool b),vI6 c,vI6 d,.v (.bool m),.v (.bool o),vI6 g,vI6 k,.v (.bool t)])] e) (@nd_7J (y) (a) (b) (c) (d) (m) (o) (g) (k) (t) (e)) ⟨⟨W,W,W,tVv⟩,⟨⟨W,W,W,W,W,W,W,tVv⟩,⟨W,W,W,W,W,W,W,W,W,tVv⟩,tVv⟩,rfl⟩,bf1 h2,cl (@nam (y) (a) (b) (c) (d) (m) (o) (g) (k) (t) hP hA hP2 hA2 hA3),nn1 h3,sl (Tp.cs_len (exT y)),lp (S.mk [(1,.lp 1 0),(2,vI6 0),(3,.lp 3 0),(92,.v (.bool (nd_7_v92 y a b c d m o g k t))),(117,.v (.agg (exL y))),(118,.v (.agg [.bool a,.bool b,pI c,pI d,.bool m,.bool o,pI g,pI k,.bool t])),(119,vI6 (nam_r0 y b)),(6,vI6 (nam_r0 y b)),(120,vI6 (nam_r0 y b)),(121,.v (.bool (nam_r0 y b != 0))),(123,.lp 1 6),(124,vL 9 (Tp.cs (exT y))),(125,vI6 ((exT y).length:Int)),(126,vI6 0)] [(1,exV y),(3,[.v (.bool a),.v (.bool b),vI6 c,vI6 d,.v (.bool m),.v (.bool o),vI6 g,vI6 k,.v (.bool t)])] e) (@ndT_0 (y) (a) (b) (c) (d) (m) (o) (g) (k) (t) (z) hsh hP hA hP2 hA2 hA3 htk (e) hT w e1) xr]) func203
    ·rw [iN h3]; exact pu mdS (fun e=>[cl hsh,lf (S.mk [(0,.v (.agg (exL y))),(1,.lp 1 0),(2,vI6 0),(14,.lp 1 0),(15,vI6 (exO y)),(16,.v (.tup [.agg [.bool a,.bool b,pI c,pI d,.bool m,.bool o,pI g,pI k,.bool t],.bool z])),(13,.v (.tup [.agg [.bool a,.bool b,pI c,pI d,.bool m,.bool o,pI g,pI k,.bool t],.bool z])),(17,.v (.agg [.bool a,.bool b,pI c,pI d,.bool m,.bool o,pI g,pI k,.bool t])),(18,.v (.bool z)),(3,.lp 3 0),(4,.v (.bool z))] [(1,exV y),(3,[.v (.bool a),.v (.bool b),vI6 c,vI6 d,.v (.bool m),.v (.bool o),vI6 g,vI6 k,.v (.bool t)])] e) (@nd_2J (y) (a) (b) (c) (d) (m) (o) (g) (k) (t) (z) (e)) ⟨⟨W,W,W,W,tVv⟩,⟨⟨W,W,W,W,W,W,W,tVv⟩,⟨W,W,W,W,W,W,W,W,W,tVv⟩,tVv⟩,rfl⟩,mg,av (.v (.bool (bif !z then true else nd_2_v5 y a b c d m o g k t z))) (.v (.bool (!z||nd_2_v5 y a b c d m o g k t z))) rF,bf1 h0,cl (@ctS (y) (a) (b) (c) (d) (m) (o) (g) (k) (t) hA),bf1 (bnF h1),lf (S.mk [(1,.lp 1 0),(2,vI6 0),(3,.lp 3 0),(4,.v (.bool z)),(5,.v (.bool (nd_2_v5 y a b c d m o g k t z))),(82,.v (.bool z)),(83,.v (.bool !z)),(84,.v (.bool !z)),(86,.v (.bool (!z||nd_2_v5 y a b c d m o g k t z))),(81,.v (.bool (!z||nd_2_v5 y a b c d m o g k t z))),(88,.v (.agg (exL y))),(89,.v (.agg [.bool a,.bool b,pI c,pI d,.bool m,.bool o,pI g,pI k,.bool t])),(90,.v (.bool (ctS_r0 y c d m o g k))),(91,.v (.bool !ctS_r0 y c d m o g k)),(87,.v (.bool !ctS_r0 y c d m o g k))] [(1,exV y),(3,[.v (.bool a),.v (.bool b),vI6 c,vI6 d,.v (.bool m),.v (.bool o),vI6 g,vI6 k,.v (.bool t)])] e) (@nd_7J (y) (a) (b) (c) (d) (m) (o) (g) (k) (t) (e)) ⟨⟨W,W,W,tVv⟩,⟨⟨W,W,W,W,W,W,W,tVv⟩,⟨W,W,W,W,W,W,W,W,W,tVv⟩,tVv⟩,rfl⟩,bf1 h2,cl (@nam (y) (a) (b) (c) (d) (m) (o) (g) (k) (t) hP hA hP2 hA2 hA3),nt1 h3]) func203
def snE(y:Ex):Int:=sndE y (shS_r0 (exO y)) (shS_r1 (exO y)) (shS_r2 (exO y)) (shS_r3 (exO y)) (shS_r4 (exO y)) (shS_r5 (exO y)) (shS_r6 (exO y)) (shS_r7 (exO y)) (shS_r8 (exO y)) (shS_r9 (exO y))
theorem al_bulk2(a:Al):bulkPss (nmsC (alNs a))+bulkPs (exL (alB a))<bulkPs (alL a):=by simp only [bulkPs,bulkP]; omega
theorem altN_bulk:∀l:List Al,altN l<=bulkPss (Al.cs l)
 | []=>Nat.zero_le _
 | a::r=>by
  have h1:=altN_bulk r
  have h2:=al_bulk2 a
  have h3:=nms_bulk (alNs a)
  rw [altN,show Al.cs (a::r)=alL a::Al.cs r by rw [Al.cs,Al.c_eq],bulkPss]
  omega
theorem snT(y:Ex)(hs:bulkPs (exL y)<=100000000):Pu 203 [.agg (exL y)] (.ret (.int .i64 (snE y))):=by
 have hb:=ex_bulk y
 have h1:=Pm.bulk (exP y)
 have h2:=Al.bulk (exA y)
 have h3:=Tp.bulk (exT y)
 have h4:=altN_bulk (exA y)
 exact sndT y _ _ _ _ _ _ _ _ _ _ (shS (exO y)) oM oM (by rw [bdA_e]; simp only [List.nil_append,List.length_map]; omega) (by rw [coA_e]; simp only [List.nil_append,List.length_map]; omega) oM
  (fun w hw=>tyC w (by have:=Tp.mem hw; omega)) oM (fun w hw=>tyC (pmT w) (by have:=Pm.mem hw; have:=pm_bulk w; omega))
theorem sc1(y:Ex)(n:Int)(hsn:Pu 203 [.agg (exL y)] (.ret (.int .i64 (snE y)))):Ef 202 [.agg (exL y),.xp 0 0] (cellI n) (rB (snE y==0)) ([(0,[vI6 (snE y)])]):=
 Ob.eff_of (mdI 32) 50 [Ans.pur (rI (snE y))] (sc':=[]) (l:=[Ob.pur 203 [.agg (exL y)] (rI (snE y))]) mixed func202 kR kR ⟨(@hsn),tVv⟩
def scV:Ex->Int->Bool × Int:=fun w _=>(snE w==0,snE w)
theorem scW(y:Ex)(hs:bulkPs (exL y)<=100000000):Ef 201 [.agg (exL y),.fn (.func 202) [] [.xp 0 0]] (cellI 0) (.ret (.bool (wkF scV y 0).1)) (cellI (wkF scV y 0).2):=wkT y _ _ cellI scV 0 (fun w n h=>sc1 w n (snT w h)) hs
theorem noT(y:Ex)(hs:bulkPs (exL y)<=100000000):Pu 199 [.agg (exL y)] (.ret (.int .i64 (wkF noV y 0).2)):=Ob.pur_of_eff (noXA (Ex.nx y)) rfl (noL y hs)
theorem scK_1(y:Ex)(hs:bulkPs (exL y)<=100000000)(hx0:Prod.snd (wkF noV y 0)>400):Ef 154 [.agg (exL y)] ([]) (rI 7) ([]):=
 Ob.eff_of (mdI 32) 50 [Ans.pur (rI (Prod.snd (wkF noV y 0))),Ans.bit true] (sc':=[]) (l:=[Ob.pur 199 [.agg (exL y)] (rI (Prod.snd (wkF noV y 0))),Ob.bit (decide (Prod.snd (wkF noV y 0)>400)) true]) mixed func154 kR kR ⟨(@noT (y) hs),(ob_bit (dT hx0)),tVv⟩
theorem scK_2(y:Ex)(hs:bulkPs (exL y)<=100000000)(hx0:¬Prod.snd (wkF noV y 0)>400)(hx1:dpF y>40):Ef 154 [.agg (exL y)] ([]) (rI 8) ([]):=
 Ob.eff_of (mdI 32) 50 [Ans.pur (rI (Prod.snd (wkF noV y 0))),Ans.bit false,Ans.pur (rI (dpF y)),Ans.bit true] (sc':=[]) (l:=[Ob.pur 199 [.agg (exL y)] (rI (Prod.snd (wkF noV y 0))),Ob.bit (decide (Prod.snd (wkF noV y 0)>400)) false,Ob.pur 200 [.agg (exL y)] (rI (dpF y)),Ob.bit (decide (dpF y>40)) true]) mixed func154 kR kR ⟨(@noT (y) hs),(ob_bit (dF hx0)),(@dpT (y) hs),(ob_bit (dT hx1)),tVv⟩
theorem scK_3(y:Ex)(hs:bulkPs (exL y)<=100000000)(hx0:¬Prod.snd (wkF noV y 0)>400)(hx1:¬dpF y>40):Ef 154 [.agg (exL y)] ([]) (rI (Prod.snd (wkF scV y 0))) ([(0,[vI6 (Prod.snd (wkF scV y 0))])]):=
 Ob.eff_of (mdI 32) 50 [Ans.pur (rI (Prod.snd (wkF noV y 0))),Ans.bit false,Ans.pur (rI (dpF y)),Ans.bit false,Ans.eff (rB (Prod.fst (wkF scV y 0))) [(0,[vI6 (Prod.snd (wkF scV y 0))])]] (sc':=[]) (l:=[Ob.pur 199 [.agg (exL y)] (rI (Prod.snd (wkF noV y 0))),Ob.bit (decide (Prod.snd (wkF noV y 0)>400)) false,Ob.pur 200 [.agg (exL y)] (rI (dpF y)),Ob.bit (decide (dpF y>40)) false,Ob.eff 201 [.agg (exL y),.fn (.func 202) [] [.xp 0 0]] [(0,[vI6 0])] (rB (Prod.fst (wkF scV y 0))) [(0,[vI6 (Prod.snd (wkF scV y 0))])]]) mixed func154 kR kR ⟨(@noT (y) hs),(ob_bit (dF hx0)),(@dpT (y) hs),(ob_bit (dF hx1)),(@scW (y) hs),tVv⟩
def syE(y:Ex):Int:=if (wkF noV y 0).2>400 then 7 else if dpF y>40 then 8 else (wkF scV y 0).2
theorem syT(y:Ex)(hs:bulkPs (exL y)<=100000000):Pu 154 [.agg (exL y)] (.ret (.int .i64 (syE y))):=by
 unfold syE
 by_cases h:(wkF noV y 0).2>400
 ·rw [iP h]; exact Ob.pur_of_eff (noXA (Ex.nx y)) rfl (scK_1 y hs h)
 ·rw [iN h]
  by_cases h2:dpF y>40
  ·rw [iP h2]; exact Ob.pur_of_eff (noXA (Ex.nx y)) rfl (scK_2 y hs h h2)
  ·rw [iN h2]; exact Ob.pur_of_eff (noXA (Ex.nx y)) rfl (scK_3 y hs h h2)
theorem bne_dec(a b:Int):(a != b) = !decide (a=b):=by by_cases h:a=b <;> simp [h]
theorem tqB_eq(m:Mo)(u:Tp)(vs:List BA)(pf:Tp->Int):ptL_r0 m u vs pf=tqB (dvM m) vs pf u:=by
 unfold ptL_r0 tqB dvM
 by_cases h:tpO u=4
 ·rw [iP h,iP h]
  by_cases h2:ix daNm (tpNm u) (moD m)<(moD m).length
  ·rw [iP h2,iP h2]
   simp only
   by_cases h3:(tpA u).length=(daVs ((moD m).getD (ix daNm (tpNm u) (moD m)) default)).length
   ·rw [iP h3,iP oM]
   ·rw [iN h3,iN oM]
  ·rw [iN h2,iN h2]
 ·rw [iN h,iN h]
  by_cases h5:tpO u=5
  ·rw [iP h5]
   by_cases h6:plc (tpNm u) vs<0
   ·rw [iP h6,iP ⟨h5,h6⟩]
   ·rw [iN h6,iN (fun k=>h6 k.2)]
  ·rw [iN h5,iN (fun k=>h5 k.1)]
theorem tq_ok(m:Mo)(vs:List BA)(hz:Sz m)(hv0:vs.length<=1000000000):∀ (d:Nat) (u:Tp),bulkPs (tpL u)<d->d<=100000001->Pu 128 [.agg (wL m),.agg (tpL u),.sl 1 (nmsC vs)] (.ret (.int .i64 (tqD (dvM m) vs d u)))
 | 0,_,h,_=>by omega
 | d+1,u,h,hs=>by
  rw [tqD,<-tqB_eq]
  exact ptL m u vs (tqD (dvM m) vs d) hz hv0 (fun w hw=>tq_ok m vs hz hv0 d w (by have:=tp_bulk u; have:=Tp.mem hw; omega) oM) (by have:=tp_bulk u; have:=Tp.bulk (tpA u); omega)
theorem tqT(m:Mo)(vs:List BA)(u:Tp)(hz:Sz m)(hv0:vs.length<=1000000000)(hs:bulkPs (tpL u)<=100000000):Pu 128 [.agg (wL m),.agg (tpL u),.sl 1 (nmsC vs)] (.ret (.int .i64 (tqF (dvM m) vs u))):=tq_ok m vs hz hv0 _ u oM oM
theorem tyL(m:Mo)(vs:List BA)(u:Tp)(hz:Sz m)(hv0:vs.length<=1000000000)(hs:bulkPs (tpL u)<=100000000):Pu 80 [.agg (wL m),.agg (tpL u),.sl 1 (nmsC vs)] (rI (fi2 (tyC_r0 u) (tqF (dvM m) vs u))):=
 pm mdW [cl (@tyC (u) hs),cl (@tqT (m) (vs) (u) hz hv0 hs),cl (@fs2T (tyC_r0 u) (tqF (dvM m) vs u))] func80
theorem tyT(m:Mo)(vs:List BA)(u:Tp)(hz:Sz m)(hv0:vs.length<=1000000000)(hs:bulkPs (tpL u)<=100000000):Pu 80 [.agg (wL m),.agg (tpL u),.sl 1 (nmsC vs)] (.ret (.int .i64 (tyE (dvM m) vs u))):=tyL m vs u hz hv0 hs
section
variable (m:Mo) (vs:List BA) (k:Int)
include m vs k
theorem ts1(w:Tp)(hz:Sz m)(hv0:vs.length<=1000000000)(hs:bulkPs (tpL w)<=100000000):Pu 243 [pI k,.agg (tpL w),.ro (wL m) 0,.ro [.sl 1 (nmsC vs)] 0] (rI (tyE (dvM m) vs w)):=
 pm mdW [cl (@tyT (m) (vs) (w) hz hv0 hs)] func243
theorem ts2L_1(w:Pm)(hz:Sz m)(hv0:vs.length<=1000000000)(hs:bulkPs (tpL (pmT w))<=100000000)(hx0:tpO (pmT w)=0):Pu 245 [pI k,.agg (pmL w),.ro (wL m) 0,.ro [.sl 1 (nmsC vs)] 0] (rI 0):=
 pm mdW [et1 hx0] func245
theorem ts2L_2(w:Pm)(hz:Sz m)(hv0:vs.length<=1000000000)(hs:bulkPs (tpL (pmT w))<=100000000)(hx0:¬tpO (pmT w)=0):Pu 245 [pI k,.agg (pmL w),.ro (wL m) 0,.ro [.sl 1 (nmsC vs)] 0] (rI (tyE (dvM m) vs (pmT w))):=
 pm mdW [en1 hx0,cl (@tyT (m) (vs) (pmT w) hz hv0 hs)] func245
end
theorem ts2(m:Mo)(vs:List BA)(k:Int)(w:Pm)(hz:Sz m)(hv0:vs.length<=1000000000)(hs:bulkPs (tpL (pmT w))<=100000000):Pu 245 [.int .i64 k,.agg (pmL w),.ro (wL m) 0,.ro [.sl 1 (nmsC vs)] 0] (.ret (.int .i64 (if tpO (pmT w)=0 then 0 else tyE (dvM m) vs (pmT w)))):=by
 by_cases h:tpO (pmT w)=0
 ·rw [iP h]; first | exact ts2L_1 m vs k w hz hv0 hs h | exact ts2L_2 m vs k w hz hv0 hs h
 ·rw [iN h]; first | exact ts2L_1 m vs k w hz hv0 hs h | exact ts2L_2 m vs k w hz hv0 hs h
theorem ts1A(m:Mo)(vs:List BA)(l:List Tp)(hz:Sz m)(hv0:vs.length<=1000000000)(hs:∀w∈l,bulkPs (tpL w)<=100000000)(hN:l.length<=1000000000):Pu 78 [.sl 9 (Tp.cs l),.fn (.func 243) [] [.ro (wL m) 0,.ro [.sl 1 (nmsC vs)] 0]] (.ret (.int .i64 (frE (tyE (dvM m) vs) l))):=eaTT l _ _ _ (fun k w hw=>ts1 m vs k w hz hv0 (hs w hw)) hN
theorem ts2A(m:Mo)(vs:List BA)(l:List Pm)(hz:Sz m)(hv0:vs.length<=1000000000)(hs:∀w∈l,bulkPs (tpL (pmT w))<=100000000)(hN:l.length<=1000000000):Pu 244 [.sl 10 (Pm.cs l),.fn (.func 245) [] [.ro (wL m) 0,.ro [.sl 1 (nmsC vs)] 0]] (.ret (.int .i64 (frE (fun p=>if tpO (pmT p)=0 then 0 else tyE (dvM m) vs (pmT p)) l))):=eaPT l _ _ _ (fun k w hw=>ts2 m vs k w hz hv0 (hs w hw)) hN
theorem tsL(m:Mo)(vs:List BA)(u:Ex)(hz:Sz m)(hv0:vs.length<=1000000000)(hs:∀w∈exT u,bulkPs (tpL w)<=100000000)(hs2:∀w∈exP u,bulkPs (tpL (pmT w))<=100000000)(hN:(exT u).length<=1000000000)(hN2:(exP u).length<=1000000000):Pu 206 [.agg (wL m),.agg (exL u),.sl 1 (nmsC vs)] (rI (fi2 (frE (tyE (dvM m) vs) (exT u)) (frE (fun p=>if tpO (pmT p)=0 then 0 else tyE (dvM m) vs (pmT p)) (exP u)))):=
 pm mdW [cl (@ts1A (m) (vs) (exT u) hz hv0 hs hN),cl (@ts2A (m) (vs) (exP u) hz hv0 hs2 hN2),cl (@fs2T (frE (tyE (dvM m) vs) (exT u)) (frE (fun p=>if tpO (pmT p)=0 then 0 else tyE (dvM m) vs (pmT p)) (exP u)))] func206
theorem tsT(m:Mo)(vs:List BA)(u:Ex)(hz:Sz m)(hv0:vs.length<=1000000000)(hs:∀w∈exT u,bulkPs (tpL w)<=100000000)(hs2:∀w∈exP u,bulkPs (tpL (pmT w))<=100000000)(hN:(exT u).length<=1000000000)(hN2:(exP u).length<=1000000000):Pu 206 [.agg (wL m),.agg (exL u),.sl 1 (nmsC vs)] (.ret (.int .i64 (tsE (dvM m) vs u))):=tsL m vs u hz hv0 hs hs2 hN hN2
theorem vaT(m:Mo)(u:Ex)(bd:List BA)(hz:Sz m)(hN:bd.length<=1000000000):Pu 207 [.agg (wL m),.agg (exL u),.sl 1 (nmsC bd)] (.ret (.int .i64 (vaE (psF m) bd u))):=by
 have h:=vaL m u bd hz hN
 have e:vaL_r0 m u bd=vaE (psF m) bd u:=by
  unfold vaL_r0 vaE
  rw [bne_dec,bne_dec,bne_dec]
  by_cases h3:exO u=3
  ·rw [iN (by simp [h3])]
   have h5:¬exO u=5:=by omega
   by_cases hp:plc (exNm u) bd<0
   ·rw [iN oM,iN h5,iP ⟨.inl h3,hp⟩,decide_eq_false h5,Bool.false_and]; rfl
   ·rw [iP oM,iN (fun k=>hp k.2)]
  ·by_cases h5:exO u=5
   ·rw [iN (by simp [h5])]
    by_cases hp:plc (exNm u) bd<0
    ·rw [iN oM,iP h5,iP ⟨.inr h5,hp⟩,decide_eq_true h5,Bool.true_and]
    ·rw [iP oM,iN (fun k=>hp k.2)]
   ·rw [iP (by simp [h3,h5]),iN (fun k=>k.1.elim h3 h5)]
 rwa [e] at h
theorem coT(m:Mo)(s:BA)(n:Int)(hz:Sz m):Pu 208 [.agg (wL m),.str s,.int .i64 n] (.ret (.int .i64 (coE (arF m) s n))):=by
 have h:=cnE m s n hz
 rw [bne_dec] at h; exact h
theorem nms_one(x:BA):nmsC [x]=[[.str x]]:=rfl
abbrev biP_I(u:Ex)(j:Int)(out:List BA)(e:Ext):S:=S.mk [(1,.lp 1 0),(2,.v .nilsl),(3,.uniq 9 1 (nmsC out)),(17,vL 10 (Pm.cs (exP u))),(18,vI6 ((exP u).length:Int)),(19,vI6 j)] [(1,exV u)] e
def biP_f  : List Pm->(List BA)->(List BA)
 | [],out=>(out)
 | el::r,out=>biP_f  r (out++[pmNm el])
def biP_q(u:Ex)(e:Ext)(p:(List BA)):PExit × S:=(.exit 0,S.mk [(1,.lp 1 0),(2,.v .nilsl),(3,.uniq 9 1 (nmsC p)),(17,vL 10 (Pm.cs (exP u))),(18,vI6 ((exP u).length:Int))] [(1,exV u)] e)
theorem biP(u:Ex)(out:List BA)(e:Ext)(hN:(exP u).length<=1000000000)(hv:List.length out<=0+1):(Ob.loop 42 (loopF f204 0) (biP_I u 0 out e) (biP_q u e (biP_f  ((exP u))  out)).1 (biP_q u e (biP_f  ((exP u))  out)).2).ok prog:=by
 refine rng ((exP u).length) (fun j out=>biP_I u j out e) (fun i out=>biP_f  (List.drop i ((exP u)))  out) (biP_q u e) (fun i out=>(out.length<=i+1)) kR ?_ out (by first | exact hv | omega)
 rintro i out hi hv
 try simp only at hv
 rcases Nat.lt_or_ge i ((exP u).length) with hlt | hge
 ·have hd:=drop_at hlt
  exact lS mdL [dt ((i:Int)<((exP u).length:Int)),am ((0:Int)<=(i:Int)/\(i:Int)<((Pm.cs (exP u)).length:Int)) (by (simp only [Pm.cs_len]; omega)),ar (List.getD (Pm.cs (exP u)) (Int.toNat (i:Int)) []) (pmL (List.getD (exP u) i default)) (by simp only [Int.toNat_natCast,Int.toNat_zero]; rw [@Pm.cs_at (exP u) (i) hlt]; try rfl),am (List.length (nmsC out++(fun x=>Prod.snd x) (0+1,[[.str (pmNm (List.getD (exP u) i default))]])) * (15+1)<=140737488355328) (by (simp only [List.length_append,List.length_cons,List.length_nil,nmsC_len]; omega)),wr ((i:Int)+1)] [1,2,3,17,18,19] [1] hlt (out++[pmNm (List.getD (exP u) i default)]) (S.mk [(1,.lp 1 0),(2,.v .nilsl),(3,.uniq 9 1 (nmsC out++[[PV.str (pmNm (List.getD (exP u) i default))]])),(17,vL 10 (Pm.cs (exP u))),(18,vI6 ((exP u).length:Int)),(19,vI6 ((i:Int)+1))] [(1,exV u)] e) ⟨⟨W,W,(.inl (by first | (simp only [List.nil_append,nmsC_app,nmsC_snoc,nms_one]; done) | (simp only [List.nil_append,nmsC_app,nmsC_snoc,nms_one]; rfl))),W,W,W,tVv⟩,⟨Ws,tVv⟩,rfl⟩ (by first | assumption | omega | (simp only [List.length_append,List.length_cons,List.length_nil] at *; omega) | simp_all) (by rw [hd,biP_f])
 ·have he:i=(exP u).length:=by omega
  exact lX mdL [df ((i:Int)<((exP u).length:Int))] (out) (by rw [he,List.drop_length,biP_f])
theorem biP_e:∀ (l:List Pm) (out:List BA),biP_f l out=out++l.map pmNm
 | [],out=>by simp [biP_f]
 | p::r,out=>by simp [biP_f,biP_e r]
theorem bi_step{u:Ex}{l:List BA}{i:Nat}(h:l.length+altN ((exA u).drop i)<=1000000000)(hi:i<(exA u).length):(l++alNs ((exA u).getD i default)).length+altN ((exA u).drop (i+1))<=1000000000:=by
 have:=altN_drop (exA u) i hi
 simp only [List.length_append]; omega
theorem bi_q{u:Ex}{l:List BA}{i:Nat}(h:l.length+altN ((exA u).drop i)<=1000000000)(hi:i<(exA u).length):(nmsC l++nmsC (alNs ((exA u).getD i default))).length * (15+1)<=140737488355328:=by
 have:=altN_drop (exA u) i hi
 simp only [List.length_append,nmsC_len]; omega
theorem bi_0{u:Ex}{o:List BA}(h:(exP u).length<=100000000)(h2:altN (exA u)<=100000000)(h3:o.length<=1):(biP_f (exP u) o).length+altN ((exA u).drop 0)<=1000000000:=by rw [List.drop_zero,biP_e,List.length_append,List.length_map]; omega
theorem bi_1{u:Ex}(h:(exP u).length<=100000000)(h2:altN (exA u)<=100000000):(biP_f (exP u) []).length+altN ((exA u).drop 0)<=1000000000:=bi_0 h h2 sM
theorem bi_2{u:Ex}(h:(exP u).length<=100000000)(h2:altN (exA u)<=100000000):(biP_f (exP u) ([]++[exNm u])).length+altN ((exA u).drop 0)<=1000000000:=bi_0 h h2 sM
theorem bi_3{u:Ex}(h:(exP u).length<=100000000)(h2:altN (exA u)<=100000000):(biP_f (exP u) [exNm u]).length+altN ((exA u).drop 0)<=1000000000:=bi_0 h h2 sM
abbrev biA_I(u:Ex)(j:Int)(l:List BA)(e:Ext):S:=S.mk [(2,.v .nilsl),(3,.uniq 9 1 (nmsC l)),(30,vL 9 (Al.cs (exA u))),(31,vI6 ((exA u).length:Int)),(32,vI6 j)] [] e
def biA_f  : List Al->(List BA)->(List BA)
 | [],l=>(l)
 | el::r,l=>biA_f  r (l++alNs el)
def biA_q(u:Ex)(e:Ext)(p:(List BA)):PExit × S:=(.exit 2,S.mk [(2,.v .nilsl),(3,.uniq 9 1 (nmsC p)),(30,vL 9 (Al.cs (exA u))),(31,vI6 ((exA u).length:Int))] [] e)
theorem biA(u:Ex)(hP:(exP u).length<=100000000)(hA3:altN (exA u)<=100000000)(l:List BA)(e:Ext)(hN:(exA u).length<=1000000000)(hv:List.length l+altN (List.drop 0 (exA u))<=1000000000):(Ob.loop 42 (loopF f204 1) (biA_I u 0 l e) (biA_q u e (biA_f  ((exA u))  l)).1 (biA_q u e (biA_f  ((exA u))  l)).2).ok prog:=by
 refine rng ((exA u).length) (fun j l=>biA_I u j l e) (fun i l=>biA_f  (List.drop i ((exA u)))  l) (biA_q u e) (fun i l=>(l.length+altN ((exA u).drop i)<=1000000000)) kR ?_ l (by first | exact hv | omega)
 rintro i l hi hv
 try simp only at hv
 rcases Nat.lt_or_ge i ((exA u).length) with hlt | hge
 ·have hd:=drop_at hlt
  exact lS mdL [dt ((i:Int)<((exA u).length:Int)),am ((0:Int)<=(i:Int)/\(i:Int)<((Al.cs (exA u)).length:Int)) (by (simp only [Al.cs_len]; omega)),ar (List.getD (Al.cs (exA u)) (Int.toNat (i:Int)) []) (alL (List.getD (exA u) i default)) (by simp only [Int.toNat_natCast,Int.toNat_zero]; rw [@Al.cs_at (exA u) (i) hlt]; try rfl),am (List.length (nmsC l++(fun x=>Prod.snd x) (1,nmsC (alNs (List.getD (exA u) i default)))) * (15+1)<=140737488355328) (by (apply bi_q <;> first | assumption | omega | decide)),wr ((i:Int)+1)] [2,3,30,31,32] [] hlt (l++alNs (List.getD (exA u) i default)) (S.mk [(2,.v .nilsl),(3,.uniq 9 1 (nmsC l++nmsC (alNs (List.getD (exA u) i default)))),(30,vL 9 (Al.cs (exA u))),(31,vI6 ((exA u).length:Int)),(32,vI6 ((i:Int)+1))] [] e) ⟨⟨W,(.inl (by first | (simp only [List.nil_append,nmsC_app,nmsC_snoc,nms_one]; done) | (simp only [List.nil_append,nmsC_app,nmsC_snoc,nms_one]; rfl))),W,W,W,tVv⟩,trivial,rfl⟩ (by first | assumption | omega | (apply bi_step <;> first | assumption | omega | decide) | (apply bi_q <;> first | assumption | omega | decide) | (apply bi_1 <;> first | assumption | omega | decide) | (apply bi_2 <;> first | assumption | omega | decide) | (apply bi_3 <;> first | assumption | omega | decide) | (simp only [List.length_append,List.length_cons,List.length_nil] at *; omega) | simp_all) (by rw [hd,biA_f])
 ·have he:i=(exA u).length:=by omega
  exact lX mdL [df ((i:Int)<((exA u).length:Int))] (l) (by rw [he,List.drop_length,biA_f])
theorem biA_e:∀ (l:List Al) (out:List BA),biA_f l out=out++l.flatMap alNs
 | [],out=>by simp [biA_f]
 | p::r,out=>by simp [biA_f,biA_e r,List.flatMap_cons]
section
variable (u:Ex) (hP:(exP u).length<=100000000) (hA:(exA u).length<=1000000000) (hA3:altN (exA u)<=100000000)
include u hP hA hA3
theorem biL_1(hx0:exO u=7):Pu 204 [.agg (exL u)] (.own 9 1 (nmsC (biA_f (exA u) (biP_f (exP u) [exNm u])))):=
 pu mdL (fun e=>[et1 hx0,ab true,sl (Pm.cs_len (exP u)),lp (S.mk [(0,.v (.agg (exL u))),(1,.lp 1 0),(2,.v .nilsl),(3,.uniq 9 1 [[.str (exNm u)]]),(8,.lp 1 0),(9,vI6 (exO u)),(10,.v (.bool (exO u==7))),(11,.v .nilsl),(12,.lp 1 1),(13,vS (exNm u)),(14,LV.full 1 [[.str (exNm u)]]),(15,vL 1 [[.str (exNm u)]]),(16,.lp 1 4),(17,vL 10 (Pm.cs (exP u))),(18,vI6 ((exP u).length:Int)),(19,vI6 0)] [(1,exV u)] e) (@biP (u) ([exNm u]) (e) oM (by (simp only [List.length_cons,List.length_nil]; omega))) xr,sl (Al.cs_len (exA u)),lp (S.mk [(1,.lp 1 0),(2,.v .nilsl),(3,.uniq 9 1 (nmsC (biP_f (exP u) [exNm u]))),(17,vL 10 (Pm.cs (exP u))),(18,vI6 ((exP u).length:Int)),(29,.lp 1 5),(30,vL 9 (Al.cs (exA u))),(31,vI6 ((exA u).length:Int)),(32,vI6 0)] [(1,exV u)] e) (@biA (u) hP hA3 (biP_f (exP u) [exNm u]) (e) hA (by (apply bi_2 <;> first | assumption | omega | decide))) xr]) func204
theorem biL_2(hx0:¬exO u=7):Pu 204 [.agg (exL u)] (.own 9 1 (nmsC (biA_f (exA u) (biP_f (exP u) [])))):=
 pu mdL (fun e=>[en1 hx0,sl (Pm.cs_len (exP u)),lp (S.mk [(0,.v (.agg (exL u))),(1,.lp 1 0),(2,.v .nilsl),(3,.v .nilsl),(8,.lp 1 0),(9,vI6 (exO u)),(10,.v (.bool (exO u==7))),(16,.lp 1 4),(17,vL 10 (Pm.cs (exP u))),(18,vI6 ((exP u).length:Int)),(19,vI6 0)] [(1,exV u)] e) (@biP (u) ([]) (e) oM (by (simp only [List.length_nil]; omega))) ⟨⟨W,W,Wq,W,W,W,tVv⟩,⟨⟨W,W,W,W,W,W,W,tVv⟩,tVv⟩,rfl⟩,sl (Al.cs_len (exA u)),lp (S.mk [(1,.lp 1 0),(2,.v .nilsl),(3,.uniq 9 1 (nmsC (biP_f (exP u) []))),(17,vL 10 (Pm.cs (exP u))),(18,vI6 ((exP u).length:Int)),(29,.lp 1 5),(30,vL 9 (Al.cs (exA u))),(31,vI6 ((exA u).length:Int)),(32,vI6 0)] [(1,exV u)] e) (@biA (u) hP hA3 (biP_f (exP u) []) (e) hA (by (apply bi_1 <;> first | assumption | omega | decide))) xr]) func204
end
theorem biT(u:Ex)(hP:(exP u).length<=100000000)(hA:(exA u).length<=1000000000)(hA3:altN (exA u)<=100000000):Pu 204 [.agg (exL u)] (.own 9 1 (nmsC (bnE u))):=by
 unfold bnE
 by_cases h:exO u=7
 ·have h1:=biL_1 u hP hA hA3 h
  rw [biA_e,biP_e] at h1; rw [iP h]; exact h1
 ·have h1:=biL_2 u hP hA hA3 h
  rw [biA_e,biP_e] at h1; rw [iN h]; exact h1
abbrev inP_I(y:Ex)(c:Int)(bd:List BA)(j:Int)(out:List BA)(e:Ext):S:=S.mk [(6,.v .nilsl),(7,.uniq 9 1 (nmsC out)),(28,vL 10 (Pm.cs (exP y))),(29,vI6 ((exP y).length:Int)),(30,vI6 j)] [] e
def inP_f  : List Pm->(List BA)->(List BA)
 | [],out=>(out)
 | el::r,out=>inP_f  r (out++[pmNm el])
def inP_q(y:Ex)(c:Int)(bd:List BA)(e:Ext)(p:(List BA)):PExit × S:=(.exit 0,S.mk [(6,.v .nilsl),(7,.uniq 9 1 (nmsC p)),(28,vL 10 (Pm.cs (exP y))),(29,vI6 ((exP y).length:Int))] [] e)
theorem inP(y:Ex)(c:Int)(bd:List BA)(hNb:bd.length<=1000000000)(out:List BA)(e:Ext)(hN:(exP y).length<=1000000000)(hv:List.length out<=0+1000000001):(Ob.loop 41 (loopF f213 0) (inP_I y c bd 0 out e) (inP_q y c bd e (inP_f  ((exP y))  out)).1 (inP_q y c bd e (inP_f  ((exP y))  out)).2).ok prog:=by
 refine rng ((exP y).length) (fun j out=>inP_I y c bd j out e) (fun i out=>inP_f  (List.drop i ((exP y)))  out) (inP_q y c bd e) (fun i out=>(out.length<=i+1000000001)) kR ?_ out (by first | exact hv | omega)
 rintro i out hi hv
 try simp only at hv
 rcases Nat.lt_or_ge i ((exP y).length) with hlt | hge
 ·have hd:=drop_at hlt
  exact lS mdL [dt ((i:Int)<((exP y).length:Int)),am ((0:Int)<=(i:Int)/\(i:Int)<((Pm.cs (exP y)).length:Int)) (by (simp only [Pm.cs_len]; omega)),ar (List.getD (Pm.cs (exP y)) (Int.toNat (i:Int)) []) (pmL (List.getD (exP y) i default)) (by simp only [Int.toNat_natCast,Int.toNat_zero]; rw [@Pm.cs_at (exP y) (i) hlt]; try rfl),am (List.length (nmsC out++(fun x=>Prod.snd x) (0+1,[[.str (pmNm (List.getD (exP y) i default))]])) * (15+1)<=140737488355328) (by (simp only [List.length_append,List.length_cons,List.length_nil,nmsC_len]; omega)),wr ((i:Int)+1)] [6,7,28,29,30] [] hlt (out++[pmNm (List.getD (exP y) i default)]) (S.mk [(6,.v .nilsl),(7,.uniq 9 1 (nmsC out++[[PV.str (pmNm (List.getD (exP y) i default))]])),(28,vL 10 (Pm.cs (exP y))),(29,vI6 ((exP y).length:Int)),(30,vI6 ((i:Int)+1))] [] e) ⟨⟨W,(.inl (by first | (simp only [List.nil_append,nmsC_app,nmsC_snoc,nms_one]; done) | (simp only [List.nil_append,nmsC_app,nmsC_snoc,nms_one]; rfl))),W,W,W,tVv⟩,trivial,rfl⟩ (by first | assumption | omega | (simp only [List.length_append,List.length_cons,List.length_nil] at *; omega) | simp_all) (by rw [hd,inP_f])
 ·have he:i=(exP y).length:=by omega
  exact lX mdL [df ((i:Int)<((exP y).length:Int))] (out) (by rw [he,List.drop_length,inP_f])
theorem frG_I{α:Type}(ge:Int->α->Int):∀ (l:List α) (i:Nat),(frG (fun i x (_:Unit)=>ge (i:Int) x) (fun _ _ _=>()) l i ()).1=frI ge l (i:Int)
 | [],_=>rfl
 | x::r,i=>by
  have ih:=frG_I ge r (i+1)
  by_cases h:ge i x=0
  ·simp only [frG,frI,h,if_true]; exact ih
  ·simp only [frG,frI,h,if_false]
theorem eaET(l:List Ex)(g:Nat)(caps:List PV)(ge:Int->Ex->Int)(hwk:∀ (k:Int) (w:Ex),w∈l->Pu g (.int .i64 k :: .agg (exL w)::caps) (.ret (.int .i64 (ge k w))))(hN:l.length<=1000000000):Pu 211 [.sl 7 (Ex.cs l),.fn (.func g) [] caps] (.ret (.int .i64 (frI ge l 0))):=by
 have h:=fun e=>each_ok ⟨211,7,true,f211,func211⟩ (eM (n:=17) rfl) (fun i x=>(exL x).getD i .nilp) l g caps (fun _:Unit=>e) (fun i x _=>ge i x) (fun _ _ _=>()) (fun i w _ hw=>⟨(hwk i w hw).1,(hwk i w hw).2 e⟩) hN ()
 rw [frG_I ge l 0,cs_row exL 7 (fun _=>rfl) l,<-Ex.cs_eq] at h
 exact ⟨(h []).1,fun e=>(h e).2⟩
theorem inP_e:∀ (l:List Pm) (out:List BA),inP_f l out=out++l.map pmNm
 | [],out=>by simp [inP_f]
 | p::r,out=>by simp [inP_f,inP_e r]
section
variable (y:Ex) (c:Int) (bd:List BA) (hNb:bd.length<=1000000000) (hP:(exP y).length<=1000000000)
include y c bd hNb hP
theorem inL_1(hx0:((if True then exO y==7&&(c==c&&(false==false&&true)) else !(exO y==7&&(c==c&&(false==false&&true))))&&decide (c>0))=true):Pu 213 [.agg (exL y),.agg [pI (exO y),pI c,.bool false],.sl 1 (nmsC bd)] (.own 9 1 (nmsC (inP_f (exP y) (bd++[exNm y])))):=
 pu mdL (fun e=>[cl (@clone_ok (bd) hNb),mg,av (.v (.bool (bif if true=true then exO y==7&&(c==c&&(false==false&&true)) else !(exO y==7&&(c==c&&(false==false&&true))) then decide (c>0) else false))) (.v (.bool ((if True then exO y==7&&(c==c&&(false==false&&true)) else !(exO y==7&&(c==c&&(false==false&&true))))&&decide (c>0)))) (by (simp only [Bool.cond_true_left,Bool.cond_false_right]; done)),bt1 hx0,am (List.length (nmsC bd++(fun x=>Prod.snd x) (0+1,[[.str (exNm y)]])) * (15+1)<=140737488355328) (by (simp only [List.length_append,List.length_cons,List.length_nil,nmsC_len]; omega)),sl (Pm.cs_len (exP y)),lp (S.mk [(0,.v (.agg (exL y))),(1,.v (.agg [pI (exO y),pI c,.bool false])),(2,vL 1 (nmsC bd)),(3,.lp 3 0),(4,.lp 4 0),(6,.v .nilsl),(10,vL 1 (nmsC bd)),(11,vL 1 (nmsC bd)),(7,.uniq 9 1 (nmsC bd++[[PV.str (exNm y)]])),(12,.v (.agg [pI (exO y),pI c,.bool false])),(13,.lp 4 1),(14,vI6 c),(15,.v (.agg [pI 7,pI c,.bool false])),(16,.v (.bool (if true=true then exO y==7&&(c==c&&(false==false&&true)) else !(exO y==7&&(c==c&&(false==false&&true)))))),(17,.v (.bool (if true=true then exO y==7&&(c==c&&(false==false&&true)) else !(exO y==7&&(c==c&&(false==false&&true)))))),(21,.v (.bool ((if True then exO y==7&&(c==c&&(false==false&&true)) else !(exO y==7&&(c==c&&(false==false&&true))))&&decide (c>0)))),(22,vL 1 (nmsC bd)),(23,.lp 3 1),(24,vS (exNm y)),(25,LV.full 1 [[.str (exNm y)]]),(26,vL 1 (nmsC bd++[[PV.str (exNm y)]])),(27,.lp 3 4),(28,vL 10 (Pm.cs (exP y))),(29,vI6 ((exP y).length:Int)),(30,vI6 0)] [(3,exV y),(4,[vI6 (exO y),vI6 c,.v (.bool false)])] e) (@inP (y) default (bd) hNb (bd++[exNm y]) (e) hP (by (simp only [List.length_append,List.length_cons,List.length_nil]; omega))) ⟨⟨W,(by first | exact .inl rfl | exact .inr ⟨rfl,rfl⟩ | exact .inr rfl | exact .inr trivial | exact .inl (by first | (simp only [List.nil_append,nmsC_app,nmsC_snoc,nms_one]; done) | (simp only [List.nil_append,nmsC_app,nmsC_snoc,nms_one]; rfl))),W,W,W,tVv⟩,trivial,rfl⟩]) func213
theorem inL_2(hx0:((if True then exO y==7&&(c==c&&(false==false&&true)) else !(exO y==7&&(c==c&&(false==false&&true))))&&decide (c>0))=false):Pu 213 [.agg (exL y),.agg [pI (exO y),pI c,.bool false],.sl 1 (nmsC bd)] (.own 9 1 (nmsC (inP_f (exP y) bd))):=
 pu mdL (fun e=>[cl (@clone_ok (bd) hNb),mg,av (.v (.bool (bif if true=true then exO y==7&&(c==c&&(false==false&&true)) else !(exO y==7&&(c==c&&(false==false&&true))) then decide (c>0) else false))) (.v (.bool ((if True then exO y==7&&(c==c&&(false==false&&true)) else !(exO y==7&&(c==c&&(false==false&&true))))&&decide (c>0)))) (by (simp only [Bool.cond_true_left,Bool.cond_false_right]; done)),bf1 hx0,sl (Pm.cs_len (exP y)),lp (S.mk [(0,.v (.agg (exL y))),(1,.v (.agg [pI (exO y),pI c,.bool false])),(2,vL 1 (nmsC bd)),(3,.lp 3 0),(4,.lp 4 0),(6,.v .nilsl),(10,vL 1 (nmsC bd)),(11,vL 1 (nmsC bd)),(7,.uniq 9 1 (nmsC bd)),(12,.v (.agg [pI (exO y),pI c,.bool false])),(13,.lp 4 1),(14,vI6 c),(15,.v (.agg [pI 7,pI c,.bool false])),(16,.v (.bool (if true=true then exO y==7&&(c==c&&(false==false&&true)) else !(exO y==7&&(c==c&&(false==false&&true)))))),(17,.v (.bool (if true=true then exO y==7&&(c==c&&(false==false&&true)) else !(exO y==7&&(c==c&&(false==false&&true)))))),(21,.v (.bool ((if True then exO y==7&&(c==c&&(false==false&&true)) else !(exO y==7&&(c==c&&(false==false&&true))))&&decide (c>0)))),(27,.lp 3 4),(28,vL 10 (Pm.cs (exP y))),(29,vI6 ((exP y).length:Int)),(30,vI6 0)] [(3,exV y),(4,[vI6 (exO y),vI6 c,.v (.bool false)])] e) (@inP (y) default (bd) hNb (bd) (e) hP oM) xr]) func213
end
theorem inY(y:Ex)(c:Int)(bd:List BA)(hNb:bd.length<=1000000000)(hP:(exP y).length<=1000000000):Pu 213 [.agg (exL y),.agg [.int .i64 (exO y),.int .i64 c,.bool false],.sl 1 (nmsC bd)] (.own 9 1 (nmsC (inE y c bd))):=by
 unfold inE
 by_cases h:exO y=7/\0<c
 ·have h1:=inL_1 y c bd hNb hP (by simp [h.1,h.2])
  rw [inP_e] at h1; rw [iP h]; exact h1
 ·have h1:=inL_2 y c bd hNb hP (by
   have:¬(exO y=7/\c>0):=h
   by_cases h7:exO y=7
   ·have h8:¬c>0:=fun k=>h ⟨h7,k⟩
    simp [h7]; omega
   ·simp [h7])
  rw [inP_e] at h1; rw [iN h,List.append_nil]; exact h1
theorem nk1(m:Mo)(k:Int)(s:BA):Pu 205 [pI k,.str s,.ro (wL m) 0] (rI (erN (nameB s))):=
 pm mdW [cl (@wNm (m) (s))] func205
theorem nk2(m:Mo)(k:Int)(a:Al)(hz:Sz m):Pu 210 [pI k,.agg (alL a),.ro (wL m) 0] (rI (coE (arF m) (alC a) ((alNs a).length:Int))):=
 pm mdW [sl (nmsC_len (alNs a)),cl (@coT (m) (alC a) (((alNs a).length:Int)) hz)] func210
theorem nk3(m:Mo)(vs bd:List BA)(k:Int)(x y:Ex)(r:Int)(hNb:bd.length<=1000000000)(hP:(exP y).length<=1000000000)(hnd:Pu 155 [.agg (wL m),.agg (exL x),.sl 1 (nmsC vs),.sl 1 (nmsC (inE y k bd))] (.ret (.int .i64 (r)))):Pu 212 [pI k,.agg (exL x),.ro (wL m) 0,.ro [.sl 1 (nmsC vs)] 0,.ro (exL y) 0,.ro [.sl 1 (nmsC bd)] 0] (rI r):=
 pm mdW [cl (@inY (y) (k) (bd) hNb hP),cl hnd] func212
theorem nk4(m:Mo)(vs bd:List BA)(k:Int)(a:Al)(r:Int)(hNb:bd.length<=1000000000)(hNa:(alNs a).length<=1000000000)(hnd:Pu 155 [.agg (wL m),.agg (exL (alB a)),.sl 1 (nmsC vs),.sl 1 (nmsC bd++nmsC (alNs a))] (.ret (.int .i64 (r)))):Pu 214 [pI k,.agg (alL a),.ro (wL m) 0,.ro [.sl 1 (nmsC vs)] 0,.ro [.sl 1 (nmsC bd)] 0] (rI r):=
 pm mdW [cl (@clone_ok (bd) hNb),am (List.length (nmsC bd++(fun x=>Prod.snd x) (1,nmsC (alNs a))) * (15+1)<=140737488355328) (by (simp only [List.length_append,nmsC_len]; omega)),cl hnd] func214
theorem e1T(m:Mo)(l:List BA)(hN:l.length<=1000000000):Pu 124 [.sl 1 (nmsC l),.fn (.func 205) [] [.ro (wL m) 0]] (.ret (.int .i64 (frE (fun s=>erN (nameB s)) l))):=eaNT l _ _ _ (fun k w _=>nk1 m k w) hN
theorem e2T(m:Mo)(l:List Al)(hz:Sz m)(hN:l.length<=1000000000):Pu 209 [.sl 9 (Al.cs l),.fn (.func 210) [] [.ro (wL m) 0]] (.ret (.int .i64 (frE (fun a=>coE (arF m) (alC a) (alNs a).length) l))):=eaAT l _ _ (fun a=>coE (arF m) (alC a) (alNs a).length) (fun k w _=>nk2 m k w hz) hN
theorem e3T(m:Mo)(vs bd:List BA)(y:Ex)(nf:Ex->List BA->Int)(hNb:bd.length<=1000000000)(hs:bulkPs (exL y)<=100000000)(hnk:∀ (k:Int) (w:Ex),w∈exK y->Pu 155 [.agg (wL m),.agg (exL w),.sl 1 (nmsC vs),.sl 1 (nmsC (inE y k bd))] (.ret (.int .i64 (nf w (inE y k bd))))):Pu 211 [.sl 7 (Ex.cs (exK y)),.fn (.func 212) [] [.ro (wL m) 0,.ro [.sl 1 (nmsC vs)] 0,.ro (exL y) 0,.ro [.sl 1 (nmsC bd)] 0]] (.ret (.int .i64 (frI (fun k w=>nf w (inE y k bd)) (exK y) 0))):=
 eaET (exK y) _ _ (fun k w=>nf w (inE y k bd)) (fun k w hw=>nk3 m vs bd k w y _ hNb (by have:=ex_bulk y; have:=Pm.bulk (exP y); omega) (hnk k w hw)) (by have:=ex_bulk y; have:=Ex.bulk (exK y); omega)
theorem e4T(m:Mo)(vs bd:List BA)(y:Ex)(nf:Ex->List BA->Int)(hNb:bd.length<=1000000000)(hs:bulkPs (exL y)<=100000000)(hna:∀ (a:Al),a∈exA y->Pu 155 [.agg (wL m),.agg (exL (alB a)),.sl 1 (nmsC vs),.sl 1 (nmsC (bd++alNs a))] (.ret (.int .i64 (nf (alB a) (bd++alNs a))))):Pu 209 [.sl 9 (Al.cs (exA y)),.fn (.func 214) [] [.ro (wL m) 0,.ro [.sl 1 (nmsC vs)] 0,.ro [.sl 1 (nmsC bd)] 0]] (.ret (.int .i64 (frE (fun a=>nf (alB a) (bd++alNs a)) (exA y)))):=
 eaAT (exA y) _ _ (fun a=>nf (alB a) (bd++alNs a)) (fun k a ha=>nk4 m vs bd k a _ hNb (by have:=ex_bulk y; have:=Al.mem ha; have:=al_bulk2 a; have:=nms_bulk (alNs a); omega) (by rw [<-nmsC_app]; exact hna a ha)) (by have:=ex_bulk y; have:=Al.bulk (exA y); omega)
theorem sz1{y:Ex}(hs:bulkPs (exL y)<=100000000):(exP y).length<=100000000:=by have:=ex_bulk y; have:=Pm.bulk (exP y); omega
theorem sz2{y:Ex}(hs:bulkPs (exL y)<=100000000):(exA y).length<=1000000000:=by have:=ex_bulk y; have:=Al.bulk (exA y); omega
theorem sz3{y:Ex}(hs:bulkPs (exL y)<=100000000):altN (exA y)<=100000000:=by have:=ex_bulk y; have:=altN_bulk (exA y); omega
theorem bnE_len(y:Ex):(bnE y).length<=1+(exP y).length+altN (exA y):=by
 have:∀l:List Al,(l.flatMap alNs).length<=altN l:=fun l=>by
  induction l with
  | nil=>simp
  | cons a r ih=>simp only [List.flatMap_cons,List.length_append,altN]; omega
 have:=this (exA y)
 unfold bnE
 simp only [List.length_append,List.length_map]
 split <;> simp only [List.length_cons,List.length_nil] <;> omega
theorem sz4{y:Ex}(hs:bulkPs (exL y)<=100000000):(bnE y).length<=1000000000:=by have:=ex_bulk y; have:=Pm.bulk (exP y); have:=altN_bulk (exA y); have:=bnE_len y; omega
theorem sz5{y:Ex}(hs:bulkPs (exL y)<=100000000):∀w∈exT y,bulkPs (tpL w)<=100000000:=fun w hw=>by have:=ex_bulk y; have:=Tp.mem hw; omega
theorem sz6{y:Ex}(hs:bulkPs (exL y)<=100000000):∀w∈exP y,bulkPs (tpL (pmT w))<=100000000:=fun w hw=>by have:=ex_bulk y; have:=Pm.mem hw; have:=pm_bulk w; omega
theorem sz7{y:Ex}(hs:bulkPs (exL y)<=100000000):(exT y).length<=1000000000:=by have:=ex_bulk y; have:=Tp.bulk (exT y); omega
theorem sz8{y:Ex}(hs:bulkPs (exL y)<=100000000):(exP y).length<=1000000000:=by have:=ex_bulk y; have:=Pm.bulk (exP y); omega
section
variable (m:Mo) (vs bd:List BA) (y:Ex) (nf:Ex->List BA->Int) (hz:Sz m) (hv0:vs.length<=1000000000) (hNb:bd.length<=1000000000) (hs:bulkPs (exL y)<=100000000) (hnk:∀ (k:Int) (w:Ex),w∈exK y->Pu 155 [.agg (wL m),.agg (exL w),.sl 1 (nmsC vs),.sl 1 (nmsC (inE y k bd))] (.ret (.int .i64 (nf w (inE y k bd))))) (hna:∀ (a:Al),a∈exA y->Pu 155 [.agg (wL m),.agg (exL (alB a)),.sl 1 (nmsC vs),.sl 1 (nmsC (bd++alNs a))] (.ret (.int .i64 (nf (alB a) (bd++alNs a)))))
include m vs bd y nf hz hv0 hNb hs hnk hna
theorem noS_1(hx0:(fi3 (frE (fun s=>erN (nameB s)) (bnE y)) (tsE (dvM m) vs y) (vaE (psF m) bd y)==0&&exO y==4)=true)(hx1:¬fi2 (coE (arF m) (exNm y) ((exK y).length:Int)) (frE (fun a=>coE (arF m) (alC a) ((alNs a).length:Int)) (exA y))=0):Pu 155 [.agg (wL m),.agg (exL y),.sl 1 (nmsC vs),.sl 1 (nmsC bd)] (rI (fi2 (coE (arF m) (exNm y) ((exK y).length:Int)) (frE (fun a=>coE (arF m) (alC a) ((alNs a).length:Int)) (exA y)))):=
 pm mdW [cl (@biT (y) (by (apply sz1 <;> first | assumption | omega | decide)) (by (apply sz2 <;> first | assumption | omega | decide)) (by (apply sz3 <;> first | assumption | omega | decide))),cl (@e1T (m) (bnE y) (by (apply sz4 <;> first | assumption | omega | decide))),cl (@tsT (m) (vs) (y) hz hv0 (by (apply sz5 <;> first | assumption | omega | decide)) (by (apply sz6 <;> first | assumption | omega | decide)) (by (apply sz7 <;> first | assumption | omega | decide)) (by (apply sz8 <;> first | assumption | omega | decide))),cl (@vaT (m) (y) (bd) hz hNb),cl (@fs3T (frE (fun s=>erN (nameB s)) (bnE y)) (tsE (dvM m) vs y) (vaE (psF m) bd y)),mg,av (.v (.bool (bif fi3 (frE (fun s=>erN (nameB s)) (bnE y)) (tsE (dvM m) vs y) (vaE (psF m) bd y)==0 then exO y==4 else false))) (.v (.bool (fi3 (frE (fun s=>erN (nameB s)) (bnE y)) (tsE (dvM m) vs y) (vaE (psF m) bd y)==0&&exO y==4))) (by (simp only [Bool.cond_false_right]; done)),bt1 hx0,sl (Ex.cs_len (exK y)),cl (@coT (m) (exNm y) (((exK y).length:Int)) hz),cl (@e2T (m) (exA y) hz (by (apply sz2 <;> first | assumption | omega | decide))),cl (@fs2T (coE (arF m) (exNm y) ((exK y).length:Int)) (frE (fun a=>coE (arF m) (alC a) ((alNs a).length:Int)) (exA y))),nt1 hx1] func155
theorem noS_2(hx0:(fi3 (frE (fun s=>erN (nameB s)) (bnE y)) (tsE (dvM m) vs y) (vaE (psF m) bd y)==0&&exO y==4)=true)(hx1:fi2 (coE (arF m) (exNm y) ((exK y).length:Int)) (frE (fun a=>coE (arF m) (alC a) ((alNs a).length:Int)) (exA y))=0):Pu 155 [.agg (wL m),.agg (exL y),.sl 1 (nmsC vs),.sl 1 (nmsC bd)] (rI (fi2 (frI (fun k w=>nf w (inE y k bd)) (exK y) 0) (frE (fun a=>nf (alB a) (bd++alNs a)) (exA y)))):=
 pm mdW [cl (@biT (y) (by (apply sz1 <;> first | assumption | omega | decide)) (by (apply sz2 <;> first | assumption | omega | decide)) (by (apply sz3 <;> first | assumption | omega | decide))),cl (@e1T (m) (bnE y) (by (apply sz4 <;> first | assumption | omega | decide))),cl (@tsT (m) (vs) (y) hz hv0 (by (apply sz5 <;> first | assumption | omega | decide)) (by (apply sz6 <;> first | assumption | omega | decide)) (by (apply sz7 <;> first | assumption | omega | decide)) (by (apply sz8 <;> first | assumption | omega | decide))),cl (@vaT (m) (y) (bd) hz hNb),cl (@fs3T (frE (fun s=>erN (nameB s)) (bnE y)) (tsE (dvM m) vs y) (vaE (psF m) bd y)),mg,av (.v (.bool (bif fi3 (frE (fun s=>erN (nameB s)) (bnE y)) (tsE (dvM m) vs y) (vaE (psF m) bd y)==0 then exO y==4 else false))) (.v (.bool (fi3 (frE (fun s=>erN (nameB s)) (bnE y)) (tsE (dvM m) vs y) (vaE (psF m) bd y)==0&&exO y==4))) (by (simp only [Bool.cond_false_right]; done)),bt1 hx0,sl (Ex.cs_len (exK y)),cl (@coT (m) (exNm y) (((exK y).length:Int)) hz),cl (@e2T (m) (exA y) hz (by (apply sz2 <;> first | assumption | omega | decide))),cl (@fs2T (coE (arF m) (exNm y) ((exK y).length:Int)) (frE (fun a=>coE (arF m) (alC a) ((alNs a).length:Int)) (exA y))),nn1 hx1,cl (@e3T (m) (vs) (bd) (y) (nf) hNb hs hnk),cl (@e4T (m) (vs) (bd) (y) (nf) hNb hs hna),cl (@fs2T (frI (fun k w=>nf w (inE y k bd)) (exK y) 0) (frE (fun a=>nf (alB a) (bd++alNs a)) (exA y)))] func155
theorem noS_3(hx0:(fi3 (frE (fun s=>erN (nameB s)) (bnE y)) (tsE (dvM m) vs y) (vaE (psF m) bd y)==0&&exO y==4)=false)(hx1:¬fi2 (fi3 (frE (fun s=>erN (nameB s)) (bnE y)) (tsE (dvM m) vs y) (vaE (psF m) bd y)) (frE (fun a=>coE (arF m) (alC a) ((alNs a).length:Int)) (exA y))=0):Pu 155 [.agg (wL m),.agg (exL y),.sl 1 (nmsC vs),.sl 1 (nmsC bd)] (rI (fi2 (fi3 (frE (fun s=>erN (nameB s)) (bnE y)) (tsE (dvM m) vs y) (vaE (psF m) bd y)) (frE (fun a=>coE (arF m) (alC a) ((alNs a).length:Int)) (exA y)))):=
 pm mdW [cl (@biT (y) (by (apply sz1 <;> first | assumption | omega | decide)) (by (apply sz2 <;> first | assumption | omega | decide)) (by (apply sz3 <;> first | assumption | omega | decide))),cl (@e1T (m) (bnE y) (by (apply sz4 <;> first | assumption | omega | decide))),cl (@tsT (m) (vs) (y) hz hv0 (by (apply sz5 <;> first | assumption | omega | decide)) (by (apply sz6 <;> first | assumption | omega | decide)) (by (apply sz7 <;> first | assumption | omega | decide)) (by (apply sz8 <;> first | assumption | omega | decide))),cl (@vaT (m) (y) (bd) hz hNb),cl (@fs3T (frE (fun s=>erN (nameB s)) (bnE y)) (tsE (dvM m) vs y) (vaE (psF m) bd y)),mg,av (.v (.bool (bif fi3 (frE (fun s=>erN (nameB s)) (bnE y)) (tsE (dvM m) vs y) (vaE (psF m) bd y)==0 then exO y==4 else false))) (.v (.bool (fi3 (frE (fun s=>erN (nameB s)) (bnE y)) (tsE (dvM m) vs y) (vaE (psF m) bd y)==0&&exO y==4))) (by (simp only [Bool.cond_false_right]; done)),bf1 hx0,cl (@e2T (m) (exA y) hz (by (apply sz2 <;> first | assumption | omega | decide))),cl (@fs2T (fi3 (frE (fun s=>erN (nameB s)) (bnE y)) (tsE (dvM m) vs y) (vaE (psF m) bd y)) (frE (fun a=>coE (arF m) (alC a) ((alNs a).length:Int)) (exA y))),nt1 hx1] func155
theorem noS_4(hx0:(fi3 (frE (fun s=>erN (nameB s)) (bnE y)) (tsE (dvM m) vs y) (vaE (psF m) bd y)==0&&exO y==4)=false)(hx1:fi2 (fi3 (frE (fun s=>erN (nameB s)) (bnE y)) (tsE (dvM m) vs y) (vaE (psF m) bd y)) (frE (fun a=>coE (arF m) (alC a) ((alNs a).length:Int)) (exA y))=0):Pu 155 [.agg (wL m),.agg (exL y),.sl 1 (nmsC vs),.sl 1 (nmsC bd)] (rI (fi2 (frI (fun k w=>nf w (inE y k bd)) (exK y) 0) (frE (fun a=>nf (alB a) (bd++alNs a)) (exA y)))):=
 pm mdW [cl (@biT (y) (by (apply sz1 <;> first | assumption | omega | decide)) (by (apply sz2 <;> first | assumption | omega | decide)) (by (apply sz3 <;> first | assumption | omega | decide))),cl (@e1T (m) (bnE y) (by (apply sz4 <;> first | assumption | omega | decide))),cl (@tsT (m) (vs) (y) hz hv0 (by (apply sz5 <;> first | assumption | omega | decide)) (by (apply sz6 <;> first | assumption | omega | decide)) (by (apply sz7 <;> first | assumption | omega | decide)) (by (apply sz8 <;> first | assumption | omega | decide))),cl (@vaT (m) (y) (bd) hz hNb),cl (@fs3T (frE (fun s=>erN (nameB s)) (bnE y)) (tsE (dvM m) vs y) (vaE (psF m) bd y)),mg,av (.v (.bool (bif fi3 (frE (fun s=>erN (nameB s)) (bnE y)) (tsE (dvM m) vs y) (vaE (psF m) bd y)==0 then exO y==4 else false))) (.v (.bool (fi3 (frE (fun s=>erN (nameB s)) (bnE y)) (tsE (dvM m) vs y) (vaE (psF m) bd y)==0&&exO y==4))) (by (simp only [Bool.cond_false_right]; done)),bf1 hx0,cl (@e2T (m) (exA y) hz (by (apply sz2 <;> first | assumption | omega | decide))),cl (@fs2T (fi3 (frE (fun s=>erN (nameB s)) (bnE y)) (tsE (dvM m) vs y) (vaE (psF m) bd y)) (frE (fun a=>coE (arF m) (alC a) ((alNs a).length:Int)) (exA y))),nn1 hx1,cl (@e3T (m) (vs) (bd) (y) (nf) hNb hs hnk),cl (@e4T (m) (vs) (bd) (y) (nf) hNb hs hna),cl (@fs2T (frI (fun k w=>nf w (inE y k bd)) (exK y) 0) (frE (fun a=>nf (alB a) (bd++alNs a)) (exA y)))] func155
end
def noS_r0(m:Mo)(vs:List BA)(bd:List BA)(y:Ex)(nf:Ex->List BA->Int):Int:=(if (fi3 (frE (fun s=>erN (nameB s)) (bnE y)) (tsE (dvM m) vs y) (vaE (psF m) bd y)==0&&exO y==4)=true then (if fi2 (coE (arF m) (exNm y) ((exK y).length:Int)) (frE (fun a=>coE (arF m) (alC a) ((alNs a).length:Int)) (exA y))=0 then (fi2 (frI (fun k w=>nf w (inE y k bd)) (exK y) 0) (frE (fun a=>nf (alB a) (bd++alNs a)) (exA y))) else (fi2 (coE (arF m) (exNm y) ((exK y).length:Int)) (frE (fun a=>coE (arF m) (alC a) ((alNs a).length:Int)) (exA y)))) else (if fi2 (fi3 (frE (fun s=>erN (nameB s)) (bnE y)) (tsE (dvM m) vs y) (vaE (psF m) bd y)) (frE (fun a=>coE (arF m) (alC a) ((alNs a).length:Int)) (exA y))=0 then (fi2 (frI (fun k w=>nf w (inE y k bd)) (exK y) 0) (frE (fun a=>nf (alB a) (bd++alNs a)) (exA y))) else (fi2 (fi3 (frE (fun s=>erN (nameB s)) (bnE y)) (tsE (dvM m) vs y) (vaE (psF m) bd y)) (frE (fun a=>coE (arF m) (alC a) ((alNs a).length:Int)) (exA y)))))
theorem noS(m:Mo)(vs bd:List BA)(y:Ex)(nf:Ex->List BA->Int)(hz:Sz m)(hv0:vs.length<=1000000000)(hNb:bd.length<=1000000000)(hs:bulkPs (exL y)<=100000000)(hnk:∀ (k:Int) (w:Ex),w∈exK y->Pu 155 [.agg (wL m),.agg (exL w),.sl 1 (nmsC vs),.sl 1 (nmsC (inE y k bd))] (.ret (.int .i64 (nf w (inE y k bd)))))(hna:∀ (a:Al),a∈exA y->Pu 155 [.agg (wL m),.agg (exL (alB a)),.sl 1 (nmsC vs),.sl 1 (nmsC (bd++alNs a))] (.ret (.int .i64 (nf (alB a) (bd++alNs a))))):Pu 155 [.agg (wL m),.agg (exL y),.sl 1 (nmsC vs),.sl 1 (nmsC bd)] (rI (noS_r0 m vs bd y nf)):=by
 by_cases h0:(fi3 (frE (fun s=>erN (nameB s)) (bnE y)) (tsE (dvM m) vs y) (vaE (psF m) bd y)==0&&exO y==4)=true
 ·by_cases h1:fi2 (coE (arF m) (exNm y) ((exK y).length:Int)) (frE (fun a=>coE (arF m) (alC a) ((alNs a).length:Int)) (exA y))=0
  ·simp only [noS_r0,iP h0,iP h1]; exact noS_2 m vs bd y nf hz hv0 hNb hs hnk hna h0 h1
  ·simp only [noS_r0,iP h0,iN h1]; exact noS_1 m vs bd y nf hz hv0 hNb hs hnk hna h0 h1
 ·by_cases h1:fi2 (fi3 (frE (fun s=>erN (nameB s)) (bnE y)) (tsE (dvM m) vs y) (vaE (psF m) bd y)) (frE (fun a=>coE (arF m) (alC a) ((alNs a).length:Int)) (exA y))=0
  ·simp only [noS_r0,iN h0,iP h1]; exact noS_4 m vs bd y nf hz hv0 hNb hs hnk hna (bFT h0) h1
  ·simp only [noS_r0,iN h0,iN h1]; exact noS_3 m vs bd y nf hz hv0 hNb hs hnk hna (bFT h0) h1
theorem noS_eq(m:Mo)(vs bd:List BA)(y:Ex)(nf:Ex->List BA->Int):noS_r0 m vs bd y nf=nqB (enM m) vs nf y bd:=by
 by_cases h:fi3 (frE (fun s=>erN (nameB s)) (bnE y)) (tsE (dvM m) vs y) (vaE (psF m) bd y)=0/\exO y=4
 ·have e2:nq2 (enM m) vs bd y=coE (arF m) (exNm y) (exK y).length:=iP h
  have e3:nq3 (enM m) vs bd y=fi2 (coE (arF m) (exNm y) (exK y).length) (frE (fun a=>coE (arF m) (alC a) (alNs a).length) (exA y)):=by unfold nq3; rw [e2]; rfl
  unfold noS_r0 nqB
  rw [iP (by simp [h.1,h.2]),e3]
 ·have e2:nq2 (enM m) vs bd y=fi3 (frE (fun s=>erN (nameB s)) (bnE y)) (tsE (dvM m) vs y) (vaE (psF m) bd y):=iN h
  have e3:nq3 (enM m) vs bd y=fi2 (fi3 (frE (fun s=>erN (nameB s)) (bnE y)) (tsE (dvM m) vs y) (vaE (psF m) bd y)) (frE (fun a=>coE (arF m) (alC a) (alNs a).length) (exA y)):=by unfold nq3; rw [e2]; rfl
  unfold noS_r0 nqB
  rw [iN (by simpa using h),e3]
theorem inE_len(y:Ex)(k:Int)(bd:List BA):(inE y k bd).length<=bd.length+1+(exP y).length:=by
 unfold inE
 simp only [List.length_append,List.length_map]
 split <;> simp only [List.length_cons,List.length_nil] <;> omega
theorem nq_ok(m:Mo)(vs:List BA)(hz:Sz m)(hv0:vs.length<=1000000000):∀ (d:Nat) (y:Ex) (bd:List BA),bulkPs (exL y)<d->d<=100000001->bd.length+bulkPs (exL y)<=900000000->Pu 155 [.agg (wL m),.agg (exL y),.sl 1 (nmsC vs),.sl 1 (nmsC bd)] (.ret (.int .i64 (nqD (enM m) vs d y bd)))
 | 0,_,_,h,_,_=>by omega
 | d+1,y,bd,h,hs,hb=>by
  have h0:=ex_bulk y
  have h1:=Pm.bulk (exP y)
  rw [nqD,<-noS_eq]
  exact noS m vs bd y (nqD (enM m) vs d) hz hv0 oM oM
   (fun k w hw=>nq_ok m vs hz hv0 d w _ (by have:=Ex.mem hw; omega) oM (by have:=Ex.mem hw; have:=inE_len y k bd; omega))
   (fun a ha=>nq_ok m vs hz hv0 d (alB a) _ (by have:=Al.mem ha; have:=al_bulk2 a; omega) oM (by have:=Al.mem ha; have:=al_bulk2 a; have:=nms_bulk (alNs a); rw [List.length_append]; omega))
theorem nqT(m:Mo)(vs bd:List BA)(y:Ex)(hz:Sz m)(hv0:vs.length<=1000000000)(hNb:bd.length<=100000000)(hs:bulkPs (exL y)<=100000000):Pu 155 [.agg (wL m),.agg (exL y),.sl 1 (nmsC vs),.sl 1 (nmsC bd)] (.ret (.int .i64 (nqF (enM m) vs y bd))):=nq_ok m vs hz hv0 _ y bd oM oM oM
def xpS_r0(m:Mo)(vs:List BA)(bd:List BA)(y:Ex):Int:=(if fi1 (syE y)=0 then (nqF (enM m) vs y bd) else (fi1 (syE y)))
theorem xpS(m:Mo)(vs bd:List BA)(y:Ex)(hz:Sz m)(hv0:vs.length<=1000000000)(hNb:bd.length<=100000000)(hs:bulkPs (exL y)<=100000000):Pu 106 [.agg (wL m),.agg (exL y),.sl 1 (nmsC vs),.sl 1 (nmsC bd)] (rI (xpS_r0 m vs bd y)):=by
 by_cases h0:fi1 (syE y)=0
 ·simp only [xpS_r0,iP h0]; exact pm mdW [cl (@syT (y) hs),cl (@fs1T (syE y)),nn1 h0,cl (@nqT (m) (vs) (bd) (y) hz hv0 hNb hs)] func106
 ·simp only [xpS_r0,iN h0]; exact pm mdW [cl (@syT (y) hs),cl (@fs1T (syE y)),nt1 h0] func106
def xpE(ε:En)(vs bd:List BA)(y:Ex):Int:=if fi1 (syE y)=0 then nqF ε vs y bd else fi1 (syE y)
end Go.Proofs.YtmllcplaohkjnaaGreatDoor
