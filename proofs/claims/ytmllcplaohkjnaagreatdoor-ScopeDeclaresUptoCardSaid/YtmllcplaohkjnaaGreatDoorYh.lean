/- Values of Go as plain data, an evaluator over them, and what the functions of the program return; part Yh. -/
import Derived.Test.YtmllcplaohkjnaaGreatDoorYg
import Derived.Test.YtmllcplaohkjnaaGreatDoorYf
import Derived.Test.YtmllcplaohkjnaaGreatDoorYa
set_option linter.unusedSectionVars false
set_option linter.unusedSimpArgs false
set_option linter.unusedVariables false
namespace Go.Proofs.YtmllcplaohkjnaaGreatDoor
open Go.Proofs.Tryz
open Go.Pv Go.Proofs.Tryz
set_option maxRecDepth 100000
theorem A8z(u:Ex)(a b:Bool)(c d:Int)(m o:Bool)(g k:Int)(t:Bool)(z:Bool)(xe:Ext)(cx:Cx)(AH:cx.n=156){Q:A7->S->Prop}(hq:Q (.normal) (S.mk [(1,.lp 1 0),(2,A2 0),(3,.lp 3 0),(4,.v (.bool z)),(5,.v (.bool (!a&&Fa u != 0 || !b && !ByteArray.toList (Ap u)==ByteArray.toList AI||d==0&&decide (((AQ u).length:Int)>0) || !m&&decide (((Ao u).length:Int)>0) || !o&&decide (((Ae u).length:Int)>0) || !t&&decide (((Cg u).length:Int)>0))))] [(1,CP u),(3,[.v (.bool a),.v (.bool b),A2 c,A2 d,.v (.bool m),.v (.bool o),A2 g,A2 k,.v (.bool t)])] xe)):PW prog cx (BC f203 2) (S.mk [(1,.lp 1 0),(2,A2 0),(3,.lp 3 0),(4,.v (.bool z))] [(1,CP u),(3,uG a b c d m o g k t)] xe) Q:=
 pw An 156 [mg,av (.v (.bool (bif !a then Fa u != 0 else false))) (.v (.bool (!a&&Fa u != 0))) (by (simp only [Bool.cond_false_right]; done)),mg,av (.v (.bool (bif !a&&Fa u != 0 then true else bif !b then !ByteArray.toList (Ap u)==ByteArray.toList AI else false))) (.v (.bool (!a&&Fa u != 0 || !b && !ByteArray.toList (Ap u)==ByteArray.toList AI))) (by (simp only [Bool.cond_true_left,Bool.cond_false_right]; done)),mg,av (.v (.bool (bif !a&&Fa u != 0 || !b && !ByteArray.toList (Ap u)==ByteArray.toList AI then true else bif d==0 then decide ((↑((fun x=>List.length (Prod.snd x)) (7,Ex.cs (AQ u))):Int)>0) else false))) (.v (.bool (!a&&Fa u != 0 || !b && !ByteArray.toList (Ap u)==ByteArray.toList AI||d==0&&decide (((AQ u).length:Int)>0)))) (by (simp only [List.length_nil,Ex.A0,Bool.cond_true_left,Bool.cond_false_right]; done)),mg,av (.v (.bool (bif !a&&Fa u != 0 || !b && !ByteArray.toList (Ap u)==ByteArray.toList AI||d==0&&decide (((AQ u).length:Int)>0) then true else bif !m then decide ((↑((fun x=>List.length (Prod.snd x)) (10,Pm.cs (Ao u))):Int)>0) else false))) (.v (.bool (!a&&Fa u != 0 || !b && !ByteArray.toList (Ap u)==ByteArray.toList AI||d==0&&decide (((AQ u).length:Int)>0) || !m&&decide (((Ao u).length:Int)>0)))) (by (simp only [List.length_nil,Pm.A0,Bool.cond_true_left,Bool.cond_false_right]; done)),mg,av (.v (.bool (bif !a&&Fa u != 0 || !b && !ByteArray.toList (Ap u)==ByteArray.toList AI||d==0&&decide (((AQ u).length:Int)>0) || !m&&decide (((Ao u).length:Int)>0) then true else bif !o then decide ((↑((fun x=>List.length (Prod.snd x)) (9,Al.cs (Ae u))):Int)>0) else false))) (.v (.bool (!a&&Fa u != 0 || !b && !ByteArray.toList (Ap u)==ByteArray.toList AI||d==0&&decide (((AQ u).length:Int)>0) || !m&&decide (((Ao u).length:Int)>0) || !o&&decide (((Ae u).length:Int)>0)))) (by (simp only [List.length_nil,Al.A0,Bool.cond_true_left,Bool.cond_false_right]; done)),mg,av (.v (.bool (bif !a&&Fa u != 0 || !b && !ByteArray.toList (Ap u)==ByteArray.toList AI||d==0&&decide (((AQ u).length:Int)>0) || !m&&decide (((Ao u).length:Int)>0) || !o&&decide (((Ae u).length:Int)>0) then true else bif !t then decide ((↑((fun x=>List.length (Prod.snd x)) (9,Tp.cs (Cg u))):Int)>0) else false))) (.v (.bool (!a&&Fa u != 0 || !b && !ByteArray.toList (Ap u)==ByteArray.toList AI||d==0&&decide (((AQ u).length:Int)>0) || !m&&decide (((Ao u).length:Int)>0) || !o&&decide (((Ae u).length:Int)>0) || !t&&decide (((Cg u).length:Int)>0)))) (by (simp only [List.length_nil,Tp.A0,Bool.cond_true_left,Bool.cond_false_right]; done))] [1,2,3,4,5] [1,3] AH hq
def By(u:Ex)(a b:Bool)(c d:Int)(m o:Bool)(g k:Int)(t:Bool)(z:Bool):Bool:=((!a&&Fa u != 0 || !b && !ByteArray.toList (Ap u)==ByteArray.toList AI||d==0&&decide (((AQ u).length:Int)>0) || !m&&decide (((Ao u).length:Int)>0) || !o&&decide (((Ae u).length:Int)>0) || !t&&decide (((Cg u).length:Int)>0)))
theorem NL(u:Ex)(a b:Bool)(c d:Int)(m o:Bool)(g k:Int)(t:Bool)(z:Bool)(xe:Ext):(Ob.F9 156 (BC f203 2) (S.mk [(1,.lp 1 0),(2,A2 0),(3,.lp 3 0),(4,.v (.bool z))] [(1,CP u),(3,uG a b c d m o g k t)] xe) (.normal) (S.mk [(1,.lp 1 0),(2,A2 0),(3,.lp 3 0),(4,.v (.bool z)),(5,.v (.bool (By u a b c d m o g k t z)))] [(1,CP u),(3,[.v (.bool a),.v (.bool b),A2 c,A2 d,.v (.bool m),.v (.bool o),A2 g,A2 k,.v (.bool t)])] xe)).ok prog:=by
 intro cx AH
 exact A8z u a b c d m o g k t z xe  cx AH ⟨rfl,by rw [show By u a b c d m o g k t z=((!a&&Fa u != 0 || !b && !ByteArray.toList (Ap u)==ByteArray.toList AI||d==0&&decide (((AQ u).length:Int)>0) || !m&&decide (((Ao u).length:Int)>0) || !o&&decide (((Ae u).length:Int)>0) || !t&&decide (((Cg u).length:Int)>0))) from rfl]⟩
section
variable (u:Ex) (a b:Bool) (c d:Int) (m o:Bool) (g k:Int) (t:Bool) (xe:Ext)
include u a b c d m o g k t xe
theorem uL(Ak:B2 u=1)(cx:Cx)(AH:cx.n=156){Q:A7->S->Prop}(hq:Q (.normal) (S.mk [(1,.lp 1 0),(2,A2 0),(3,.lp 3 0),(92,.v (.bool (!FV (Fa u)||B2 u==2&&Fa u != 0&&Fa u != 1)))] [(1,CP u),(3,[.v (.bool a),.v (.bool b),A2 c,A2 d,.v (.bool m),.v (.bool o),A2 g,A2 k,.v (.bool t)])] xe)):PW prog cx (BC f203 7) (S.mk [(1,.lp 1 0),(2,A2 0),(3,.lp 3 0)] [(1,CP u),(3,uG a b c d m o g k t)] xe) Q:=
 pw An 156 [rp 3 (CT Ak),cl (@niS (Fa u)),rp 2 (CT Ak),mg,av (.v (.bool (bif !FV (Fa u) then true else bif bif B2 u==2 then Fa u != 0 else false then Fa u != 1 else false))) (.v (.bool (!FV (Fa u)||B2 u==2&&Fa u != 0&&Fa u != 1))) (by (simp only [Bool.cond_true_left,Bool.cond_false_right]; done))] [1,2,3,92] [1,3] AH hq
theorem uM(Ak:¬B2 u=1)(Au:B2 u=2)(AW:¬Fa u=0)(cx:Cx)(AH:cx.n=156){Q:A7->S->Prop}(hq:Q (.normal) (S.mk [(1,.lp 1 0),(2,A2 0),(3,.lp 3 0),(92,.v (.bool (Fa u != 1)))] [(1,CP u),(3,[.v (.bool a),.v (.bool b),A2 c,A2 d,.v (.bool m),.v (.bool o),A2 g,A2 k,.v (.bool t)])] xe)):PW prog cx (BC f203 7) (S.mk [(1,.lp 1 0),(2,A2 0),(3,.lp 3 0)] [(1,CP u),(3,uG a b c d m o g k t)] xe) Q:=
 pw An 156 [rp 5 (As Ak),rp 4 (bf false),rp 3 (CT Au),bf false,CT Au,bf false,rp 3 (D3 AW),bf false,D3 AW,bf false] [1,2,3,92] [1,3] AH hq
theorem uN(Ak:¬B2 u=1)(Au:B2 u=2)(AW:Fa u=0)(cx:Cx)(AH:cx.n=156){Q:A7->S->Prop}(hq:Q (.normal) (S.mk [(1,.lp 1 0),(2,A2 0),(3,.lp 3 0),(92,.v (.bool false))] [(1,CP u),(3,[.v (.bool a),.v (.bool b),A2 c,A2 d,.v (.bool m),.v (.bool o),A2 g,A2 k,.v (.bool t)])] xe)):PW prog cx (BC f203 7) (S.mk [(1,.lp 1 0),(2,A2 0),(3,.lp 3 0)] [(1,CP u),(3,uG a b c d m o g k t)] xe) Q:=
 pw An 156 [rp 5 (As Ak),rp 4 (bf false),rp 3 (CT Au),bf false,CT Au,bf false,rp 3 (Bp AW),bf false,Bp AW,bf false] [1,2,3,92] [1,3] AH hq
theorem uO(Ak:¬B2 u=1)(Au:¬B2 u=2)(cx:Cx)(AH:cx.n=156){Q:A7->S->Prop}(hq:Q (.normal) (S.mk [(1,.lp 1 0),(2,A2 0),(3,.lp 3 0),(92,.v (.bool false))] [(1,CP u),(3,[.v (.bool a),.v (.bool b),A2 c,A2 d,.v (.bool m),.v (.bool o),A2 g,A2 k,.v (.bool t)])] xe)):PW prog cx (BC f203 7) (S.mk [(1,.lp 1 0),(2,A2 0),(3,.lp 3 0)] [(1,CP u),(3,uG a b c d m o g k t)] xe) Q:=
 pw An 156 [rp 5 (As Ak),rp 4 (bf false),rp 3 (As Au),bf false,As Au,rp 7 (bf false)] [1,2,3,92] [1,3] AH hq
end
def Dv(u:Ex)(a b:Bool)(c d:Int)(m o:Bool)(g k:Int)(t:Bool):Bool:=(if B2 u=1 then ((!FV (Fa u)||B2 u==2&&Fa u != 0&&Fa u != 1)) else (if B2 u=2 then (if Fa u=0 then (false) else ((Fa u != 1))) else (false)))
theorem SC(u:Ex)(a b:Bool)(c d:Int)(m o:Bool)(g k:Int)(t:Bool)(xe:Ext):(Ob.F9 156 (BC f203 7) (S.mk [(1,.lp 1 0),(2,A2 0),(3,.lp 3 0)] [(1,CP u),(3,uG a b c d m o g k t)] xe) (.normal) (S.mk [(1,.lp 1 0),(2,A2 0),(3,.lp 3 0),(92,.v (.bool (Dv u a b c d m o g k t)))] [(1,CP u),(3,[.v (.bool a),.v (.bool b),A2 c,A2 d,.v (.bool m),.v (.bool o),A2 g,A2 k,.v (.bool t)])] xe)).ok prog:=by
 intro cx AH
 by_cases g0:B2 u=1
 ·exact uL u a b c d m o g k t xe g0 cx AH ⟨rfl,by rw [show Dv u a b c d m o g k t=((!FV (Fa u)||B2 u==2&&Fa u != 0&&Fa u != 1)) by unfold Dv; rw [iP g0]]⟩
 ·by_cases g1:B2 u=2
  ·by_cases g2:Fa u=0
   ·exact uN u a b c d m o g k t xe g0 g1 g2 cx AH ⟨rfl,by rw [show Dv u a b c d m o g k t=(false) by unfold Dv; rw [iN g0,iP g1,iP g2]]⟩
   ·exact uM u a b c d m o g k t xe g0 g1 g2 cx AH ⟨rfl,by rw [show Dv u a b c d m o g k t=((Fa u != 1)) by unfold Dv; rw [iN g0,iP g1,iN g2]]⟩
  ·exact uO u a b c d m o g k t xe g0 g1 cx AH ⟨rfl,by rw [show Dv u a b c d m o g k t=(false) by unfold Dv; rw [iN g0,iN g1]]⟩
abbrev nV(u:Ex)(Dw:Ex->Int)(j:Int)(n:Int)(e:Ext):S:=S.mk [(1,.lp 1 0),(2,A2 0),(3,A2 n),(9,vL 7 (Ex.cs (AQ u))),(10,A2 ((AQ u).length:Int)),(11,A2 j)] [(1,CP u)] e
def KH(Dw:Ex->Int):List Ex->(Int)->(Int)
 | [],n=>(n)
 | el::r,n=>KH Dw r (EU true n (Dw el))
def c8(u:Ex)(Dw:Ex->Int)(e:Ext)(p:(Int)):A7 × S:=(.exit 0,S.mk [(1,.lp 1 0),(2,A2 0),(3,A2 p),(9,vL 7 (Ex.cs (AQ u))),(10,A2 ((AQ u).length:Int))] [(1,CP u)] e)
theorem dpK(u:Ex)(Dw:Ex->Int)(LJ:∀w:Ex,w∈AQ u->Pu 200 [.agg (AT w)] (.ret (.int .i64 (Dw w))))(n:Int)(e:Ext)(hN:(AQ u).length<=1000000000)  : (Ob.loop 35 (Am f200 0) (nV u Dw 0 n e) (c8 u Dw e (KH Dw ((AQ u))  n)).1 (c8 u Dw e (KH Dw ((AQ u))  n)).2).ok prog:=by
 refine Ek ((AQ u).length) (fun j n=>nV u Dw j n e) (fun i n=>KH Dw (List.drop i ((AQ u)))  n) (c8 u Dw e) (fun i n=>True) kR ?_ n trivial
 rintro i n hi -
 rcases Nat.lt_or_ge i ((AQ u).length) with Ad | Dm
 ·have hd:=AN Ad
  exact lN An [dt ((i:Int)<((AQ u).length:Int)),am ((0:Int)<=(i:Int)/\(i:Int)<((Ex.cs (AQ u)).length:Int)) (by (simp only [Ex.A0]; omega)),ar (List.getD (Ex.cs (AQ u)) (Int.toNat (i:Int)) []) (AT (List.getD (AQ u) i default)) (by simp only [Int.toNat_natCast,Int.toNat_zero]; rw [@Ex.B0 (AQ u) (i) Ad]; try rfl),cl (@LJ (List.getD (AQ u) i default) (by simp_all [List.length_map,List.length_append,List.length_cons,List.length_nil,A3,Pr.A0,Tp.A0,Pm.A0,Ex.A0,Al.A0,Vr.A0,Cn.A0,Da.A0,Cl.A0,Bo.A0,Df.A0,In.A0,Cs.A0,Ms.A0,Qu.A0,Int.toNat_natCast,Bool.cond_true_left,Bool.cond_false_right,Int.toNat_zero,Fg])),wr ((i:Int)+1)] Ad (EU true n (Dw (List.getD (AQ u) i default))) trivial (by rw [hd,KH])
 ·have he:i=(AQ u).length:=by omega
  exact lX An [df ((i:Int)<((AQ u).length:Int))] (n) (by rw [he,List.drop_length,KH])
abbrev nW(u:Ex)(Dw:Ex->Int)(j:Int)(n:Int)(e:Ext):S:=S.mk [(2,A2 0),(3,A2 n),(21,vL 9 (Al.cs (Ae u))),(22,A2 ((Ae u).length:Int)),(23,A2 j)] [] e
def NM(Dw:Ex->Int):List Al->(Int)->(Int)
 | [],n=>(n)
 | el::r,n=>NM Dw r (EU true n (Dw (D4 el)))
def c9(u:Ex)(Dw:Ex->Int)(e:Ext)(p:(Int)):A7 × S:=(.exit 2,S.mk [(2,A2 0),(3,A2 p),(21,vL 9 (Al.cs (Ae u))),(22,A2 ((Ae u).length:Int))] [] e)
theorem dpA(u:Ex)(Dw:Ex->Int)(LJ:∀w:Ex,w∈AQ u->Pu 200 [.agg (AT w)] (.ret (.int .i64 (Dw w))))(has:∀w:Al,w∈Ae u->Pu 200 [.agg (AT (D4 w))] (.ret (.int .i64 (Dw (D4 w)))))(WV:(AQ u).length<=1000000000)(n:Int)(e:Ext)(hN:(Ae u).length<=1000000000)  : (Ob.loop 35 (Am f200 1) (nW u Dw 0 n e) (c9 u Dw e (NM Dw ((Ae u))  n)).1 (c9 u Dw e (NM Dw ((Ae u))  n)).2).ok prog:=by
 refine Ek ((Ae u).length) (fun j n=>nW u Dw j n e) (fun i n=>NM Dw (List.drop i ((Ae u)))  n) (c9 u Dw e) (fun i n=>True) kR ?_ n trivial
 rintro i n hi -
 rcases Nat.lt_or_ge i ((Ae u).length) with Ad | Dm
 ·have hd:=AN Ad
  exact lN An [dt ((i:Int)<((Ae u).length:Int)),am ((0:Int)<=(i:Int)/\(i:Int)<((Al.cs (Ae u)).length:Int)) (by (simp only [Al.A0]; omega)),ar (List.getD (Al.cs (Ae u)) (Int.toNat (i:Int)) []) (I4 (List.getD (Ae u) i default)) (by simp only [Int.toNat_natCast,Int.toNat_zero]; rw [@Al.B0 (Ae u) (i) Ad]; try rfl),cl (@has (List.getD (Ae u) i default) (by simp_all [List.length_map,List.length_append,List.length_cons,List.length_nil,A3,Pr.A0,Tp.A0,Pm.A0,Ex.A0,Al.A0,Vr.A0,Cn.A0,Da.A0,Cl.A0,Bo.A0,Df.A0,In.A0,Cs.A0,Ms.A0,Qu.A0,Int.toNat_natCast,Bool.cond_true_left,Bool.cond_false_right,Int.toNat_zero,Fg])),wr ((i:Int)+1)] Ad (EU true n (Dw (D4 (List.getD (Ae u) i default)))) trivial (by rw [hd,NM])
 ·have he:i=(Ae u).length:=by omega
  exact lX An [df ((i:Int)<((Ae u).length:Int))] (n) (by rw [he,List.drop_length,NM])
def nX:Nat->Ex->Int
 | 0,_=>0
 | d+1,u=>IntKind.i64.wrap (NM (nX d) (Ae u) (KH (nX d) (AQ u) 0)+1)
theorem Vo:∀ (d:Nat) (u:Ex),A5 (AT u)<d->d<=100000001->Pu 200 [.agg (AT u)] (.ret (.int .i64 (nX d u)))
 | 0,_,h,_=>by omega
 | d+1,u,h,hs=>by
  have hb:=CQ u
  have h1:=Ex.BF (AQ u)
  have h2:=Al.BF (Ae u)
  exact pu An (fun e=>[sl (Ex.A0 (AQ u)),lp (S.mk [(0,.v (.agg (AT u))),(1,.lp 1 0),(2,A2 0),(3,A2 0),(8,.lp 1 3),(9,vL 7 (Ex.cs (AQ u))),(10,A2 ((AQ u).length:Int)),(11,A2 0)] [(1,CP u)] e) (@dpK (u) ((nX d)) (fun w hw=>Vo d w (by have:=Ex.mem hw; omega) oM) (0) (e) oM) xr,sl (Al.A0 (Ae u)),lp (S.mk [(1,.lp 1 0),(2,A2 0),(3,A2 (KH (nX d) (AQ u) 0)),(9,vL 7 (Ex.cs (AQ u))),(10,A2 ((AQ u).length:Int)),(20,.lp 1 5),(21,vL 9 (Al.cs (Ae u))),(22,A2 ((Ae u).length:Int)),(23,A2 0)] [(1,CP u)] e) (@dpA (u) ((nX d)) (fun w hw=>Vo d w (by have:=Ex.mem hw; omega) oM) (fun w hw=>Vo d (D4 w) (by have:=Al.mem hw; have:=HV w; omega) oM) oM (KH (nX d) (AQ u) 0) (e) oM) xr,kp]) func200
def cA(u:Ex):Int:=nX (A5 (AT u)+1) u
theorem dpT(u:Ex)(hs:A5 (AT u)<=100000000):Pu 200 [.agg (AT u)] (.ret (.int .i64 (cA u))):=Vo _ u oM oM
mutual
theorem Pr.jN:∀x:Pr,Ci (Pr.c x)=true
 | .mk _ _ _ k=>by simp only [Pr.c,Ci,PV.EN,Pr.AJ k,Bool.and_self]
theorem Pr.AJ:∀l:List Pr,Cq (Pr.cs l)=true
 | []=>rfl
 | x::r=>by simp only [Pr.cs,Cq,Pr.jN x,Pr.AJ r,Bool.and_self]
end
mutual
theorem Tp.jN:∀x:Tp,Ci (Tp.c x)=true
 | .mk _ _ a ns p ps=>by simp only [Tp.c,Ci,PV.EN,Tp.AJ a,E8,Pr.AJ,Bool.and_self]
theorem Tp.AJ:∀l:List Tp,Cq (Tp.cs l)=true
 | []=>rfl
 | x::r=>by simp only [Tp.cs,Cq,Tp.jN x,Tp.AJ r,Bool.and_self]
end
theorem Pm.nx(x:Pm):Ci (KW x)=true:=by simp only [Ci,PV.EN,Tp.AJ,E8,Pr.AJ,Bool.and_self]
theorem Pm.AJ:∀l:List Pm,Cq (Pm.cs l)=true
 | []=>rfl
 | x::r=>by simp only [Pm.cs,Cq,Pm.nx x,Pm.AJ r,Bool.and_self]
mutual
theorem Ex.jN:∀x:Ex,Ci (Ex.c x)=true
 | .mk _ _ _ k p a t=>by simp only [Ex.c,Ci,PV.EN,Ex.AJ k,Pm.AJ,Al.AJ a,Tp.AJ,Bool.and_self]
theorem Ex.AJ:∀l:List Ex,Cq (Ex.cs l)=true
 | []=>rfl
 | x::r=>by simp only [Ex.cs,Cq,Ex.jN x,Ex.AJ r,Bool.and_self]
theorem Al.jN:∀x:Al,Ci (Al.c x)=true
 | .mk _ ns b=>by simp only [Al.c,Ci,PV.EN,E8,Ex.jN b,Bool.and_self]
theorem Al.AJ:∀l:List Al,Cq (Al.cs l)=true
 | []=>rfl
 | x::r=>by simp only [Al.cs,Cq,Al.jN x,Al.AJ r,Bool.and_self]
end
theorem Ex.nx(x:Ex):Ci (AT x)=true:=by rw [<-Ex.Qt]; exact Ex.jN x
theorem Vr.nx(x:Vr):Ci (O5 x)=true:=by simp only [Ci,PV.EN,Pr.AJ,Tp.AJ,Pm.AJ,Ex.AJ,Al.AJ,E8,Bool.and_self]
theorem Vr.AJ:∀l:List Vr,Cq (Vr.cs l)=true
 | []=>rfl
 | x::r=>by simp only [Vr.cs,Cq,Vr.nx x,Vr.AJ r,Bool.and_self]
theorem Cn.nx(x:Cn):Ci (KX x)=true:=by simp only [Ci,PV.EN,Pr.AJ,Tp.AJ,Pm.AJ,Ex.AJ,Al.AJ,E8,Vr.AJ,Bool.and_self]
theorem Cn.AJ:∀l:List Cn,Cq (Cn.cs l)=true
 | []=>rfl
 | x::r=>by simp only [Cn.cs,Cq,Cn.nx x,Cn.AJ r,Bool.and_self]
theorem Da.nx(x:Da):Ci (EO x)=true:=by simp only [Ci,PV.EN,Pr.AJ,Tp.AJ,Pm.AJ,Ex.AJ,Al.AJ,E8,Vr.AJ,Cn.AJ,Bool.and_self]
theorem Da.AJ:∀l:List Da,Cq (Da.cs l)=true
 | []=>rfl
 | x::r=>by simp only [Da.cs,Cq,Da.nx x,Da.AJ r,Bool.and_self]
theorem Cl.nx(x:Cl):Ci (Lm x)=true:=by simp only [Ci,PV.EN,Pr.AJ,Tp.AJ,Pm.AJ,Ex.AJ,Al.AJ,E8,Vr.AJ,Cn.AJ,Da.AJ,Bool.and_self]
theorem Cl.AJ:∀l:List Cl,Cq (Cl.cs l)=true
 | []=>rfl
 | x::r=>by simp only [Cl.cs,Cq,Cl.nx x,Cl.AJ r,Bool.and_self]
theorem Bo.nx(x:Bo):Ci (WG x)=true:=by simp only [Ci,PV.EN,Pr.AJ,Tp.AJ,Pm.AJ,Ex.AJ,Al.AJ,E8,Vr.AJ,Cn.AJ,Da.AJ,Cl.AJ,Bool.and_self]
theorem Bo.AJ:∀l:List Bo,Cq (Bo.cs l)=true
 | []=>rfl
 | x::r=>by simp only [Bo.cs,Cq,Bo.nx x,Bo.AJ r,Bool.and_self]
theorem Df.nx(x:Df):Ci (CZ x)=true:=by simp only [Ci,PV.EN,Pr.AJ,Tp.AJ,Pm.AJ,Ex.AJ,Al.AJ,E8,Vr.AJ,Cn.AJ,Da.AJ,Cl.AJ,Bo.AJ,Bool.and_self]
theorem Df.AJ:∀l:List Df,Cq (Df.cs l)=true
 | []=>rfl
 | x::r=>by simp only [Df.cs,Cq,Df.nx x,Df.AJ r,Bool.and_self]
theorem In.nx(x:In):Ci (Oo x)=true:=by simp only [Ci,PV.EN,Pr.AJ,Tp.AJ,Pm.AJ,Ex.AJ,Al.AJ,E8,Vr.AJ,Cn.AJ,Da.AJ,Cl.AJ,Bo.AJ,Df.AJ,Bool.and_self]
theorem In.AJ:∀l:List In,Cq (In.cs l)=true
 | []=>rfl
 | x::r=>by simp only [In.cs,Cq,In.nx x,In.AJ r,Bool.and_self]
theorem Cs.nx(x:Cs):Ci (R4 x)=true:=by simp only [Ci,PV.EN,Pr.AJ,Tp.AJ,Pm.AJ,Ex.AJ,Al.AJ,E8,Vr.AJ,Cn.AJ,Da.AJ,Cl.AJ,Bo.AJ,Df.AJ,In.AJ,Bool.and_self]
theorem Cs.AJ:∀l:List Cs,Cq (Cs.cs l)=true
 | []=>rfl
 | x::r=>by simp only [Cs.cs,Cq,Cs.nx x,Cs.AJ r,Bool.and_self]
theorem Ms.nx(x:Ms):Ci (M7 x)=true:=by simp only [Ci,PV.EN,Pr.AJ,Tp.AJ,Pm.AJ,Ex.AJ,Al.AJ,E8,Vr.AJ,Cn.AJ,Da.AJ,Cl.AJ,Bo.AJ,Df.AJ,In.AJ,Cs.AJ,Bool.and_self]
theorem Ms.AJ:∀l:List Ms,Cq (Ms.cs l)=true
 | []=>rfl
 | x::r=>by simp only [Ms.cs,Cq,Ms.nx x,Ms.AJ r,Bool.and_self]
theorem Qu.nx(x:Qu):Ci (WH x)=true:=by simp only [Ci,PV.EN,Pr.AJ,Tp.AJ,Pm.AJ,Ex.AJ,Al.AJ,E8,Vr.AJ,Cn.AJ,Da.AJ,Cl.AJ,Bo.AJ,Df.AJ,In.AJ,Cs.AJ,Ms.AJ,Bool.and_self]
theorem Qu.AJ:∀l:List Qu,Cq (Qu.cs l)=true
 | []=>rfl
 | x::r=>by simp only [Qu.cs,Cq,Qu.nx x,Qu.AJ r,Bool.and_self]
theorem jO{l:List PV}(h:Ci l=true):Ci [.agg l]=true:=by rw [Ci,PV.EN,h]; rfl
def Vp:Md:=⟨fun _=>some false,fun t=>t==1000002||t==1000007⟩
abbrev Vq(y:Ex)(a:Bool)(b:Bool)(c:Int)(d:Int)(m:Bool)(o:Bool)(g:Int)(k:Int)(t:Bool)(z:Bool)(j:Int)(e:Ext):S:=S.mk [(1,.lp 1 0),(2,A2 0),(124,vL 9 (Tp.cs (Cg y))),(125,A2 ((Cg y).length:Int)),(126,A2 j)] [(1,CP y)] e
inductive Ie where
 | e0 (el:Tp)
 | e1
def HF  : List Tp->Ie
 | []=>(Ie.e1)
 | el::r=>(if Bm el=0 then HF  r  else (Ie.e0 el))
def NN(y:Ex)(a:Bool)(b:Bool)(c:Int)(d:Int)(m:Bool)(o:Bool)(g:Int)(k:Int)(t:Bool)(z:Bool)(e:Ext):Ie->A7 × S
 | .e0 el=>(.ret,S.mk [(1,.lp 1 0),(2,A2 (Bm el)),(124,vL 9 (Tp.cs (Cg y))),(125,A2 ((Cg y).length:Int))] [(1,CP y)] e)
 | .e1=>(.exit 1,S.mk [(1,.lp 1 0),(2,A2 0),(124,vL 9 (Tp.cs (Cg y))),(125,A2 ((Cg y).length:Int))] [(1,CP y)] e)
theorem cB(y:Ex)(a b:Bool)(c d:Int)(m o:Bool)(g k:Int)(t z:Bool)(K6:Pu 239 [.int .i64 (B2 y)] (.ret (.B6 [.agg (Ov a b c d m o g k t),.bool z])))(hP:(Ao y).length<=1000000000)(hA:(Ae y).length<=1000000000)(Gv:(Ai (Ao y) []).length<=100000000)(FM:(B4 (Ae y) []).length<=1000000000)(He:D0 (Ae y)<=100000000)(Ml:∀w:Tp,w∈Cg y->Pu 85 [.agg (BI w)] (.ret (.int .i64 (Bm w))))(e:Ext)(hN:(Cg y).length<=1000000000):(Ob.loop 156 (Am f203 0) (Vq y a b c d m o g k t z 0  e) (NN y a b c d m o g k t z e (HF  (List.drop 0 ((Cg y))))).1 (NN y a b c d m o g k t z e (HF  (List.drop 0 ((Cg y))))).2).ok prog:=by
 refine Ek ((Cg y).length) (fun j _=>Vq y a b c d m o g k t z j  e) (fun i _=>HF  (List.drop i ((Cg y)))) (NN y a b c d m o g k t z e) (fun i _=>True) kR ?_ () trivial
 rintro i u hi -
 rcases Nat.lt_or_ge i ((Cg y).length) with Ad | Dm
 ·have hd:=AN Ad
  by_cases h0:Bm (List.getD (Cg y) i default)=0
  ·exact lN Vp [dt ((i:Int)<((Cg y).length:Int)),am ((0:Int)<=(i:Int)/\(i:Int)<((Tp.cs (Cg y)).length:Int)) (by (simp only [Tp.A0]; omega)),ar (List.getD (Tp.cs (Cg y)) (Int.toNat (i:Int)) []) (BI (List.getD (Cg y) i default)) (by simp only [Int.toNat_natCast,Int.toNat_zero]; rw [@Tp.B0 (Cg y) (i) Ad]; try rfl),cl (@Ml (List.getD (Cg y) i default) (by simp_all [List.length_map,List.length_append,List.length_cons,List.length_nil,A3,Pr.A0,Tp.A0,Pm.A0,Ex.A0,Al.A0,Vr.A0,Cn.A0,Da.A0,Cl.A0,Bo.A0,Df.A0,In.A0,Cs.A0,Ms.A0,Qu.A0,Int.toNat_natCast,Bool.cond_true_left,Bool.cond_false_right,Int.toNat_zero,Fg])),Bp h0,wr ((i:Int)+1)] Ad () trivial (by rw [hd,HF,iP h0])
  ·exact lX Vp [dt ((i:Int)<((Cg y).length:Int)),am ((0:Int)<=(i:Int)/\(i:Int)<((Tp.cs (Cg y)).length:Int)) (by (simp only [Tp.A0]; omega)),ar (List.getD (Tp.cs (Cg y)) (Int.toNat (i:Int)) []) (BI (List.getD (Cg y) i default)) (by simp only [Int.toNat_natCast,Int.toNat_zero]; rw [@Tp.B0 (Cg y) (i) Ad]; try rfl),cl (@Ml (List.getD (Cg y) i default) (by simp_all [List.length_map,List.length_append,List.length_cons,List.length_nil,A3,Pr.A0,Tp.A0,Pm.A0,Ex.A0,Al.A0,Vr.A0,Cn.A0,Da.A0,Cl.A0,Bo.A0,Df.A0,In.A0,Cs.A0,Ms.A0,Qu.A0,Int.toNat_natCast,Bool.cond_true_left,Bool.cond_false_right,Int.toNat_zero,Fg])),D3 h0] (Ie.e0 (List.getD ((Cg y)) i default)) (by rw [hd,HF,iN h0])
 ·have he:i=(Cg y).length:=by omega
  exact lX Vp [df ((i:Int)<((Cg y).length:Int))] (Ie.e1) (by rw [he,List.drop_length,HF])
theorem A3m(y:Ex)(a b:Bool)(c d:Int)(m o:Bool)(g k:Int)(t z:Bool)(K6:Pu 239 [.int .i64 (B2 y)] (.ret (.B6 [.agg (Ov a b c d m o g k t),.bool z])))(hP:(Ao y).length<=1000000000)(hA:(Ae y).length<=1000000000)(Gv:(Ai (Ao y) []).length<=100000000)(FM:(B4 (Ae y) []).length<=1000000000)(He:D0 (Ae y)<=100000000)(Ml:∀w:Tp,w∈Cg y->Pu 85 [.agg (BI w)] (.ret (.int .i64 (Bm w))))(e:Ext)(hN:(Cg y).length<=1000000000)(p0:Tp)(AF:(HF  ((Cg y)))=(Ie.e0 p0)):(Ob.loop 156 (Am f203 0) (Vq y a b c d m o g k t z 0  e) (NN y a b c d m o g k t z e (Ie.e0 p0)).1 (NN y a b c d m o g k t z e (Ie.e0 p0)).2).ok prog:=
 rz (cB y a b c d m o g k t z K6 hP hA Gv FM He Ml e hN) AF
theorem nY(y:Ex)(a b:Bool)(c d:Int)(m o:Bool)(g k:Int)(t z:Bool)(K6:Pu 239 [.int .i64 (B2 y)] (.ret (.B6 [.agg (Ov a b c d m o g k t),.bool z])))(hP:(Ao y).length<=1000000000)(hA:(Ae y).length<=1000000000)(Gv:(Ai (Ao y) []).length<=100000000)(FM:(B4 (Ae y) []).length<=1000000000)(He:D0 (Ae y)<=100000000)(Ml:∀w:Tp,w∈Cg y->Pu 85 [.agg (BI w)] (.ret (.int .i64 (Bm w))))(e:Ext)(hN:(Cg y).length<=1000000000)(AF:(HF  ((Cg y)))=(Ie.e1)):(Ob.loop 156 (Am f203 0) (Vq y a b c d m o g k t z 0  e) (NN y a b c d m o g k t z e (Ie.e1)).1 (NN y a b c d m o g k t z e (Ie.e1)).2).ok prog:=
 rz (cB y a b c d m o g k t z K6 hP hA Gv FM He Ml e hN) AF
abbrev Vs(y:Ex)(a:Bool)(b:Bool)(c:Int)(d:Int)(m:Bool)(o:Bool)(g:Int)(k:Int)(t:Bool)(z:Bool)(j:Int)(e:Ext):S:=S.mk [(2,A2 0),(137,vL 10 (Pm.cs (Ao y))),(138,A2 ((Ao y).length:Int)),(139,A2 j)] [] e
inductive Ig where
 | e0 (el:Pm)
 | e1
def G0  : List Pm->Ig
 | []=>(Ig.e1)
 | el::r=>(if Bm (Co el)=0 then G0  r  else (if Gu (Co el)=false then (Ig.e0 el) else G0  r))
def NO(y:Ex)(a:Bool)(b:Bool)(c:Int)(d:Int)(m:Bool)(o:Bool)(g:Int)(k:Int)(t:Bool)(z:Bool)(e:Ext):Ig->A7 × S
 | .e0 el=>(.ret,S.mk [(2,A2 (Bm (Co el))),(137,vL 10 (Pm.cs (Ao y))),(138,A2 ((Ao y).length:Int))] [] e)
 | .e1=>(.exit 3,S.mk [(2,A2 0),(137,vL 10 (Pm.cs (Ao y))),(138,A2 ((Ao y).length:Int))] [] e)
theorem cC(y:Ex)(a b:Bool)(c d:Int)(m o:Bool)(g k:Int)(t z:Bool)(K6:Pu 239 [.int .i64 (B2 y)] (.ret (.B6 [.agg (Ov a b c d m o g k t),.bool z])))(hP:(Ao y).length<=1000000000)(hA:(Ae y).length<=1000000000)(Gv:(Ai (Ao y) []).length<=100000000)(FM:(B4 (Ae y) []).length<=1000000000)(He:D0 (Ae y)<=100000000)(Ml:∀w:Tp,w∈Cg y->Pu 85 [.agg (BI w)] (.ret (.int .i64 (Bm w))))(hT:(Cg y).length<=1000000000)(RW:∀w:Pm,w∈Ao y->Pu 85 [.agg (BI (Co w))] (.ret (.int .i64 (Bm (Co w)))))(e:Ext)(hN:(Ao y).length<=1000000000):(Ob.loop 156 (Am f203 1) (Vs y a b c d m o g k t z 0  e) (NO y a b c d m o g k t z e (G0  (List.drop 0 ((Ao y))))).1 (NO y a b c d m o g k t z e (G0  (List.drop 0 ((Ao y))))).2).ok prog:=by
 refine Ek ((Ao y).length) (fun j _=>Vs y a b c d m o g k t z j  e) (fun i _=>G0  (List.drop i ((Ao y)))) (NO y a b c d m o g k t z e) (fun i _=>True) kR ?_ () trivial
 rintro i u hi -
 rcases Nat.lt_or_ge i ((Ao y).length) with Ad | Dm
 ·have hd:=AN Ad
  by_cases h0:Bm (Co (List.getD (Ao y) i default))=0
  ·exact lN Vp [dt ((i:Int)<((Ao y).length:Int)),am ((0:Int)<=(i:Int)/\(i:Int)<((Pm.cs (Ao y)).length:Int)) (by (simp only [Pm.A0]; omega)),ar (List.getD (Pm.cs (Ao y)) (Int.toNat (i:Int)) []) (KW (List.getD (Ao y) i default)) (by simp only [Int.toNat_natCast,Int.toNat_zero]; rw [@Pm.B0 (Ao y) (i) Ad]; try rfl),cl (@RW (List.getD (Ao y) i default) (by simp_all [List.length_map,List.length_append,List.length_cons,List.length_nil,A3,Pr.A0,Tp.A0,Pm.A0,Ex.A0,Al.A0,Vr.A0,Cn.A0,Da.A0,Cl.A0,Bo.A0,Df.A0,In.A0,Cs.A0,Ms.A0,Qu.A0,Int.toNat_natCast,Bool.cond_true_left,Bool.cond_false_right,Int.toNat_zero,Fg])),rp 5 (Bp h0),bf false,wr ((i:Int)+1)] Ad () trivial (by rw [hd,G0,iP h0])
  ·by_cases h1:Gu (Co (List.getD (Ao y) i default))=false
   ·exact lX Vp [dt ((i:Int)<((Ao y).length:Int)),am ((0:Int)<=(i:Int)/\(i:Int)<((Pm.cs (Ao y)).length:Int)) (by (simp only [Pm.A0]; omega)),ar (List.getD (Pm.cs (Ao y)) (Int.toNat (i:Int)) []) (KW (List.getD (Ao y) i default)) (by simp only [Int.toNat_natCast,Int.toNat_zero]; rw [@Pm.B0 (Ao y) (i) Ad]; try rfl),cl (@RW (List.getD (Ao y) i default) (by simp_all [List.length_map,List.length_append,List.length_cons,List.length_nil,A3,Pr.A0,Tp.A0,Pm.A0,Ex.A0,Al.A0,Vr.A0,Cn.A0,Da.A0,Cl.A0,Bo.A0,Df.A0,In.A0,Cs.A0,Ms.A0,Qu.A0,Int.toNat_natCast,Bool.cond_true_left,Bool.cond_false_right,Int.toNat_zero,Fg])),rp 3 (D3 h0),cl (@nnT (Co (List.getD (Ao y) i default))),rp 2 (D3 h0),B7 (BH h1)] (Ig.e0 (List.getD ((Ao y)) i default)) (by rw [hd,G0,iN h0,iP h1])
   ·exact lN Vp [dt ((i:Int)<((Ao y).length:Int)),am ((0:Int)<=(i:Int)/\(i:Int)<((Pm.cs (Ao y)).length:Int)) (by (simp only [Pm.A0]; omega)),ar (List.getD (Pm.cs (Ao y)) (Int.toNat (i:Int)) []) (KW (List.getD (Ao y) i default)) (by simp only [Int.toNat_natCast,Int.toNat_zero]; rw [@Pm.B0 (Ao y) (i) Ad]; try rfl),cl (@RW (List.getD (Ao y) i default) (by simp_all [List.length_map,List.length_append,List.length_cons,List.length_nil,A3,Pr.A0,Tp.A0,Pm.A0,Ex.A0,Al.A0,Vr.A0,Cn.A0,Da.A0,Cl.A0,Bo.A0,Df.A0,In.A0,Cs.A0,Ms.A0,Qu.A0,Int.toNat_natCast,Bool.cond_true_left,Bool.cond_false_right,Int.toNat_zero,Fg])),rp 3 (D3 h0),cl (@nnT (Co (List.getD (Ao y) i default))),rp 2 (D3 h0),B1 (B3 (Qk h1)),wr ((i:Int)+1)] Ad () trivial (by rw [hd,G0,iN h0,iN h1])
 ·have he:i=(Ao y).length:=by omega
  exact lX Vp [df ((i:Int)<((Ao y).length:Int))] (Ig.e1) (by rw [he,List.drop_length,G0])
theorem A3n(y:Ex)(a b:Bool)(c d:Int)(m o:Bool)(g k:Int)(t z:Bool)(K6:Pu 239 [.int .i64 (B2 y)] (.ret (.B6 [.agg (Ov a b c d m o g k t),.bool z])))(hP:(Ao y).length<=1000000000)(hA:(Ae y).length<=1000000000)(Gv:(Ai (Ao y) []).length<=100000000)(FM:(B4 (Ae y) []).length<=1000000000)(He:D0 (Ae y)<=100000000)(Ml:∀w:Tp,w∈Cg y->Pu 85 [.agg (BI w)] (.ret (.int .i64 (Bm w))))(hT:(Cg y).length<=1000000000)(RW:∀w:Pm,w∈Ao y->Pu 85 [.agg (BI (Co w))] (.ret (.int .i64 (Bm (Co w)))))(e:Ext)(hN:(Ao y).length<=1000000000)(p0:Pm)(AF:(G0  ((Ao y)))=(Ig.e0 p0)):(Ob.loop 156 (Am f203 1) (Vs y a b c d m o g k t z 0  e) (NO y a b c d m o g k t z e (Ig.e0 p0)).1 (NO y a b c d m o g k t z e (Ig.e0 p0)).2).ok prog:=
 rz (cC y a b c d m o g k t z K6 hP hA Gv FM He Ml hT RW e hN) AF
theorem A3o(y:Ex)(a b:Bool)(c d:Int)(m o:Bool)(g k:Int)(t z:Bool)(K6:Pu 239 [.int .i64 (B2 y)] (.ret (.B6 [.agg (Ov a b c d m o g k t),.bool z])))(hP:(Ao y).length<=1000000000)(hA:(Ae y).length<=1000000000)(Gv:(Ai (Ao y) []).length<=100000000)(FM:(B4 (Ae y) []).length<=1000000000)(He:D0 (Ae y)<=100000000)(Ml:∀w:Tp,w∈Cg y->Pu 85 [.agg (BI w)] (.ret (.int .i64 (Bm w))))(hT:(Cg y).length<=1000000000)(RW:∀w:Pm,w∈Ao y->Pu 85 [.agg (BI (Co w))] (.ret (.int .i64 (Bm (Co w)))))(e:Ext)(hN:(Ao y).length<=1000000000)(AF:(G0  ((Ao y)))=(Ig.e1)):(Ob.loop 156 (Am f203 1) (Vs y a b c d m o g k t z 0  e) (NO y a b c d m o g k t z e (Ig.e1)).1 (NO y a b c d m o g k t z e (Ig.e1)).2).ok prog:=
 rz (cC y a b c d m o g k t z K6 hP hA Gv FM He Ml hT RW e hN) AF
def cD(p:Pm):Int:=if Bm (Co p)=0 then 0 else if Gu (Co p)=false then Bm (Co p) else 0
theorem cE:∀l:List Tp,(BP Bm l=0->HF l = .e1)/\(¬BP Bm l=0->∃w,HF l = .e0 w/\Bm w=BP Bm l)
 | []=>⟨fun _=>rfl,fun h=>absurd rfl h⟩
 | x::r=>by
  have ih:=cE r
  by_cases h:Bm x=0
  ·simp only [BP,HF,h,if_true,not_true_eq_false,if_false]; exact ih
  ·simp only [BP,HF,h,if_false,not_false_eq_true,if_true]; exact ⟨fun h'=>h'.elim,fun _=>⟨x,rfl,rfl⟩⟩
theorem cF:∀l:List Pm,(BP cD l=0->G0 l = .e1)/\(¬BP cD l=0->∃w,G0 l = .e0 w/\Bm (Co w)=BP cD l)
 | []=>⟨fun _=>rfl,fun h=>absurd rfl h⟩
 | x::r=>by
  have ih:=cF r
  by_cases h:Bm (Co x)=0
  ·have e:cD x=0:=by unfold cD; rw [iP h]
   simp only [BP,G0,e,h,if_true,not_true_eq_false,if_false]; exact ih
  ·by_cases h2:Gu (Co x)=false
   ·have e:cD x=Bm (Co x):=by unfold cD; rw [iN h,iP h2]
    simp only [BP,G0,e,h,h2,if_false,not_false_eq_true,if_true]; exact ⟨fun h'=>h'.elim,fun _=>⟨x,rfl,rfl⟩⟩
   ·have e:cD x=0:=by unfold cD; rw [iN h,iN h2]
    simp only [BP,G0,e,h,h2,if_true,if_false,not_false_eq_true]; exact ih
def jP(y:Ex)(a b:Bool)(c d:Int)(m o:Bool)(g k:Int)(t z:Bool):Int:=
 if (!z||By y a b c d m o g k t z)=true then 1 else if DB y c d m o g k=false then 13 else if Dv y a b c d m o g k t=true then 2
 else if CK y b=0 then (if BP Bm (Cg y)=0 then BP cD (Ao y) else BP Bm (Cg y)) else CK y b
theorem A90(y:Ex)(a b:Bool)(c d:Int)(m o:Bool)(g k:Int)(t z:Bool)(K6:Pu 239 [.int .i64 (B2 y)] (.ret (.B6 [.agg (Ov a b c d m o g k t),.bool z])))(hP:(Ao y).length<=1000000000)(hA:(Ae y).length<=1000000000)(Gv:(Ai (Ao y) []).length<=100000000)(FM:(B4 (Ae y) []).length<=1000000000)(He:D0 (Ae y)<=100000000)(Ml:∀w:Tp,w∈Cg y->Pu 85 [.agg (BI w)] (.ret (.int .i64 (Bm w))))(hT:(Cg y).length<=1000000000)(RW:∀w:Pm,w∈Ao y->Pu 85 [.agg (BI (Co w))] (.ret (.int .i64 (Bm (Co w))))):Pu 203 [.agg (AT y)] (.ret (.int .i64 (jP y a b c d m o g k t z))):=by
 unfold jP
 by_cases h0:(!z||By y a b c d m o g k t z)=true
 ·rw [iP h0]; exact pu Vp (fun e=>[cl K6,lf (S.mk [(0,.v (.agg (AT y))),(1,.lp 1 0),(2,A2 0),(14,.lp 1 0),(15,A2 (B2 y)),(16,.v (.B6 [.agg [.bool a,.bool b,pI c,pI d,.bool m,.bool o,pI g,pI k,.bool t],.bool z])),(13,.v (.B6 [.agg [.bool a,.bool b,pI c,pI d,.bool m,.bool o,pI g,pI k,.bool t],.bool z])),(17,.v (.agg [.bool a,.bool b,pI c,pI d,.bool m,.bool o,pI g,pI k,.bool t])),(18,.v (.bool z)),(3,.lp 3 0),(4,.v (.bool z))] [(1,CP y),(3,[.v (.bool a),.v (.bool b),A2 c,A2 d,.v (.bool m),.v (.bool o),A2 g,A2 k,.v (.bool t)])] e) (@NL (y) (a) (b) (c) (d) (m) (o) (g) (k) (t) (z) (e)) ⟨⟨W,W,W,W,Ar⟩,⟨⟨W,W,W,W,W,W,W,Ar⟩,⟨W,W,W,W,W,W,W,W,W,Ar⟩,Ar⟩,rfl⟩,mg,av (.v (.bool (bif !z then true else By y a b c d m o g k t z))) (.v (.bool (!z||By y a b c d m o g k t z))) rF,B7 h0]) func203
 ·rw [iN h0]
  have h0:=DC h0
  by_cases h1:DB y c d m o g k=false
  ·rw [iP h1]; exact pu Vp (fun e=>[cl K6,lf (S.mk [(0,.v (.agg (AT y))),(1,.lp 1 0),(2,A2 0),(14,.lp 1 0),(15,A2 (B2 y)),(16,.v (.B6 [.agg [.bool a,.bool b,pI c,pI d,.bool m,.bool o,pI g,pI k,.bool t],.bool z])),(13,.v (.B6 [.agg [.bool a,.bool b,pI c,pI d,.bool m,.bool o,pI g,pI k,.bool t],.bool z])),(17,.v (.agg [.bool a,.bool b,pI c,pI d,.bool m,.bool o,pI g,pI k,.bool t])),(18,.v (.bool z)),(3,.lp 3 0),(4,.v (.bool z))] [(1,CP y),(3,[.v (.bool a),.v (.bool b),A2 c,A2 d,.v (.bool m),.v (.bool o),A2 g,A2 k,.v (.bool t)])] e) (@NL (y) (a) (b) (c) (d) (m) (o) (g) (k) (t) (z) (e)) ⟨⟨W,W,W,W,Ar⟩,⟨⟨W,W,W,W,W,W,W,Ar⟩,⟨W,W,W,W,W,W,W,W,W,Ar⟩,Ar⟩,rfl⟩,mg,av (.v (.bool (bif !z then true else By y a b c d m o g k t z))) (.v (.bool (!z||By y a b c d m o g k t z))) rF,B1 h0,cl (@y8 (y) (a) (b) (c) (d) (m) (o) (g) (k) (t) hA),B7 (BH h1)]) func203
  ·rw [iN h1]
   have h1:=Qk h1
   by_cases h2:Dv y a b c d m o g k t=true
   ·rw [iP h2]; exact pu Vp (fun e=>[cl K6,lf (S.mk [(0,.v (.agg (AT y))),(1,.lp 1 0),(2,A2 0),(14,.lp 1 0),(15,A2 (B2 y)),(16,.v (.B6 [.agg [.bool a,.bool b,pI c,pI d,.bool m,.bool o,pI g,pI k,.bool t],.bool z])),(13,.v (.B6 [.agg [.bool a,.bool b,pI c,pI d,.bool m,.bool o,pI g,pI k,.bool t],.bool z])),(17,.v (.agg [.bool a,.bool b,pI c,pI d,.bool m,.bool o,pI g,pI k,.bool t])),(18,.v (.bool z)),(3,.lp 3 0),(4,.v (.bool z))] [(1,CP y),(3,[.v (.bool a),.v (.bool b),A2 c,A2 d,.v (.bool m),.v (.bool o),A2 g,A2 k,.v (.bool t)])] e) (@NL (y) (a) (b) (c) (d) (m) (o) (g) (k) (t) (z) (e)) ⟨⟨W,W,W,W,Ar⟩,⟨⟨W,W,W,W,W,W,W,Ar⟩,⟨W,W,W,W,W,W,W,W,W,Ar⟩,Ar⟩,rfl⟩,mg,av (.v (.bool (bif !z then true else By y a b c d m o g k t z))) (.v (.bool (!z||By y a b c d m o g k t z))) rF,B1 h0,cl (@y8 (y) (a) (b) (c) (d) (m) (o) (g) (k) (t) hA),B1 (B3 h1),lf (S.mk [(1,.lp 1 0),(2,A2 0),(3,.lp 3 0),(4,.v (.bool z)),(5,.v (.bool (By y a b c d m o g k t z))),(82,.v (.bool z)),(83,.v (.bool !z)),(84,.v (.bool !z)),(86,.v (.bool (!z||By y a b c d m o g k t z))),(81,.v (.bool (!z||By y a b c d m o g k t z))),(88,.v (.agg (AT y))),(89,.v (.agg [.bool a,.bool b,pI c,pI d,.bool m,.bool o,pI g,pI k,.bool t])),(90,.v (.bool (DB y c d m o g k))),(91,.v (.bool !DB y c d m o g k)),(87,.v (.bool !DB y c d m o g k))] [(1,CP y),(3,[.v (.bool a),.v (.bool b),A2 c,A2 d,.v (.bool m),.v (.bool o),A2 g,A2 k,.v (.bool t)])] e) (@SC (y) (a) (b) (c) (d) (m) (o) (g) (k) (t) (e)) ⟨⟨W,W,W,Ar⟩,⟨⟨W,W,W,W,W,W,W,Ar⟩,⟨W,W,W,W,W,W,W,W,W,Ar⟩,Ar⟩,rfl⟩,B7 h2]) func203
   ·rw [iN h2]
    have h2:=DC h2
    by_cases h3:CK y b=0
    ·rw [iP h3]
     by_cases h4:BP Bm (Cg y)=0
     ·rw [iP h4]
      have h4:=(cE (Cg y)).1 h4
      by_cases h5:BP cD (Ao y)=0
      ·rw [h5]; exact pu Vp (fun e=>[cl K6,lf (S.mk [(0,.v (.agg (AT y))),(1,.lp 1 0),(2,A2 0),(14,.lp 1 0),(15,A2 (B2 y)),(16,.v (.B6 [.agg [.bool a,.bool b,pI c,pI d,.bool m,.bool o,pI g,pI k,.bool t],.bool z])),(13,.v (.B6 [.agg [.bool a,.bool b,pI c,pI d,.bool m,.bool o,pI g,pI k,.bool t],.bool z])),(17,.v (.agg [.bool a,.bool b,pI c,pI d,.bool m,.bool o,pI g,pI k,.bool t])),(18,.v (.bool z)),(3,.lp 3 0),(4,.v (.bool z))] [(1,CP y),(3,[.v (.bool a),.v (.bool b),A2 c,A2 d,.v (.bool m),.v (.bool o),A2 g,A2 k,.v (.bool t)])] e) (@NL (y) (a) (b) (c) (d) (m) (o) (g) (k) (t) (z) (e)) ⟨⟨W,W,W,W,Ar⟩,⟨⟨W,W,W,W,W,W,W,Ar⟩,⟨W,W,W,W,W,W,W,W,W,Ar⟩,Ar⟩,rfl⟩,mg,av (.v (.bool (bif !z then true else By y a b c d m o g k t z))) (.v (.bool (!z||By y a b c d m o g k t z))) rF,B1 h0,cl (@y8 (y) (a) (b) (c) (d) (m) (o) (g) (k) (t) hA),B1 (B3 h1),lf (S.mk [(1,.lp 1 0),(2,A2 0),(3,.lp 3 0),(4,.v (.bool z)),(5,.v (.bool (By y a b c d m o g k t z))),(82,.v (.bool z)),(83,.v (.bool !z)),(84,.v (.bool !z)),(86,.v (.bool (!z||By y a b c d m o g k t z))),(81,.v (.bool (!z||By y a b c d m o g k t z))),(88,.v (.agg (AT y))),(89,.v (.agg [.bool a,.bool b,pI c,pI d,.bool m,.bool o,pI g,pI k,.bool t])),(90,.v (.bool (DB y c d m o g k))),(91,.v (.bool !DB y c d m o g k)),(87,.v (.bool !DB y c d m o g k))] [(1,CP y),(3,[.v (.bool a),.v (.bool b),A2 c,A2 d,.v (.bool m),.v (.bool o),A2 g,A2 k,.v (.bool t)])] e) (@SC (y) (a) (b) (c) (d) (m) (o) (g) (k) (t) (e)) ⟨⟨W,W,W,Ar⟩,⟨⟨W,W,W,W,W,W,W,Ar⟩,⟨W,W,W,W,W,W,W,W,W,Ar⟩,Ar⟩,rfl⟩,B1 h2,cl (@nam (y) (a) (b) (c) (d) (m) (o) (g) (k) (t) hP hA Gv FM He),Bp h3,sl (Tp.A0 (Cg y)),lp (S.mk [(1,.lp 1 0),(2,A2 0),(3,.lp 3 0),(92,.v (.bool (Dv y a b c d m o g k t))),(117,.v (.agg (AT y))),(118,.v (.agg [.bool a,.bool b,pI c,pI d,.bool m,.bool o,pI g,pI k,.bool t])),(119,A2 (CK y b)),(6,A2 (CK y b)),(120,A2 (CK y b)),(121,.v (.bool (CK y b != 0))),(123,.lp 1 6),(124,vL 9 (Tp.cs (Cg y))),(125,A2 ((Cg y).length:Int)),(126,A2 0)] [(1,CP y),(3,[.v (.bool a),.v (.bool b),A2 c,A2 d,.v (.bool m),.v (.bool o),A2 g,A2 k,.v (.bool t)])] e) (@nY (y) (a) (b) (c) (d) (m) (o) (g) (k) (t) (z) K6 hP hA Gv FM He Ml (e) hT h4) xr,sl (Pm.A0 (Ao y)),lp (S.mk [(1,.lp 1 0),(2,A2 0),(124,vL 9 (Tp.cs (Cg y))),(125,A2 ((Cg y).length:Int)),(136,.lp 1 4),(137,vL 10 (Pm.cs (Ao y))),(138,A2 ((Ao y).length:Int)),(139,A2 0)] [(1,CP y)] e) (@A3o (y) (a) (b) (c) (d) (m) (o) (g) (k) (t) (z) K6 hP hA Gv FM He Ml hT RW (e) hP ((cF (Ao y)).1 h5)) xr]) func203
      ·obtain ⟨w,e1,e2⟩:=(cF (Ao y)).2 h5
       rw [<-e2]; exact pu Vp (fun e=>[cl K6,lf (S.mk [(0,.v (.agg (AT y))),(1,.lp 1 0),(2,A2 0),(14,.lp 1 0),(15,A2 (B2 y)),(16,.v (.B6 [.agg [.bool a,.bool b,pI c,pI d,.bool m,.bool o,pI g,pI k,.bool t],.bool z])),(13,.v (.B6 [.agg [.bool a,.bool b,pI c,pI d,.bool m,.bool o,pI g,pI k,.bool t],.bool z])),(17,.v (.agg [.bool a,.bool b,pI c,pI d,.bool m,.bool o,pI g,pI k,.bool t])),(18,.v (.bool z)),(3,.lp 3 0),(4,.v (.bool z))] [(1,CP y),(3,[.v (.bool a),.v (.bool b),A2 c,A2 d,.v (.bool m),.v (.bool o),A2 g,A2 k,.v (.bool t)])] e) (@NL (y) (a) (b) (c) (d) (m) (o) (g) (k) (t) (z) (e)) ⟨⟨W,W,W,W,Ar⟩,⟨⟨W,W,W,W,W,W,W,Ar⟩,⟨W,W,W,W,W,W,W,W,W,Ar⟩,Ar⟩,rfl⟩,mg,av (.v (.bool (bif !z then true else By y a b c d m o g k t z))) (.v (.bool (!z||By y a b c d m o g k t z))) rF,B1 h0,cl (@y8 (y) (a) (b) (c) (d) (m) (o) (g) (k) (t) hA),B1 (B3 h1),lf (S.mk [(1,.lp 1 0),(2,A2 0),(3,.lp 3 0),(4,.v (.bool z)),(5,.v (.bool (By y a b c d m o g k t z))),(82,.v (.bool z)),(83,.v (.bool !z)),(84,.v (.bool !z)),(86,.v (.bool (!z||By y a b c d m o g k t z))),(81,.v (.bool (!z||By y a b c d m o g k t z))),(88,.v (.agg (AT y))),(89,.v (.agg [.bool a,.bool b,pI c,pI d,.bool m,.bool o,pI g,pI k,.bool t])),(90,.v (.bool (DB y c d m o g k))),(91,.v (.bool !DB y c d m o g k)),(87,.v (.bool !DB y c d m o g k))] [(1,CP y),(3,[.v (.bool a),.v (.bool b),A2 c,A2 d,.v (.bool m),.v (.bool o),A2 g,A2 k,.v (.bool t)])] e) (@SC (y) (a) (b) (c) (d) (m) (o) (g) (k) (t) (e)) ⟨⟨W,W,W,Ar⟩,⟨⟨W,W,W,W,W,W,W,Ar⟩,⟨W,W,W,W,W,W,W,W,W,Ar⟩,Ar⟩,rfl⟩,B1 h2,cl (@nam (y) (a) (b) (c) (d) (m) (o) (g) (k) (t) hP hA Gv FM He),Bp h3,sl (Tp.A0 (Cg y)),lp (S.mk [(1,.lp 1 0),(2,A2 0),(3,.lp 3 0),(92,.v (.bool (Dv y a b c d m o g k t))),(117,.v (.agg (AT y))),(118,.v (.agg [.bool a,.bool b,pI c,pI d,.bool m,.bool o,pI g,pI k,.bool t])),(119,A2 (CK y b)),(6,A2 (CK y b)),(120,A2 (CK y b)),(121,.v (.bool (CK y b != 0))),(123,.lp 1 6),(124,vL 9 (Tp.cs (Cg y))),(125,A2 ((Cg y).length:Int)),(126,A2 0)] [(1,CP y),(3,[.v (.bool a),.v (.bool b),A2 c,A2 d,.v (.bool m),.v (.bool o),A2 g,A2 k,.v (.bool t)])] e) (@nY (y) (a) (b) (c) (d) (m) (o) (g) (k) (t) (z) K6 hP hA Gv FM He Ml (e) hT h4) xr,sl (Pm.A0 (Ao y)),lp (S.mk [(1,.lp 1 0),(2,A2 0),(124,vL 9 (Tp.cs (Cg y))),(125,A2 ((Cg y).length:Int)),(136,.lp 1 4),(137,vL 10 (Pm.cs (Ao y))),(138,A2 ((Ao y).length:Int)),(139,A2 0)] [(1,CP y)] e) (@A3n (y) (a) (b) (c) (d) (m) (o) (g) (k) (t) (z) K6 hP hA Gv FM He Ml hT RW (e) hP w e1) xr]) func203
     ·rw [iN h4]
      obtain ⟨w,e1,e2⟩:=(cE (Cg y)).2 h4
      rw [<-e2]; exact pu Vp (fun e=>[cl K6,lf (S.mk [(0,.v (.agg (AT y))),(1,.lp 1 0),(2,A2 0),(14,.lp 1 0),(15,A2 (B2 y)),(16,.v (.B6 [.agg [.bool a,.bool b,pI c,pI d,.bool m,.bool o,pI g,pI k,.bool t],.bool z])),(13,.v (.B6 [.agg [.bool a,.bool b,pI c,pI d,.bool m,.bool o,pI g,pI k,.bool t],.bool z])),(17,.v (.agg [.bool a,.bool b,pI c,pI d,.bool m,.bool o,pI g,pI k,.bool t])),(18,.v (.bool z)),(3,.lp 3 0),(4,.v (.bool z))] [(1,CP y),(3,[.v (.bool a),.v (.bool b),A2 c,A2 d,.v (.bool m),.v (.bool o),A2 g,A2 k,.v (.bool t)])] e) (@NL (y) (a) (b) (c) (d) (m) (o) (g) (k) (t) (z) (e)) ⟨⟨W,W,W,W,Ar⟩,⟨⟨W,W,W,W,W,W,W,Ar⟩,⟨W,W,W,W,W,W,W,W,W,Ar⟩,Ar⟩,rfl⟩,mg,av (.v (.bool (bif !z then true else By y a b c d m o g k t z))) (.v (.bool (!z||By y a b c d m o g k t z))) rF,B1 h0,cl (@y8 (y) (a) (b) (c) (d) (m) (o) (g) (k) (t) hA),B1 (B3 h1),lf (S.mk [(1,.lp 1 0),(2,A2 0),(3,.lp 3 0),(4,.v (.bool z)),(5,.v (.bool (By y a b c d m o g k t z))),(82,.v (.bool z)),(83,.v (.bool !z)),(84,.v (.bool !z)),(86,.v (.bool (!z||By y a b c d m o g k t z))),(81,.v (.bool (!z||By y a b c d m o g k t z))),(88,.v (.agg (AT y))),(89,.v (.agg [.bool a,.bool b,pI c,pI d,.bool m,.bool o,pI g,pI k,.bool t])),(90,.v (.bool (DB y c d m o g k))),(91,.v (.bool !DB y c d m o g k)),(87,.v (.bool !DB y c d m o g k))] [(1,CP y),(3,[.v (.bool a),.v (.bool b),A2 c,A2 d,.v (.bool m),.v (.bool o),A2 g,A2 k,.v (.bool t)])] e) (@SC (y) (a) (b) (c) (d) (m) (o) (g) (k) (t) (e)) ⟨⟨W,W,W,Ar⟩,⟨⟨W,W,W,W,W,W,W,Ar⟩,⟨W,W,W,W,W,W,W,W,W,Ar⟩,Ar⟩,rfl⟩,B1 h2,cl (@nam (y) (a) (b) (c) (d) (m) (o) (g) (k) (t) hP hA Gv FM He),Bp h3,sl (Tp.A0 (Cg y)),lp (S.mk [(1,.lp 1 0),(2,A2 0),(3,.lp 3 0),(92,.v (.bool (Dv y a b c d m o g k t))),(117,.v (.agg (AT y))),(118,.v (.agg [.bool a,.bool b,pI c,pI d,.bool m,.bool o,pI g,pI k,.bool t])),(119,A2 (CK y b)),(6,A2 (CK y b)),(120,A2 (CK y b)),(121,.v (.bool (CK y b != 0))),(123,.lp 1 6),(124,vL 9 (Tp.cs (Cg y))),(125,A2 ((Cg y).length:Int)),(126,A2 0)] [(1,CP y),(3,[.v (.bool a),.v (.bool b),A2 c,A2 d,.v (.bool m),.v (.bool o),A2 g,A2 k,.v (.bool t)])] e) (@A3m (y) (a) (b) (c) (d) (m) (o) (g) (k) (t) (z) K6 hP hA Gv FM He Ml (e) hT w e1) xr]) func203
    ·rw [iN h3]; exact pu Vp (fun e=>[cl K6,lf (S.mk [(0,.v (.agg (AT y))),(1,.lp 1 0),(2,A2 0),(14,.lp 1 0),(15,A2 (B2 y)),(16,.v (.B6 [.agg [.bool a,.bool b,pI c,pI d,.bool m,.bool o,pI g,pI k,.bool t],.bool z])),(13,.v (.B6 [.agg [.bool a,.bool b,pI c,pI d,.bool m,.bool o,pI g,pI k,.bool t],.bool z])),(17,.v (.agg [.bool a,.bool b,pI c,pI d,.bool m,.bool o,pI g,pI k,.bool t])),(18,.v (.bool z)),(3,.lp 3 0),(4,.v (.bool z))] [(1,CP y),(3,[.v (.bool a),.v (.bool b),A2 c,A2 d,.v (.bool m),.v (.bool o),A2 g,A2 k,.v (.bool t)])] e) (@NL (y) (a) (b) (c) (d) (m) (o) (g) (k) (t) (z) (e)) ⟨⟨W,W,W,W,Ar⟩,⟨⟨W,W,W,W,W,W,W,Ar⟩,⟨W,W,W,W,W,W,W,W,W,Ar⟩,Ar⟩,rfl⟩,mg,av (.v (.bool (bif !z then true else By y a b c d m o g k t z))) (.v (.bool (!z||By y a b c d m o g k t z))) rF,B1 h0,cl (@y8 (y) (a) (b) (c) (d) (m) (o) (g) (k) (t) hA),B1 (B3 h1),lf (S.mk [(1,.lp 1 0),(2,A2 0),(3,.lp 3 0),(4,.v (.bool z)),(5,.v (.bool (By y a b c d m o g k t z))),(82,.v (.bool z)),(83,.v (.bool !z)),(84,.v (.bool !z)),(86,.v (.bool (!z||By y a b c d m o g k t z))),(81,.v (.bool (!z||By y a b c d m o g k t z))),(88,.v (.agg (AT y))),(89,.v (.agg [.bool a,.bool b,pI c,pI d,.bool m,.bool o,pI g,pI k,.bool t])),(90,.v (.bool (DB y c d m o g k))),(91,.v (.bool !DB y c d m o g k)),(87,.v (.bool !DB y c d m o g k))] [(1,CP y),(3,[.v (.bool a),.v (.bool b),A2 c,A2 d,.v (.bool m),.v (.bool o),A2 g,A2 k,.v (.bool t)])] e) (@SC (y) (a) (b) (c) (d) (m) (o) (g) (k) (t) (e)) ⟨⟨W,W,W,Ar⟩,⟨⟨W,W,W,W,W,W,W,Ar⟩,⟨W,W,W,W,W,W,W,W,W,Ar⟩,Ar⟩,rfl⟩,B1 h2,cl (@nam (y) (a) (b) (c) (d) (m) (o) (g) (k) (t) hP hA Gv FM He),D3 h3]) func203
def cG(y:Ex):Int:=jP y (Cv (B2 y)) (Cw (B2 y)) (Cy (B2 y)) (Cz (B2 y)) (Cf (B2 y)) (CA (B2 y)) (CB (B2 y)) (CC (B2 y)) (CD (B2 y)) (CE (B2 y))
theorem Gw(a:Al):Af (A1 (Bl a))+A5 (AT (D4 a))<A5 (I4 a):=by simp only [A5,Dq]; omega
theorem Je:∀l:List Al,D0 l<=Af (Al.cs l)
 | []=>Nat.zero_le _
 | a::r=>by
  have h1:=Je r
  have h2:=Gw a
  have h3:=Dc (Bl a)
  rw [D0,show Al.cs (a::r)=I4 a::Al.cs r by rw [Al.cs,Al.Qt],Af]
  omega
theorem snT(y:Ex)(hs:A5 (AT y)<=100000000):Pu 203 [.agg (AT y)] (.ret (.int .i64 (cG y))):=by
 have hb:=CQ y
 have h1:=Pm.BF (Ao y)
 have h2:=Al.BF (Ae y)
 have h3:=Tp.BF (Cg y)
 have h4:=Je (Ae y)
 exact A90 y _ _ _ _ _ _ _ _ _ _ (shS (B2 y)) oM oM (by rw [nA]; simp only [List.nil_append,List.length_map]; omega) (by rw [nC]; simp only [List.nil_append,List.length_map]; omega) oM
  (fun w hw=>tE w (by have:=Tp.mem hw; omega)) oM (fun w hw=>tE (Co w) (by have:=Pm.mem hw; have:=Ja w; omega))
theorem Mj(y:Ex)(n:Int)(hsn:Pu 203 [.agg (AT y)] (.ret (.int .i64 (cG y)))):Ef 202 [.agg (AT y),.xp 0 0] (LY n) (rB (cG y==0)) ([(0,[A2 (cG y)])]):=
 Ob.JU (y9 32) 50 [Ca.Jt (rI (cG y))] (C6:=[]) (l:=[Ob.Jt 203 [.agg (AT y)] (rI (cG y))]) mixed func202 kR kR ⟨(@hsn),Ar⟩
def QH:Ex->Int->Bool × Int:=fun w _=>(cG w==0,cG w)
theorem scW(y:Ex)(hs:A5 (AT y)<=100000000):Ef 201 [.agg (AT y),.fn (.func 202) [] [.xp 0 0]] (LY 0) (.ret (.bool (Jd QH y 0).1)) (LY (Jd QH y 0).2):=wkT y _ _ LY QH 0 (fun w n h=>Mj w n (snT w h)) hs
theorem noT(y:Ex)(hs:A5 (AT y)<=100000000):Pu 199 [.agg (AT y)] (.ret (.int .i64 (Jd Mr y 0).2)):=Ob.Bn (jO (Ex.nx y)) rfl (noL y hs)
theorem A3p(y:Ex)(hs:A5 (AT y)<=100000000)(Ak:Prod.snd (Jd Mr y 0)>400):Ef 154 [.agg (AT y)] ([]) (rI 7) ([]):=
 Ob.JU (y9 32) 50 [Ca.Jt (rI (Prod.snd (Jd Mr y 0))),Ca.bit true] (C6:=[]) (l:=[Ob.Jt 199 [.agg (AT y)] (rI (Prod.snd (Jd Mr y 0))),Ob.bit (decide (Prod.snd (Jd Mr y 0)>400)) true]) mixed func154 kR kR ⟨(@noT (y) hs),(Bu (dT Ak)),Ar⟩
theorem A3q(y:Ex)(hs:A5 (AT y)<=100000000)(Ak:¬Prod.snd (Jd Mr y 0)>400)(Au:cA y>40):Ef 154 [.agg (AT y)] ([]) (rI 8) ([]):=
 Ob.JU (y9 32) 50 [Ca.Jt (rI (Prod.snd (Jd Mr y 0))),Ca.bit false,Ca.Jt (rI (cA y)),Ca.bit true] (C6:=[]) (l:=[Ob.Jt 199 [.agg (AT y)] (rI (Prod.snd (Jd Mr y 0))),Ob.bit (decide (Prod.snd (Jd Mr y 0)>400)) false,Ob.Jt 200 [.agg (AT y)] (rI (cA y)),Ob.bit (decide (cA y>40)) true]) mixed func154 kR kR ⟨(@noT (y) hs),(Bu (dF Ak)),(@dpT (y) hs),(Bu (dT Au)),Ar⟩
theorem A3r(y:Ex)(hs:A5 (AT y)<=100000000)(Ak:¬Prod.snd (Jd Mr y 0)>400)(Au:¬cA y>40):Ef 154 [.agg (AT y)] ([]) (rI (Prod.snd (Jd QH y 0))) ([(0,[A2 (Prod.snd (Jd QH y 0))])]):=
 Ob.JU (y9 32) 50 [Ca.Jt (rI (Prod.snd (Jd Mr y 0))),Ca.bit false,Ca.Jt (rI (cA y)),Ca.bit false,Ca.DT (rB (Prod.fst (Jd QH y 0))) [(0,[A2 (Prod.snd (Jd QH y 0))])]] (C6:=[]) (l:=[Ob.Jt 199 [.agg (AT y)] (rI (Prod.snd (Jd Mr y 0))),Ob.bit (decide (Prod.snd (Jd Mr y 0)>400)) false,Ob.Jt 200 [.agg (AT y)] (rI (cA y)),Ob.bit (decide (cA y>40)) false,Ob.DT 201 [.agg (AT y),.fn (.func 202) [] [.xp 0 0]] [(0,[A2 0])] (rB (Prod.fst (Jd QH y 0))) [(0,[A2 (Prod.snd (Jd QH y 0))])]]) mixed func154 kR kR ⟨(@noT (y) hs),(Bu (dF Ak)),(@dpT (y) hs),(Bu (dF Au)),(@scW (y) hs),Ar⟩
def WW(y:Ex):Int:=if (Jd Mr y 0).2>400 then 7 else if cA y>40 then 8 else (Jd QH y 0).2
theorem syT(y:Ex)(hs:A5 (AT y)<=100000000):Pu 154 [.agg (AT y)] (.ret (.int .i64 (WW y))):=by
 unfold WW
 by_cases h:(Jd Mr y 0).2>400
 ·rw [iP h]; exact Ob.Bn (jO (Ex.nx y)) rfl (A3p y hs h)
 ·rw [iN h]
  by_cases h2:cA y>40
  ·rw [iP h2]; exact Ob.Bn (jO (Ex.nx y)) rfl (A3q y hs h h2)
  ·rw [iN h2]; exact Ob.Bn (jO (Ex.nx y)) rfl (A3r y hs h h2)
theorem Mt(a b:Int):(a != b) = !decide (a=b):=by by_cases h:a=b <;> simp [h]
theorem uP(m:Mo)(u:Tp)(vs:List BA)(pf:Tp->Int):HZ m u vs pf=tqB (Ea m) vs pf u:=by
 unfold HZ tqB Ea
 by_cases h:Bd u=4
 ·rw [iP h,iP h]
  by_cases h2:ix BS (AK u) (Aj m)<(Aj m).length
  ·rw [iP h2,iP h2]
   simp only
   by_cases h3:(AP u).length=(C1 ((Aj m).getD (ix BS (AK u) (Aj m)) default)).length
   ·rw [iP h3,iP oM]
   ·rw [iN h3,iN oM]
  ·rw [iN h2,iN h2]
 ·rw [iN h,iN h]
  by_cases h5:Bd u=5
  ·rw [iP h5]
   by_cases h6:FX (AK u) vs<0
   ·rw [iP h6,iP ⟨h5,h6⟩]
   ·rw [iN h6,iN (fun k=>h6 k.2)]
  ·rw [iN h5,iN (fun k=>h5 k.1)]
theorem nZ(m:Mo)(vs:List BA)(hz:Sz m)(Dh:vs.length<=1000000000):∀ (d:Nat) (u:Tp),A5 (BI u)<d->d<=100000001->Pu 128 [.agg (wL m),.agg (BI u),.sl 1 (A1 vs)] (.ret (.int .i64 (tqD (Ea m) vs d u)))
 | 0,_,h,_=>by omega
 | d+1,u,h,hs=>by
  rw [tqD,<-uP]
  exact ptL m u vs (tqD (Ea m) vs d) hz Dh (fun w hw=>nZ m vs hz Dh d w (by have:=DV u; have:=Tp.mem hw; omega) oM) (by have:=DV u; have:=Tp.BF (AP u); omega)
theorem tqT(m:Mo)(vs:List BA)(u:Tp)(hz:Sz m)(Dh:vs.length<=1000000000)(hs:A5 (BI u)<=100000000):Pu 128 [.agg (wL m),.agg (BI u),.sl 1 (A1 vs)] (.ret (.int .i64 (tqF (Ea m) vs u))):=nZ m vs hz Dh _ u oM oM
theorem tyL(m:Mo)(vs:List BA)(u:Tp)(hz:Sz m)(Dh:vs.length<=1000000000)(hs:A5 (BI u)<=100000000):Pu 80 [.agg (wL m),.agg (BI u),.sl 1 (A1 vs)] (rI (Ds (Bm u) (tqF (Ea m) vs u))):=
 pm CR [cl (@tE (u) hs),cl (@tqT (m) (vs) (u) hz Dh hs),cl (@DI (Bm u) (tqF (Ea m) vs u))] func80
theorem uQ(m:Mo)(vs:List BA)(u:Tp)(hz:Sz m)(Dh:vs.length<=1000000000)(hs:A5 (BI u)<=100000000):Pu 80 [.agg (wL m),.agg (BI u),.sl 1 (A1 vs)] (.ret (.int .i64 (Jb (Ea m) vs u))):=tyL m vs u hz Dh hs
section
variable (m:Mo) (vs:List BA) (k:Int)
include m vs k
theorem ts1(w:Tp)(hz:Sz m)(Dh:vs.length<=1000000000)(hs:A5 (BI w)<=100000000):Pu 243 [pI k,.agg (BI w),.ro (wL m) 0,.ro [.sl 1 (A1 vs)] 0] (rI (Jb (Ea m) vs w)):=
 pm CR [cl (@uQ (m) (vs) (w) hz Dh hs)] func243
theorem cH(w:Pm)(hz:Sz m)(Dh:vs.length<=1000000000)(hs:A5 (BI (Co w))<=100000000)(Ak:Bd (Co w)=0):Pu 245 [pI k,.agg (KW w),.ro (wL m) 0,.ro [.sl 1 (A1 vs)] 0] (rI 0):=
 pm CR [CT Ak] func245
theorem cI(w:Pm)(hz:Sz m)(Dh:vs.length<=1000000000)(hs:A5 (BI (Co w))<=100000000)(Ak:¬Bd (Co w)=0):Pu 245 [pI k,.agg (KW w),.ro (wL m) 0,.ro [.sl 1 (A1 vs)] 0] (rI (Jb (Ea m) vs (Co w))):=
 pm CR [As Ak,cl (@uQ (m) (vs) (Co w) hz Dh hs)] func245
end
theorem ts2(m:Mo)(vs:List BA)(k:Int)(w:Pm)(hz:Sz m)(Dh:vs.length<=1000000000)(hs:A5 (BI (Co w))<=100000000):Pu 245 [.int .i64 k,.agg (KW w),.ro (wL m) 0,.ro [.sl 1 (A1 vs)] 0] (.ret (.int .i64 (if Bd (Co w)=0 then 0 else Jb (Ea m) vs (Co w)))):=by
 by_cases h:Bd (Co w)=0
 ·rw [iP h]; first | exact cH m vs k w hz Dh hs h | exact cI m vs k w hz Dh hs h
 ·rw [iN h]; first | exact cH m vs k w hz Dh hs h | exact cI m vs k w hz Dh hs h
theorem A91(m:Mo)(vs:List BA)(l:List Tp)(hz:Sz m)(Dh:vs.length<=1000000000)(hs:∀w∈l,A5 (BI w)<=100000000)(hN:l.length<=1000000000):Pu 78 [.sl 9 (Tp.cs l),.fn (.func 243) [] [.ro (wL m) 0,.ro [.sl 1 (A1 vs)] 0]] (.ret (.int .i64 (BP (Jb (Ea m) vs) l))):=tG l _ _ _ (fun k w hw=>ts1 m vs k w hz Dh (hs w hw)) hN
theorem A92(m:Mo)(vs:List BA)(l:List Pm)(hz:Sz m)(Dh:vs.length<=1000000000)(hs:∀w∈l,A5 (BI (Co w))<=100000000)(hN:l.length<=1000000000):Pu 244 [.sl 10 (Pm.cs l),.fn (.func 245) [] [.ro (wL m) 0,.ro [.sl 1 (A1 vs)] 0]] (.ret (.int .i64 (BP (fun p=>if Bd (Co p)=0 then 0 else Jb (Ea m) vs (Co p)) l))):=A88 l _ _ _ (fun k w hw=>ts2 m vs k w hz Dh (hs w hw)) hN
theorem tsL(m:Mo)(vs:List BA)(u:Ex)(hz:Sz m)(Dh:vs.length<=1000000000)(hs:∀w∈Cg u,A5 (BI w)<=100000000)(pJ:∀w∈Ao u,A5 (BI (Co w))<=100000000)(hN:(Cg u).length<=1000000000)(ZU:(Ao u).length<=1000000000):Pu 206 [.agg (wL m),.agg (AT u),.sl 1 (A1 vs)] (rI (Ds (BP (Jb (Ea m) vs) (Cg u)) (BP (fun p=>if Bd (Co p)=0 then 0 else Jb (Ea m) vs (Co p)) (Ao u)))):=
 pm CR [cl (@A91 (m) (vs) (Cg u) hz Dh hs hN),cl (@A92 (m) (vs) (Ao u) hz Dh pJ ZU),cl (@DI (BP (Jb (Ea m) vs) (Cg u)) (BP (fun p=>if Bd (Co p)=0 then 0 else Jb (Ea m) vs (Co p)) (Ao u)))] func206
theorem tsT(m:Mo)(vs:List BA)(u:Ex)(hz:Sz m)(Dh:vs.length<=1000000000)(hs:∀w∈Cg u,A5 (BI w)<=100000000)(pJ:∀w∈Ao u,A5 (BI (Co w))<=100000000)(hN:(Cg u).length<=1000000000)(ZU:(Ao u).length<=1000000000):Pu 206 [.agg (wL m),.agg (AT u),.sl 1 (A1 vs)] (.ret (.int .i64 (K4 (Ea m) vs u))):=tsL m vs u hz Dh hs pJ hN ZU
theorem vaT(m:Mo)(u:Ex)(bd:List BA)(hz:Sz m)(hN:bd.length<=1000000000):Pu 207 [.agg (wL m),.agg (AT u),.sl 1 (A1 bd)] (.ret (.int .i64 (IX (Fb m) bd u))):=by
 have h:=vaL m u bd hz hN
 have e:K3 m u bd=IX (Fb m) bd u:=by
  unfold K3 IX
  rw [Mt,Mt,Mt]
  by_cases h3:B2 u=3
  ·rw [iN (by simp [h3])]
   have h5:¬B2 u=5:=by omega
   by_cases hp:FX (Ap u) bd<0
   ·rw [iN oM,iN h5,iP ⟨.inl h3,hp⟩,decide_eq_false h5,Bool.false_and]; rfl
   ·rw [iP oM,iN (fun k=>hp k.2)]
  ·by_cases h5:B2 u=5
   ·rw [iN (by simp [h5])]
    by_cases hp:FX (Ap u) bd<0
    ·rw [iN oM,iP h5,iP ⟨.inr h5,hp⟩,decide_eq_true h5,Bool.true_and]
    ·rw [iP oM,iN (fun k=>hp k.2)]
   ·rw [iP (by simp [h3,h5]),iN (fun k=>k.1.elim h3 h5)]
 rwa [e] at h
theorem coT(m:Mo)(s:BA)(n:Int)(hz:Sz m):Pu 208 [.agg (wL m),.str s,.int .i64 n] (.ret (.int .i64 (Iv (Fq m) s n))):=by
 have h:=cnE m s n hz
 rw [Mt] at h; exact h
theorem GY(x:BA):A1 [x]=[[.str x]]:=rfl
abbrev o7(u:Ex)(j:Int)(out:List BA)(e:Ext):S:=S.mk [(1,.lp 1 0),(2,.v .Ab),(3,.uniq 9 1 (A1 out)),(17,vL 10 (Pm.cs (Ao u))),(18,A2 ((Ao u).length:Int)),(19,A2 j)] [(1,CP u)] e
def F4  : List Pm->(List BA)->(List BA)
 | [],out=>(out)
 | el::r,out=>F4  r (out++[BR el])
def cJ(u:Ex)(e:Ext)(p:(List BA)):A7 × S:=(.exit 0,S.mk [(1,.lp 1 0),(2,.v .Ab),(3,.uniq 9 1 (A1 p)),(17,vL 10 (Pm.cs (Ao u))),(18,A2 ((Ao u).length:Int))] [(1,CP u)] e)
theorem biP(u:Ex)(out:List BA)(e:Ext)(hN:(Ao u).length<=1000000000)(hv:List.length out<=0+1):(Ob.loop 42 (Am f204 0) (o7 u 0 out e) (cJ u e (F4  ((Ao u))  out)).1 (cJ u e (F4  ((Ao u))  out)).2).ok prog:=by
 refine Ek ((Ao u).length) (fun j out=>o7 u j out e) (fun i out=>F4  (List.drop i ((Ao u)))  out) (cJ u e) (fun i out=>(out.length<=i+1)) kR ?_ out (by first | exact hv | omega)
 rintro i out hi hv
 try simp only at hv
 rcases Nat.lt_or_ge i ((Ao u).length) with Ad | Dm
 ·have hd:=AN Ad
  exact lS An [dt ((i:Int)<((Ao u).length:Int)),am ((0:Int)<=(i:Int)/\(i:Int)<((Pm.cs (Ao u)).length:Int)) (by (simp only [Pm.A0]; omega)),ar (List.getD (Pm.cs (Ao u)) (Int.toNat (i:Int)) []) (KW (List.getD (Ao u) i default)) (by simp only [Int.toNat_natCast,Int.toNat_zero]; rw [@Pm.B0 (Ao u) (i) Ad]; try rfl),am (List.length (A1 out++(fun x=>Prod.snd x) (0+1,[[.str (BR (List.getD (Ao u) i default))]])) * (15+1)<=140737488355328) (by (simp only [List.length_append,List.length_cons,List.length_nil,A3]; omega)),wr ((i:Int)+1)] [1,2,3,17,18,19] [1] Ad (out++[BR (List.getD (Ao u) i default)]) (S.mk [(1,.lp 1 0),(2,.v .Ab),(3,.uniq 9 1 (A1 out++[[PV.str (BR (List.getD (Ao u) i default))]])),(17,vL 10 (Pm.cs (Ao u))),(18,A2 ((Ao u).length:Int)),(19,A2 ((i:Int)+1))] [(1,CP u)] e) ⟨⟨W,W,(.inl (by first | (simp only [List.nil_append,Av,Aw,GY]; done) | (simp only [List.nil_append,Av,Aw,GY]; rfl))),W,W,W,Ar⟩,⟨Ws,Ar⟩,rfl⟩ (by first | assumption | omega | (simp only [List.length_append,List.length_cons,List.length_nil] at *; omega) | simp_all) (by rw [hd,F4])
 ·have he:i=(Ao u).length:=by omega
  exact lX An [df ((i:Int)<((Ao u).length:Int))] (out) (by rw [he,List.drop_length,F4])
theorem Vt:∀ (l:List Pm) (out:List BA),F4 l out=out++l.map BR
 | [],out=>by simp [F4]
 | p::r,out=>by simp [F4,Vt r]
theorem jQ{u:Ex}{l:List BA}{i:Nat}(h:l.length+D0 ((Ae u).drop i)<=1000000000)(hi:i<(Ae u).length):(l++Bl ((Ae u).getD i default)).length+D0 ((Ae u).drop (i+1))<=1000000000:=by
 have:=Gf (Ae u) i hi
 simp only [List.length_append]; omega
theorem A3s{u:Ex}{l:List BA}{i:Nat}(h:l.length+D0 ((Ae u).drop i)<=1000000000)(hi:i<(Ae u).length):(A1 l++A1 (Bl ((Ae u).getD i default))).length * (15+1)<=140737488355328:=by
 have:=Gf (Ae u) i hi
 simp only [List.length_append,A3]; omega
theorem uR{u:Ex}{o:List BA}(h:(Ao u).length<=100000000)(h2:D0 (Ae u)<=100000000)(h3:o.length<=1):(F4 (Ao u) o).length+D0 ((Ae u).drop 0)<=1000000000:=by rw [List.drop_zero,Vt,List.length_append,List.length_map]; omega
theorem A3t{u:Ex}(h:(Ao u).length<=100000000)(h2:D0 (Ae u)<=100000000):(F4 (Ao u) []).length+D0 ((Ae u).drop 0)<=1000000000:=uR h h2 sM
theorem A3u{u:Ex}(h:(Ao u).length<=100000000)(h2:D0 (Ae u)<=100000000):(F4 (Ao u) ([]++[Ap u])).length+D0 ((Ae u).drop 0)<=1000000000:=uR h h2 sM
theorem A93{u:Ex}(h:(Ao u).length<=100000000)(h2:D0 (Ae u)<=100000000):(F4 (Ao u) [Ap u]).length+D0 ((Ae u).drop 0)<=1000000000:=uR h h2 sM
abbrev o8(u:Ex)(j:Int)(l:List BA)(e:Ext):S:=S.mk [(2,.v .Ab),(3,.uniq 9 1 (A1 l)),(30,vL 9 (Al.cs (Ae u))),(31,A2 ((Ae u).length:Int)),(32,A2 j)] [] e
def IY  : List Al->(List BA)->(List BA)
 | [],l=>(l)
 | el::r,l=>IY  r (l++Bl el)
def cK(u:Ex)(e:Ext)(p:(List BA)):A7 × S:=(.exit 2,S.mk [(2,.v .Ab),(3,.uniq 9 1 (A1 p)),(30,vL 9 (Al.cs (Ae u))),(31,A2 ((Ae u).length:Int))] [] e)
theorem biA(u:Ex)(hP:(Ao u).length<=100000000)(He:D0 (Ae u)<=100000000)(l:List BA)(e:Ext)(hN:(Ae u).length<=1000000000)(hv:List.length l+D0 (List.drop 0 (Ae u))<=1000000000):(Ob.loop 42 (Am f204 1) (o8 u 0 l e) (cK u e (IY  ((Ae u))  l)).1 (cK u e (IY  ((Ae u))  l)).2).ok prog:=by
 refine Ek ((Ae u).length) (fun j l=>o8 u j l e) (fun i l=>IY  (List.drop i ((Ae u)))  l) (cK u e) (fun i l=>(l.length+D0 ((Ae u).drop i)<=1000000000)) kR ?_ l (by first | exact hv | omega)
 rintro i l hi hv
 try simp only at hv
 rcases Nat.lt_or_ge i ((Ae u).length) with Ad | Dm
 ·have hd:=AN Ad
  exact lS An [dt ((i:Int)<((Ae u).length:Int)),am ((0:Int)<=(i:Int)/\(i:Int)<((Al.cs (Ae u)).length:Int)) (by (simp only [Al.A0]; omega)),ar (List.getD (Al.cs (Ae u)) (Int.toNat (i:Int)) []) (I4 (List.getD (Ae u) i default)) (by simp only [Int.toNat_natCast,Int.toNat_zero]; rw [@Al.B0 (Ae u) (i) Ad]; try rfl),am (List.length (A1 l++(fun x=>Prod.snd x) (1,A1 (Bl (List.getD (Ae u) i default)))) * (15+1)<=140737488355328) (by (apply A3s <;> first | assumption | omega | decide)),wr ((i:Int)+1)] [2,3,30,31,32] [] Ad (l++Bl (List.getD (Ae u) i default)) (S.mk [(2,.v .Ab),(3,.uniq 9 1 (A1 l++A1 (Bl (List.getD (Ae u) i default)))),(30,vL 9 (Al.cs (Ae u))),(31,A2 ((Ae u).length:Int)),(32,A2 ((i:Int)+1))] [] e) ⟨⟨W,(.inl (by first | (simp only [List.nil_append,Av,Aw,GY]; done) | (simp only [List.nil_append,Av,Aw,GY]; rfl))),W,W,W,Ar⟩,trivial,rfl⟩ (by first | assumption | omega | (apply jQ <;> first | assumption | omega | decide) | (apply A3s <;> first | assumption | omega | decide) | (apply A3t <;> first | assumption | omega | decide) | (apply A3u <;> first | assumption | omega | decide) | (apply A93 <;> first | assumption | omega | decide) | (simp only [List.length_append,List.length_cons,List.length_nil] at *; omega) | simp_all) (by rw [hd,IY])
 ·have he:i=(Ae u).length:=by omega
  exact lX An [df ((i:Int)<((Ae u).length:Int))] (l) (by rw [he,List.drop_length,IY])
theorem cL:∀ (l:List Al) (out:List BA),IY l out=out++l.flatMap Bl
 | [],out=>by simp [IY]
 | p::r,out=>by simp [IY,cL r,List.flatMap_cons]
section
variable (u:Ex) (hP:(Ao u).length<=100000000) (hA:(Ae u).length<=1000000000) (He:D0 (Ae u)<=100000000)
include u hP hA He
theorem A3v(Ak:B2 u=7):Pu 204 [.agg (AT u)] (.own 9 1 (A1 (IY (Ae u) (F4 (Ao u) [Ap u])))):=
 pu An (fun e=>[CT Ak,ab true,sl (Pm.A0 (Ao u)),lp (S.mk [(0,.v (.agg (AT u))),(1,.lp 1 0),(2,.v .Ab),(3,.uniq 9 1 [[.str (Ap u)]]),(8,.lp 1 0),(9,A2 (B2 u)),(10,.v (.bool (B2 u==7))),(11,.v .Ab),(12,.lp 1 1),(13,vS (Ap u)),(14,LV.full 1 [[.str (Ap u)]]),(15,vL 1 [[.str (Ap u)]]),(16,.lp 1 4),(17,vL 10 (Pm.cs (Ao u))),(18,A2 ((Ao u).length:Int)),(19,A2 0)] [(1,CP u)] e) (@biP (u) ([Ap u]) (e) oM (by (simp only [List.length_cons,List.length_nil]; omega))) xr,sl (Al.A0 (Ae u)),lp (S.mk [(1,.lp 1 0),(2,.v .Ab),(3,.uniq 9 1 (A1 (F4 (Ao u) [Ap u]))),(17,vL 10 (Pm.cs (Ao u))),(18,A2 ((Ao u).length:Int)),(29,.lp 1 5),(30,vL 9 (Al.cs (Ae u))),(31,A2 ((Ae u).length:Int)),(32,A2 0)] [(1,CP u)] e) (@biA (u) hP He (F4 (Ao u) [Ap u]) (e) hA (by (apply A3u <;> first | assumption | omega | decide))) xr]) func204
theorem A3w(Ak:¬B2 u=7):Pu 204 [.agg (AT u)] (.own 9 1 (A1 (IY (Ae u) (F4 (Ao u) [])))):=
 pu An (fun e=>[As Ak,sl (Pm.A0 (Ao u)),lp (S.mk [(0,.v (.agg (AT u))),(1,.lp 1 0),(2,.v .Ab),(3,.v .Ab),(8,.lp 1 0),(9,A2 (B2 u)),(10,.v (.bool (B2 u==7))),(16,.lp 1 4),(17,vL 10 (Pm.cs (Ao u))),(18,A2 ((Ao u).length:Int)),(19,A2 0)] [(1,CP u)] e) (@biP (u) ([]) (e) oM (by (simp only [List.length_nil]; omega))) ⟨⟨W,W,Wq,W,W,W,Ar⟩,⟨⟨W,W,W,W,W,W,W,Ar⟩,Ar⟩,rfl⟩,sl (Al.A0 (Ae u)),lp (S.mk [(1,.lp 1 0),(2,.v .Ab),(3,.uniq 9 1 (A1 (F4 (Ao u) []))),(17,vL 10 (Pm.cs (Ao u))),(18,A2 ((Ao u).length:Int)),(29,.lp 1 5),(30,vL 9 (Al.cs (Ae u))),(31,A2 ((Ae u).length:Int)),(32,A2 0)] [(1,CP u)] e) (@biA (u) hP He (F4 (Ao u) []) (e) hA (by (apply A3t <;> first | assumption | omega | decide))) xr]) func204
end
theorem biT(u:Ex)(hP:(Ao u).length<=100000000)(hA:(Ae u).length<=1000000000)(He:D0 (Ae u)<=100000000):Pu 204 [.agg (AT u)] (.own 9 1 (A1 (I0 u))):=by
 unfold I0
 by_cases h:B2 u=7
 ·have h1:=A3v u hP hA He h
  rw [cL,Vt] at h1; rw [iP h]; exact h1
 ·have h1:=A3w u hP hA He h
  rw [cL,Vt] at h1; rw [iN h]; exact h1
abbrev o9(y:Ex)(c:Int)(bd:List BA)(j:Int)(out:List BA)(e:Ext):S:=S.mk [(6,.v .Ab),(7,.uniq 9 1 (A1 out)),(28,vL 10 (Pm.cs (Ao y))),(29,A2 ((Ao y).length:Int)),(30,A2 j)] [] e
def IZ  : List Pm->(List BA)->(List BA)
 | [],out=>(out)
 | el::r,out=>IZ  r (out++[BR el])
def cM(y:Ex)(c:Int)(bd:List BA)(e:Ext)(p:(List BA)):A7 × S:=(.exit 0,S.mk [(6,.v .Ab),(7,.uniq 9 1 (A1 p)),(28,vL 10 (Pm.cs (Ao y))),(29,A2 ((Ao y).length:Int))] [] e)
theorem inP(y:Ex)(c:Int)(bd:List BA)(It:bd.length<=1000000000)(out:List BA)(e:Ext)(hN:(Ao y).length<=1000000000)(hv:List.length out<=0+1000000001):(Ob.loop 41 (Am f213 0) (o9 y c bd 0 out e) (cM y c bd e (IZ  ((Ao y))  out)).1 (cM y c bd e (IZ  ((Ao y))  out)).2).ok prog:=by
 refine Ek ((Ao y).length) (fun j out=>o9 y c bd j out e) (fun i out=>IZ  (List.drop i ((Ao y)))  out) (cM y c bd e) (fun i out=>(out.length<=i+1000000001)) kR ?_ out (by first | exact hv | omega)
 rintro i out hi hv
 try simp only at hv
 rcases Nat.lt_or_ge i ((Ao y).length) with Ad | Dm
 ·have hd:=AN Ad
  exact lS An [dt ((i:Int)<((Ao y).length:Int)),am ((0:Int)<=(i:Int)/\(i:Int)<((Pm.cs (Ao y)).length:Int)) (by (simp only [Pm.A0]; omega)),ar (List.getD (Pm.cs (Ao y)) (Int.toNat (i:Int)) []) (KW (List.getD (Ao y) i default)) (by simp only [Int.toNat_natCast,Int.toNat_zero]; rw [@Pm.B0 (Ao y) (i) Ad]; try rfl),am (List.length (A1 out++(fun x=>Prod.snd x) (0+1,[[.str (BR (List.getD (Ao y) i default))]])) * (15+1)<=140737488355328) (by (simp only [List.length_append,List.length_cons,List.length_nil,A3]; omega)),wr ((i:Int)+1)] [6,7,28,29,30] [] Ad (out++[BR (List.getD (Ao y) i default)]) (S.mk [(6,.v .Ab),(7,.uniq 9 1 (A1 out++[[PV.str (BR (List.getD (Ao y) i default))]])),(28,vL 10 (Pm.cs (Ao y))),(29,A2 ((Ao y).length:Int)),(30,A2 ((i:Int)+1))] [] e) ⟨⟨W,(.inl (by first | (simp only [List.nil_append,Av,Aw,GY]; done) | (simp only [List.nil_append,Av,Aw,GY]; rfl))),W,W,W,Ar⟩,trivial,rfl⟩ (by first | assumption | omega | (simp only [List.length_append,List.length_cons,List.length_nil] at *; omega) | simp_all) (by rw [hd,IZ])
 ·have he:i=(Ao y).length:=by omega
  exact lX An [df ((i:Int)<((Ao y).length:Int))] (out) (by rw [he,List.drop_length,IZ])
theorem oA{α:Type}(ge:Int->α->Int):∀ (l:List α) (i:Nat),(LQ (fun i x (_:Unit)=>ge (i:Int) x) (fun _ _ _=>()) l i ()).1=R5 ge l (i:Int)
 | [],_=>rfl
 | x::r,i=>by
  have ih:=oA ge r (i+1)
  by_cases h:ge i x=0
  ·simp only [LQ,R5,h,if_true]; exact ih
  ·simp only [LQ,R5,h,if_false]
theorem A94(l:List Ex)(g:Nat)(Aa:List PV)(ge:Int->Ex->Int)(BY:∀ (k:Int) (w:Ex),w∈l->Pu g (.int .i64 k :: .agg (AT w)::Aa) (.ret (.int .i64 (ge k w))))(hN:l.length<=1000000000):Pu 211 [.sl 7 (Ex.cs l),.fn (.func g) [] Aa] (.ret (.int .i64 (R5 ge l 0))):=by
 have h:=fun e=>Ey ⟨211,7,true,f211,func211⟩ (eM (n:=17) rfl) (fun i x=>(AT x).getD i .Dy) l g Aa (fun _:Unit=>e) (fun i x _=>ge i x) (fun _ _ _=>()) (fun i w _ hw=>⟨(BY i w hw).1,(BY i w hw).2 e⟩) hN ()
 rw [oA ge l 0,DP AT 7 (fun _=>rfl) l,<-Ex.Ay] at h
 exact ⟨(h []).1,fun e=>(h e).2⟩
theorem cN:∀ (l:List Pm) (out:List BA),IZ l out=out++l.map BR
 | [],out=>by simp [IZ]
 | p::r,out=>by simp [IZ,cN r]
section
variable (y:Ex) (c:Int) (bd:List BA) (It:bd.length<=1000000000) (hP:(Ao y).length<=1000000000)
include y c bd It hP
theorem A3x(Ak:((if True then B2 y==7&&(c==c&&(false==false&&true)) else !(B2 y==7&&(c==c&&(false==false&&true))))&&decide (c>0))=true):Pu 213 [.agg (AT y),.agg [pI (B2 y),pI c,.bool false],.sl 1 (A1 bd)] (.own 9 1 (A1 (IZ (Ao y) (bd++[Ap y])))):=
 pu An (fun e=>[cl (@BU (bd) It),mg,av (.v (.bool (bif if true=true then B2 y==7&&(c==c&&(false==false&&true)) else !(B2 y==7&&(c==c&&(false==false&&true))) then decide (c>0) else false))) (.v (.bool ((if True then B2 y==7&&(c==c&&(false==false&&true)) else !(B2 y==7&&(c==c&&(false==false&&true))))&&decide (c>0)))) (by (simp only [Bool.cond_true_left,Bool.cond_false_right]; done)),B7 Ak,am (List.length (A1 bd++(fun x=>Prod.snd x) (0+1,[[.str (Ap y)]])) * (15+1)<=140737488355328) (by (simp only [List.length_append,List.length_cons,List.length_nil,A3]; omega)),sl (Pm.A0 (Ao y)),lp (S.mk [(0,.v (.agg (AT y))),(1,.v (.agg [pI (B2 y),pI c,.bool false])),(2,vL 1 (A1 bd)),(3,.lp 3 0),(4,.lp 4 0),(6,.v .Ab),(10,vL 1 (A1 bd)),(11,vL 1 (A1 bd)),(7,.uniq 9 1 (A1 bd++[[PV.str (Ap y)]])),(12,.v (.agg [pI (B2 y),pI c,.bool false])),(13,.lp 4 1),(14,A2 c),(15,.v (.agg [pI 7,pI c,.bool false])),(16,.v (.bool (if true=true then B2 y==7&&(c==c&&(false==false&&true)) else !(B2 y==7&&(c==c&&(false==false&&true)))))),(17,.v (.bool (if true=true then B2 y==7&&(c==c&&(false==false&&true)) else !(B2 y==7&&(c==c&&(false==false&&true)))))),(21,.v (.bool ((if True then B2 y==7&&(c==c&&(false==false&&true)) else !(B2 y==7&&(c==c&&(false==false&&true))))&&decide (c>0)))),(22,vL 1 (A1 bd)),(23,.lp 3 1),(24,vS (Ap y)),(25,LV.full 1 [[.str (Ap y)]]),(26,vL 1 (A1 bd++[[PV.str (Ap y)]])),(27,.lp 3 4),(28,vL 10 (Pm.cs (Ao y))),(29,A2 ((Ao y).length:Int)),(30,A2 0)] [(3,CP y),(4,[A2 (B2 y),A2 c,.v (.bool false)])] e) (@inP (y) default (bd) It (bd++[Ap y]) (e) hP (by (simp only [List.length_append,List.length_cons,List.length_nil]; omega))) ⟨⟨W,(by first | exact .inl rfl | exact .inr ⟨rfl,rfl⟩ | exact .inr rfl | exact .inr trivial | exact .inl (by first | (simp only [List.nil_append,Av,Aw,GY]; done) | (simp only [List.nil_append,Av,Aw,GY]; rfl))),W,W,W,Ar⟩,trivial,rfl⟩]) func213
theorem A3y(Ak:((if True then B2 y==7&&(c==c&&(false==false&&true)) else !(B2 y==7&&(c==c&&(false==false&&true))))&&decide (c>0))=false):Pu 213 [.agg (AT y),.agg [pI (B2 y),pI c,.bool false],.sl 1 (A1 bd)] (.own 9 1 (A1 (IZ (Ao y) bd))):=
 pu An (fun e=>[cl (@BU (bd) It),mg,av (.v (.bool (bif if true=true then B2 y==7&&(c==c&&(false==false&&true)) else !(B2 y==7&&(c==c&&(false==false&&true))) then decide (c>0) else false))) (.v (.bool ((if True then B2 y==7&&(c==c&&(false==false&&true)) else !(B2 y==7&&(c==c&&(false==false&&true))))&&decide (c>0)))) (by (simp only [Bool.cond_true_left,Bool.cond_false_right]; done)),B1 Ak,sl (Pm.A0 (Ao y)),lp (S.mk [(0,.v (.agg (AT y))),(1,.v (.agg [pI (B2 y),pI c,.bool false])),(2,vL 1 (A1 bd)),(3,.lp 3 0),(4,.lp 4 0),(6,.v .Ab),(10,vL 1 (A1 bd)),(11,vL 1 (A1 bd)),(7,.uniq 9 1 (A1 bd)),(12,.v (.agg [pI (B2 y),pI c,.bool false])),(13,.lp 4 1),(14,A2 c),(15,.v (.agg [pI 7,pI c,.bool false])),(16,.v (.bool (if true=true then B2 y==7&&(c==c&&(false==false&&true)) else !(B2 y==7&&(c==c&&(false==false&&true)))))),(17,.v (.bool (if true=true then B2 y==7&&(c==c&&(false==false&&true)) else !(B2 y==7&&(c==c&&(false==false&&true)))))),(21,.v (.bool ((if True then B2 y==7&&(c==c&&(false==false&&true)) else !(B2 y==7&&(c==c&&(false==false&&true))))&&decide (c>0)))),(27,.lp 3 4),(28,vL 10 (Pm.cs (Ao y))),(29,A2 ((Ao y).length:Int)),(30,A2 0)] [(3,CP y),(4,[A2 (B2 y),A2 c,.v (.bool false)])] e) (@inP (y) default (bd) It (bd) (e) hP oM) xr]) func213
end
theorem inY(y:Ex)(c:Int)(bd:List BA)(It:bd.length<=1000000000)(hP:(Ao y).length<=1000000000):Pu 213 [.agg (AT y),.agg [.int .i64 (B2 y),.int .i64 c,.bool false],.sl 1 (A1 bd)] (.own 9 1 (A1 (Mb y c bd))):=by
 unfold Mb
 by_cases h:B2 y=7/\0<c
 ·have h1:=A3x y c bd It hP (by simp [h.1,h.2])
  rw [cN] at h1; rw [iP h]; exact h1
 ·have h1:=A3y y c bd It hP (by
   have:¬(B2 y=7/\c>0):=h
   by_cases h7:B2 y=7
   ·have h8:¬c>0:=fun k=>h ⟨h7,k⟩
    simp [h7]; omega
   ·simp [h7])
  rw [cN] at h1; rw [iN h,List.append_nil]; exact h1
theorem nk1(m:Mo)(k:Int)(s:BA):Pu 205 [pI k,.str s,.ro (wL m) 0] (rI (AU (Ac s))):=
 pm CR [cl (@IT (m) (s))] func205
theorem nk2(m:Mo)(k:Int)(a:Al)(hz:Sz m):Pu 210 [pI k,.agg (I4 a),.ro (wL m) 0] (rI (Iv (Fq m) (FT a) ((Bl a).length:Int))):=
 pm CR [sl (A3 (Bl a)),cl (@coT (m) (FT a) (((Bl a).length:Int)) hz)] func210
theorem nk3(m:Mo)(vs bd:List BA)(k:Int)(x y:Ex)(r:Int)(It:bd.length<=1000000000)(hP:(Ao y).length<=1000000000)(Of:Pu 155 [.agg (wL m),.agg (AT x),.sl 1 (A1 vs),.sl 1 (A1 (Mb y k bd))] (.ret (.int .i64 (r)))):Pu 212 [pI k,.agg (AT x),.ro (wL m) 0,.ro [.sl 1 (A1 vs)] 0,.ro (AT y) 0,.ro [.sl 1 (A1 bd)] 0] (rI r):=
 pm CR [cl (@inY (y) (k) (bd) It hP),cl Of] func212
theorem nk4(m:Mo)(vs bd:List BA)(k:Int)(a:Al)(r:Int)(It:bd.length<=1000000000)(hNa:(Bl a).length<=1000000000)(Of:Pu 155 [.agg (wL m),.agg (AT (D4 a)),.sl 1 (A1 vs),.sl 1 (A1 bd++A1 (Bl a))] (.ret (.int .i64 (r)))):Pu 214 [pI k,.agg (I4 a),.ro (wL m) 0,.ro [.sl 1 (A1 vs)] 0,.ro [.sl 1 (A1 bd)] 0] (rI r):=
 pm CR [cl (@BU (bd) It),am (List.length (A1 bd++(fun x=>Prod.snd x) (1,A1 (Bl a))) * (15+1)<=140737488355328) (by (simp only [List.length_append,A3]; omega)),cl Of] func214
theorem e1T(m:Mo)(l:List BA)(hN:l.length<=1000000000):Pu 124 [.sl 1 (A1 l),.fn (.func 205) [] [.ro (wL m) 0]] (.ret (.int .i64 (BP (fun s=>AU (Ac s)) l))):=A2l l _ _ _ (fun k w _=>nk1 m k w) hN
theorem e2T(m:Mo)(l:List Al)(hz:Sz m)(hN:l.length<=1000000000):Pu 209 [.sl 9 (Al.cs l),.fn (.func 210) [] [.ro (wL m) 0]] (.ret (.int .i64 (BP (fun a=>Iv (Fq m) (FT a) (Bl a).length) l))):=A2m l _ _ (fun a=>Iv (Fq m) (FT a) (Bl a).length) (fun k w _=>nk2 m k w hz) hN
theorem e3T(m:Mo)(vs bd:List BA)(y:Ex)(nf:Ex->List BA->Int)(It:bd.length<=1000000000)(hs:A5 (AT y)<=100000000)(fK:∀ (k:Int) (w:Ex),w∈AQ y->Pu 155 [.agg (wL m),.agg (AT w),.sl 1 (A1 vs),.sl 1 (A1 (Mb y k bd))] (.ret (.int .i64 (nf w (Mb y k bd))))):Pu 211 [.sl 7 (Ex.cs (AQ y)),.fn (.func 212) [] [.ro (wL m) 0,.ro [.sl 1 (A1 vs)] 0,.ro (AT y) 0,.ro [.sl 1 (A1 bd)] 0]] (.ret (.int .i64 (R5 (fun k w=>nf w (Mb y k bd)) (AQ y) 0))):=
 A94 (AQ y) _ _ (fun k w=>nf w (Mb y k bd)) (fun k w hw=>nk3 m vs bd k w y _ It (by have:=CQ y; have:=Pm.BF (Ao y); omega) (fK k w hw)) (by have:=CQ y; have:=Ex.BF (AQ y); omega)
theorem e4T(m:Mo)(vs bd:List BA)(y:Ex)(nf:Ex->List BA->Int)(It:bd.length<=1000000000)(hs:A5 (AT y)<=100000000)(SW:∀ (a:Al),a∈Ae y->Pu 155 [.agg (wL m),.agg (AT (D4 a)),.sl 1 (A1 vs),.sl 1 (A1 (bd++Bl a))] (.ret (.int .i64 (nf (D4 a) (bd++Bl a))))):Pu 209 [.sl 9 (Al.cs (Ae y)),.fn (.func 214) [] [.ro (wL m) 0,.ro [.sl 1 (A1 vs)] 0,.ro [.sl 1 (A1 bd)] 0]] (.ret (.int .i64 (BP (fun a=>nf (D4 a) (bd++Bl a)) (Ae y)))):=
 A2m (Ae y) _ _ (fun a=>nf (D4 a) (bd++Bl a)) (fun k a ha=>nk4 m vs bd k a _ It (by have:=CQ y; have:=Al.mem ha; have:=Gw a; have:=Dc (Bl a); omega) (by rw [<-Av]; exact SW a ha)) (by have:=CQ y; have:=Al.BF (Ae y); omega)
end Go.Proofs.YtmllcplaohkjnaaGreatDoor
