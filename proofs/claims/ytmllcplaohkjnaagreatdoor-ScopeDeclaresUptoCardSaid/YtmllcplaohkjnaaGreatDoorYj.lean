/- Values of Go as plain data, an evaluator over them, and what the functions of the program return; part Yj. -/
import Derived.Test.YtmllcplaohkjnaaGreatDoorYi
import Derived.Test.YtmllcplaohkjnaaGreatDoorYc
import Derived.Test.YtmllcplaohkjnaaGreatDoorXe
import Derived.Test.YtmllcplaohkjnaaGreatDoorProg
import Derived.KernelRfl
import Derived.Test.YtmllcplaohkjnaaGreatDoorYa
set_option linter.unusedSectionVars false
set_option linter.unusedSimpArgs false
set_option linter.unusedVariables false
namespace Go.Proofs.YtmllcplaohkjnaaGreatDoor
open Go.Proofs.Tryz
open Go.Pv Go.Proofs.Tryz
set_option maxRecDepth 100000
def I1(m:Mo)(s:BA)(vs:List BA):Int:=(if ix BS s (Aj m)<List.length (Aj m) then 0 else (if (!ByteArray.toList s==ByteArray.toList (ByteArray.mk #[73,110,116]) && !ByteArray.toList s==ByteArray.toList (ByteArray.mk #[66,111,111,108]) && !false)=true then (BT (decide (FX s vs<0)) 11) else 0))
theorem soS(m:Mo)(s:BA)(vs:List BA)(hz:Sz m)(Dh:vs.length<=1000000000):Pu 75 [.agg (wL m),.str s,.sl 1 (A1 vs)] (rI (I1 m s vs)):=by
 by_cases h0:ix BS s (Aj m)<List.length (Aj m)
 ·simp only [I1,iP h0]; exact pm CR [cl (@y4 (m) (s) hz h0),mg,av (.v (.bool (bif !ByteArray.toList s==ByteArray.toList (ByteArray.mk #[73,110,116]) then !ByteArray.toList s==ByteArray.toList (ByteArray.mk #[66,111,111,108]) else false))) (.v (.bool (!ByteArray.toList s==ByteArray.toList (ByteArray.mk #[73,110,116]) && !ByteArray.toList s==ByteArray.toList (ByteArray.mk #[66,111,111,108])))) (by (simp only [Bool.cond_false_right]; done)),mg,av (.v (.bool (bif !ByteArray.toList s==ByteArray.toList (ByteArray.mk #[73,110,116]) && !ByteArray.toList s==ByteArray.toList (ByteArray.mk #[66,111,111,108]) then !true else false))) (.v (.bool (!ByteArray.toList s==ByteArray.toList (ByteArray.mk #[73,110,116]) && !ByteArray.toList s==ByteArray.toList (ByteArray.mk #[66,111,111,108]) && !true))) (by (simp only [Bool.cond_true_left,Bool.cond_false_right]; done)),rp 5 (bf (!ByteArray.toList s==ByteArray.toList (ByteArray.mk #[73,110,116]) && !ByteArray.toList s==ByteArray.toList (ByteArray.mk #[66,111,111,108]) && !true) (by simp_all [List.length_map,List.length_append,List.length_cons,List.length_nil,A3,Pr.A0,Tp.A0,Pm.A0,Ex.A0,Al.A0,Vr.A0,Cn.A0,Da.A0,Cl.A0,Bo.A0,Df.A0,In.A0,Cs.A0,Ms.A0,Qu.A0,Int.toNat_natCast,Bool.cond_true_left,Bool.cond_false_right,Int.toNat_zero,Fg])),cl (@DY (false) (11))] func75
 ·by_cases h1:(!ByteArray.toList s==ByteArray.toList (ByteArray.mk #[73,110,116]) && !ByteArray.toList s==ByteArray.toList (ByteArray.mk #[66,111,111,108]) && !false)=true
  ·simp only [I1,iN h0,iP h1]; exact pm CR [cl (@y5 (m) (s) hz h0),mg,av (.v (.bool (bif !ByteArray.toList s==ByteArray.toList (ByteArray.mk #[73,110,116]) then !ByteArray.toList s==ByteArray.toList (ByteArray.mk #[66,111,111,108]) else false))) (.v (.bool (!ByteArray.toList s==ByteArray.toList (ByteArray.mk #[73,110,116]) && !ByteArray.toList s==ByteArray.toList (ByteArray.mk #[66,111,111,108])))) (by (simp only [Bool.cond_false_right]; done)),mg,av (.v (.bool (bif !ByteArray.toList s==ByteArray.toList (ByteArray.mk #[73,110,116]) && !ByteArray.toList s==ByteArray.toList (ByteArray.mk #[66,111,111,108]) then !false else false))) (.v (.bool (!ByteArray.toList s==ByteArray.toList (ByteArray.mk #[73,110,116]) && !ByteArray.toList s==ByteArray.toList (ByteArray.mk #[66,111,111,108]) && !false))) (by (simp only [Bool.cond_false_right]; done)),rp 3 (B7 h1),cl (@TV (vs) (s) Dh),rp 2 (B7 h1),cl (@DY (decide (FX s vs<0)) (11))] func75
  ·simp only [I1,iN h0,iN h1]; exact pm CR [cl (@y5 (m) (s) hz h0),mg,av (.v (.bool (bif !ByteArray.toList s==ByteArray.toList (ByteArray.mk #[73,110,116]) then !ByteArray.toList s==ByteArray.toList (ByteArray.mk #[66,111,111,108]) else false))) (.v (.bool (!ByteArray.toList s==ByteArray.toList (ByteArray.mk #[73,110,116]) && !ByteArray.toList s==ByteArray.toList (ByteArray.mk #[66,111,111,108])))) (by (simp only [Bool.cond_false_right]; done)),mg,av (.v (.bool (bif !ByteArray.toList s==ByteArray.toList (ByteArray.mk #[73,110,116]) && !ByteArray.toList s==ByteArray.toList (ByteArray.mk #[66,111,111,108]) then !false else false))) (.v (.bool (!ByteArray.toList s==ByteArray.toList (ByteArray.mk #[73,110,116]) && !ByteArray.toList s==ByteArray.toList (ByteArray.mk #[66,111,111,108]) && !false))) (by (simp only [Bool.cond_false_right]; done)),rp 5 (B1 (DC h1)),cl (@DY (false) (11))] func75
def QM(t:Tp)(pe:Tp->Bool):Bool:=(if (Bd t==6||Bd t==3)=true then true else (decide (HY pe (AP t)>=0)))
theorem ceS(t:Tp)(pe:Tp->Bool)(hcc:Pu 129 [.sl 9 (Tp.cs (AP t)),.fn (.func 81) [] []] (.ret (.bool (decide (HY pe (AP t)>=0))))):Pu 81 [.agg (BI t)] (rB (QM t pe)):=by
 by_cases h0:(Bd t==6||Bd t==3)=true
 ·simp only [QM,iP h0]; exact pm An [mg,av (.v (.bool (bif Bd t==6 then true else Bd t==3))) (.v (.bool (Bd t==6||Bd t==3))) rF,rp 4 (B7 h0)] func81
 ·simp only [QM,iN h0]; exact pm An [mg,av (.v (.bool (bif Bd t==6 then true else Bd t==3))) (.v (.bool (Bd t==6||Bd t==3))) rF,rp 3 (B1 (DC h0)),cl hcc,B1 (DC h0)] func81
def ceD:Nat->Tp->Bool
 | 0,_=>false
 | d+1,t=>QM t (ceD d)
theorem oN:∀ (d:Nat) (t:Tp),A5 (BI t)<d->d<=100000001->Pu 81 [.agg (BI t)] (.ret (.bool (ceD d t)))
 | 0,_,h,_=>by omega
 | d+1,t,h,hs=>ceS t (ceD d) (cfT (AP t) _ [] (ceD d) (fun w hw=>oN d w (by have:=DV t; have:=Tp.mem hw; omega) oM) (by have:=DV t; have:=Tp.BF (AP t); omega))
def ceF(t:Tp):Bool:=ceD (A5 (BI t)+1) t
theorem ceT(t:Tp)(hs:A5 (BI t)<=100000000):Pu 81 [.agg (BI t)] (.ret (.bool (ceF t))):=oN _ t oM oM
theorem d1(m:Mo)(y:Da)(k:Int)(x:Vr)(a b c d f g:List BA)(hz:Sz m)(Dh:(C1 y).length<=1000000000):Ef 74 [pI k,.agg (O5 x),.ro (wL m) 0,.ro [PV.mp 5] 0,.ro (EO y) 0] ([(0,[LV.mm (A6 a)]),(1,[LV.mm (A6 b)]),(2,[LV.mm (A6 c)]),(3,[LV.mm (A6 d)]),(4,[LV.mm (A6 f)]),(5,[LV.mm (A6 g)])]) (rI (HW (AU (Ac (CH x))) (Cp (CH x) g) (I1 m (SY x) (C1 y)))) ([(0,[LV.mm (A6 a)]),(1,[LV.mm (A6 b)]),(2,[LV.mm (A6 c)]),(3,[LV.mm (A6 d)]),(4,[LV.mm (A6 f)]),(5,[LV.mm (A6 (Dx (CH x) g))])]):=
 ef CR [cl (@IT (m) (CH x)),ce (@A2h (CH x) (a) (b) (c) (d) (f) (g)),cl (@soS (m) (SY x) (C1 y) hz Dh),cl (@QA (AU (Ac (CH x))) (Cp (CH x) g) (I1 m (SY x) (C1 y)))] func74
theorem d21(m:Mo)(y:Da)(k:Int)(t:Tp)(hz:Sz m)(Dh:(C1 y).length<=1000000000)(hs:A5 (BI t)<=100000000):Pu 79 [pI k,.agg (BI t),.ro (wL m) 0,.ro (EO y) 0] (rI (Ds (Jb (Ea m) (C1 y) t) (BT (ceF t) 6))):=
 pm CR [cl (@uQ (m) (C1 y) (t) hz Dh hs),cl (@ceT (t) hs),cl (@DY (ceF t) (6)),cl (@DI (Jb (Ea m) (C1 y) t) (BT (ceF t) 6))] func79
def fiE(m:Mo)(vs:List BA)(t:Tp):Int:=Ds (Jb (Ea m) vs t) (BT (ceF t) 6)
theorem A4e(m:Mo)(y:Da)(l:List Tp)(hz:Sz m)(Dh:(C1 y).length<=1000000000)(hs:∀w∈l,A5 (BI w)<=100000000)(hN:l.length<=1000000000):Pu 78 [.sl 9 (Tp.cs l),.fn (.func 79) [] [.ro (wL m) 0,.ro (EO y) 0]] (.ret (.int .i64 (BP (fiE m (C1 y)) l))):=tG l _ _ _ (fun k w hw=>d21 m y k w hz Dh (hs w hw)) hN
def G1(m:Mo)(y:Da)(x:Cn)(b:List BA):Int:=(if ((Fp x).length:Int)>6 then (if fF (AU (AL (Bj x))) (Cp (Bj x) b) 13 (Fe (EC x))=0 then (BP (fiE m (C1 y)) (Fp x)) else (fF (AU (AL (Bj x))) (Cp (Bj x) b) 13 (Fe (EC x)))) else (if fF (AU (AL (Bj x))) (Cp (Bj x) b) (BT (((EC x).length:Int) != ((Fp x).length:Int)) 13) (Fe (EC x))=0 then (BP (fiE m (C1 y)) (Fp x)) else (fF (AU (AL (Bj x))) (Cp (Bj x) b) (BT (((EC x).length:Int) != ((Fp x).length:Int)) 13) (Fe (EC x)))))
theorem d2(m:Mo)(y:Da)(k:Int)(x:Cn)(a b c d f g:List BA)(hz:Sz m)(Dh:(C1 y).length<=1000000000)(hs:∀w∈Fp x,A5 (BI w)<=100000000)(hNF:(Fp x).length<=1000000000)(hNN:(EC x).length<=1000000000):Ef 77 [pI k,.agg (KX x),.ro (wL m) 0,.ro [PV.mp 1] 0,.ro (EO y) 0] ([(0,[LV.mm (A6 a)]),(1,[LV.mm (A6 b)]),(2,[LV.mm (A6 c)]),(3,[LV.mm (A6 d)]),(4,[LV.mm (A6 f)]),(5,[LV.mm (A6 g)])]) (rI (G1 m y x b)) ([(0,[LV.mm (A6 a)]),(1,[LV.mm (A6 (Dx (Bj x) b))]),(2,[LV.mm (A6 c)]),(3,[LV.mm (A6 d)]),(4,[LV.mm (A6 f)]),(5,[LV.mm (A6 g)])]):=by
 by_cases h0:((Fp x).length:Int)>6
 ·by_cases h1:fF (AU (AL (Bj x))) (Cp (Bj x) b) 13 (Fe (EC x))=0
  ·simp only [G1,iP h0,iP h1]; exact ef CR [cl (@T0 (m) (Bj x)),ce (@V8 (Bj x) (a) (b) (c) (d) (f) (g)),sl (Tp.A0 (Fp x)),rp 8 (E9 h0),cl (@DY (true) (13)),cl (@Pz (m) (EC x) hNN),cl (@jH (AU (AL (Bj x))) (Cp (Bj x) b) (13) (Fe (EC x))),Bp h1,cl (@A4e (m) (y) (Fp x) hz Dh hs hNF)] func77
  ·simp only [G1,iP h0,iN h1]; exact ef CR [cl (@T0 (m) (Bj x)),ce (@V8 (Bj x) (a) (b) (c) (d) (f) (g)),sl (Tp.A0 (Fp x)),rp 8 (E9 h0),cl (@DY (true) (13)),cl (@Pz (m) (EC x) hNN),cl (@jH (AU (AL (Bj x))) (Cp (Bj x) b) (13) (Fe (EC x))),D3 h1] func77
 ·by_cases h1:fF (AU (AL (Bj x))) (Cp (Bj x) b) (BT (((EC x).length:Int) != ((Fp x).length:Int)) 13) (Fe (EC x))=0
  ·simp only [G1,iN h0,iP h1]; exact ef CR [cl (@T0 (m) (Bj x)),ce (@V8 (Bj x) (a) (b) (c) (d) (f) (g)),sl (Tp.A0 (Fp x)),rp 3 (Br h0),sl (A3 (EC x)),rp 3 (Br h0),sl (Tp.A0 (Fp x)),rp 2 (Br h0),cl (@DY (((EC x).length:Int) != ((Fp x).length:Int)) (13)),cl (@Pz (m) (EC x) hNN),cl (@jH (AU (AL (Bj x))) (Cp (Bj x) b) (BT (((EC x).length:Int) != ((Fp x).length:Int)) 13) (Fe (EC x))),Bp h1,cl (@A4e (m) (y) (Fp x) hz Dh hs hNF)] func77
  ·simp only [G1,iN h0,iN h1]; exact ef CR [cl (@T0 (m) (Bj x)),ce (@V8 (Bj x) (a) (b) (c) (d) (f) (g)),sl (Tp.A0 (Fp x)),rp 3 (Br h0),sl (A3 (EC x)),rp 3 (Br h0),sl (Tp.A0 (Fp x)),rp 2 (Br h0),cl (@DY (((EC x).length:Int) != ((Fp x).length:Int)) (13)),cl (@Pz (m) (EC x) hNN),cl (@jH (AU (AL (Bj x))) (Cp (Bj x) b) (BT (((EC x).length:Int) != ((Fp x).length:Int)) 13) (Fe (EC x))),D3 h1] func77
theorem A97{m:Mo}{o:Nat}(hA:∀ (d:Da) (c:Cn) (k:Int),d∈Aj m->c∈AS d->Pu 23 [.sl 9 (Tp.cs (Fp c)),.int .i64 k] (.ret (.int .i64 (F3 (Fp c) k))))(h:o<(Aj m).length):∀ (c:Cn) (k:Int),c∈AS ((Aj m).getD o default)->Pu 23 [.sl 9 (Tp.cs (Fp c)),.int .i64 k] (.ret (.int .i64 (F3 (Fp c) k))):=fun c k hc=>hA _ c k (Bk h) hc
theorem A98{m:Mo}{o:Nat}(hB:∀ (c:Cl) (p:Pm) (k:Int),c∈AA m->p∈B9 c->Pu 23 [.sl 9 [BI (Co p)],.int .i64 k] (.ret (.int .i64 (F3 [Co p] k))))(h:o<(AA m).length):∀ (p:Pm) (k:Int),p∈B9 ((AA m).getD o default)->Pu 23 [.sl 9 [BI (Co p)],.int .i64 k] (.ret (.int .i64 (F3 [Co p] k))):=fun c k hc=>hB _ c k (Bk h) hc
theorem A99{m:Mo}{o:Nat}(hG:∀ (x:Ms) (c:Cs) (k:Int),x∈Ba m->c∈CV x->Pu 24 [.sl 4 [CI (Ll c)],.int .i64 k] (.ret (.int .i64 (GN [Ll c] k))))(h:o<(Ba m).length):∀ (c:Cs) (k:Int),c∈CV ((Ba m).getD o default)->Pu 24 [.sl 4 [CI (Ll c)],.int .i64 k] (.ret (.int .i64 (GN [Ll c] k))):=fun c k hc=>hG _ c k (Bk h) hc
def NU(l:List Df)(mx:Int):Int:=KB mx l 0
theorem A4f{m:Mo}{i:Nat}(l1:∀c∈Aj m,(AS c).length<=1048576)(h:i<(Aj m).length):(AS ((Aj m).getD i default)).length<=1000000000:=by
 have:=l1 _ (Bk h); omega
theorem A4g{m:Mo}{i:Nat}(l2:∀c∈AA m,(B9 c).length<=1048576)(h:i<(AA m).length):(B9 ((AA m).getD i default)).length<=1000000000:=by
 have:=l2 _ (Bk h); omega
theorem A4h{m:Mo}{i:Nat}(l3:∀c∈Ba m,(CV c).length<=1048576)(h:i<(Ba m).length):(CV ((Ba m).getD i default)).length<=1000000000:=by
 have:=l3 _ (Bk h); omega
theorem g1{l:List Da}{i:Nat}(h:i<l.length):l.getD i default∈l:=Bk h
theorem g2{l:List Cn}{i:Nat}(h:i<l.length):l.getD i default∈l:=Bk h
theorem g3{l:List Cl}{i:Nat}(h:i<l.length):l.getD i default∈l:=Bk h
theorem g4{l:List In}{i:Nat}(h:i<l.length):l.getD i default∈l:=Bk h
theorem g5{l:List Ms}{i:Nat}(h:i<l.length):l.getD i default∈l:=Bk h
theorem g6{l:List Cs}{i:Nat}(h:i<l.length):l.getD i default∈l:=Bk h
abbrev oO(m:Mo)(o:Nat)(n0:Int)(xe:Ext)(j:Int)(n:Int)  : S:=S.mk [(1,.lp 1 0),(2,.v (.bool false)),(3,A2 n),(4,A2 (o:Int)),(5,A2 j)] [(1,E1 m)] xe
def KN  : List Cn->(Int)->(Int)
 | [],n=>(n)
 | el::r,n=>(if n<=4000 then KN  r (IntKind.wrap .i64 (IntKind.wrap .i64 (IntKind.wrap .i64 (n+1)+((EC el).length:Int))+F3 (Fp el) 4000)) else (n))
def dK(m:Mo)(o:Nat)(n0:Int)(xe:Ext)(p:(Int)):A7 × S:=(.exit 2,S.mk [(1,.lp 1 0),(2,.v (.bool false)),(3,A2 p),(4,A2 (o:Int))] [(1,E1 m)] xe)
theorem sl1(m:Mo)(o:Nat)(ho:o<(Aj m).length)(n0:Int)(xe:Ext)(hAo:∀ (c:Cn) (k:Int),c∈AS ((Aj m).getD o default)->Pu 23 [.sl 9 (Tp.cs (Fp c)),.int .i64 k] (.ret (.int .i64 (F3 (Fp c) k))))(l1:∀c∈Aj m,(AS c).length<=1048576)(n:Int)(hN:List.length ((AS ((Aj m).getD o default)))<=1000000000)  : (Ob.loop 303 (Am f8 1) (oO m o n0 xe 0 n) (dK m o n0 xe  (KN  ((AS ((Aj m).getD o default)))  n)).1 (dK m o n0 xe  (KN  ((AS ((Aj m).getD o default)))  n)).2).ok prog:=by
 refine Ek (List.length ((AS ((Aj m).getD o default)))) (fun j n=>oO m o n0 xe j n) (fun i n=>KN  (List.drop i ((AS ((Aj m).getD o default))))  n) (dK m o n0 xe) (fun i n=>True) kR ?_ n trivial
 rintro i n hi -
 rcases Nat.lt_or_ge i (List.length ((AS ((Aj m).getD o default)))) with Ad | Dm
 ·have hd:=AN Ad
  by_cases h0:n<=4000
  ·exact lN An [am ((0:Int)<=(o:Int)/\(o:Int)<((Da.cs (Aj m)).length:Int)) (by (simp only [Da.A0]; omega)),fA (Aj m) o ho,sl (Cn.A0 (AS (List.getD (Aj m) o default))),rp 3 (dt ((i:Int)<((AS (List.getD (Aj m) o default)).length:Int))),E9 h0,kp,am ((0:Int)<=(o:Int)/\(o:Int)<((Da.cs (Aj m)).length:Int)) (by (simp only [Da.A0]; omega)),fA (Aj m) o ho,am ((0:Int)<=(i:Int)/\(i:Int)<((Cn.cs (AS (List.getD (Aj m) o default))).length:Int)) (by (simp only [Cn.A0]; omega)),xCn (AS (List.getD (Aj m) o default)) i Ad,sl (A3 (EC (List.getD (AS (List.getD (Aj m) o default)) i default))),kp,am ((0:Int)<=(o:Int)/\(o:Int)<((Da.cs (Aj m)).length:Int)) (by (simp only [Da.A0]; omega)),fA (Aj m) o ho,am ((0:Int)<=(i:Int)/\(i:Int)<((Cn.cs (AS (List.getD (Aj m) o default))).length:Int)) (by (simp only [Cn.A0]; omega)),xCn (AS (List.getD (Aj m) o default)) i Ad,cl (@hAo (List.getD (AS (List.getD (Aj m) o default)) i default) (4000) (by simp_all [List.length_map,List.length_append,List.length_cons,List.length_nil,A3,Pr.A0,Tp.A0,Pm.A0,Ex.A0,Al.A0,Vr.A0,Cn.A0,Da.A0,Cl.A0,Bo.A0,Df.A0,In.A0,Cs.A0,Ms.A0,Qu.A0,Int.toNat_natCast])),kp,wr ((i:Int)+1)] Ad (IntKind.wrap .i64 (IntKind.wrap .i64 (IntKind.wrap .i64 (n+1)+((EC (List.getD (AS (List.getD (Aj m) o default)) i default)).length:Int))+F3 (Fp (List.getD (AS (List.getD (Aj m) o default)) i default)) 4000)) trivial (by rw [hd,KN,iP h0])
  ·exact lX An [am ((0:Int)<=(o:Int)/\(o:Int)<((Da.cs (Aj m)).length:Int)) (by (simp only [Da.A0]; omega)),fA (Aj m) o ho,sl (Cn.A0 (AS (List.getD (Aj m) o default))),rp 3 (dt ((i:Int)<((AS (List.getD (Aj m) o default)).length:Int))),Br h0] (n) (by rw [hd,KN,iN h0])
 ·have he:i=List.length ((AS ((Aj m).getD o default))):=by omega
  exact lX An [am ((0:Int)<=(o:Int)/\(o:Int)<((Da.cs (Aj m)).length:Int)) (by (simp only [Da.A0]; omega)),fA (Aj m) o ho,sl (Cn.A0 (AS (List.getD (Aj m) o default))),rp 3 (df ((i:Int)<((AS (List.getD (Aj m) o default)).length:Int))),bf false] (n) (by rw [he,List.drop_length,KN])
abbrev oP(m:Mo)(j:Int)(n:Int)(e:Ext):S:=S.mk [(1,.lp 1 0),(2,.v (.bool false)),(3,A2 n),(4,A2 j)] [(1,E1 m)] e
def Ih  : List Da->(Int)->(Int)
 | [],n=>(n)
 | el::r,n=>(if n<=4000 then Ih  r (KN (AS el) (IntKind.wrap .i64 (IntKind.wrap .i64 (IntKind.wrap .i64 (IntKind.wrap .i64 (n+1)+IntKind.wrap .i64 (Int.tdiv (↑(ByteArray.size (BS el)):Int) 100))+((C1 el).length:Int))+((Iq el).length:Int)))) else (n))
def dL(m:Mo)(e:Ext)(p:(Int)):A7 × S:=(.exit 0,S.mk [(1,.lp 1 0),(2,.v (.bool false)),(3,A2 p)] [(1,E1 m)] e)
theorem sl0(m:Mo)(s1:¬((Aj m).length:Int)>80)(s2:¬((AA m).length:Int)>80)(s3:¬((Bv m).length:Int)>80)(s4:¬((Ba m).length:Int)>80)(s5:¬((BM m).length:Int)>80)(s6:¬((AD m).length:Int)>80)(hA:∀ (d:Da) (c:Cn) (k:Int),d∈Aj m->c∈AS d->Pu 23 [.sl 9 (Tp.cs (Fp c)),.int .i64 k] (.ret (.int .i64 (F3 (Fp c) k))))(l1:∀c∈Aj m,(AS c).length<=1048576)(hI:∀ (k:Int),Pu 22 [.sl 25 (Df.cs (AD m)),.int .i64 k] (.ret (.int .i64 (NU (AD m) k))))(n:Int)(e:Ext)(hN:(Aj m).length<=1000000000)  : (Ob.loop 303 (Am f8 0) (oP m 0 n e) (dL m e (Ih  ((Aj m))  n)).1 (dL m e (Ih  ((Aj m))  n)).2).ok prog:=by
 refine Ek ((Aj m).length) (fun j n=>oP m j n e) (fun i n=>Ih  (List.drop i ((Aj m)))  n) (dL m e) (fun i n=>True) kR ?_ n trivial
 rintro i n hi -
 rcases Nat.lt_or_ge i ((Aj m).length) with Ad | Dm
 ·have hd:=AN Ad
  by_cases h0:n<=4000
  ·exact lN An [sl (Da.A0 (Aj m)),rp 3 (dt ((i:Int)<((Aj m).length:Int))),E9 h0,kp,am ((0:Int)<=(i:Int)/\(i:Int)<((Da.cs (Aj m)).length:Int)) (by (simp only [Da.A0]; omega)),fA (Aj m) i Ad,rp 3 (kp),ab true,am ((0:Int)<=(i:Int)/\(i:Int)<((Da.cs (Aj m)).length:Int)) (by (simp only [Da.A0]; omega)),fA (Aj m) i Ad,sl (A3 (C1 (List.getD (Aj m) i default))),kp,am ((0:Int)<=(i:Int)/\(i:Int)<((Da.cs (Aj m)).length:Int)) (by (simp only [Da.A0]; omega)),fA (Aj m) i Ad,sl (Vr.A0 (Iq (List.getD (Aj m) i default))),kp,lp (S.mk [(1,.lp 1 0),(2,.v (.bool false)),(3,A2 (IntKind.wrap .i64 (IntKind.wrap .i64 (IntKind.wrap .i64 (IntKind.wrap .i64 (n+1)+IntKind.wrap .i64 (Int.tdiv (↑(ByteArray.size (BS (List.getD (Aj m) i default))):Int) 100))+((C1 (List.getD (Aj m) i default)).length:Int))+((Iq (List.getD (Aj m) i default)).length:Int)))),(4,A2 (i:Int)),(49,A2 (i:Int)),(50,.lp 1 0),(51,vL 4 (Da.cs (Aj m))),(52,A2 ((Aj m).length:Int)),(53,.v (.bool (decide ((i:Int)<((Aj m).length:Int))))),(54,.v (.bool (decide ((i:Int)<((Aj m).length:Int))))),(55,A2 n),(56,.v (.bool (decide (n<=4000)))),(57,.v (.bool (decide (n<=4000)))),(60,A2 n),(61,A2 (IntKind.wrap .i64 (n+1))),(62,.lp 1 0),(63,vL 4 (Da.cs (Aj m))),(64,A2 (i:Int)),(65,.v (.ro (EO (List.getD (Aj m) i default)) 0)),(66,.v (.ro (EO (List.getD (Aj m) i default)) 0)),(67,vS (BS (List.getD (Aj m) i default))),(68,A2 (↑(ByteArray.size (BS (List.getD (Aj m) i default))):Int)),(69,A2 (IntKind.wrap .i64 (Int.tdiv (↑(ByteArray.size (BS (List.getD (Aj m) i default))):Int) 100))),(70,A2 (IntKind.wrap .i64 (IntKind.wrap .i64 (n+1)+IntKind.wrap .i64 (Int.tdiv (↑(ByteArray.size (BS (List.getD (Aj m) i default))):Int) 100)))),(71,.lp 1 0),(72,vL 4 (Da.cs (Aj m))),(73,A2 (i:Int)),(74,.v (.ro (EO (List.getD (Aj m) i default)) 0)),(75,.v (.ro (EO (List.getD (Aj m) i default)) 1)),(76,vL 1 (A1 (C1 (List.getD (Aj m) i default)))),(77,A2 ((C1 (List.getD (Aj m) i default)).length:Int)),(78,A2 (IntKind.wrap .i64 (IntKind.wrap .i64 (IntKind.wrap .i64 (n+1)+IntKind.wrap .i64 (Int.tdiv (↑(ByteArray.size (BS (List.getD (Aj m) i default))):Int) 100))+((C1 (List.getD (Aj m) i default)).length:Int)))),(79,.lp 1 0),(80,vL 4 (Da.cs (Aj m))),(81,A2 (i:Int)),(82,.v (.ro (EO (List.getD (Aj m) i default)) 0)),(83,.v (.ro (EO (List.getD (Aj m) i default)) 2)),(84,vL 2 (Vr.cs (Iq (List.getD (Aj m) i default)))),(85,A2 ((Iq (List.getD (Aj m) i default)).length:Int)),(86,A2 (IntKind.wrap .i64 (IntKind.wrap .i64 (IntKind.wrap .i64 (IntKind.wrap .i64 (n+1)+IntKind.wrap .i64 (Int.tdiv (↑(ByteArray.size (BS (List.getD (Aj m) i default))):Int) 100))+((C1 (List.getD (Aj m) i default)).length:Int))+((Iq (List.getD (Aj m) i default)).length:Int)))),(5,A2 0)] [(1,E1 m)] e) (@sl1 (m) (i) Ad default (e) (by (apply A97 <;> first | assumption | omega | decide)) l1 (IntKind.wrap .i64 (IntKind.wrap .i64 (IntKind.wrap .i64 (IntKind.wrap .i64 (n+1)+IntKind.wrap .i64 (Int.tdiv (↑(ByteArray.size (BS (List.getD (Aj m) i default))):Int) 100))+((C1 (List.getD (Aj m) i default)).length:Int))+((Iq (List.getD (Aj m) i default)).length:Int))) (by (apply A4f <;> first | assumption | omega | decide))) xr,wr ((i:Int)+1)] Ad (KN (AS (List.getD (Aj m) i default)) (IntKind.wrap .i64 (IntKind.wrap .i64 (IntKind.wrap .i64 (IntKind.wrap .i64 (n+1)+IntKind.wrap .i64 (Int.tdiv (↑(ByteArray.size (BS (List.getD (Aj m) i default))):Int) 100))+((C1 (List.getD (Aj m) i default)).length:Int))+((Iq (List.getD (Aj m) i default)).length:Int)))) trivial (by rw [hd,Ih,iP h0])
  ·exact lX An [sl (Da.A0 (Aj m)),rp 3 (dt ((i:Int)<((Aj m).length:Int))),Br h0] (n) (by rw [hd,Ih,iN h0])
 ·have he:i=(Aj m).length:=by omega
  exact lX An [sl (Da.A0 (Aj m)),rp 3 (df ((i:Int)<((Aj m).length:Int))),bf false] (n) (by rw [he,List.drop_length,Ih])
abbrev oQ(m:Mo)(o:Nat)(n0:Int)(xe:Ext)(j:Int)(n:Int)  : S:=S.mk [(1,.lp 1 0),(2,.v (.bool false)),(3,A2 n),(6,A2 (o:Int)),(7,A2 j)] [(1,E1 m)] xe
def KO  : List Pm->(Int)->(Int)
 | [],n=>(n)
 | el::r,n=>(if n<=4000 then KO  r (IntKind.wrap .i64 (IntKind.wrap .i64 (n+1)+F3 [Co el] 4000)) else (n))
def dM(m:Mo)(o:Nat)(n0:Int)(xe:Ext)(p:(Int)):A7 × S:=(.exit 6,S.mk [(1,.lp 1 0),(2,.v (.bool false)),(3,A2 p),(6,A2 (o:Int))] [(1,E1 m)] xe)
theorem sl3(m:Mo)(o:Nat)(ho:o<(AA m).length)(n0:Int)(xe:Ext)(hBo:∀ (p:Pm) (k:Int),p∈B9 ((AA m).getD o default)->Pu 23 [.sl 9 [BI (Co p)],.int .i64 k] (.ret (.int .i64 (F3 [Co p] k))))(l2:∀c∈AA m,(B9 c).length<=1048576)(n:Int)(hN:List.length ((B9 ((AA m).getD o default)))<=1000000000)  : (Ob.loop 303 (Am f8 3) (oQ m o n0 xe 0 n) (dM m o n0 xe  (KO  ((B9 ((AA m).getD o default)))  n)).1 (dM m o n0 xe  (KO  ((B9 ((AA m).getD o default)))  n)).2).ok prog:=by
 refine Ek (List.length ((B9 ((AA m).getD o default)))) (fun j n=>oQ m o n0 xe j n) (fun i n=>KO  (List.drop i ((B9 ((AA m).getD o default))))  n) (dM m o n0 xe) (fun i n=>True) kR ?_ n trivial
 rintro i n hi -
 rcases Nat.lt_or_ge i (List.length ((B9 ((AA m).getD o default)))) with Ad | Dm
 ·have hd:=AN Ad
  by_cases h0:n<=4000
  ·exact lN An [am ((0:Int)<=(o:Int)/\(o:Int)<((Cl.cs (AA m)).length:Int)) (by (simp only [Cl.A0]; omega)),rJ (AA m) o ho,sl (Pm.A0 (B9 (List.getD (AA m) o default))),rp 3 (dt ((i:Int)<((B9 (List.getD (AA m) o default)).length:Int))),E9 h0,kp,am ((0:Int)<=(o:Int)/\(o:Int)<((Cl.cs (AA m)).length:Int)) (by (simp only [Cl.A0]; omega)),rJ (AA m) o ho,am ((0:Int)<=(i:Int)/\(i:Int)<((Pm.cs (B9 (List.getD (AA m) o default))).length:Int)) (by (simp only [Pm.A0]; omega)),rG (B9 (List.getD (AA m) o default)) i Ad,cl (@hBo (List.getD (B9 (List.getD (AA m) o default)) i default) (4000) (by simp_all [List.length_map,List.length_append,List.length_cons,List.length_nil,A3,Pr.A0,Tp.A0,Pm.A0,Ex.A0,Al.A0,Vr.A0,Cn.A0,Da.A0,Cl.A0,Bo.A0,Df.A0,In.A0,Cs.A0,Ms.A0,Qu.A0,Int.toNat_natCast])),kp,wr ((i:Int)+1)] Ad (IntKind.wrap .i64 (IntKind.wrap .i64 (n+1)+F3 [Co (List.getD (B9 (List.getD (AA m) o default)) i default)] 4000)) trivial (by rw [hd,KO,iP h0])
  ·exact lX An [am ((0:Int)<=(o:Int)/\(o:Int)<((Cl.cs (AA m)).length:Int)) (by (simp only [Cl.A0]; omega)),rJ (AA m) o ho,sl (Pm.A0 (B9 (List.getD (AA m) o default))),rp 3 (dt ((i:Int)<((B9 (List.getD (AA m) o default)).length:Int))),Br h0] (n) (by rw [hd,KO,iN h0])
 ·have he:i=List.length ((B9 ((AA m).getD o default))):=by omega
  exact lX An [am ((0:Int)<=(o:Int)/\(o:Int)<((Cl.cs (AA m)).length:Int)) (by (simp only [Cl.A0]; omega)),rJ (AA m) o ho,sl (Pm.A0 (B9 (List.getD (AA m) o default))),rp 3 (df ((i:Int)<((B9 (List.getD (AA m) o default)).length:Int))),bf false] (n) (by rw [he,List.drop_length,KO])
abbrev oS(m:Mo)(j:Int)(n:Int)(e:Ext):S:=S.mk [(1,.lp 1 0),(2,.v (.bool false)),(3,A2 n),(6,A2 j)] [(1,E1 m)] e
def J2  : List Cl->(Int)->(Int)
 | [],n=>(n)
 | el::r,n=>(if n<=4000 then J2  r (KO (B9 el) n) else (n))
def dN(m:Mo)(e:Ext)(p:(Int)):A7 × S:=(.exit 4,S.mk [(1,.lp 1 0),(2,.v (.bool false)),(3,A2 p)] [(1,E1 m)] e)
theorem sl2(m:Mo)(s1:¬((Aj m).length:Int)>80)(s2:¬((AA m).length:Int)>80)(s3:¬((Bv m).length:Int)>80)(s4:¬((Ba m).length:Int)>80)(s5:¬((BM m).length:Int)>80)(s6:¬((AD m).length:Int)>80)(hA:∀ (d:Da) (c:Cn) (k:Int),d∈Aj m->c∈AS d->Pu 23 [.sl 9 (Tp.cs (Fp c)),.int .i64 k] (.ret (.int .i64 (F3 (Fp c) k))))(l1:∀c∈Aj m,(AS c).length<=1048576)(hI:∀ (k:Int),Pu 22 [.sl 25 (Df.cs (AD m)),.int .i64 k] (.ret (.int .i64 (NU (AD m) k))))(hB:∀ (c:Cl) (p:Pm) (k:Int),c∈AA m->p∈B9 c->Pu 23 [.sl 9 [BI (Co p)],.int .i64 k] (.ret (.int .i64 (F3 [Co p] k))))(l2:∀c∈AA m,(B9 c).length<=1048576)(n:Int)(e:Ext)(hN:(AA m).length<=1000000000)  : (Ob.loop 303 (Am f8 2) (oS m 0 n e) (dN m e (J2  ((AA m))  n)).1 (dN m e (J2  ((AA m))  n)).2).ok prog:=by
 refine Ek ((AA m).length) (fun j n=>oS m j n e) (fun i n=>J2  (List.drop i ((AA m)))  n) (dN m e) (fun i n=>True) kR ?_ n trivial
 rintro i n hi -
 rcases Nat.lt_or_ge i ((AA m).length) with Ad | Dm
 ·have hd:=AN Ad
  by_cases h0:n<=4000
  ·exact lN An [sl (Cl.A0 (AA m)),rp 3 (dt ((i:Int)<((AA m).length:Int))),E9 h0,lp (S.mk [(1,.lp 1 0),(2,.v (.bool false)),(3,A2 n),(6,A2 (i:Int)),(128,A2 (i:Int)),(129,.lp 1 1),(130,vL 3 (Cl.cs (AA m))),(131,A2 ((AA m).length:Int)),(132,.v (.bool (decide ((i:Int)<((AA m).length:Int))))),(133,.v (.bool (decide ((i:Int)<((AA m).length:Int))))),(134,A2 n),(135,.v (.bool (decide (n<=4000)))),(136,.v (.bool (decide (n<=4000)))),(7,A2 0)] [(1,E1 m)] e) (@sl3 (m) (i) Ad default (e) (by (apply A98 <;> first | assumption | omega | decide)) l2 (n) (by (apply A4g <;> first | assumption | omega | decide))) xr,wr ((i:Int)+1)] Ad (KO (B9 (List.getD (AA m) i default)) n) trivial (by rw [hd,J2,iP h0])
  ·exact lX An [sl (Cl.A0 (AA m)),rp 3 (dt ((i:Int)<((AA m).length:Int))),Br h0] (n) (by rw [hd,J2,iN h0])
 ·have he:i=(AA m).length:=by omega
  exact lX An [sl (Cl.A0 (AA m)),rp 3 (df ((i:Int)<((AA m).length:Int))),bf false] (n) (by rw [he,List.drop_length,J2])
abbrev oU(m:Mo)(j:Int)(n:Int)(e:Ext):S:=S.mk [(1,.lp 1 0),(2,.v (.bool false)),(3,A2 n),(8,A2 j)] [(1,E1 m)] e
def JG  : List In->(Int)->(Int)
 | [],n=>(n)
 | el::r,n=>(if n<=4000 then JG  r (IntKind.wrap .i64 (IntKind.wrap .i64 (IntKind.wrap .i64 (IntKind.wrap .i64 (n+1)+((Z8 el).length:Int))+F3 [CU el] 4000)+NU (Nn el) 4000)) else (n))
def dO(m:Mo)(e:Ext)(p:(Int)):A7 × S:=(.exit 8,S.mk [(1,.lp 1 0),(2,.v (.bool false)),(3,A2 p)] [(1,E1 m)] e)
theorem sl4(m:Mo)(s1:¬((Aj m).length:Int)>80)(s2:¬((AA m).length:Int)>80)(s3:¬((Bv m).length:Int)>80)(s4:¬((Ba m).length:Int)>80)(s5:¬((BM m).length:Int)>80)(s6:¬((AD m).length:Int)>80)(hA:∀ (d:Da) (c:Cn) (k:Int),d∈Aj m->c∈AS d->Pu 23 [.sl 9 (Tp.cs (Fp c)),.int .i64 k] (.ret (.int .i64 (F3 (Fp c) k))))(l1:∀c∈Aj m,(AS c).length<=1048576)(hI:∀ (k:Int),Pu 22 [.sl 25 (Df.cs (AD m)),.int .i64 k] (.ret (.int .i64 (NU (AD m) k))))(hB:∀ (c:Cl) (p:Pm) (k:Int),c∈AA m->p∈B9 c->Pu 23 [.sl 9 [BI (Co p)],.int .i64 k] (.ret (.int .i64 (F3 [Co p] k))))(l2:∀c∈AA m,(B9 c).length<=1048576)(hC:∀ (x:In) (k:Int),x∈Bv m->Pu 23 [.sl 9 [BI (CU x)],.int .i64 k] (.ret (.int .i64 (F3 [CU x] k))))(hD:∀ (x:In) (k:Int),x∈Bv m->Pu 22 [.sl 25 (Df.cs (Nn x)),.int .i64 k] (.ret (.int .i64 (NU (Nn x) k))))(n:Int)(e:Ext)(hN:(Bv m).length<=1000000000)  : (Ob.loop 303 (Am f8 4) (oU m 0 n e) (dO m e (JG  ((Bv m))  n)).1 (dO m e (JG  ((Bv m))  n)).2).ok prog:=by
 refine Ek ((Bv m).length) (fun j n=>oU m j n e) (fun i n=>JG  (List.drop i ((Bv m)))  n) (dO m e) (fun i n=>True) kR ?_ n trivial
 rintro i n hi -
 rcases Nat.lt_or_ge i ((Bv m).length) with Ad | Dm
 ·have hd:=AN Ad
  by_cases h0:n<=4000
  ·exact lN An [sl (In.A0 (Bv m)),rp 3 (dt ((i:Int)<((Bv m).length:Int))),E9 h0,kp,am ((0:Int)<=(i:Int)/\(i:Int)<((In.cs (Bv m)).length:Int)) (by (simp only [In.A0]; omega)),xIn (Bv m) i Ad,sl (Vr.A0 (Z8 (List.getD (Bv m) i default))),kp,am ((0:Int)<=(i:Int)/\(i:Int)<((In.cs (Bv m)).length:Int)) (by (simp only [In.A0]; omega)),xIn (Bv m) i Ad,cl (@hC (List.getD (Bv m) i default) (4000) (by simp_all [List.length_map,List.length_append,List.length_cons,List.length_nil,A3,Pr.A0,Tp.A0,Pm.A0,Ex.A0,Al.A0,Vr.A0,Cn.A0,Da.A0,Cl.A0,Bo.A0,Df.A0,In.A0,Cs.A0,Ms.A0,Qu.A0,Int.toNat_natCast])),kp,am ((0:Int)<=(i:Int)/\(i:Int)<((In.cs (Bv m)).length:Int)) (by (simp only [In.A0]; omega)),xIn (Bv m) i Ad,cl (@hD (List.getD (Bv m) i default) (4000) (by simp_all [List.length_map,List.length_append,List.length_cons,List.length_nil,A3,Pr.A0,Tp.A0,Pm.A0,Ex.A0,Al.A0,Vr.A0,Cn.A0,Da.A0,Cl.A0,Bo.A0,Df.A0,In.A0,Cs.A0,Ms.A0,Qu.A0,Int.toNat_natCast])),kp,wr ((i:Int)+1)] Ad (IntKind.wrap .i64 (IntKind.wrap .i64 (IntKind.wrap .i64 (IntKind.wrap .i64 (n+1)+((Z8 (List.getD (Bv m) i default)).length:Int))+F3 [CU (List.getD (Bv m) i default)] 4000)+NU (Nn (List.getD (Bv m) i default)) 4000)) trivial (by rw [hd,JG,iP h0])
  ·exact lX An [sl (In.A0 (Bv m)),rp 3 (dt ((i:Int)<((Bv m).length:Int))),Br h0] (n) (by rw [hd,JG,iN h0])
 ·have he:i=(Bv m).length:=by omega
  exact lX An [sl (In.A0 (Bv m)),rp 3 (df ((i:Int)<((Bv m).length:Int))),bf false] (n) (by rw [he,List.drop_length,JG])
abbrev oV(m:Mo)(o:Nat)(n0:Int)(xe:Ext)(j:Int)(n:Int)  : S:=S.mk [(1,.lp 1 0),(2,.v (.bool false)),(3,A2 n),(9,A2 (o:Int)),(10,A2 j)] [(1,E1 m)] xe
def KP  : List Cs->(Int)->(Int)
 | [],n=>(n)
 | el::r,n=>(if n<=4000 then KP  r (IntKind.wrap .i64 (IntKind.wrap .i64 (IntKind.wrap .i64 (n+1)+((Is el).length:Int))+GN [Ll el] 4000)) else (n))
def dP(m:Mo)(o:Nat)(n0:Int)(xe:Ext)(p:(Int)):A7 × S:=(.exit 12,S.mk [(1,.lp 1 0),(2,.v (.bool false)),(3,A2 p),(9,A2 (o:Int))] [(1,E1 m)] xe)
theorem sl6(m:Mo)(o:Nat)(ho:o<(Ba m).length)(n0:Int)(xe:Ext)(hGo:∀ (c:Cs) (k:Int),c∈CV ((Ba m).getD o default)->Pu 24 [.sl 4 [CI (Ll c)],.int .i64 k] (.ret (.int .i64 (GN [Ll c] k))))(l3:∀c∈Ba m,(CV c).length<=1048576)(n:Int)(hN:List.length ((CV ((Ba m).getD o default)))<=1000000000)  : (Ob.loop 303 (Am f8 6) (oV m o n0 xe 0 n) (dP m o n0 xe  (KP  ((CV ((Ba m).getD o default)))  n)).1 (dP m o n0 xe  (KP  ((CV ((Ba m).getD o default)))  n)).2).ok prog:=by
 refine Ek (List.length ((CV ((Ba m).getD o default)))) (fun j n=>oV m o n0 xe j n) (fun i n=>KP  (List.drop i ((CV ((Ba m).getD o default))))  n) (dP m o n0 xe) (fun i n=>True) kR ?_ n trivial
 rintro i n hi -
 rcases Nat.lt_or_ge i (List.length ((CV ((Ba m).getD o default)))) with Ad | Dm
 ·have hd:=AN Ad
  by_cases h0:n<=4000
  ·exact lN An [am ((0:Int)<=(o:Int)/\(o:Int)<((Ms.cs (Ba m)).length:Int)) (by (simp only [Ms.A0]; omega)),xU (Ba m) o ho,sl (Cs.A0 (CV (List.getD (Ba m) o default))),rp 3 (dt ((i:Int)<((CV (List.getD (Ba m) o default)).length:Int))),E9 h0,kp,am ((0:Int)<=(o:Int)/\(o:Int)<((Ms.cs (Ba m)).length:Int)) (by (simp only [Ms.A0]; omega)),xU (Ba m) o ho,am ((0:Int)<=(i:Int)/\(i:Int)<((Cs.cs (CV (List.getD (Ba m) o default))).length:Int)) (by (simp only [Cs.A0]; omega)),xCs (CV (List.getD (Ba m) o default)) i Ad,sl (A3 (Is (List.getD (CV (List.getD (Ba m) o default)) i default))),kp,am ((0:Int)<=(o:Int)/\(o:Int)<((Ms.cs (Ba m)).length:Int)) (by (simp only [Ms.A0]; omega)),xU (Ba m) o ho,am ((0:Int)<=(i:Int)/\(i:Int)<((Cs.cs (CV (List.getD (Ba m) o default))).length:Int)) (by (simp only [Cs.A0]; omega)),xCs (CV (List.getD (Ba m) o default)) i Ad,cl (@hGo (List.getD (CV (List.getD (Ba m) o default)) i default) (4000) (by simp_all [List.length_map,List.length_append,List.length_cons,List.length_nil,A3,Pr.A0,Tp.A0,Pm.A0,Ex.A0,Al.A0,Vr.A0,Cn.A0,Da.A0,Cl.A0,Bo.A0,Df.A0,In.A0,Cs.A0,Ms.A0,Qu.A0,Int.toNat_natCast])),kp,wr ((i:Int)+1)] Ad (IntKind.wrap .i64 (IntKind.wrap .i64 (IntKind.wrap .i64 (n+1)+((Is (List.getD (CV (List.getD (Ba m) o default)) i default)).length:Int))+GN [Ll (List.getD (CV (List.getD (Ba m) o default)) i default)] 4000)) trivial (by rw [hd,KP,iP h0])
  ·exact lX An [am ((0:Int)<=(o:Int)/\(o:Int)<((Ms.cs (Ba m)).length:Int)) (by (simp only [Ms.A0]; omega)),xU (Ba m) o ho,sl (Cs.A0 (CV (List.getD (Ba m) o default))),rp 3 (dt ((i:Int)<((CV (List.getD (Ba m) o default)).length:Int))),Br h0] (n) (by rw [hd,KP,iN h0])
 ·have he:i=List.length ((CV ((Ba m).getD o default))):=by omega
  exact lX An [am ((0:Int)<=(o:Int)/\(o:Int)<((Ms.cs (Ba m)).length:Int)) (by (simp only [Ms.A0]; omega)),xU (Ba m) o ho,sl (Cs.A0 (CV (List.getD (Ba m) o default))),rp 3 (df ((i:Int)<((CV (List.getD (Ba m) o default)).length:Int))),bf false] (n) (by rw [he,List.drop_length,KP])
abbrev oW(m:Mo)(j:Int)(n:Int)(e:Ext):S:=S.mk [(1,.lp 1 0),(2,.v (.bool false)),(3,A2 n),(9,A2 j)] [(1,E1 m)] e
def KQ  : List Ms->(Int)->(Int)
 | [],n=>(n)
 | el::r,n=>(if n<=4000 then KQ  r (KP (CV el) (IntKind.wrap .i64 (IntKind.wrap .i64 (n+1)+GN [J9 el] 4000))) else (n))
def dQ(m:Mo)(e:Ext)(p:(Int)):A7 × S:=(.exit 10,S.mk [(1,.lp 1 0),(2,.v (.bool false)),(3,A2 p)] [(1,E1 m)] e)
theorem sl5(m:Mo)(s1:¬((Aj m).length:Int)>80)(s2:¬((AA m).length:Int)>80)(s3:¬((Bv m).length:Int)>80)(s4:¬((Ba m).length:Int)>80)(s5:¬((BM m).length:Int)>80)(s6:¬((AD m).length:Int)>80)(hA:∀ (d:Da) (c:Cn) (k:Int),d∈Aj m->c∈AS d->Pu 23 [.sl 9 (Tp.cs (Fp c)),.int .i64 k] (.ret (.int .i64 (F3 (Fp c) k))))(l1:∀c∈Aj m,(AS c).length<=1048576)(hI:∀ (k:Int),Pu 22 [.sl 25 (Df.cs (AD m)),.int .i64 k] (.ret (.int .i64 (NU (AD m) k))))(hB:∀ (c:Cl) (p:Pm) (k:Int),c∈AA m->p∈B9 c->Pu 23 [.sl 9 [BI (Co p)],.int .i64 k] (.ret (.int .i64 (F3 [Co p] k))))(l2:∀c∈AA m,(B9 c).length<=1048576)(hC:∀ (x:In) (k:Int),x∈Bv m->Pu 23 [.sl 9 [BI (CU x)],.int .i64 k] (.ret (.int .i64 (F3 [CU x] k))))(hD:∀ (x:In) (k:Int),x∈Bv m->Pu 22 [.sl 25 (Df.cs (Nn x)),.int .i64 k] (.ret (.int .i64 (NU (Nn x) k))))(hE:∀ (x:Ms) (k:Int),x∈Ba m->Pu 24 [.sl 4 [CI (J9 x)],.int .i64 k] (.ret (.int .i64 (GN [J9 x] k))))(hG:∀ (x:Ms) (c:Cs) (k:Int),x∈Ba m->c∈CV x->Pu 24 [.sl 4 [CI (Ll c)],.int .i64 k] (.ret (.int .i64 (GN [Ll c] k))))(l3:∀c∈Ba m,(CV c).length<=1048576)(n:Int)(e:Ext)(hN:(Ba m).length<=1000000000)  : (Ob.loop 303 (Am f8 5) (oW m 0 n e) (dQ m e (KQ  ((Ba m))  n)).1 (dQ m e (KQ  ((Ba m))  n)).2).ok prog:=by
 refine Ek ((Ba m).length) (fun j n=>oW m j n e) (fun i n=>KQ  (List.drop i ((Ba m)))  n) (dQ m e) (fun i n=>True) kR ?_ n trivial
 rintro i n hi -
 rcases Nat.lt_or_ge i ((Ba m).length) with Ad | Dm
 ·have hd:=AN Ad
  by_cases h0:n<=4000
  ·exact lN An [sl (Ms.A0 (Ba m)),rp 3 (dt ((i:Int)<((Ba m).length:Int))),E9 h0,kp,am ((0:Int)<=(i:Int)/\(i:Int)<((Ms.cs (Ba m)).length:Int)) (by (simp only [Ms.A0]; omega)),xU (Ba m) i Ad,cl (@hE (List.getD (Ba m) i default) (4000) (by simp_all [List.length_map,List.length_append,List.length_cons,List.length_nil,A3,Pr.A0,Tp.A0,Pm.A0,Ex.A0,Al.A0,Vr.A0,Cn.A0,Da.A0,Cl.A0,Bo.A0,Df.A0,In.A0,Cs.A0,Ms.A0,Qu.A0,Int.toNat_natCast])),kp,lp (S.mk [(1,.lp 1 0),(2,.v (.bool false)),(3,A2 (IntKind.wrap .i64 (IntKind.wrap .i64 (n+1)+GN [J9 (List.getD (Ba m) i default)] 4000))),(9,A2 (i:Int)),(207,A2 (i:Int)),(208,.lp 1 3),(209,vL 8 (Ms.cs (Ba m))),(210,A2 ((Ba m).length:Int)),(211,.v (.bool (decide ((i:Int)<((Ba m).length:Int))))),(212,.v (.bool (decide ((i:Int)<((Ba m).length:Int))))),(213,A2 n),(214,.v (.bool (decide (n<=4000)))),(215,.v (.bool (decide (n<=4000)))),(218,A2 n),(219,A2 (IntKind.wrap .i64 (n+1))),(220,.lp 1 3),(221,vL 8 (Ms.cs (Ba m))),(222,A2 (i:Int)),(223,.v (.ro (M7 (List.getD (Ba m) i default)) 0)),(224,.v (.ro (M7 (List.getD (Ba m) i default)) 4)),(225,.v (.agg (CI (J9 (List.getD (Ba m) i default))))),(226,LV.full 4 [CI (J9 (List.getD (Ba m) i default))]),(227,A2 (GN [J9 (List.getD (Ba m) i default)] 4000)),(228,A2 (IntKind.wrap .i64 (IntKind.wrap .i64 (n+1)+GN [J9 (List.getD (Ba m) i default)] 4000))),(10,A2 0)] [(1,E1 m)] e) (@sl6 (m) (i) Ad default (e) (by (apply A99 <;> first | assumption | omega | decide)) l3 (IntKind.wrap .i64 (IntKind.wrap .i64 (n+1)+GN [J9 (List.getD (Ba m) i default)] 4000)) (by (apply A4h <;> first | assumption | omega | decide))) xr,wr ((i:Int)+1)] Ad (KP (CV (List.getD (Ba m) i default)) (IntKind.wrap .i64 (IntKind.wrap .i64 (n+1)+GN [J9 (List.getD (Ba m) i default)] 4000))) trivial (by rw [hd,KQ,iP h0])
  ·exact lX An [sl (Ms.A0 (Ba m)),rp 3 (dt ((i:Int)<((Ba m).length:Int))),Br h0] (n) (by rw [hd,KQ,iN h0])
 ·have he:i=(Ba m).length:=by omega
  exact lX An [sl (Ms.A0 (Ba m)),rp 3 (df ((i:Int)<((Ba m).length:Int))),bf false] (n) (by rw [he,List.drop_length,KQ])
abbrev oX(m:Mo)(j:Int)(n:Int)(e:Ext):S:=S.mk [(1,.lp 1 0),(2,.v (.bool false)),(3,A2 n),(11,A2 j)] [(1,E1 m)] e
def LZ  : List Qu->(Int)->(Int)
 | [],n=>(n)
 | el::r,n=>(if n<=4000 then LZ  r (IntKind.wrap .i64 (IntKind.wrap .i64 (IntKind.wrap .i64 (n+1)+((quW el).length:Int))+GN [P9 el] 4000)) else (n))
def dR(m:Mo)(e:Ext)(p:(Int)):A7 × S:=(.exit 14,S.mk [(1,.lp 1 0),(2,.v (.bool false)),(3,A2 p)] [(1,E1 m)] e)
theorem sl7(m:Mo)(s1:¬((Aj m).length:Int)>80)(s2:¬((AA m).length:Int)>80)(s3:¬((Bv m).length:Int)>80)(s4:¬((Ba m).length:Int)>80)(s5:¬((BM m).length:Int)>80)(s6:¬((AD m).length:Int)>80)(hA:∀ (d:Da) (c:Cn) (k:Int),d∈Aj m->c∈AS d->Pu 23 [.sl 9 (Tp.cs (Fp c)),.int .i64 k] (.ret (.int .i64 (F3 (Fp c) k))))(l1:∀c∈Aj m,(AS c).length<=1048576)(hI:∀ (k:Int),Pu 22 [.sl 25 (Df.cs (AD m)),.int .i64 k] (.ret (.int .i64 (NU (AD m) k))))(hB:∀ (c:Cl) (p:Pm) (k:Int),c∈AA m->p∈B9 c->Pu 23 [.sl 9 [BI (Co p)],.int .i64 k] (.ret (.int .i64 (F3 [Co p] k))))(l2:∀c∈AA m,(B9 c).length<=1048576)(hC:∀ (x:In) (k:Int),x∈Bv m->Pu 23 [.sl 9 [BI (CU x)],.int .i64 k] (.ret (.int .i64 (F3 [CU x] k))))(hD:∀ (x:In) (k:Int),x∈Bv m->Pu 22 [.sl 25 (Df.cs (Nn x)),.int .i64 k] (.ret (.int .i64 (NU (Nn x) k))))(hE:∀ (x:Ms) (k:Int),x∈Ba m->Pu 24 [.sl 4 [CI (J9 x)],.int .i64 k] (.ret (.int .i64 (GN [J9 x] k))))(hG:∀ (x:Ms) (c:Cs) (k:Int),x∈Ba m->c∈CV x->Pu 24 [.sl 4 [CI (Ll c)],.int .i64 k] (.ret (.int .i64 (GN [Ll c] k))))(l3:∀c∈Ba m,(CV c).length<=1048576)(hH:∀ (x:Qu) (k:Int),x∈BM m->Pu 24 [.sl 4 [CI (P9 x)],.int .i64 k] (.ret (.int .i64 (GN [P9 x] k))))(n:Int)(e:Ext)(hN:(BM m).length<=1000000000)  : (Ob.loop 303 (Am f8 7) (oX m 0 n e) (dR m e (LZ  ((BM m))  n)).1 (dR m e (LZ  ((BM m))  n)).2).ok prog:=by
 refine Ek ((BM m).length) (fun j n=>oX m j n e) (fun i n=>LZ  (List.drop i ((BM m)))  n) (dR m e) (fun i n=>True) kR ?_ n trivial
 rintro i n hi -
 rcases Nat.lt_or_ge i ((BM m).length) with Ad | Dm
 ·have hd:=AN Ad
  by_cases h0:n<=4000
  ·exact lN An [sl (Qu.A0 (BM m)),rp 3 (dt ((i:Int)<((BM m).length:Int))),E9 h0,kp,am ((0:Int)<=(i:Int)/\(i:Int)<((Qu.cs (BM m)).length:Int)) (by (simp only [Qu.A0]; omega)),xQu (BM m) i Ad,sl (Vr.A0 (quW (List.getD (BM m) i default))),kp,am ((0:Int)<=(i:Int)/\(i:Int)<((Qu.cs (BM m)).length:Int)) (by (simp only [Qu.A0]; omega)),xQu (BM m) i Ad,cl (@hH (List.getD (BM m) i default) (4000) (by simp_all [List.length_map,List.length_append,List.length_cons,List.length_nil,A3,Pr.A0,Tp.A0,Pm.A0,Ex.A0,Al.A0,Vr.A0,Cn.A0,Da.A0,Cl.A0,Bo.A0,Df.A0,In.A0,Cs.A0,Ms.A0,Qu.A0,Int.toNat_natCast])),kp,wr ((i:Int)+1)] Ad (IntKind.wrap .i64 (IntKind.wrap .i64 (IntKind.wrap .i64 (n+1)+((quW (List.getD (BM m) i default)).length:Int))+GN [P9 (List.getD (BM m) i default)] 4000)) trivial (by rw [hd,LZ,iP h0])
  ·exact lX An [sl (Qu.A0 (BM m)),rp 3 (dt ((i:Int)<((BM m).length:Int))),Br h0] (n) (by rw [hd,LZ,iN h0])
 ·have he:i=(BM m).length:=by omega
  exact lX An [sl (Qu.A0 (BM m)),rp 3 (df ((i:Int)<((BM m).length:Int))),bf false] (n) (by rw [he,List.drop_length,LZ])
section
variable (m:Mo) (hA:∀ (d:Da) (c:Cn) (k:Int),d∈Aj m->c∈AS d->Pu 23 [.sl 9 (Tp.cs (Fp c)),.int .i64 k] (.ret (.int .i64 (F3 (Fp c) k)))) (l1:∀c∈Aj m,(AS c).length<=1048576) (hI:∀ (k:Int),Pu 22 [.sl 25 (Df.cs (AD m)),.int .i64 k] (.ret (.int .i64 (NU (AD m) k)))) (hB:∀ (c:Cl) (p:Pm) (k:Int),c∈AA m->p∈B9 c->Pu 23 [.sl 9 [BI (Co p)],.int .i64 k] (.ret (.int .i64 (F3 [Co p] k)))) (l2:∀c∈AA m,(B9 c).length<=1048576) (hC:∀ (x:In) (k:Int),x∈Bv m->Pu 23 [.sl 9 [BI (CU x)],.int .i64 k] (.ret (.int .i64 (F3 [CU x] k)))) (hD:∀ (x:In) (k:Int),x∈Bv m->Pu 22 [.sl 25 (Df.cs (Nn x)),.int .i64 k] (.ret (.int .i64 (NU (Nn x) k)))) (hE:∀ (x:Ms) (k:Int),x∈Ba m->Pu 24 [.sl 4 [CI (J9 x)],.int .i64 k] (.ret (.int .i64 (GN [J9 x] k)))) (hG:∀ (x:Ms) (c:Cs) (k:Int),x∈Ba m->c∈CV x->Pu 24 [.sl 4 [CI (Ll c)],.int .i64 k] (.ret (.int .i64 (GN [Ll c] k)))) (l3:∀c∈Ba m,(CV c).length<=1048576) (hH:∀ (x:Qu) (k:Int),x∈BM m->Pu 24 [.sl 4 [CI (P9 x)],.int .i64 k] (.ret (.int .i64 (GN [P9 x] k))))
include m hA l1 hI hB l2 hC hD hE hG l3 hH
theorem A4i(Ak:((Aj m).length:Int)>80):Pu 8 [.agg (DJ m)] (rB false):=
 pm An [sl (Da.A0 (Aj m)),rp 5 (E9 Ak),rp 21 (bt true)] func8
theorem A4j(Ak:¬((Aj m).length:Int)>80)(Au:((AA m).length:Int)>80):Pu 8 [.agg (DJ m)] (rB false):=
 pm An [sl (Da.A0 (Aj m)),rp 3 (Br Ak),sl (Cl.A0 (AA m)),rp 2 (Br Ak),rp 5 (E9 Au),rp 16 (bt true)] func8
theorem A4k(Ak:¬((Aj m).length:Int)>80)(Au:¬((AA m).length:Int)>80)(AW:((Bv m).length:Int)>80):Pu 8 [.agg (DJ m)] (rB false):=
 pm An [sl (Da.A0 (Aj m)),rp 3 (Br Ak),sl (Cl.A0 (AA m)),rp 2 (Br Ak),rp 3 (Br Au),sl (In.A0 (Bv m)),rp 2 (Br Au),rp 5 (E9 AW),rp 11 (bt true)] func8
theorem A4l(Ak:¬((Aj m).length:Int)>80)(Au:¬((AA m).length:Int)>80)(AW:¬((Bv m).length:Int)>80)(Bt:((Ba m).length:Int)>80):Pu 8 [.agg (DJ m)] (rB false):=
 pm An [sl (Da.A0 (Aj m)),rp 3 (Br Ak),sl (Cl.A0 (AA m)),rp 2 (Br Ak),rp 3 (Br Au),sl (In.A0 (Bv m)),rp 2 (Br Au),rp 3 (Br AW),sl (Ms.A0 (Ba m)),rp 2 (Br AW),rp 5 (E9 Bt),rp 6 (bt true)] func8
theorem A4m(Ak:¬((Aj m).length:Int)>80)(Au:¬((AA m).length:Int)>80)(AW:¬((Bv m).length:Int)>80)(Bt:¬((Ba m).length:Int)>80)(CJ:((BM m).length:Int)>80):Pu 8 [.agg (DJ m)] (rB false):=
 pm An [sl (Da.A0 (Aj m)),rp 3 (Br Ak),sl (Cl.A0 (AA m)),rp 2 (Br Ak),rp 3 (Br Au),sl (In.A0 (Bv m)),rp 2 (Br Au),rp 3 (Br AW),sl (Ms.A0 (Ba m)),rp 2 (Br AW),rp 3 (Br Bt),sl (Qu.A0 (BM m)),rp 2 (Br Bt),rp 5 (E9 CJ),bt true] func8
theorem A4n(Ak:¬((Aj m).length:Int)>80)(Au:¬((AA m).length:Int)>80)(AW:¬((Bv m).length:Int)>80)(Bt:¬((Ba m).length:Int)>80)(CJ:¬((BM m).length:Int)>80)(ED:((AD m).length:Int)>80):Pu 8 [.agg (DJ m)] (rB false):=
 pm An [sl (Da.A0 (Aj m)),rp 3 (Br Ak),sl (Cl.A0 (AA m)),rp 2 (Br Ak),rp 3 (Br Au),sl (In.A0 (Bv m)),rp 2 (Br Au),rp 3 (Br AW),sl (Ms.A0 (Ba m)),rp 2 (Br AW),rp 3 (Br Bt),sl (Qu.A0 (BM m)),rp 2 (Br Bt),rp 3 (Br CJ),sl (Df.A0 (AD m)),rp 2 (Br CJ),E9 ED] func8
theorem A4o(Ak:¬((Aj m).length:Int)>80)(Au:¬((AA m).length:Int)>80)(AW:¬((Bv m).length:Int)>80)(Bt:¬((Ba m).length:Int)>80)(CJ:¬((BM m).length:Int)>80)(ED:¬((AD m).length:Int)>80):Pu 8 [.agg (DJ m)] (rB (decide (LZ (BM m) (KQ (Ba m) (JG (Bv m) (J2 (AA m) (Ih (Aj m) (NU (AD m) 4000)))))<=4000))):=
 pu An (fun e=>[sl (Da.A0 (Aj m)),rp 3 (Br Ak),sl (Cl.A0 (AA m)),rp 2 (Br Ak),rp 3 (Br Au),sl (In.A0 (Bv m)),rp 2 (Br Au),rp 3 (Br AW),sl (Ms.A0 (Ba m)),rp 2 (Br AW),rp 3 (Br Bt),sl (Qu.A0 (BM m)),rp 2 (Br Bt),rp 3 (Br CJ),sl (Df.A0 (AD m)),rp 2 (Br CJ),Br ED,cl (@hI (4000)),lp (S.mk [(0,.v (.agg (DJ m))),(1,.lp 1 0),(2,.v (.bool false)),(12,.lp 1 0),(13,vL 4 (Da.cs (Aj m))),(14,A2 ((Aj m).length:Int)),(15,.v (.bool (decide (((Aj m).length:Int)>80)))),(16,.v (.bool (decide (((Aj m).length:Int)>80)))),(17,.lp 1 1),(18,vL 3 (Cl.cs (AA m))),(19,A2 ((AA m).length:Int)),(20,.v (.bool (decide (((AA m).length:Int)>80)))),(21,.v (.bool (decide (((AA m).length:Int)>80)))),(22,.v (.bool (decide (((AA m).length:Int)>80)))),(23,.lp 1 2),(24,vL 12 (In.cs (Bv m))),(25,A2 ((Bv m).length:Int)),(26,.v (.bool (decide (((Bv m).length:Int)>80)))),(27,.v (.bool (decide (((Bv m).length:Int)>80)))),(28,.v (.bool (decide (((Bv m).length:Int)>80)))),(29,.lp 1 3),(30,vL 8 (Ms.cs (Ba m))),(31,A2 ((Ba m).length:Int)),(32,.v (.bool (decide (((Ba m).length:Int)>80)))),(33,.v (.bool (decide (((Ba m).length:Int)>80)))),(34,.v (.bool (decide (((Ba m).length:Int)>80)))),(35,.lp 1 4),(36,vL 6 (Qu.cs (BM m))),(37,A2 ((BM m).length:Int)),(38,.v (.bool (decide (((BM m).length:Int)>80)))),(39,.v (.bool (decide (((BM m).length:Int)>80)))),(40,.v (.bool (decide (((BM m).length:Int)>80)))),(41,.lp 1 5),(42,vL 25 (Df.cs (AD m))),(43,A2 ((AD m).length:Int)),(44,.v (.bool (decide (((AD m).length:Int)>80)))),(45,.v (.bool (decide (((AD m).length:Int)>80)))),(46,.lp 1 5),(47,vL 25 (Df.cs (AD m))),(48,A2 (NU (AD m) 4000)),(3,A2 (NU (AD m) 4000)),(4,A2 0)] [(1,E1 m)] e) (@sl0 (m) Ak Au AW Bt CJ ED hA l1 hI (NU (AD m) 4000) (e) oM) xr,lq (@sl2 (m) Ak Au AW Bt CJ ED hA l1 hI hB l2 (Ih (Aj m) (NU (AD m) 4000)) (e) oM),lq (@sl4 (m) Ak Au AW Bt CJ ED hA l1 hI hB l2 hC hD (J2 (AA m) (Ih (Aj m) (NU (AD m) 4000))) (e) oM),lq (@sl5 (m) Ak Au AW Bt CJ ED hA l1 hI hB l2 hC hD hE hG l3 (JG (Bv m) (J2 (AA m) (Ih (Aj m) (NU (AD m) 4000)))) (e) oM),lq (@sl7 (m) Ak Au AW Bt CJ ED hA l1 hI hB l2 hC hD hE hG l3 hH (KQ (Ba m) (JG (Bv m) (J2 (AA m) (Ih (Aj m) (NU (AD m) 4000))))) (e) oM)]) func8
end
theorem uY:prog.follows .mixedOrders=true:=by kernel_rfl
def A9a:List (Nat × Nat × Bool):=[(26,91,true),(26,103,false),(40,91,true),(40,103,false),(40,72,true),(43,91,true),(43,103,true),(43,79,true),(46,91,true),(46,34,false),(49,72,false),(49,91,true),(72,91,true),(92,86,true),(100,50,true),(105,54,false),(105,34,false),(105,91,true),(105,103,false),(128,91,true),(128,34,true),(154,32,false),(155,41,true),(155,91,true),(155,34,true),(199,3,false),(206,91,true),(206,34,true)]
def mdA(f:FuncId):Md:=⟨fun t=>match A9a.find? fun x=>x.1==f&&x.2.1==t with
 | some (_,_,true)=>some true
 | some (_,_,false)=>none
 | none=>some false,fun _=>false⟩
theorem NV:Pu 9 [] (.ret (.bool true)):=Ob.S1 mdA 60 60 uY kR rfl rfl
theorem I2(m:Mo):Af (Da.cs (Aj m))+Af (Cl.cs (AA m))+Af (In.cs (Bv m))+Af (Ms.cs (Ba m))+Af (Qu.cs (BM m))+Af (Df.cs (AD m))<=A5 (DJ m):=by simp only [A5,Dq]; omega
theorem KR(x:Da):Af (Cn.cs (AS x))+Af (Vr.cs (Iq x))+Af (A1 (C1 x))<A5 (EO x):=by simp only [A5,Dq]; omega
theorem VD(x:Cn):Af (Tp.cs (Fp x))+Af (A1 (EC x))<A5 (KX x):=by simp only [A5,Dq]; omega
theorem Jh(x:Cl):Af (Pm.cs (B9 x))<A5 (Lm x):=by simp only [A5,Dq]; omega
theorem QN(x:In):A5 (BI (CU x))+Af (Df.cs (Nn x))<A5 (Oo x):=by simp only [A5,Dq]; omega
theorem Mv(x:Ms):A5 (CI (J9 x))+Af (Cs.cs (CV x))<A5 (M7 x):=by simp only [A5,Dq]; omega
theorem VE(x:Cs):A5 (CI (Ll x))<A5 (R4 x):=by simp only [A5,Dq]; omega
theorem VF(x:Qu):A5 (CI (P9 x))<A5 (WH x):=by simp only [A5,Dq]; omega
theorem A4p(l:List Df)(mx:Int)(hs:Af (Df.cs l)<=100000000):Pu 22 [.sl 25 (Df.cs l),.int .i64 mx] (.ret (.int .i64 (NU l mx))):=
 cdL l mx (fun d k hd=>iX _ k (by have:=KD d; have:=Df.mem hd; omega)) (fun d k hd=>cpT _ k (by have:=KD d; have:=Df.mem hd; omega)) (fun d b k hd hb=>A86 _ _ k (by have:=KD d; have:=Df.mem hd; have:=iY b; have:=Bo.mem hb; omega)) (fun d k hd=>paT _ k (by have:=KD d; have:=Df.mem hd; omega)) (fun d hd=>by have:=KD d; have:=Df.mem hd; have:=Bo.BF (BB d); omega) (by have:=Df.BF l; omega)
theorem smX(m:Mo)(hA:∀ (d:Da) (c:Cn) (k:Int),d∈Aj m->c∈AS d->Pu 23 [.sl 9 (Tp.cs (Fp c)),.int .i64 k] (.ret (.int .i64 (F3 (Fp c) k))))(l1:∀c∈Aj m,(AS c).length<=1048576)(hI:∀ (k:Int),Pu 22 [.sl 25 (Df.cs (AD m)),.int .i64 k] (.ret (.int .i64 (NU (AD m) k))))(hB:∀ (c:Cl) (p:Pm) (k:Int),c∈AA m->p∈B9 c->Pu 23 [.sl 9 [BI (Co p)],.int .i64 k] (.ret (.int .i64 (F3 [Co p] k))))(l2:∀c∈AA m,(B9 c).length<=1048576)(hC:∀ (x:In) (k:Int),x∈Bv m->Pu 23 [.sl 9 [BI (CU x)],.int .i64 k] (.ret (.int .i64 (F3 [CU x] k))))(hD:∀ (x:In) (k:Int),x∈Bv m->Pu 22 [.sl 25 (Df.cs (Nn x)),.int .i64 k] (.ret (.int .i64 (NU (Nn x) k))))(hE:∀ (x:Ms) (k:Int),x∈Ba m->Pu 24 [.sl 4 [CI (J9 x)],.int .i64 k] (.ret (.int .i64 (GN [J9 x] k))))(hG:∀ (x:Ms) (c:Cs) (k:Int),x∈Ba m->c∈CV x->Pu 24 [.sl 4 [CI (Ll c)],.int .i64 k] (.ret (.int .i64 (GN [Ll c] k))))(l3:∀c∈Ba m,(CV c).length<=1048576)(hH:∀ (x:Qu) (k:Int),x∈BM m->Pu 24 [.sl 4 [CI (P9 x)],.int .i64 k] (.ret (.int .i64 (GN [P9 x] k)))):∃b,Pu 8 [.agg (DJ m)] (.ret (.bool b)):=by
 by_cases h0:(((Aj m).length:Nat):Int)>80
 ·exact ⟨_,A4i m hA l1 hI hB l2 hC hD hE hG l3 hH h0⟩
 by_cases h1:(((AA m).length:Nat):Int)>80
 ·exact ⟨_,A4j m hA l1 hI hB l2 hC hD hE hG l3 hH h0 h1⟩
 by_cases h2:(((Bv m).length:Nat):Int)>80
 ·exact ⟨_,A4k m hA l1 hI hB l2 hC hD hE hG l3 hH h0 h1 h2⟩
 by_cases h3:(((Ba m).length:Nat):Int)>80
 ·exact ⟨_,A4l m hA l1 hI hB l2 hC hD hE hG l3 hH h0 h1 h2 h3⟩
 by_cases h4:(((BM m).length:Nat):Int)>80
 ·exact ⟨_,A4m m hA l1 hI hB l2 hC hD hE hG l3 hH h0 h1 h2 h3 h4⟩
 by_cases h5:(((AD m).length:Nat):Int)>80
 ·exact ⟨_,A4n m hA l1 hI hB l2 hC hD hE hG l3 hH h0 h1 h2 h3 h4 h5⟩
 exact ⟨_,A4o m hA l1 hI hB l2 hC hD hE hG l3 hH h0 h1 h2 h3 h4 h5⟩
theorem dS(m:Mo)(hs:A5 (DJ m)<=1048576):∃b,Pu 8 [.agg (DJ m)] (.ret (.bool b)):=by
 have h0:=I2 m
 have w1:=fun {d} (h:d∈Aj m)=>Nat.le_trans (Da.mem h) (by omega:Af (Da.cs (Aj m))<=1048576)
 have w2:=fun {d} (h:d∈AA m)=>Nat.le_trans (Cl.mem h) (by omega:Af (Cl.cs (AA m))<=1048576)
 have w3:=fun {d} (h:d∈Bv m)=>Nat.le_trans (In.mem h) (by omega:Af (In.cs (Bv m))<=1048576)
 have w4:=fun {d} (h:d∈Ba m)=>Nat.le_trans (Ms.mem h) (by omega:Af (Ms.cs (Ba m))<=1048576)
 have w5:=fun {d} (h:d∈BM m)=>Nat.le_trans (Qu.mem h) (by omega:Af (Qu.cs (BM m))<=1048576)
 refine smX m (fun d c k hd hc=>ctT _ k (by have:=w1 hd; have:=KR d; have:=Cn.mem hc; have:=VD c; omega))
  (fun d hd=>by have:=w1 hd; have:=KR d; have:=Cn.BF (AS d); omega)
  (fun k=>A4p _ k oM)
  (fun c p k hc hp=>iX _ k (by have:=w2 hc; have:=Jh c; have:=Pm.mem hp; have:=Ja p; omega))
  (fun c hc=>by have:=w2 hc; have:=Jh c; have:=Pm.BF (B9 c); omega)
  (fun x k hx=>iX _ k (by have:=w3 hx; have:=QN x; omega))
  (fun x k hx=>A4p _ k (by have:=w3 hx; have:=QN x; omega))
  (fun x k hx=>iW _ k (by have:=w4 hx; have:=Mv x; omega))
  (fun x c k hx hc=>iW _ k (by have:=w4 hx; have:=Mv x; have:=Cs.mem hc; have:=VE c; omega))
  (fun x hx=>by have:=w4 hx; have:=Mv x; have:=Cs.BF (CV x); omega)
  (fun x k hx=>iW _ k (by have:=w5 hx; have:=VF x; omega))
abbrev X5(st:St):Ext:=[(0,[.mm (A6 st.a)]),(1,[.mm (A6 st.b)]),(2,[.mm (A6 st.c)]),(3,[.mm (A6 st.d)]),(4,[.mm (A6 st.f)])]
abbrev X6(st:St):Ext:=[(0,[.mm (A6 st.a)]),(1,[.mm (A6 st.b)]),(2,[.mm (A6 st.c)]),(3,[.mm (A6 st.d)]),(4,[.mm (A6 st.f)]),(5,[.mm (A6 st.g)])]
def EL{α:Type}(ge:α->List BA->Int)(nm:α->BA):List α->List BA->Int × List BA
 | [],k=>(0,k)
 | x::r,k=>if ge x k=0 then EL ge nm r (Dx (nm x) k) else (ge x k,Dx (nm x) k)
theorem PB{α:Type}(get:St->List BA)(set:List BA->St->St)(h1:∀v st,get (set v st)=v)(h2:∀v w st,set v (set w st)=set v st)(h3:∀st,set (get st) st=st)(ge:α->List BA->Int)(nm:α->BA) :
  ∀ (l:List α) (st:St),E7 (fun x st=>ge x (get st)) (fun x st=>set (Dx (nm x) (get st)) st) l st=((EL ge nm l (get st)).1,set (EL ge nm l (get st)).2 st)
 | [],st=>by simp only [E7,EL,h3]
 | x::r,st=>by
  simp only [E7,EL]
  by_cases h:ge x (get st)=0
  ·rw [iP h,iP h,PB get set h1 h2 h3 ge nm r,h1,h2]
  ·rw [iN h,iN h]
def Ji(m:Mo)(vs:List BA)(x:Vr)(g:List BA):Int:=HW (AU (Ac (CH x))) (Cp (CH x) g) (I1 m (SY x) vs)
theorem d5T(m:Mo)(y:Da)(a b c d f:List BA)(g:List BA)(hz:Sz m)(Dh:(C1 y).length<=1000000000)(l:List Vr)(hN:l.length<=1000000000):Ef 73 [.sl 2 (Vr.cs l),.fn (.func 74) [] [.ro (wL m) 0,.ro [.mp 5] 0,.ro (EO y) 0]] [(0,[.mm (A6 a)]),(1,[.mm (A6 b)]),(2,[.mm (A6 c)]),(3,[.mm (A6 d)]),(4,[.mm (A6 f)]),(5,[.mm (A6 g)])] (.ret (.int .i64 (EL (Ji m (C1 y)) CH l g).1)) [(0,[.mm (A6 a)]),(1,[.mm (A6 b)]),(2,[.mm (A6 c)]),(3,[.mm (A6 d)]),(4,[.mm (A6 f)]),(5,[.mm (A6 (EL (Ji m (C1 y)) CH l g).2)])]:=by
 have h:=A8c l 74 [.ro (wL m) 0,.ro [.mp 5] 0,.ro (EO y) 0] X6 (fun x st=>Ji m (C1 y) x st.g) (fun x st=>⟨st.a,st.b,st.c,st.d,st.f,Dx (CH x) st.g⟩) (fun k w st _=>by obtain ⟨a,b,c,d,f,g⟩:=st; exact d1 m y k w a b c d f g hz Dh) ⟨a,b,c,d,f,g⟩ hN
 rw [PB (·.g) (fun v st=>⟨st.a,st.b,st.c,st.d,st.f,v⟩) (fun _ _=>rfl) (fun _ _ _=>rfl) (fun _=>rfl) (Ji m (C1 y)) CH l] at h
 exact h
theorem d5N(m:Mo)(y:Da)(a b c d f:List BA)(hz:Sz m)(Dh:(C1 y).length<=1000000000)(l:List Vr)(hN:l.length<=1000000000):Ef 73 [.sl 2 (Vr.cs l),.fn (.func 74) [] [.ro (wL m) 0,.ro [.mp 5] 0,.ro (EO y) 0]] [(0,[.mm (A6 a)]),(1,[.mm (A6 b)]),(2,[.mm (A6 c)]),(3,[.mm (A6 d)]),(4,[.mm (A6 f)]),(5,[.mm []])] (.ret (.int .i64 (EL (Ji m (C1 y)) CH l []).1)) [(0,[.mm (A6 a)]),(1,[.mm (A6 b)]),(2,[.mm (A6 c)]),(3,[.mm (A6 d)]),(4,[.mm (A6 f)]),(5,[.mm (A6 (EL (Ji m (C1 y)) CH l []).2)])]:=d5T m y a b c d f [] hz Dh l hN
theorem d6T(m:Mo)(y:Da)(a b c d f:List BA)(g:List BA)(hz:Sz m)(Dh:(C1 y).length<=1000000000)(l:List Cn)(hN:l.length<=1000000000)(hs:∀x∈l,A5 (KX x)<=100000000):Ef 76 [.sl 3 (Cn.cs l),.fn (.func 77) [] [.ro (wL m) 0,.ro [.mp 1] 0,.ro (EO y) 0]] [(0,[.mm (A6 a)]),(1,[.mm (A6 b)]),(2,[.mm (A6 c)]),(3,[.mm (A6 d)]),(4,[.mm (A6 f)]),(5,[.mm (A6 g)])] (.ret (.int .i64 (EL (G1 m y) Bj l b).1)) [(0,[.mm (A6 a)]),(1,[.mm (A6 (EL (G1 m y) Bj l b).2)]),(2,[.mm (A6 c)]),(3,[.mm (A6 d)]),(4,[.mm (A6 f)]),(5,[.mm (A6 g)])]:=by
 have h:=A8f l 77 [.ro (wL m) 0,.ro [.mp 1] 0,.ro (EO y) 0] X6 (fun x st=>G1 m y x st.b) (fun x st=>⟨st.a,Dx (Bj x) st.b,st.c,st.d,st.f,st.g⟩) (fun k w st hw=>by
  obtain ⟨a,b,c,d,f,g⟩:=st
  have h1:=hs w hw
  have h2:=VD w
  exact d2 m y k w a b c d f g hz Dh (fun t ht=>by have:=Tp.mem ht; omega) (by have:=Tp.BF (Fp w); omega) (by have:=Dc (EC w); omega)) ⟨a,b,c,d,f,g⟩ hN
 rw [PB (·.b) (fun v st=>⟨st.a,v,st.c,st.d,st.f,st.g⟩) (fun _ _=>rfl) (fun _ _ _=>rfl) (fun _=>rfl) (G1 m y) Bj l] at h
 exact h
section
variable (m:Mo) (y:Da) (a b c d f:List BA) (hz:Sz m) (Dh:(C1 y).length<=1000000000) (hNP:(Iq y).length<=1000000000) (hNC:(AS y).length<=1000000000) (hs:∀x∈AS y,A5 (KX x)<=100000000) (Ak:KE (AU (AL (BS y))) (Cp (BS y) a) (BT (decide (((C1 y).length:Int)>6)) 13) (Fe (C1 y)) (BT (decide (((Iq y).length:Int)>6)) 13)=0)
include m y a b c d f hz Dh hNP hNC hs Ak
theorem A9b(Au:¬Ds (Prod.fst (EL (Ji m (C1 y)) CH (Iq y) [])) (BT (decide (((AS y).length:Int)<1)||decide (((AS y).length:Int)>8)) 13)=0):Ef 40 [.agg (wL m),.agg (EO y),PV.mp 0,PV.mp 1] ([(0,[LV.mm (A6 a)]),(1,[LV.mm (A6 b)]),(2,[LV.mm (A6 c)]),(3,[LV.mm (A6 d)]),(4,[LV.mm (A6 f)])]) (rI (Ds (Prod.fst (EL (Ji m (C1 y)) CH (Iq y) [])) (BT (decide (((AS y).length:Int)<1)||decide (((AS y).length:Int)>8)) 13))) ([(0,[LV.mm (A6 (Dx (BS y) a))]),(1,[LV.mm (A6 b)]),(2,[LV.mm (A6 c)]),(3,[LV.mm (A6 d)]),(4,[LV.mm (A6 f)]),(5,[LV.mm (A6 (Prod.snd (EL (Ji m (C1 y)) CH (Iq y) [])))])]):=
 ef CR [cl (@T0 (m) (BS y)),ce (@aG (BS y) (a) (b) (c) (d) (f)),sl (A3 (C1 y)),cl (@DY (decide (((C1 y).length:Int)>6)) (13)),cl (@Pz (m) (C1 y) Dh),sl (Vr.A0 (Iq y)),cl (@DY (decide (((Iq y).length:Int)>6)) (13)),cl (@Lq (AU (AL (BS y))) (Cp (BS y) a) (BT (decide (((C1 y).length:Int)>6)) 13) (Fe (C1 y)) (BT (decide (((Iq y).length:Int)>6)) 13)),Bp Ak,ce (@d5N (m) (y) (Dx (BS y) a) (b) (c) (d) (f) hz Dh (Iq y) hNP),sl (Cn.A0 (AS y)),mg,av (.v (.bool (bif decide (((AS y).length:Int)<1) then true else decide ((↑((fun x=>List.length (Prod.snd x)) (3,Cn.cs (AS y))):Int)>8)))) (.v (.bool (decide (((AS y).length:Int)<1)||decide (((AS y).length:Int)>8)))) (by (simp only [Cn.A0,Bool.cond_true_left]; done)),cl (@DY (decide (((AS y).length:Int)<1)||decide (((AS y).length:Int)>8)) (13)),cl (@DI (Prod.fst (EL (Ji m (C1 y)) CH (Iq y) [])) (BT (decide (((AS y).length:Int)<1)||decide (((AS y).length:Int)>8)) 13)),D3 Au] func40
theorem A9c(Au:Ds (Prod.fst (EL (Ji m (C1 y)) CH (Iq y) [])) (BT (decide (((AS y).length:Int)<1)||decide (((AS y).length:Int)>8)) 13)=0):Ef 40 [.agg (wL m),.agg (EO y),PV.mp 0,PV.mp 1] ([(0,[LV.mm (A6 a)]),(1,[LV.mm (A6 b)]),(2,[LV.mm (A6 c)]),(3,[LV.mm (A6 d)]),(4,[LV.mm (A6 f)])]) (rI (Prod.fst (EL (G1 m y) Bj (AS y) b))) ([(0,[LV.mm (A6 (Dx (BS y) a))]),(1,[LV.mm (A6 (Prod.snd (EL (G1 m y) Bj (AS y) b)))]),(2,[LV.mm (A6 c)]),(3,[LV.mm (A6 d)]),(4,[LV.mm (A6 f)]),(5,[LV.mm (A6 (Prod.snd (EL (Ji m (C1 y)) CH (Iq y) [])))])]):=
 ef CR [cl (@T0 (m) (BS y)),ce (@aG (BS y) (a) (b) (c) (d) (f)),sl (A3 (C1 y)),cl (@DY (decide (((C1 y).length:Int)>6)) (13)),cl (@Pz (m) (C1 y) Dh),sl (Vr.A0 (Iq y)),cl (@DY (decide (((Iq y).length:Int)>6)) (13)),cl (@Lq (AU (AL (BS y))) (Cp (BS y) a) (BT (decide (((C1 y).length:Int)>6)) 13) (Fe (C1 y)) (BT (decide (((Iq y).length:Int)>6)) 13)),Bp Ak,ce (@d5N (m) (y) (Dx (BS y) a) (b) (c) (d) (f) hz Dh (Iq y) hNP),sl (Cn.A0 (AS y)),mg,av (.v (.bool (bif decide (((AS y).length:Int)<1) then true else decide ((↑((fun x=>List.length (Prod.snd x)) (3,Cn.cs (AS y))):Int)>8)))) (.v (.bool (decide (((AS y).length:Int)<1)||decide (((AS y).length:Int)>8)))) (by (simp only [Cn.A0,Bool.cond_true_left]; done)),cl (@DY (decide (((AS y).length:Int)<1)||decide (((AS y).length:Int)>8)) (13)),cl (@DI (Prod.fst (EL (Ji m (C1 y)) CH (Iq y) [])) (BT (decide (((AS y).length:Int)<1)||decide (((AS y).length:Int)>8)) 13)),Bp Au,ce (@d6T (m) (y) (Dx (BS y) a) (b) (c) (d) (f) (Prod.snd (EL (Ji m (C1 y)) CH (Iq y) [])) hz Dh (AS y) hNC hs)] func40
end
theorem KS(k:List BA):isM [.mm (A6 k)]=true:=by
 show (A6 k).all (fun x=>x.2.EN)=true
 induction k with
 | nil=>rfl
 | cons x r ih=>simp only [A6,List.all_cons,ih]; rfl
theorem oY{F:FuncId}{args:List PV}{r:Cd}{e:Ext}{a b c d f g:List BA}(hr:r.EN=true)(hc:El e=5)(h:Ef F args e r [(0,[.mm (A6 a)]),(1,[.mm (A6 b)]),(2,[.mm (A6 c)]),(3,[.mm (A6 d)]),(4,[.mm (A6 f)]),(5,[.mm (A6 g)])]):Ef F args e r [(0,[.mm (A6 a)]),(1,[.mm (A6 b)]),(2,[.mm (A6 c)]),(3,[.mm (A6 d)]),(4,[.mm (A6 f)])]:=by
 refine Ob.dJ hr (by rw [hc]; rfl) (fun x cs hx=>?_) h
 simp only [lk] at hx ⊢
 split at hx
 ·rename_i e0; subst e0; injection hx with hx; subst hx; exact ⟨rfl,KS _⟩
 ·split at hx
  ·rename_i e0; subst e0; injection hx with hx; subst hx; exact ⟨rfl,KS _⟩
  ·split at hx
   ·rename_i e0; subst e0; injection hx with hx; subst hx; exact ⟨rfl,KS _⟩
   ·split at hx
    ·rename_i e0; subst e0; injection hx with hx; subst hx; exact ⟨rfl,KS _⟩
    ·split at hx
     ·rename_i e0; subst e0; injection hx with hx; subst hx; exact ⟨rfl,KS _⟩
     ·cases hx
def da1(y:Da)(a:List BA):Int:=KE (AU (AL (BS y))) (Cp (BS y) a) (BT (decide (((C1 y).length:Int)>6)) 13) (Fe (C1 y)) (BT (decide (((Iq y).length:Int)>6)) 13)
def da2(m:Mo)(y:Da):Int:=Ds (EL (Ji m (C1 y)) CH (Iq y) []).1 (BT (decide (((AS y).length:Int)<1)||decide (((AS y).length:Int)>8)) 13)
def daE(m:Mo)(y:Da)(a b:List BA):Int:=if da1 y a=0 then (if da2 m y=0 then (EL (G1 m y) Bj (AS y) b).1 else da2 m y) else da1 y a
def yA(m:Mo)(y:Da)(a b:List BA):List BA:=if da1 y a=0 then (if da2 m y=0 then (EL (G1 m y) Bj (AS y) b).2 else b) else b
theorem daT(m:Mo)(y:Da)(a b c d f:List BA)(hz:Sz m)(hs:A5 (EO y)<=100000000):Ef 40 [.agg (wL m),.agg (EO y),.mp 0,.mp 1] [(0,[.mm (A6 a)]),(1,[.mm (A6 b)]),(2,[.mm (A6 c)]),(3,[.mm (A6 d)]),(4,[.mm (A6 f)])] (.ret (.int .i64 (daE m y a b))) [(0,[.mm (A6 (Dx (BS y) a))]),(1,[.mm (A6 (yA m y a b))]),(2,[.mm (A6 c)]),(3,[.mm (A6 d)]),(4,[.mm (A6 f)])]:=by
 have hb:=KR y
 have v1:(C1 y).length<=1000000000:=by have:=Dc (C1 y); omega
 have v2:(Iq y).length<=1000000000:=by have:=Vr.BF (Iq y); omega
 have v3:(AS y).length<=1000000000:=by have:=Cn.BF (AS y); omega
 have v4:∀x∈AS y,A5 (KX x)<=100000000:=fun x hx=>by have:=Cn.mem hx; omega
 unfold daE yA
 by_cases h1:da1 y a=0
 ·rw [iP h1,iP h1]
  by_cases h2:da2 m y=0
  ·rw [iP h2,iP h2]; exact oY rfl rfl (A9c m y a b c d f hz v1 v2 v3 v4 h1 h2)
  ·rw [iN h2,iN h2]; exact oY rfl rfl (A9b m y a b c d f hz v1 v2 v3 v4 h1 h2)
 ·rw [iN h1,iN h1]; exact ef CR [cl (@T0 (m) (BS y)),ce (@aG (BS y) (a) (b) (c) (d) (f)),sl (A3 (C1 y)),cl (@DY (decide (((C1 y).length:Int)>6)) (13)),cl (@Pz (m) (C1 y) v1),sl (Vr.A0 (Iq y)),cl (@DY (decide (((Iq y).length:Int)>6)) (13)),cl (@Lq (AU (AL (BS y))) (Cp (BS y) a) (BT (decide (((C1 y).length:Int)>6)) 13) (Fe (C1 y)) (BT (decide (((Iq y).length:Int)>6)) 13)),D3 h1] func40
theorem mo1(m:Mo)(k:Int)(y:Da)(a b c d f:List BA)(hz:Sz m)(hs:A5 (EO y)<=100000000):Ef 39 [pI k,.agg (EO y),.ro (wL m) 0,.ro [PV.mp 0] 0,.ro [PV.mp 1] 0] ([(0,[LV.mm (A6 a)]),(1,[LV.mm (A6 b)]),(2,[LV.mm (A6 c)]),(3,[LV.mm (A6 d)]),(4,[LV.mm (A6 f)])]) (rI (daE m y a b)) ([(0,[LV.mm (A6 (Dx (BS y) a))]),(1,[LV.mm (A6 (yA m y a b))]),(2,[LV.mm (A6 c)]),(3,[LV.mm (A6 d)]),(4,[LV.mm (A6 f)])]):=
 ef CR [ce (@daT (m) (y) (a) (b) (c) (d) (f) hz hs)] func39
theorem A9d(m:Mo)(v:BA)(u:Tp)(hz:Sz m)(hs:A5 (BI u)<=100000000):Pu 80 [.agg (wL m),.agg (BI u),.sl 1 [[.str v]]] (.ret (.int .i64 (Jb (Ea m) [v] u))):=uQ m [v] u hz sM hs
theorem cl1(m:Mo)(y:Cl)(k:Int)(x:Pm)(a b c d f:List BA)(hz:Sz m)(hs:A5 (BI (Co x))<=100000000):Ef 84 [pI k,.agg (KW x),.ro (wL m) 0,.ro [PV.mp 3] 0,.ro (Lm y) 0] ([(0,[LV.mm (A6 a)]),(1,[LV.mm (A6 b)]),(2,[LV.mm (A6 c)]),(3,[LV.mm (A6 d)]),(4,[LV.mm (A6 f)])]) (rI (HW (AU (Ac (BR x))) (Cp (BR x) d) (Jb (Ea m) [LM y] (Co x)))) ([(0,[LV.mm (A6 a)]),(1,[LV.mm (A6 b)]),(2,[LV.mm (A6 c)]),(3,[LV.mm (A6 (Dx (BR x) d))]),(4,[LV.mm (A6 f)])]):=
 ef CR [cl (@IT (m) (BR x)),ce (@GO (BR x) (a) (b) (c) (d) (f)),cl (@A9d (m) (LM y) (Co x) hz hs),cl (@QA (AU (Ac (BR x))) (Cp (BR x) d) (Jb (Ea m) [LM y] (Co x)))] func84
def oZ(m:Mo)(v:BA)(x:Pm)(d:List BA):Int:=HW (AU (Ac (BR x))) (Cp (BR x) d) (Jb (Ea m) [v] (Co x))
theorem A4q(m:Mo)(y:Cl)(a b c d f:List BA)(hz:Sz m)(l:List Pm)(hN:l.length<=1000000000)(hs:∀x∈l,A5 (BI (Co x))<=100000000):Ef 83 [.sl 10 (Pm.cs l),.fn (.func 84) [] [.ro (wL m) 0,.ro [.mp 3] 0,.ro (Lm y) 0]] [(0,[.mm (A6 a)]),(1,[.mm (A6 b)]),(2,[.mm (A6 c)]),(3,[.mm (A6 d)]),(4,[.mm (A6 f)])] (.ret (.int .i64 (EL (oZ m (LM y)) BR l d).1)) [(0,[.mm (A6 a)]),(1,[.mm (A6 b)]),(2,[.mm (A6 c)]),(3,[.mm (A6 (EL (oZ m (LM y)) BR l d).2)]),(4,[.mm (A6 f)])]:=by
 have h:=A8g l 84 [.ro (wL m) 0,.ro [.mp 3] 0,.ro (Lm y) 0] X5 (fun x st=>oZ m (LM y) x st.d) (fun x st=>⟨st.a,st.b,st.c,Dx (BR x) st.d,st.f,st.g⟩) (fun k w st hw=>by obtain ⟨a,b,c,d,f,g⟩:=st; exact cl1 m y k w a b c d f hz (hs w hw)) ⟨a,b,c,d,f,[]⟩ hN
 rw [PB (·.d) (fun v st=>⟨st.a,st.b,st.c,v,st.f,st.g⟩) (fun _ _=>rfl) (fun _ _ _=>rfl) (fun _=>rfl) (oZ m (LM y)) BR l] at h
 exact h
theorem sg1(m:Mo)(y:Df)(k:Int)(x:Vr)(Dh:(Az y).length<=1000000000):Pu 149 [pI k,.agg (O5 x),.ro (wL m) 0,.ro (sgL y) 0] (rI (Ds (AU (AL (CH x))) (BT (decide (FX (SY x) (Az y)<0)) 5))):=
 pm CR [cl (@T0 (m) (CH x)),cl (@TV (Az y) (SY x) Dh),cl (@DY (decide (FX (SY x) (Az y)<0)) (5)),cl (@DI (AU (AL (CH x))) (BT (decide (FX (SY x) (Az y)<0)) 5))] func149
def VG(vs:List BA)(x:Vr):Int:=Ds (AU (AL (CH x))) (BT (decide (FX (SY x) vs<0)) 5)
theorem dU(m:Mo)(y:Df)(Dh:(Az y).length<=1000000000)(l:List Vr)(hN:l.length<=1000000000):Pu 148 [.sl 2 (Vr.cs l),.fn (.func 149) [] [.ro (wL m) 0,.ro (sgL y) 0]] (.ret (.int .i64 (BP (VG (Az y)) l))):=A8a l _ _ (VG (Az y)) (fun k w _=>sg1 m y k w Dh) hN
abbrev X2(st:St):Ext:=[(0,[.mm (A6 st.a)]),(1,[.mm (A6 st.b)])]
theorem sg2(m:Mo)(al:List BA)(k:Int)(x:Vr)(a b:List BA)(hz:Sz m)(Dh:al.length<=1000000000):Ef 151 [pI k,.agg (O5 x),.ro (wL m) 0,.ro [PV.mp 0] 0,.ro [.sl 1 (A1 al)] 0] ([(0,[LV.mm (A6 a)]),(1,[LV.mm (A6 b)])]) (rI (HW (AU (Ac (CH x))) (Cp (CH x) a) (I1 m (SY x) al))) ([(0,[LV.mm (A6 (Dx (CH x) a))]),(1,[LV.mm (A6 b)])]):=
 ef CR [cl (@IT (m) (CH x)),ce (@A2i (CH x) (a) (b)),cl (@soS (m) (SY x) (al) hz Dh),cl (@QA (AU (Ac (CH x))) (Cp (CH x) a) (I1 m (SY x) al))] func151
theorem sg3(m:Mo)(k:Int)(x:Bo)(a b:List BA):Ef 153 [pI k,.agg (WG x),.ro (wL m) 0,.ro [PV.mp 1] 0] ([(0,[LV.mm (A6 a)]),(1,[LV.mm (A6 b)])]) (rI (Ds (AU (Ac (FD x))) (Cp (FD x) b))) ([(0,[LV.mm (A6 a)]),(1,[LV.mm (A6 (Dx (FD x) b))])]):=
 ef CR [cl (@IT (m) (FD x)),ce (@A2j (FD x) (a) (b)),cl (@DI (AU (Ac (FD x))) (Cp (FD x) b))] func153
def U4(x:Bo)(b:List BA):Int:=Ds (AU (Ac (FD x))) (Cp (FD x) b)
theorem A9e(m:Mo)(al:List BA)(hz:Sz m)(Dh:al.length<=1000000000)(l:List Vr)(hN:l.length<=1000000000):Ef 150 [.sl 2 (Vr.cs l),.fn (.func 151) [] [.ro (wL m) 0,.ro [.mp 0] 0,.ro [.sl 1 (A1 al)] 0]] [(0,[.mm []]),(1,[.mm []])] (.ret (.int .i64 (EL (Ji m al) CH l []).1)) [(0,[.mm (A6 (EL (Ji m al) CH l []).2)]),(1,[.mm []])]:=by
 have h:=A8d l 151 [.ro (wL m) 0,.ro [.mp 0] 0,.ro [.sl 1 (A1 al)] 0] X2 (fun x st=>Ji m al x st.a) (fun x st=>⟨Dx (CH x) st.a,st.b,st.c,st.d,st.f,st.g⟩) (fun k w st hw=>by obtain ⟨a,b,c,d,f,g⟩:=st; exact sg2 m al k w a b hz Dh) ⟨[],[],[],[],[],[]⟩ hN
 rw [PB (·.a) (fun v st=>⟨v,st.b,st.c,st.d,st.f,st.g⟩) (fun _ _=>rfl) (fun _ _ _=>rfl) (fun _=>rfl) (Ji m al) CH l] at h
 exact h
theorem uZ(m:Mo)(a:List BA)(l:List Bo)(hN:l.length<=1000000000):Ef 152 [.sl 10 (Bo.cs l),.fn (.func 153) [] [.ro (wL m) 0,.ro [.mp 1] 0]] [(0,[.mm (A6 a)]),(1,[.mm []])] (.ret (.int .i64 (EL U4 FD l []).1)) [(0,[.mm (A6 a)]),(1,[.mm (A6 (EL U4 FD l []).2)])]:=by
 have h:=A8e l 153 [.ro (wL m) 0,.ro [.mp 1] 0] X2 (fun x st=>U4 x st.b) (fun x st=>⟨st.a,Dx (FD x) st.b,st.c,st.d,st.f,st.g⟩) (fun k w st hw=>by obtain ⟨a,b,c,d,f,g⟩:=st; exact sg3 m k w a b) ⟨a,[],[],[],[],[]⟩ hN
 rw [PB (·.b) (fun v st=>⟨st.a,v,st.c,st.d,st.f,st.g⟩) (fun _ _=>rfl) (fun _ _ _=>rfl) (fun _=>rfl) U4 FD l] at h
 exact h
def p4(m:Mo)(y:Cl)(c:List BA):Int:=KE (AU (AL (DK y))) (if ix BS (DK y) (Aj m)<(Aj m).length then 4 else 0) (Cp (DK y) c) (AU (Ac (LM y))) (BT (decide (((B9 y).length:Int)>64)) 7)
def clE(m:Mo)(y:Cl)(c d:List BA):Int:=if p4 m y c=0 then (EL (oZ m (LM y)) BR (B9 y) d).1 else p4 m y c
def yB(m:Mo)(y:Cl)(c d:List BA):List BA:=if p4 m y c=0 then (EL (oZ m (LM y)) BR (B9 y) d).2 else d
theorem A9f(m:Mo)(y:Cl)(a b c d f:List BA)(hz:Sz m)(hs:A5 (Lm y)<=100000000):Ef 43 [.agg (wL m),.agg (Lm y),.mp 2,.mp 3] [(0,[.mm (A6 a)]),(1,[.mm (A6 b)]),(2,[.mm (A6 c)]),(3,[.mm (A6 d)]),(4,[.mm (A6 f)])] (.ret (.int .i64 (clE m y c d))) [(0,[.mm (A6 a)]),(1,[.mm (A6 b)]),(2,[.mm (A6 (Dx (DK y) c))]),(3,[.mm (A6 (yB m y c d))]),(4,[.mm (A6 f)])]:=by
 have hb:=Jh y
 have v1:(B9 y).length<=1000000000:=by have:=Pm.BF (B9 y); omega
 have v2:∀x∈B9 y,A5 (BI (Co x))<=100000000:=fun x hx=>by have:=Pm.mem hx; have:=Ja x; omega
 unfold clE yB
 by_cases h:ix BS (DK y) (Aj m)<(Aj m).length
 ·have e:p4 m y c=KE (AU (AL (DK y))) 4 (Cp (DK y) c) (AU (Ac (LM y))) (BT (decide (((B9 y).length:Int)>64)) 7):=by unfold p4; rw [iP h]
  rw [e]
  by_cases h2:KE (AU (AL (DK y))) 4 (Cp (DK y) c) (AU (Ac (LM y))) (BT (decide (((B9 y).length:Int)>64)) 7)=0
  ·rw [iP h2,iP h2]; exact ef CR [cl (@y4 (m) (DK y) hz h),cl (@T0 (m) (DK y)),cl (@DY (true) (4)),ce (@V7 (DK y) (a) (b) (c) (d) (f)),cl (@IT (m) (LM y)),sl (Pm.A0 (B9 y)),cl (@DY (decide (((B9 y).length:Int)>64)) (7)),cl (@Lq (AU (AL (DK y))) (4) (Cp (DK y) c) (AU (Ac (LM y))) (BT (decide (((B9 y).length:Int)>64)) 7)),Bp h2,ce (@A4q (m) (y) (a) (b) (Dx (DK y) c) (d) (f) hz (B9 y) v1 v2)] func43
  ·rw [iN h2,iN h2]; exact ef CR [cl (@y4 (m) (DK y) hz h),cl (@T0 (m) (DK y)),cl (@DY (true) (4)),ce (@V7 (DK y) (a) (b) (c) (d) (f)),cl (@IT (m) (LM y)),sl (Pm.A0 (B9 y)),cl (@DY (decide (((B9 y).length:Int)>64)) (7)),cl (@Lq (AU (AL (DK y))) (4) (Cp (DK y) c) (AU (Ac (LM y))) (BT (decide (((B9 y).length:Int)>64)) 7)),D3 h2] func43
 ·have e:p4 m y c=KE (AU (AL (DK y))) 0 (Cp (DK y) c) (AU (Ac (LM y))) (BT (decide (((B9 y).length:Int)>64)) 7):=by unfold p4; rw [iN h]
  rw [e]
  by_cases h2:KE (AU (AL (DK y))) 0 (Cp (DK y) c) (AU (Ac (LM y))) (BT (decide (((B9 y).length:Int)>64)) 7)=0
  ·rw [iP h2,iP h2]; exact ef CR [cl (@y5 (m) (DK y) hz h),cl (@T0 (m) (DK y)),cl (@DY (false) (4)),ce (@V7 (DK y) (a) (b) (c) (d) (f)),cl (@IT (m) (LM y)),sl (Pm.A0 (B9 y)),cl (@DY (decide (((B9 y).length:Int)>64)) (7)),cl (@Lq (AU (AL (DK y))) (0) (Cp (DK y) c) (AU (Ac (LM y))) (BT (decide (((B9 y).length:Int)>64)) 7)),Bp h2,ce (@A4q (m) (y) (a) (b) (Dx (DK y) c) (d) (f) hz (B9 y) v1 v2)] func43
  ·rw [iN h2,iN h2]; exact ef CR [cl (@y5 (m) (DK y) hz h),cl (@T0 (m) (DK y)),cl (@DY (false) (4)),ce (@V7 (DK y) (a) (b) (c) (d) (f)),cl (@IT (m) (LM y)),sl (Pm.A0 (B9 y)),cl (@DY (decide (((B9 y).length:Int)>64)) (7)),cl (@Lq (AU (AL (DK y))) (0) (Cp (DK y) c) (AU (Ac (LM y))) (BT (decide (((B9 y).length:Int)>64)) 7)),D3 h2] func43
theorem mo2(m:Mo)(k:Int)(y:Cl)(a b c d f:List BA)(hz:Sz m)(hs:A5 (Lm y)<=100000000):Ef 42 [pI k,.agg (Lm y),.ro (wL m) 0,.ro [PV.mp 2] 0,.ro [PV.mp 3] 0] ([(0,[LV.mm (A6 a)]),(1,[LV.mm (A6 b)]),(2,[LV.mm (A6 c)]),(3,[LV.mm (A6 d)]),(4,[LV.mm (A6 f)])]) (rI (clE m y c d)) ([(0,[LV.mm (A6 a)]),(1,[LV.mm (A6 b)]),(2,[LV.mm (A6 (Dx (DK y) c))]),(3,[LV.mm (A6 (yB m y c d))]),(4,[LV.mm (A6 f)])]):=
 ef CR [ce (@A9f (m) (y) (a) (b) (c) (d) (f) hz hs)] func42
theorem VH(m:Mo)(v1 v2:List BA)(hz:Sz m)(Dh:v1.length+v2.length<=1000000000)(l:List Vr)(hN:l.length<=1000000000):Ef 150 [.sl 2 (Vr.cs l),.fn (.func 151) [] [.ro (wL m) 0,.ro [.mp 0] 0,.ro [.sl 1 (A1 v1++A1 v2)] 0]] [(0,[.mm []]),(1,[.mm []])] (.ret (.int .i64 (EL (Ji m (v1++v2)) CH l []).1)) [(0,[.mm (A6 (EL (Ji m (v1++v2)) CH l []).2)]),(1,[.mm []])]:=by
 rw [<-Av]; exact A9e m (v1++v2) hz (by rw [List.length_append]; exact Dh) l hN
theorem v7(m:Mo)(v1 v2:List BA)(u:Tp)(hz:Sz m)(Dh:v1.length+v2.length<=1000000000)(hs:A5 (BI u)<=100000000):Pu 80 [.agg (wL m),.agg (BI u),.sl 1 (A1 v1++A1 v2)] (.ret (.int .i64 (Jb (Ea m) (v1++v2) u))):=by
 rw [<-Av]; exact uQ m (v1++v2) u hz (by rw [List.length_append]; exact Dh) hs
section
variable (m:Mo) (y:Df) (vs:List BA) (hz:Sz m) (GA:vs.length<=100000000) (Kb:(Az y).length<=100000000) (fC:(C8 y).length<=1000000000) (ZU:(Bz y).length<=1000000000) (hN3:(BB y).length<=1000000000) (T2:(BD y).length<=1000000000) (hs:A5 (BI (BV y))<=100000000)
include m y vs hz GA Kb fC ZU hN3 T2 hs
theorem A4r(Ak:¬Ds (BT (decide (((Az y).length:Int)>6)) 13) (Fe (Az y))=0):Ef 105 [.agg (wL m),.agg (CZ y),.sl 1 (A1 vs)] ([]) (rI (Ds (BT (decide (((Az y).length:Int)>6)) 13) (Fe (Az y)))) ([]):=
 ef CR [cl (@BU (vs) oM),am (List.length (A1 vs++(fun x=>Prod.snd x) (1,A1 (Az y))) * (15+1)<=140737488355328) (by (simp only [List.length_append,A3]; omega)),sl (A3 (Az y)),cl (@DY (decide (((Az y).length:Int)>6)) (13)),cl (@Pz (m) (Az y) oM),cl (@DI (BT (decide (((Az y).length:Int)>6)) 13) (Fe (Az y))),D3 Ak] func105
theorem A4s(Ak:Ds (BT (decide (((Az y).length:Int)>6)) 13) (Fe (Az y))=0)(Au:¬Ds (BP (VG (Az y)) (C8 y)) (BT (decide (((Bz y).length:Int)>6)) 13)=0):Ef 105 [.agg (wL m),.agg (CZ y),.sl 1 (A1 vs)] ([]) (rI (Ds (BP (VG (Az y)) (C8 y)) (BT (decide (((Bz y).length:Int)>6)) 13))) ([]):=
 ef CR [cl (@BU (vs) oM),am (List.length (A1 vs++(fun x=>Prod.snd x) (1,A1 (Az y))) * (15+1)<=140737488355328) (by (simp only [List.length_append,A3]; omega)),sl (A3 (Az y)),cl (@DY (decide (((Az y).length:Int)>6)) (13)),cl (@Pz (m) (Az y) oM),cl (@DI (BT (decide (((Az y).length:Int)>6)) 13) (Fe (Az y))),Bp Ak,cl (@dU (m) (y) oM (C8 y) fC),sl (Vr.A0 (Bz y)),cl (@DY (decide (((Bz y).length:Int)>6)) (13)),cl (@DI (BP (VG (Az y)) (C8 y)) (BT (decide (((Bz y).length:Int)>6)) 13)),D3 Au] func105
theorem A4t(Ak:Ds (BT (decide (((Az y).length:Int)>6)) 13) (Fe (Az y))=0)(Au:Ds (BP (VG (Az y)) (C8 y)) (BT (decide (((Bz y).length:Int)>6)) 13)=0)(AW:¬Prod.fst (EL (Ji m (vs++Az y)) CH (Bz y) [])=0):Ef 105 [.agg (wL m),.agg (CZ y),.sl 1 (A1 vs)] ([]) (rI (Prod.fst (EL (Ji m (vs++Az y)) CH (Bz y) []))) ([(0,[LV.mm (A6 (Prod.snd (EL (Ji m (vs++Az y)) CH (Bz y) [])))]),(1,[LV.mm []])]):=
 ef CR [cl (@BU (vs) oM),am (List.length (A1 vs++(fun x=>Prod.snd x) (1,A1 (Az y))) * (15+1)<=140737488355328) (by (simp only [List.length_append,A3]; omega)),sl (A3 (Az y)),cl (@DY (decide (((Az y).length:Int)>6)) (13)),cl (@Pz (m) (Az y) oM),cl (@DI (BT (decide (((Az y).length:Int)>6)) 13) (Fe (Az y))),Bp Ak,cl (@dU (m) (y) oM (C8 y) fC),sl (Vr.A0 (Bz y)),cl (@DY (decide (((Bz y).length:Int)>6)) (13)),cl (@DI (BP (VG (Az y)) (C8 y)) (BT (decide (((Bz y).length:Int)>6)) 13)),Bp Au,ce (@VH (m) (vs) (Az y) hz oM (Bz y) ZU),D3 AW] func105
theorem A4u(Ak:Ds (BT (decide (((Az y).length:Int)>6)) 13) (Fe (Az y))=0)(Au:Ds (BP (VG (Az y)) (C8 y)) (BT (decide (((Bz y).length:Int)>6)) 13)=0)(AW:Prod.fst (EL (Ji m (vs++Az y)) CH (Bz y) [])=0)(Bt:¬Ds (Prod.fst (EL U4 FD (BB y) [])) (Jb (Ea m) (vs++Az y) (BV y))=0):Ef 105 [.agg (wL m),.agg (CZ y),.sl 1 (A1 vs)] ([]) (rI (Ds (Prod.fst (EL U4 FD (BB y) [])) (Jb (Ea m) (vs++Az y) (BV y)))) ([(0,[LV.mm (A6 (Prod.snd (EL (Ji m (vs++Az y)) CH (Bz y) [])))]),(1,[LV.mm (A6 (Prod.snd (EL U4 FD (BB y) [])))])]):=
 ef CR [cl (@BU (vs) oM),am (List.length (A1 vs++(fun x=>Prod.snd x) (1,A1 (Az y))) * (15+1)<=140737488355328) (by (simp only [List.length_append,A3]; omega)),sl (A3 (Az y)),cl (@DY (decide (((Az y).length:Int)>6)) (13)),cl (@Pz (m) (Az y) oM),cl (@DI (BT (decide (((Az y).length:Int)>6)) 13) (Fe (Az y))),Bp Ak,cl (@dU (m) (y) oM (C8 y) fC),sl (Vr.A0 (Bz y)),cl (@DY (decide (((Bz y).length:Int)>6)) (13)),cl (@DI (BP (VG (Az y)) (C8 y)) (BT (decide (((Bz y).length:Int)>6)) 13)),Bp Au,ce (@VH (m) (vs) (Az y) hz oM (Bz y) ZU),Bp AW,ce (@uZ (m) (Prod.snd (EL (Ji m (vs++Az y)) CH (Bz y) [])) (BB y) hN3),cl (@v7 (m) (vs) (Az y) (BV y) hz oM hs),cl (@DI (Prod.fst (EL U4 FD (BB y) [])) (Jb (Ea m) (vs++Az y) (BV y))),D3 Bt] func105
theorem A4v(Ak:Ds (BT (decide (((Az y).length:Int)>6)) 13) (Fe (Az y))=0)(Au:Ds (BP (VG (Az y)) (C8 y)) (BT (decide (((Bz y).length:Int)>6)) 13)=0)(AW:Prod.fst (EL (Ji m (vs++Az y)) CH (Bz y) [])=0)(Bt:Ds (Prod.fst (EL U4 FD (BB y) [])) (Jb (Ea m) (vs++Az y) (BV y))=0)(CJ:((BD y).length:Int)=0):Ef 105 [.agg (wL m),.agg (CZ y),.sl 1 (A1 vs)] ([]) (rI (Ds (BT (decide (((BD y).length:Int)>0)&&(Bd (BV y) != 6||((AP (BV y)).length:Int) != IntKind.wrap .i64 (((BD y).length:Int)+1))) 13) (BT (decide (((Dj y).length:Int)>0)) 6))) ([(0,[LV.mm (A6 (Prod.snd (EL (Ji m (vs++Az y)) CH (Bz y) [])))]),(1,[LV.mm (A6 (Prod.snd (EL U4 FD (BB y) [])))])]):=
 ef CR [cl (@BU (vs) oM),am (List.length (A1 vs++(fun x=>Prod.snd x) (1,A1 (Az y))) * (15+1)<=140737488355328) (by (simp only [List.length_append,A3]; omega)),sl (A3 (Az y)),cl (@DY (decide (((Az y).length:Int)>6)) (13)),cl (@Pz (m) (Az y) oM),cl (@DI (BT (decide (((Az y).length:Int)>6)) 13) (Fe (Az y))),Bp Ak,cl (@dU (m) (y) oM (C8 y) fC),sl (Vr.A0 (Bz y)),cl (@DY (decide (((Bz y).length:Int)>6)) (13)),cl (@DI (BP (VG (Az y)) (C8 y)) (BT (decide (((Bz y).length:Int)>6)) 13)),Bp Au,ce (@VH (m) (vs) (Az y) hz oM (Bz y) ZU),Bp AW,ce (@uZ (m) (Prod.snd (EL (Ji m (vs++Az y)) CH (Bz y) [])) (BB y) hN3),cl (@v7 (m) (vs) (Az y) (BV y) hz oM hs),cl (@DI (Prod.fst (EL U4 FD (BB y) [])) (Jb (Ea m) (vs++Az y) (BV y))),Bp Bt,sl (A3 (BD y)),mg,av (.v (.bool (bif decide (((BD y).length:Int)>0) then bif Bd (BV y) != 6 then true else (↑((fun x=>List.length (Prod.snd x)) (9,Tp.cs (AP (BV y)))):Int) != IntKind.wrap .i64 ((↑((fun x=>List.length (Prod.snd x)) (1,A1 (BD y))):Int)+1) else false))) (.v (.bool (decide (((BD y).length:Int)>0)&&(Bd (BV y) != 6||((AP (BV y)).length:Int) != IntKind.wrap .i64 (((BD y).length:Int)+1))))) (by (simp only [A3,Tp.A0,Bool.cond_true_left,Bool.cond_false_right]; done)),cl (@DY (decide (((BD y).length:Int)>0)&&(Bd (BV y) != 6||((AP (BV y)).length:Int) != IntKind.wrap .i64 (((BD y).length:Int)+1))) (13)),sl (A3 (BD y)),rp 3 (CT CJ),sl (Pr.A0 (Dj y)),rp 2 (CT CJ),cl (@DY (decide (((Dj y).length:Int)>0)) (6)),cl (@DI (BT (decide (((BD y).length:Int)>0)&&(Bd (BV y) != 6||((AP (BV y)).length:Int) != IntKind.wrap .i64 (((BD y).length:Int)+1))) 13) (BT (decide (((Dj y).length:Int)>0)) 6))] func105
theorem A4w(Ak:Ds (BT (decide (((Az y).length:Int)>6)) 13) (Fe (Az y))=0)(Au:Ds (BP (VG (Az y)) (C8 y)) (BT (decide (((Bz y).length:Int)>6)) 13)=0)(AW:Prod.fst (EL (Ji m (vs++Az y)) CH (Bz y) [])=0)(Bt:Ds (Prod.fst (EL U4 FD (BB y) [])) (Jb (Ea m) (vs++Az y) (BV y))=0)(CJ:¬((BD y).length:Int)=0):Ef 105 [.agg (wL m),.agg (CZ y),.sl 1 (A1 vs)] ([]) (rI (Ds (BT (decide (((BD y).length:Int)>0)&&(Bd (BV y) != 6||((AP (BV y)).length:Int) != IntKind.wrap .i64 (((BD y).length:Int)+1))) 13) 0)) ([(0,[LV.mm (A6 (Prod.snd (EL (Ji m (vs++Az y)) CH (Bz y) [])))]),(1,[LV.mm (A6 (Prod.snd (EL U4 FD (BB y) [])))])]):=
 ef CR [cl (@BU (vs) oM),am (List.length (A1 vs++(fun x=>Prod.snd x) (1,A1 (Az y))) * (15+1)<=140737488355328) (by (simp only [List.length_append,A3]; omega)),sl (A3 (Az y)),cl (@DY (decide (((Az y).length:Int)>6)) (13)),cl (@Pz (m) (Az y) oM),cl (@DI (BT (decide (((Az y).length:Int)>6)) 13) (Fe (Az y))),Bp Ak,cl (@dU (m) (y) oM (C8 y) fC),sl (Vr.A0 (Bz y)),cl (@DY (decide (((Bz y).length:Int)>6)) (13)),cl (@DI (BP (VG (Az y)) (C8 y)) (BT (decide (((Bz y).length:Int)>6)) 13)),Bp Au,ce (@VH (m) (vs) (Az y) hz oM (Bz y) ZU),Bp AW,ce (@uZ (m) (Prod.snd (EL (Ji m (vs++Az y)) CH (Bz y) [])) (BB y) hN3),cl (@v7 (m) (vs) (Az y) (BV y) hz oM hs),cl (@DI (Prod.fst (EL U4 FD (BB y) [])) (Jb (Ea m) (vs++Az y) (BV y))),Bp Bt,sl (A3 (BD y)),mg,av (.v (.bool (bif decide (((BD y).length:Int)>0) then bif Bd (BV y) != 6 then true else (↑((fun x=>List.length (Prod.snd x)) (9,Tp.cs (AP (BV y)))):Int) != IntKind.wrap .i64 ((↑((fun x=>List.length (Prod.snd x)) (1,A1 (BD y))):Int)+1) else false))) (.v (.bool (decide (((BD y).length:Int)>0)&&(Bd (BV y) != 6||((AP (BV y)).length:Int) != IntKind.wrap .i64 (((BD y).length:Int)+1))))) (by (simp only [A3,Tp.A0,Bool.cond_true_left,Bool.cond_false_right]; done)),cl (@DY (decide (((BD y).length:Int)>0)&&(Bd (BV y) != 6||((AP (BV y)).length:Int) != IntKind.wrap .i64 (((BD y).length:Int)+1))) (13)),sl (A3 (BD y)),rp 5 (As CJ),cl (@DY (false) (6)),cl (@DI (BT (decide (((BD y).length:Int)>0)&&(Bd (BV y) != 6||((AP (BV y)).length:Int) != IntKind.wrap .i64 (((BD y).length:Int)+1))) 13) (0))] func105
end
end Go.Proofs.YtmllcplaohkjnaaGreatDoor
