/- Values of Go as plain data, an evaluator over them, and what the functions of the program return; part Yk. -/
import Derived.Test.YtmllcplaohkjnaaGreatDoorYj
import Derived.Test.YtmllcplaohkjnaaGreatDoorYa
set_option linter.unusedSectionVars false
set_option linter.unusedSimpArgs false
set_option linter.unusedVariables false
namespace Go.Proofs.YtmllcplaohkjnaaGreatDoor
open Go.Proofs.Tryz
open Go.Pv Go.Proofs.Tryz
set_option maxRecDepth 100000
def v8(y:Df):Int:=Ds (BT (decide (((Az y).length:Int)>6)) 13) (Fe (Az y))
def vE(y:Df):Int:=Ds (BP (VG (Az y)) (C8 y)) (BT (decide (((Bz y).length:Int)>6)) 13)
def vJ(m:Mo)(y:Df)(vs:List BA):Int:=(EL (Ji m (vs++Az y)) CH (Bz y) []).1
def vU(m:Mo)(y:Df)(vs:List BA):Int:=Ds (EL U4 FD (BB y) []).1 (Jb (Ea m) (vs++Az y) (BV y))
def A4x(y:Df):Int:=Ds (BT (decide (((BD y).length:Int)>0)&&(Bd (BV y) != 6||((AP (BV y)).length:Int) != IntKind.wrap .i64 (((BD y).length:Int)+1))) 13) (if ((BD y).length:Int)=0 then BT (decide (((Dj y).length:Int)>0)) 6 else 0)
def Mw(m:Mo)(y:Df)(vs:List BA):Int:=if v8 y=0 then (if vE y=0 then (if vJ m y vs=0 then (if vU m y vs=0 then A4x y else vU m y vs) else vJ m y vs) else vE y) else v8 y
theorem Xp(m:Mo)(y:Df)(vs:List BA)(hz:Sz m)(GA:vs.length<=100000000)(hs:A5 (CZ y)<=100000000):Pu 105 [.agg (wL m),.agg (CZ y),.sl 1 (A1 vs)] (.ret (.int .i64 (Mw m y vs))):=by
 have hb:Af (A1 (BD y))+Af (A1 (Az y))+Af (Vr.cs (C8 y))+Af (Vr.cs (Bz y))+Af (Bo.cs (BB y))+A5 (BI (BV y))<A5 (CZ y):=by simp only [A5,Dq]; omega
 have v1:(Az y).length<=100000000:=by have:=Dc (Az y); omega
 have v2:(C8 y).length<=1000000000:=by have:=Vr.BF (C8 y); omega
 have v3:(Bz y).length<=1000000000:=by have:=Vr.BF (Bz y); omega
 have v4:(BB y).length<=1000000000:=by have:=Bo.BF (BB y); omega
 have v5:(BD y).length<=1000000000:=by have:=Dc (BD y); omega
 have v6:A5 (BI (BV y))<=100000000:=by omega
 have hx:Ci [.agg (wL m),.agg (CZ y),.sl 1 (A1 vs)]=true:=by
  have hw:Ci (wL m)=true:=by
   simp only [Ci,PV.EN,Da.AJ,Cl.AJ,In.AJ,Ms.AJ,Qu.AJ,Df.AJ,Bool.and_self]
  simp only [Ci,PV.EN,E8,Bool.and_true] at hw ⊢
  simp only [hw,Df.nx,Bool.and_self,Bool.true_and,Bool.and_true,Da.AJ,Cl.AJ,In.AJ,Ms.AJ,Qu.AJ,Df.AJ,Vr.AJ,Bo.AJ,Pr.AJ,Tp.AJ,Ex.AJ,Pm.AJ,Al.AJ,E8]
 unfold Mw
 by_cases h1:v8 y=0
 ·rw [iP h1]
  by_cases h2:vE y=0
  ·rw [iP h2]
   by_cases h3:vJ m y vs=0
   ·rw [iP h3]
    by_cases h4:vU m y vs=0
    ·rw [iP h4]
     unfold A4x
     by_cases h5:((BD y).length:Int)=0
     ·rw [iP h5]; exact Ob.Bn hx rfl (A4v m y vs hz GA v1 v2 v3 v4 v5 v6 h1 h2 h3 h4 h5)
     ·rw [iN h5]; exact Ob.Bn hx rfl (A4w m y vs hz GA v1 v2 v3 v4 v5 v6 h1 h2 h3 h4 h5)
    ·rw [iN h4]; exact Ob.Bn hx rfl (A4u m y vs hz GA v1 v2 v3 v4 v5 v6 h1 h2 h3 h4)
   ·rw [iN h3]; exact Ob.Bn hx rfl (A4t m y vs hz GA v1 v2 v3 v4 v5 v6 h1 h2 h3)
  ·rw [iN h2]; exact Ob.Bn hx rfl (A4s m y vs hz GA v1 v2 v3 v4 v5 v6 h1 h2)
 ·rw [iN h1]; exact Ob.Bn hx rfl (A4r m y vs hz GA v1 v2 v3 v4 v5 v6 h1)
section
variable (m:Mo) (y:Df) (vs:List BA) (sn:PV) (xe:Ext) (T2:(BD y).length<=1000000000)
include m y vs sn xe T2
theorem A4y(Ak:E0 y<0)(Au:Di y=false)(cx:Cx)(AH:cx.n=110){Q:A7->S->Prop}(hq:Q (.normal) (S.mk [(2,vL 1 (A1 vs)),(4,.v (.ro [.sl 4 (Da.cs (Aj m)),.sl 3 (Cl.cs (AA m)),.sl 12 (In.cs (Bv m)),.sl 8 (Ms.cs (Ba m)),.sl 6 (Qu.cs (BM m)),.sl 25 (Df.cs (AD m)),.bool false,pI 64] 0)),(5,.lp 5 0),(8,A2 0),(11,A2 (KE (BT (decide (((BD y).length:Int)>6)) 13) (Fe (BD y)) 1 0 (BT (!(((Az y).length:Int)==0&&((C8 y).length:Int)==0&&((Bz y).length:Int)==0&&((BB y).length:Int)==0&&((Dj y).length:Int)==0)) 6)))] [(5,Jn y)] xe)):PW prog cx (BC f58 8) (S.mk [(2,vL 1 (A1 vs)),(4,.v (.ro (wL m) 0)),(5,.lp 5 0),(8,A2 0)] [(5,Jn y)] xe) Q:=
 pw CR 110 [sl (A3 (BD y)),cl (@DY (decide (((BD y).length:Int)>6)) (13)),cl (@Pz (m) (BD y) T2),rp 4 (E9 Ak),cl (@DY (true) (1)),rp 6 (en (E0 y) 1),cl (@DY (false) (6)),rp 3 (B7 (BH Au)),cl (@bar (y)),rp 2 (B7 (BH Au)),cl (@DY (!(((Az y).length:Int)==0&&((C8 y).length:Int)==0&&((Bz y).length:Int)==0&&((BB y).length:Int)==0&&((Dj y).length:Int)==0)) (6)),cl (@Lq (BT (decide (((BD y).length:Int)>6)) 13) (Fe (BD y)) (1) (0) (BT (!(((Az y).length:Int)==0&&((C8 y).length:Int)==0&&((Bz y).length:Int)==0&&((BB y).length:Int)==0&&((Dj y).length:Int)==0)) 6))] [2,4,5,8,11] [5] AH hq
theorem A4z(Ak:E0 y<0)(Au:Di y=true)(cx:Cx)(AH:cx.n=110){Q:A7->S->Prop}(hq:Q (.normal) (S.mk [(2,vL 1 (A1 vs)),(4,.v (.ro [.sl 4 (Da.cs (Aj m)),.sl 3 (Cl.cs (AA m)),.sl 12 (In.cs (Bv m)),.sl 8 (Ms.cs (Ba m)),.sl 6 (Qu.cs (BM m)),.sl 25 (Df.cs (AD m)),.bool false,pI 64] 0)),(5,.lp 5 0),(8,A2 0),(11,A2 (KE (BT (decide (((BD y).length:Int)>6)) 13) (Fe (BD y)) 1 0 0))] [(5,Jn y)] xe)):PW prog cx (BC f58 8) (S.mk [(2,vL 1 (A1 vs)),(4,.v (.ro (wL m) 0)),(5,.lp 5 0),(8,A2 0)] [(5,Jn y)] xe) Q:=
 pw CR 110 [sl (A3 (BD y)),cl (@DY (decide (((BD y).length:Int)>6)) (13)),cl (@Pz (m) (BD y) T2),rp 4 (E9 Ak),cl (@DY (true) (1)),rp 6 (en (E0 y) 1),cl (@DY (false) (6)),rp 5 (B1 (B3 Au)),cl (@DY (false) (6)),cl (@Lq (BT (decide (((BD y).length:Int)>6)) 13) (Fe (BD y)) (1) (0) (0))] [2,4,5,8,11] [5] AH hq
theorem A50(Ak:¬E0 y<0)(Au:E0 y=1)(AW:Di y=false)(cx:Cx)(AH:cx.n=110){Q:A7->S->Prop}(hq:Q (.normal) (S.mk [(2,vL 1 (A1 vs)),(4,.v (.ro [.sl 4 (Da.cs (Aj m)),.sl 3 (Cl.cs (AA m)),.sl 12 (In.cs (Bv m)),.sl 8 (Ms.cs (Ba m)),.sl 6 (Qu.cs (BM m)),.sl 25 (Df.cs (AD m)),.bool false,pI 64] 0)),(5,.lp 5 0),(8,A2 0),(11,A2 (KE (BT (decide (((BD y).length:Int)>6)) 13) (Fe (BD y)) (BT (decide (E0 y>2)) 1) 6 (BT (!(((Az y).length:Int)==0&&((C8 y).length:Int)==0&&((Bz y).length:Int)==0&&((BB y).length:Int)==0&&((Dj y).length:Int)==0)) 6)))] [(5,Jn y)] xe)):PW prog cx (BC f58 8) (S.mk [(2,vL 1 (A1 vs)),(4,.v (.ro (wL m) 0)),(5,.lp 5 0),(8,A2 0)] [(5,Jn y)] xe) Q:=
 pw CR 110 [sl (A3 (BD y)),cl (@DY (decide (((BD y).length:Int)>6)) (13)),cl (@Pz (m) (BD y) T2),rp 4 (Br Ak),cl (@DY (decide (E0 y>2)) (1)),rp 4 (CT Au),rp 4 (B7 (BH AW)),CT Au,B7 (BH AW),CT Au,cl (@DY (true) (6)),rp 3 (B7 (BH AW)),cl (@bar (y)),rp 2 (B7 (BH AW)),cl (@DY (!(((Az y).length:Int)==0&&((C8 y).length:Int)==0&&((Bz y).length:Int)==0&&((BB y).length:Int)==0&&((Dj y).length:Int)==0)) (6)),cl (@Lq (BT (decide (((BD y).length:Int)>6)) 13) (Fe (BD y)) (BT (decide (E0 y>2)) 1) (6) (BT (!(((Az y).length:Int)==0&&((C8 y).length:Int)==0&&((Bz y).length:Int)==0&&((BB y).length:Int)==0&&((Dj y).length:Int)==0)) 6))] [2,4,5,8,11] [5] AH hq
theorem A51(Ak:¬E0 y<0)(Au:E0 y=1)(AW:Di y=true)(cx:Cx)(AH:cx.n=110){Q:A7->S->Prop}(hq:Q (.normal) (S.mk [(2,vL 1 (A1 vs)),(4,.v (.ro [.sl 4 (Da.cs (Aj m)),.sl 3 (Cl.cs (AA m)),.sl 12 (In.cs (Bv m)),.sl 8 (Ms.cs (Ba m)),.sl 6 (Qu.cs (BM m)),.sl 25 (Df.cs (AD m)),.bool false,pI 64] 0)),(5,.lp 5 0),(8,A2 0),(11,A2 (KE (BT (decide (((BD y).length:Int)>6)) 13) (Fe (BD y)) (BT (decide (E0 y>2)) 1) (BT (!EF (DQ y)) 6) 0))] [(5,Jn y)] xe)):PW prog cx (BC f58 8) (S.mk [(2,vL 1 (A1 vs)),(4,.v (.ro (wL m) 0)),(5,.lp 5 0),(8,A2 0)] [(5,Jn y)] xe) Q:=
 pw CR 110 [sl (A3 (BD y)),cl (@DY (decide (((BD y).length:Int)>6)) (13)),cl (@Pz (m) (BD y) T2),rp 4 (Br Ak),cl (@DY (decide (E0 y>2)) (1)),rp 4 (CT Au),rp 3 (B1 (B3 AW)),cl (@nnE (DQ y)),B1 (B3 AW),CT Au,B1 (B3 AW),CT Au,cl (@DY (!EF (DQ y)) (6)),rp 5 (B1 (B3 AW)),cl (@DY (false) (6)),cl (@Lq (BT (decide (((BD y).length:Int)>6)) 13) (Fe (BD y)) (BT (decide (E0 y>2)) 1) (BT (!EF (DQ y)) 6) (0))] [2,4,5,8,11] [5] AH hq
theorem A52(Ak:¬E0 y<0)(Au:¬E0 y=1)(AW:Di y=false)(cx:Cx)(AH:cx.n=110){Q:A7->S->Prop}(hq:Q (.normal) (S.mk [(2,vL 1 (A1 vs)),(4,.v (.ro [.sl 4 (Da.cs (Aj m)),.sl 3 (Cl.cs (AA m)),.sl 12 (In.cs (Bv m)),.sl 8 (Ms.cs (Ba m)),.sl 6 (Qu.cs (BM m)),.sl 25 (Df.cs (AD m)),.bool false,pI 64] 0)),(5,.lp 5 0),(8,A2 0),(11,A2 (KE (BT (decide (((BD y).length:Int)>6)) 13) (Fe (BD y)) (BT (decide (E0 y>2)) 1) 0 (BT (!(((Az y).length:Int)==0&&((C8 y).length:Int)==0&&((Bz y).length:Int)==0&&((BB y).length:Int)==0&&((Dj y).length:Int)==0)) 6)))] [(5,Jn y)] xe)):PW prog cx (BC f58 8) (S.mk [(2,vL 1 (A1 vs)),(4,.v (.ro (wL m) 0)),(5,.lp 5 0),(8,A2 0)] [(5,Jn y)] xe) Q:=
 pw CR 110 [sl (A3 (BD y)),cl (@DY (decide (((BD y).length:Int)>6)) (13)),cl (@Pz (m) (BD y) T2),rp 4 (Br Ak),cl (@DY (decide (E0 y>2)) (1)),rp 6 (As Au),cl (@DY (false) (6)),rp 3 (B7 (BH AW)),cl (@bar (y)),rp 2 (B7 (BH AW)),cl (@DY (!(((Az y).length:Int)==0&&((C8 y).length:Int)==0&&((Bz y).length:Int)==0&&((BB y).length:Int)==0&&((Dj y).length:Int)==0)) (6)),cl (@Lq (BT (decide (((BD y).length:Int)>6)) 13) (Fe (BD y)) (BT (decide (E0 y>2)) 1) (0) (BT (!(((Az y).length:Int)==0&&((C8 y).length:Int)==0&&((Bz y).length:Int)==0&&((BB y).length:Int)==0&&((Dj y).length:Int)==0)) 6))] [2,4,5,8,11] [5] AH hq
theorem A53(Ak:¬E0 y<0)(Au:¬E0 y=1)(AW:Di y=true)(cx:Cx)(AH:cx.n=110){Q:A7->S->Prop}(hq:Q (.normal) (S.mk [(2,vL 1 (A1 vs)),(4,.v (.ro [.sl 4 (Da.cs (Aj m)),.sl 3 (Cl.cs (AA m)),.sl 12 (In.cs (Bv m)),.sl 8 (Ms.cs (Ba m)),.sl 6 (Qu.cs (BM m)),.sl 25 (Df.cs (AD m)),.bool false,pI 64] 0)),(5,.lp 5 0),(8,A2 0),(11,A2 (KE (BT (decide (((BD y).length:Int)>6)) 13) (Fe (BD y)) (BT (decide (E0 y>2)) 1) 0 0))] [(5,Jn y)] xe)):PW prog cx (BC f58 8) (S.mk [(2,vL 1 (A1 vs)),(4,.v (.ro (wL m) 0)),(5,.lp 5 0),(8,A2 0)] [(5,Jn y)] xe) Q:=
 pw CR 110 [sl (A3 (BD y)),cl (@DY (decide (((BD y).length:Int)>6)) (13)),cl (@Pz (m) (BD y) T2),rp 4 (Br Ak),cl (@DY (decide (E0 y>2)) (1)),rp 6 (As Au),cl (@DY (false) (6)),rp 5 (B1 (B3 AW)),cl (@DY (false) (6)),cl (@Lq (BT (decide (((BD y).length:Int)>6)) 13) (Fe (BD y)) (BT (decide (E0 y>2)) 1) (0) (0))] [2,4,5,8,11] [5] AH hq
end
def Bh(m:Mo)(y:Df)(vs:List BA)(sn:PV):Int:=(if E0 y<0 then (if Di y=true then ((KE (BT (decide (((BD y).length:Int)>6)) 13) (Fe (BD y)) 1 0 0)) else ((KE (BT (decide (((BD y).length:Int)>6)) 13) (Fe (BD y)) 1 0 (BT (!(((Az y).length:Int)==0&&((C8 y).length:Int)==0&&((Bz y).length:Int)==0&&((BB y).length:Int)==0&&((Dj y).length:Int)==0)) 6)))) else (if E0 y=1 then (if Di y=true then ((KE (BT (decide (((BD y).length:Int)>6)) 13) (Fe (BD y)) (BT (decide (E0 y>2)) 1) (BT (!EF (DQ y)) 6) 0)) else ((KE (BT (decide (((BD y).length:Int)>6)) 13) (Fe (BD y)) (BT (decide (E0 y>2)) 1) 6 (BT (!(((Az y).length:Int)==0&&((C8 y).length:Int)==0&&((Bz y).length:Int)==0&&((BB y).length:Int)==0&&((Dj y).length:Int)==0)) 6)))) else (if Di y=true then ((KE (BT (decide (((BD y).length:Int)>6)) 13) (Fe (BD y)) (BT (decide (E0 y>2)) 1) 0 0)) else ((KE (BT (decide (((BD y).length:Int)>6)) 13) (Fe (BD y)) (BT (decide (E0 y>2)) 1) 0 (BT (!(((Az y).length:Int)==0&&((C8 y).length:Int)==0&&((Bz y).length:Int)==0&&((BB y).length:Int)==0&&((Dj y).length:Int)==0)) 6))))))
theorem Iu(m:Mo)(y:Df)(vs:List BA)(sn:PV)(xe:Ext)(T2:(BD y).length<=1000000000):(Ob.F9 110 (BC f58 8) (S.mk [(2,vL 1 (A1 vs)),(4,.v (.ro (wL m) 0)),(5,.lp 5 0),(8,A2 0)] [(5,Jn y)] xe) (.normal) (S.mk [(2,vL 1 (A1 vs)),(4,.v (.ro [.sl 4 (Da.cs (Aj m)),.sl 3 (Cl.cs (AA m)),.sl 12 (In.cs (Bv m)),.sl 8 (Ms.cs (Ba m)),.sl 6 (Qu.cs (BM m)),.sl 25 (Df.cs (AD m)),.bool false,pI 64] 0)),(5,.lp 5 0),(8,A2 0),(11,A2 (Bh m y vs sn))] [(5,Jn y)] xe)).ok prog:=by
 intro cx AH
 by_cases g0:E0 y<0
 ·by_cases g1:Di y=true
  ·exact A4z m y vs sn xe T2 g0 g1 cx AH ⟨rfl,by rw [show Bh m y vs sn=((KE (BT (decide (((BD y).length:Int)>6)) 13) (Fe (BD y)) 1 0 0)) by unfold Bh; rw [iP g0,iP g1]]⟩
  ·exact A4y m y vs sn xe T2 g0 (Bool.eq_false_iff.2 g1) cx AH ⟨rfl,by rw [show Bh m y vs sn=((KE (BT (decide (((BD y).length:Int)>6)) 13) (Fe (BD y)) 1 0 (BT (!(((Az y).length:Int)==0&&((C8 y).length:Int)==0&&((Bz y).length:Int)==0&&((BB y).length:Int)==0&&((Dj y).length:Int)==0)) 6))) by unfold Bh; rw [iP g0,iN g1]]⟩
 ·by_cases g1:E0 y=1
  ·by_cases g2:Di y=true
   ·exact A51 m y vs sn xe T2 g0 g1 g2 cx AH ⟨rfl,by rw [show Bh m y vs sn=((KE (BT (decide (((BD y).length:Int)>6)) 13) (Fe (BD y)) (BT (decide (E0 y>2)) 1) (BT (!EF (DQ y)) 6) 0)) by unfold Bh; rw [iN g0,iP g1,iP g2]]⟩
   ·exact A50 m y vs sn xe T2 g0 g1 (Bool.eq_false_iff.2 g2) cx AH ⟨rfl,by rw [show Bh m y vs sn=((KE (BT (decide (((BD y).length:Int)>6)) 13) (Fe (BD y)) (BT (decide (E0 y>2)) 1) 6 (BT (!(((Az y).length:Int)==0&&((C8 y).length:Int)==0&&((Bz y).length:Int)==0&&((BB y).length:Int)==0&&((Dj y).length:Int)==0)) 6))) by unfold Bh; rw [iN g0,iP g1,iN g2]]⟩
  ·by_cases g2:Di y=true
   ·exact A53 m y vs sn xe T2 g0 g1 g2 cx AH ⟨rfl,by rw [show Bh m y vs sn=((KE (BT (decide (((BD y).length:Int)>6)) 13) (Fe (BD y)) (BT (decide (E0 y>2)) 1) 0 0)) by unfold Bh; rw [iN g0,iN g1,iP g2]]⟩
   ·exact A52 m y vs sn xe T2 g0 g1 (Bool.eq_false_iff.2 g2) cx AH ⟨rfl,by rw [show Bh m y vs sn=((KE (BT (decide (((BD y).length:Int)>6)) 13) (Fe (BD y)) (BT (decide (E0 y>2)) 1) 0 (BT (!(((Az y).length:Int)==0&&((C8 y).length:Int)==0&&((Bz y).length:Int)==0&&((BB y).length:Int)==0&&((Dj y).length:Int)==0)) 6))) by unfold Bh; rw [iN g0,iN g1,iN g2]]⟩
theorem A54(m:Mo)(vs bd:List BA)(y:Ex):NS m vs bd y=WZ (O6 m) vs bd y:=by unfold NS WZ; rfl
theorem X0(m:Mo)(v1 v2 bd:List BA)(y:Ex)(hz:Sz m)(Dh:v1.length+v2.length<=1000000000)(It:bd.length<=100000000)(hs:A5 (AT y)<=100000000):Pu 106 [.agg (wL m),.agg (AT y),.sl 1 (A1 v1++A1 v2),.sl 1 (A1 bd)] (.ret (.int .i64 (WZ (O6 m) (v1++v2) bd y))):=by
 rw [<-Av,<-A54]; exact xpS m (v1++v2) bd y hz (by rw [List.length_append]; exact Dh) It hs
def Oy:Md:=⟨CR.ro,fun t=>t==1000008⟩
theorem HI(y:Df):Af (A1 (BD y))+Af (A1 (Az y))+A5 (AT (DQ y))+A5 (BI (BV y))<A5 (CZ y):=by simp only [A5,Dq]; omega
theorem q1{y:Df}(hs:A5 (CZ y)<=10000000):A5 (AT (DQ y))<=100000000:=by have:=HI y; omega
theorem q2{y:Df}(hs:A5 (CZ y)<=10000000):(BD y).length<=100000000:=by have:=HI y; have:=Dc (BD y); omega
theorem q3{y:Df}{vs:List BA}(GA:vs.length<=10000000)(hs:A5 (CZ y)<=10000000):vs.length+(Az y).length<=1000000000:=by have:=HI y; have:=Dc (Az y); omega
theorem q4{y:Df}{vs:List BA}(GA:vs.length<=10000000)(hs:A5 (CZ y)<=10000000):(A1 vs++A1 (Az y)).length * (15+1)<=140737488355328:=by have:=q3 GA hs; simp only [List.length_append,A3]; omega
theorem q5{y:Df}(hs:A5 (CZ y)<=10000000):(BD y).length<=1000000000:=by have:=q2 hs; omega
section
variable (m:Mo) (y:Df) (vs:List BA) (hz:Sz m) (GA:vs.length<=10000000) (Kb:(Az y).length<=10000000) (hs:A5 (CZ y)<=10000000)
include m y vs hz GA Kb hs
theorem A55(Ak:¬AU (Ac (Ag y))=0):Pu 58 [.agg (wL m),.agg (CZ y),.sl 1 (A1 vs),PV.HJ] (rI (AU (Ac (Ag y)))):=
 pm Oy [cl (@IT (m) (Ag y)),D3 Ak] func58
theorem A56(Ak:AU (Ac (Ag y))=0)(Au:¬Bh m y vs default=0):Pu 58 [.agg (wL m),.agg (CZ y),.sl 1 (A1 vs),PV.HJ] (rI (Bh m y vs default)):=
 pu Oy (fun e=>[cl (@IT (m) (Ag y)),Bp Ak,bf false,lf (S.mk [(0,.v (.agg [.sl 4 (Da.cs (Aj m)),.sl 3 (Cl.cs (AA m)),.sl 12 (In.cs (Bv m)),.sl 8 (Ms.cs (Ba m)),.sl 6 (Qu.cs (BM m)),.sl 25 (Df.cs (AD m)),.bool false,pI 64])),(1,.v (.agg (CZ y))),(2,vL 1 (A1 vs)),(3,.v PV.HJ),(4,.v (.ro [.sl 4 (Da.cs (Aj m)),.sl 3 (Cl.cs (AA m)),.sl 12 (In.cs (Bv m)),.sl 8 (Ms.cs (Ba m)),.sl 6 (Qu.cs (BM m)),.sl 25 (Df.cs (AD m)),.bool false,pI 64] 0)),(5,.lp 5 0),(8,A2 0),(14,.v (.agg [.sl 4 (Da.cs (Aj m)),.sl 3 (Cl.cs (AA m)),.sl 12 (In.cs (Bv m)),.sl 8 (Ms.cs (Ba m)),.sl 6 (Qu.cs (BM m)),.sl 25 (Df.cs (AD m)),.bool false,pI 64])),(15,.lp 5 0),(16,vS (Ag y)),(17,A2 (AU (Ac (Ag y)))),(9,A2 (AU (Ac (Ag y)))),(18,A2 (AU (Ac (Ag y)))),(19,.v (.bool (AU (Ac (Ag y)) != 0))),(21,.v PV.HJ),(22,.v (.bool false))] [(5,Jn y)] e) (@Iu (m) (y) (vs) default (e) (by (apply q5 <;> first | assumption | omega | decide))) ⟨⟨W,W,W,W,Ar⟩,⟨⟨W,W,W,W,W,W,W,W,W,W,W,W,W,W,W,W,W,W,W,W,W,W,W,W,W,Ar⟩,Ar⟩,rfl⟩,D3 Au]) func58
theorem A57(Ak:AU (Ac (Ag y))=0)(Au:Bh m y vs default=0)(AW:Di y=true)(Bt:¬Mw m y vs=0):Pu 58 [.agg (wL m),.agg (CZ y),.sl 1 (A1 vs),PV.HJ] (rI (Mw m y vs)):=
 pu Oy (fun e=>[cl (@IT (m) (Ag y)),Bp Ak,bf false,lf (S.mk [(0,.v (.agg [.sl 4 (Da.cs (Aj m)),.sl 3 (Cl.cs (AA m)),.sl 12 (In.cs (Bv m)),.sl 8 (Ms.cs (Ba m)),.sl 6 (Qu.cs (BM m)),.sl 25 (Df.cs (AD m)),.bool false,pI 64])),(1,.v (.agg (CZ y))),(2,vL 1 (A1 vs)),(3,.v PV.HJ),(4,.v (.ro [.sl 4 (Da.cs (Aj m)),.sl 3 (Cl.cs (AA m)),.sl 12 (In.cs (Bv m)),.sl 8 (Ms.cs (Ba m)),.sl 6 (Qu.cs (BM m)),.sl 25 (Df.cs (AD m)),.bool false,pI 64] 0)),(5,.lp 5 0),(8,A2 0),(14,.v (.agg [.sl 4 (Da.cs (Aj m)),.sl 3 (Cl.cs (AA m)),.sl 12 (In.cs (Bv m)),.sl 8 (Ms.cs (Ba m)),.sl 6 (Qu.cs (BM m)),.sl 25 (Df.cs (AD m)),.bool false,pI 64])),(15,.lp 5 0),(16,vS (Ag y)),(17,A2 (AU (Ac (Ag y)))),(9,A2 (AU (Ac (Ag y)))),(18,A2 (AU (Ac (Ag y)))),(19,.v (.bool (AU (Ac (Ag y)) != 0))),(21,.v PV.HJ),(22,.v (.bool false))] [(5,Jn y)] e) (@Iu (m) (y) (vs) default (e) (by (apply q5 <;> first | assumption | omega | decide))) ⟨⟨W,W,W,W,Ar⟩,⟨⟨W,W,W,W,W,W,W,W,W,W,W,W,W,W,W,W,W,W,W,W,W,W,W,W,W,Ar⟩,Ar⟩,rfl⟩,Bp Au,cl (@BU (vs) oM),am (List.length (A1 vs++(fun x=>Prod.snd x) (1,A1 (Az y))) * (15+1)<=140737488355328) (by (simp only [List.length_append,A3]; omega)),rp 6 (B7 AW),bt true,cl (@Xp (m) (y) (vs) hz oM oM),D3 Bt]) func58
theorem A58(Ak:AU (Ac (Ag y))=0)(Au:Bh m y vs default=0)(AW:Di y=true)(Bt:Mw m y vs=0)(CJ:E0 y=1):Pu 58 [.agg (wL m),.agg (CZ y),.sl 1 (A1 vs),PV.HJ] (rI 0):=
 pu Oy (fun e=>[cl (@IT (m) (Ag y)),Bp Ak,bf false,lf (S.mk [(0,.v (.agg [.sl 4 (Da.cs (Aj m)),.sl 3 (Cl.cs (AA m)),.sl 12 (In.cs (Bv m)),.sl 8 (Ms.cs (Ba m)),.sl 6 (Qu.cs (BM m)),.sl 25 (Df.cs (AD m)),.bool false,pI 64])),(1,.v (.agg (CZ y))),(2,vL 1 (A1 vs)),(3,.v PV.HJ),(4,.v (.ro [.sl 4 (Da.cs (Aj m)),.sl 3 (Cl.cs (AA m)),.sl 12 (In.cs (Bv m)),.sl 8 (Ms.cs (Ba m)),.sl 6 (Qu.cs (BM m)),.sl 25 (Df.cs (AD m)),.bool false,pI 64] 0)),(5,.lp 5 0),(8,A2 0),(14,.v (.agg [.sl 4 (Da.cs (Aj m)),.sl 3 (Cl.cs (AA m)),.sl 12 (In.cs (Bv m)),.sl 8 (Ms.cs (Ba m)),.sl 6 (Qu.cs (BM m)),.sl 25 (Df.cs (AD m)),.bool false,pI 64])),(15,.lp 5 0),(16,vS (Ag y)),(17,A2 (AU (Ac (Ag y)))),(9,A2 (AU (Ac (Ag y)))),(18,A2 (AU (Ac (Ag y)))),(19,.v (.bool (AU (Ac (Ag y)) != 0))),(21,.v PV.HJ),(22,.v (.bool false))] [(5,Jn y)] e) (@Iu (m) (y) (vs) default (e) (by (apply q5 <;> first | assumption | omega | decide))) ⟨⟨W,W,W,W,Ar⟩,⟨⟨W,W,W,W,W,W,W,W,W,W,W,W,W,W,W,W,W,W,W,W,W,W,W,W,W,Ar⟩,Ar⟩,rfl⟩,Bp Au,cl (@BU (vs) oM),am (List.length (A1 vs++(fun x=>Prod.snd x) (1,A1 (Az y))) * (15+1)<=140737488355328) (by (simp only [List.length_append,A3]; omega)),rp 6 (B7 AW),bt true,cl (@Xp (m) (y) (vs) hz oM oM),Bp Bt,CT CJ]) func58
theorem A59(Ak:AU (Ac (Ag y))=0)(Au:Bh m y vs default=0)(AW:Di y=true)(Bt:Mw m y vs=0)(CJ:¬E0 y=1):Pu 58 [.agg (wL m),.agg (CZ y),.sl 1 (A1 vs),PV.HJ] (rI (WZ (O6 m) (vs++Az y) (BD y) (DQ y))):=
 pu Oy (fun e=>[cl (@IT (m) (Ag y)),Bp Ak,bf false,lf (S.mk [(0,.v (.agg [.sl 4 (Da.cs (Aj m)),.sl 3 (Cl.cs (AA m)),.sl 12 (In.cs (Bv m)),.sl 8 (Ms.cs (Ba m)),.sl 6 (Qu.cs (BM m)),.sl 25 (Df.cs (AD m)),.bool false,pI 64])),(1,.v (.agg (CZ y))),(2,vL 1 (A1 vs)),(3,.v PV.HJ),(4,.v (.ro [.sl 4 (Da.cs (Aj m)),.sl 3 (Cl.cs (AA m)),.sl 12 (In.cs (Bv m)),.sl 8 (Ms.cs (Ba m)),.sl 6 (Qu.cs (BM m)),.sl 25 (Df.cs (AD m)),.bool false,pI 64] 0)),(5,.lp 5 0),(8,A2 0),(14,.v (.agg [.sl 4 (Da.cs (Aj m)),.sl 3 (Cl.cs (AA m)),.sl 12 (In.cs (Bv m)),.sl 8 (Ms.cs (Ba m)),.sl 6 (Qu.cs (BM m)),.sl 25 (Df.cs (AD m)),.bool false,pI 64])),(15,.lp 5 0),(16,vS (Ag y)),(17,A2 (AU (Ac (Ag y)))),(9,A2 (AU (Ac (Ag y)))),(18,A2 (AU (Ac (Ag y)))),(19,.v (.bool (AU (Ac (Ag y)) != 0))),(21,.v PV.HJ),(22,.v (.bool false))] [(5,Jn y)] e) (@Iu (m) (y) (vs) default (e) (by (apply q5 <;> first | assumption | omega | decide))) ⟨⟨W,W,W,W,Ar⟩,⟨⟨W,W,W,W,W,W,W,W,W,W,W,W,W,W,W,W,W,W,W,W,W,W,W,W,W,Ar⟩,Ar⟩,rfl⟩,Bp Au,cl (@BU (vs) oM),am (List.length (A1 vs++(fun x=>Prod.snd x) (1,A1 (Az y))) * (15+1)<=140737488355328) (by (simp only [List.length_append,A3]; omega)),rp 6 (B7 AW),bt true,cl (@Xp (m) (y) (vs) hz oM oM),Bp Bt,As CJ,cl (@X0 (m) (vs) (Az y) (BD y) (DQ y) hz oM (by (apply q2 <;> first | assumption | omega | decide)) (by (apply q1 <;> first | assumption | omega | decide)))]) func58
theorem A5a(Ak:AU (Ac (Ag y))=0)(Au:Bh m y vs default=0)(AW:Di y=false)(Bt:Ej (BV y)=false)(CJ:¬Mw m y vs=0):Pu 58 [.agg (wL m),.agg (CZ y),.sl 1 (A1 vs),PV.HJ] (rI (Mw m y vs)):=
 pu Oy (fun e=>[cl (@IT (m) (Ag y)),Bp Ak,bf false,lf (S.mk [(0,.v (.agg [.sl 4 (Da.cs (Aj m)),.sl 3 (Cl.cs (AA m)),.sl 12 (In.cs (Bv m)),.sl 8 (Ms.cs (Ba m)),.sl 6 (Qu.cs (BM m)),.sl 25 (Df.cs (AD m)),.bool false,pI 64])),(1,.v (.agg (CZ y))),(2,vL 1 (A1 vs)),(3,.v PV.HJ),(4,.v (.ro [.sl 4 (Da.cs (Aj m)),.sl 3 (Cl.cs (AA m)),.sl 12 (In.cs (Bv m)),.sl 8 (Ms.cs (Ba m)),.sl 6 (Qu.cs (BM m)),.sl 25 (Df.cs (AD m)),.bool false,pI 64] 0)),(5,.lp 5 0),(8,A2 0),(14,.v (.agg [.sl 4 (Da.cs (Aj m)),.sl 3 (Cl.cs (AA m)),.sl 12 (In.cs (Bv m)),.sl 8 (Ms.cs (Ba m)),.sl 6 (Qu.cs (BM m)),.sl 25 (Df.cs (AD m)),.bool false,pI 64])),(15,.lp 5 0),(16,vS (Ag y)),(17,A2 (AU (Ac (Ag y)))),(9,A2 (AU (Ac (Ag y)))),(18,A2 (AU (Ac (Ag y)))),(19,.v (.bool (AU (Ac (Ag y)) != 0))),(21,.v PV.HJ),(22,.v (.bool false))] [(5,Jn y)] e) (@Iu (m) (y) (vs) default (e) (by (apply q5 <;> first | assumption | omega | decide))) ⟨⟨W,W,W,W,Ar⟩,⟨⟨W,W,W,W,W,W,W,W,W,W,W,W,W,W,W,W,W,W,W,W,W,W,W,W,W,Ar⟩,Ar⟩,rfl⟩,Bp Au,cl (@BU (vs) oM),am (List.length (A1 vs++(fun x=>Prod.snd x) (1,A1 (Az y))) * (15+1)<=140737488355328) (by (simp only [List.length_append,A3]; omega)),rp 4 (B1 AW),cl (@fG (BV y)),rp 2 (B1 AW),B7 (BH Bt),cl (@Xp (m) (y) (vs) hz oM oM),D3 CJ]) func58
theorem A5b(Ak:AU (Ac (Ag y))=0)(Au:Bh m y vs default=0)(AW:Di y=false)(Bt:Ej (BV y)=false)(CJ:Mw m y vs=0)(ED:E0 y=1):Pu 58 [.agg (wL m),.agg (CZ y),.sl 1 (A1 vs),PV.HJ] (rI 0):=
 pu Oy (fun e=>[cl (@IT (m) (Ag y)),Bp Ak,bf false,lf (S.mk [(0,.v (.agg [.sl 4 (Da.cs (Aj m)),.sl 3 (Cl.cs (AA m)),.sl 12 (In.cs (Bv m)),.sl 8 (Ms.cs (Ba m)),.sl 6 (Qu.cs (BM m)),.sl 25 (Df.cs (AD m)),.bool false,pI 64])),(1,.v (.agg (CZ y))),(2,vL 1 (A1 vs)),(3,.v PV.HJ),(4,.v (.ro [.sl 4 (Da.cs (Aj m)),.sl 3 (Cl.cs (AA m)),.sl 12 (In.cs (Bv m)),.sl 8 (Ms.cs (Ba m)),.sl 6 (Qu.cs (BM m)),.sl 25 (Df.cs (AD m)),.bool false,pI 64] 0)),(5,.lp 5 0),(8,A2 0),(14,.v (.agg [.sl 4 (Da.cs (Aj m)),.sl 3 (Cl.cs (AA m)),.sl 12 (In.cs (Bv m)),.sl 8 (Ms.cs (Ba m)),.sl 6 (Qu.cs (BM m)),.sl 25 (Df.cs (AD m)),.bool false,pI 64])),(15,.lp 5 0),(16,vS (Ag y)),(17,A2 (AU (Ac (Ag y)))),(9,A2 (AU (Ac (Ag y)))),(18,A2 (AU (Ac (Ag y)))),(19,.v (.bool (AU (Ac (Ag y)) != 0))),(21,.v PV.HJ),(22,.v (.bool false))] [(5,Jn y)] e) (@Iu (m) (y) (vs) default (e) (by (apply q5 <;> first | assumption | omega | decide))) ⟨⟨W,W,W,W,Ar⟩,⟨⟨W,W,W,W,W,W,W,W,W,W,W,W,W,W,W,W,W,W,W,W,W,W,W,W,W,Ar⟩,Ar⟩,rfl⟩,Bp Au,cl (@BU (vs) oM),am (List.length (A1 vs++(fun x=>Prod.snd x) (1,A1 (Az y))) * (15+1)<=140737488355328) (by (simp only [List.length_append,A3]; omega)),rp 4 (B1 AW),cl (@fG (BV y)),rp 2 (B1 AW),B7 (BH Bt),cl (@Xp (m) (y) (vs) hz oM oM),Bp CJ,CT ED]) func58
theorem A5c(Ak:AU (Ac (Ag y))=0)(Au:Bh m y vs default=0)(AW:Di y=false)(Bt:Ej (BV y)=false)(CJ:Mw m y vs=0)(ED:¬E0 y=1):Pu 58 [.agg (wL m),.agg (CZ y),.sl 1 (A1 vs),PV.HJ] (rI (WZ (O6 m) (vs++Az y) (BD y) (DQ y))):=
 pu Oy (fun e=>[cl (@IT (m) (Ag y)),Bp Ak,bf false,lf (S.mk [(0,.v (.agg [.sl 4 (Da.cs (Aj m)),.sl 3 (Cl.cs (AA m)),.sl 12 (In.cs (Bv m)),.sl 8 (Ms.cs (Ba m)),.sl 6 (Qu.cs (BM m)),.sl 25 (Df.cs (AD m)),.bool false,pI 64])),(1,.v (.agg (CZ y))),(2,vL 1 (A1 vs)),(3,.v PV.HJ),(4,.v (.ro [.sl 4 (Da.cs (Aj m)),.sl 3 (Cl.cs (AA m)),.sl 12 (In.cs (Bv m)),.sl 8 (Ms.cs (Ba m)),.sl 6 (Qu.cs (BM m)),.sl 25 (Df.cs (AD m)),.bool false,pI 64] 0)),(5,.lp 5 0),(8,A2 0),(14,.v (.agg [.sl 4 (Da.cs (Aj m)),.sl 3 (Cl.cs (AA m)),.sl 12 (In.cs (Bv m)),.sl 8 (Ms.cs (Ba m)),.sl 6 (Qu.cs (BM m)),.sl 25 (Df.cs (AD m)),.bool false,pI 64])),(15,.lp 5 0),(16,vS (Ag y)),(17,A2 (AU (Ac (Ag y)))),(9,A2 (AU (Ac (Ag y)))),(18,A2 (AU (Ac (Ag y)))),(19,.v (.bool (AU (Ac (Ag y)) != 0))),(21,.v PV.HJ),(22,.v (.bool false))] [(5,Jn y)] e) (@Iu (m) (y) (vs) default (e) (by (apply q5 <;> first | assumption | omega | decide))) ⟨⟨W,W,W,W,Ar⟩,⟨⟨W,W,W,W,W,W,W,W,W,W,W,W,W,W,W,W,W,W,W,W,W,W,W,W,W,Ar⟩,Ar⟩,rfl⟩,Bp Au,cl (@BU (vs) oM),am (List.length (A1 vs++(fun x=>Prod.snd x) (1,A1 (Az y))) * (15+1)<=140737488355328) (by (simp only [List.length_append,A3]; omega)),rp 4 (B1 AW),cl (@fG (BV y)),rp 2 (B1 AW),B7 (BH Bt),cl (@Xp (m) (y) (vs) hz oM oM),Bp CJ,As ED,cl (@X0 (m) (vs) (Az y) (BD y) (DQ y) hz oM (by (apply q2 <;> first | assumption | omega | decide)) (by (apply q1 <;> first | assumption | omega | decide)))]) func58
theorem A5d(Ak:AU (Ac (Ag y))=0)(Au:Bh m y vs default=0)(AW:Di y=false)(Bt:Ej (BV y)=true)(CJ:E0 y=1):Pu 58 [.agg (wL m),.agg (CZ y),.sl 1 (A1 vs),PV.HJ] (rI 0):=
 pu Oy (fun e=>[cl (@IT (m) (Ag y)),Bp Ak,bf false,lf (S.mk [(0,.v (.agg [.sl 4 (Da.cs (Aj m)),.sl 3 (Cl.cs (AA m)),.sl 12 (In.cs (Bv m)),.sl 8 (Ms.cs (Ba m)),.sl 6 (Qu.cs (BM m)),.sl 25 (Df.cs (AD m)),.bool false,pI 64])),(1,.v (.agg (CZ y))),(2,vL 1 (A1 vs)),(3,.v PV.HJ),(4,.v (.ro [.sl 4 (Da.cs (Aj m)),.sl 3 (Cl.cs (AA m)),.sl 12 (In.cs (Bv m)),.sl 8 (Ms.cs (Ba m)),.sl 6 (Qu.cs (BM m)),.sl 25 (Df.cs (AD m)),.bool false,pI 64] 0)),(5,.lp 5 0),(8,A2 0),(14,.v (.agg [.sl 4 (Da.cs (Aj m)),.sl 3 (Cl.cs (AA m)),.sl 12 (In.cs (Bv m)),.sl 8 (Ms.cs (Ba m)),.sl 6 (Qu.cs (BM m)),.sl 25 (Df.cs (AD m)),.bool false,pI 64])),(15,.lp 5 0),(16,vS (Ag y)),(17,A2 (AU (Ac (Ag y)))),(9,A2 (AU (Ac (Ag y)))),(18,A2 (AU (Ac (Ag y)))),(19,.v (.bool (AU (Ac (Ag y)) != 0))),(21,.v PV.HJ),(22,.v (.bool false))] [(5,Jn y)] e) (@Iu (m) (y) (vs) default (e) (by (apply q5 <;> first | assumption | omega | decide))) ⟨⟨W,W,W,W,Ar⟩,⟨⟨W,W,W,W,W,W,W,W,W,W,W,W,W,W,W,W,W,W,W,W,W,W,W,W,W,Ar⟩,Ar⟩,rfl⟩,Bp Au,cl (@BU (vs) oM),am (List.length (A1 vs++(fun x=>Prod.snd x) (1,A1 (Az y))) * (15+1)<=140737488355328) (by (simp only [List.length_append,A3]; omega)),rp 4 (B1 AW),cl (@fG (BV y)),rp 2 (B1 AW),B1 (B3 Bt),CT CJ]) func58
theorem vV(Ak:AU (Ac (Ag y))=0)(Au:Bh m y vs default=0)(AW:Di y=false)(Bt:Ej (BV y)=true)(CJ:¬E0 y=1):Pu 58 [.agg (wL m),.agg (CZ y),.sl 1 (A1 vs),PV.HJ] (rI (WZ (O6 m) (vs++Az y) (BD y) (DQ y))):=
 pu Oy (fun e=>[cl (@IT (m) (Ag y)),Bp Ak,bf false,lf (S.mk [(0,.v (.agg [.sl 4 (Da.cs (Aj m)),.sl 3 (Cl.cs (AA m)),.sl 12 (In.cs (Bv m)),.sl 8 (Ms.cs (Ba m)),.sl 6 (Qu.cs (BM m)),.sl 25 (Df.cs (AD m)),.bool false,pI 64])),(1,.v (.agg (CZ y))),(2,vL 1 (A1 vs)),(3,.v PV.HJ),(4,.v (.ro [.sl 4 (Da.cs (Aj m)),.sl 3 (Cl.cs (AA m)),.sl 12 (In.cs (Bv m)),.sl 8 (Ms.cs (Ba m)),.sl 6 (Qu.cs (BM m)),.sl 25 (Df.cs (AD m)),.bool false,pI 64] 0)),(5,.lp 5 0),(8,A2 0),(14,.v (.agg [.sl 4 (Da.cs (Aj m)),.sl 3 (Cl.cs (AA m)),.sl 12 (In.cs (Bv m)),.sl 8 (Ms.cs (Ba m)),.sl 6 (Qu.cs (BM m)),.sl 25 (Df.cs (AD m)),.bool false,pI 64])),(15,.lp 5 0),(16,vS (Ag y)),(17,A2 (AU (Ac (Ag y)))),(9,A2 (AU (Ac (Ag y)))),(18,A2 (AU (Ac (Ag y)))),(19,.v (.bool (AU (Ac (Ag y)) != 0))),(21,.v PV.HJ),(22,.v (.bool false))] [(5,Jn y)] e) (@Iu (m) (y) (vs) default (e) (by (apply q5 <;> first | assumption | omega | decide))) ⟨⟨W,W,W,W,Ar⟩,⟨⟨W,W,W,W,W,W,W,W,W,W,W,W,W,W,W,W,W,W,W,W,W,W,W,W,W,Ar⟩,Ar⟩,rfl⟩,Bp Au,cl (@BU (vs) oM),am (List.length (A1 vs++(fun x=>Prod.snd x) (1,A1 (Az y))) * (15+1)<=140737488355328) (by (simp only [List.length_append,A3]; omega)),rp 4 (B1 AW),cl (@fG (BV y)),rp 2 (B1 AW),B1 (B3 Bt),As CJ,cl (@X0 (m) (vs) (Az y) (BD y) (DQ y) hz oM (by (apply q2 <;> first | assumption | omega | decide)) (by (apply q1 <;> first | assumption | omega | decide)))]) func58
end
section
variable (m:Mo) (y:Df) (vs:List BA) (a b c d f:List BA) (hz:Sz m) (GA:vs.length<=10000000) (Kb:(Az y).length<=10000000) (hs:A5 (CZ y)<=10000000)
include m y vs a b c d f hz GA Kb hs
theorem A5e(Ak:¬AU (Ac (Ag y))=0):Ef 58 [.agg (wL m),.agg (CZ y),.sl 1 (A1 vs),PV.mp 3] ([(0,[LV.mm (A6 a)]),(1,[LV.mm (A6 b)]),(2,[LV.mm (A6 c)]),(3,[LV.mm (A6 d)]),(4,[LV.mm (A6 f)])]) (rI (AU (Ac (Ag y)))) ([(0,[LV.mm (A6 a)]),(1,[LV.mm (A6 b)]),(2,[LV.mm (A6 c)]),(3,[LV.mm (A6 d)]),(4,[LV.mm (A6 f)])]):=
 ef Oy [cl (@IT (m) (Ag y)),D3 Ak] func58
theorem A5f(Ak:AU (Ac (Ag y))=0)(Au:¬Cp (Ag y) d=0):Ef 58 [.agg (wL m),.agg (CZ y),.sl 1 (A1 vs),PV.mp 3] ([(0,[LV.mm (A6 a)]),(1,[LV.mm (A6 b)]),(2,[LV.mm (A6 c)]),(3,[LV.mm (A6 d)]),(4,[LV.mm (A6 f)])]) (rI (Cp (Ag y) d)) ([(0,[LV.mm (A6 a)]),(1,[LV.mm (A6 b)]),(2,[LV.mm (A6 c)]),(3,[LV.mm (A6 (Dx (Ag y) d))]),(4,[LV.mm (A6 f)])]):=
 ef Oy [cl (@IT (m) (Ag y)),Bp Ak,bt true,ce (@GO (Ag y) (a) (b) (c) (d) (f)),D3 Au] func58
theorem A5g(Ak:AU (Ac (Ag y))=0)(Au:Cp (Ag y) d=0)(AW:¬Bh m y vs default=0):Ef 58 [.agg (wL m),.agg (CZ y),.sl 1 (A1 vs),PV.mp 3] ([(0,[LV.mm (A6 a)]),(1,[LV.mm (A6 b)]),(2,[LV.mm (A6 c)]),(3,[LV.mm (A6 d)]),(4,[LV.mm (A6 f)])]) (rI (Bh m y vs default)) ([(0,[LV.mm (A6 a)]),(1,[LV.mm (A6 b)]),(2,[LV.mm (A6 c)]),(3,[LV.mm (A6 (Dx (Ag y) d))]),(4,[LV.mm (A6 f)])]):=
 ef Oy [cl (@IT (m) (Ag y)),Bp Ak,bt true,ce (@GO (Ag y) (a) (b) (c) (d) (f)),Bp Au,lf (S.mk [(0,.v (.agg [.sl 4 (Da.cs (Aj m)),.sl 3 (Cl.cs (AA m)),.sl 12 (In.cs (Bv m)),.sl 8 (Ms.cs (Ba m)),.sl 6 (Qu.cs (BM m)),.sl 25 (Df.cs (AD m)),.bool false,pI 64])),(1,.v (.agg (CZ y))),(2,vL 1 (A1 vs)),(3,.v (PV.mp 3)),(4,.v (.ro [.sl 4 (Da.cs (Aj m)),.sl 3 (Cl.cs (AA m)),.sl 12 (In.cs (Bv m)),.sl 8 (Ms.cs (Ba m)),.sl 6 (Qu.cs (BM m)),.sl 25 (Df.cs (AD m)),.bool false,pI 64] 0)),(5,.lp 5 0),(8,A2 0),(14,.v (.agg [.sl 4 (Da.cs (Aj m)),.sl 3 (Cl.cs (AA m)),.sl 12 (In.cs (Bv m)),.sl 8 (Ms.cs (Ba m)),.sl 6 (Qu.cs (BM m)),.sl 25 (Df.cs (AD m)),.bool false,pI 64])),(15,.lp 5 0),(16,vS (Ag y)),(17,A2 (AU (Ac (Ag y)))),(9,A2 (AU (Ac (Ag y)))),(18,A2 (AU (Ac (Ag y)))),(19,.v (.bool (AU (Ac (Ag y)) != 0))),(21,.v (PV.mp 3)),(22,.v (.bool true)),(23,.v (PV.mp 3)),(24,.lp 5 0),(25,vS (Ag y)),(26,A2 (Cp (Ag y) d)),(10,A2 (Cp (Ag y) d)),(27,A2 (Cp (Ag y) d)),(28,.v (.bool (Cp (Ag y) d != 0)))] [(5,Jn y)] [(0,[LV.mm (A6 a)]),(1,[LV.mm (A6 b)]),(2,[LV.mm (A6 c)]),(3,[LV.mm (A6 (Dx (Ag y) d))]),(4,[LV.mm (A6 f)])]) (@Iu (m) (y) (vs) default ([(0,[LV.mm (A6 a)]),(1,[LV.mm (A6 b)]),(2,[LV.mm (A6 c)]),(3,[LV.mm (A6 (Dx (Ag y) d))]),(4,[LV.mm (A6 f)])]) (by (apply q5 <;> first | assumption | omega | decide))) ⟨⟨W,W,W,W,Ar⟩,⟨⟨W,W,W,W,W,W,W,W,W,W,W,W,W,W,W,W,W,W,W,W,W,W,W,W,W,Ar⟩,Ar⟩,rfl⟩,D3 AW] func58
theorem A5h(Ak:AU (Ac (Ag y))=0)(Au:Cp (Ag y) d=0)(AW:Bh m y vs default=0)(Bt:Di y=true)(CJ:¬Mw m y vs=0):Ef 58 [.agg (wL m),.agg (CZ y),.sl 1 (A1 vs),PV.mp 3] ([(0,[LV.mm (A6 a)]),(1,[LV.mm (A6 b)]),(2,[LV.mm (A6 c)]),(3,[LV.mm (A6 d)]),(4,[LV.mm (A6 f)])]) (rI (Mw m y vs)) ([(0,[LV.mm (A6 a)]),(1,[LV.mm (A6 b)]),(2,[LV.mm (A6 c)]),(3,[LV.mm (A6 (Dx (Ag y) d))]),(4,[LV.mm (A6 f)])]):=
 ef Oy [cl (@IT (m) (Ag y)),Bp Ak,bt true,ce (@GO (Ag y) (a) (b) (c) (d) (f)),Bp Au,lf (S.mk [(0,.v (.agg [.sl 4 (Da.cs (Aj m)),.sl 3 (Cl.cs (AA m)),.sl 12 (In.cs (Bv m)),.sl 8 (Ms.cs (Ba m)),.sl 6 (Qu.cs (BM m)),.sl 25 (Df.cs (AD m)),.bool false,pI 64])),(1,.v (.agg (CZ y))),(2,vL 1 (A1 vs)),(3,.v (PV.mp 3)),(4,.v (.ro [.sl 4 (Da.cs (Aj m)),.sl 3 (Cl.cs (AA m)),.sl 12 (In.cs (Bv m)),.sl 8 (Ms.cs (Ba m)),.sl 6 (Qu.cs (BM m)),.sl 25 (Df.cs (AD m)),.bool false,pI 64] 0)),(5,.lp 5 0),(8,A2 0),(14,.v (.agg [.sl 4 (Da.cs (Aj m)),.sl 3 (Cl.cs (AA m)),.sl 12 (In.cs (Bv m)),.sl 8 (Ms.cs (Ba m)),.sl 6 (Qu.cs (BM m)),.sl 25 (Df.cs (AD m)),.bool false,pI 64])),(15,.lp 5 0),(16,vS (Ag y)),(17,A2 (AU (Ac (Ag y)))),(9,A2 (AU (Ac (Ag y)))),(18,A2 (AU (Ac (Ag y)))),(19,.v (.bool (AU (Ac (Ag y)) != 0))),(21,.v (PV.mp 3)),(22,.v (.bool true)),(23,.v (PV.mp 3)),(24,.lp 5 0),(25,vS (Ag y)),(26,A2 (Cp (Ag y) d)),(10,A2 (Cp (Ag y) d)),(27,A2 (Cp (Ag y) d)),(28,.v (.bool (Cp (Ag y) d != 0)))] [(5,Jn y)] [(0,[LV.mm (A6 a)]),(1,[LV.mm (A6 b)]),(2,[LV.mm (A6 c)]),(3,[LV.mm (A6 (Dx (Ag y) d))]),(4,[LV.mm (A6 f)])]) (@Iu (m) (y) (vs) default ([(0,[LV.mm (A6 a)]),(1,[LV.mm (A6 b)]),(2,[LV.mm (A6 c)]),(3,[LV.mm (A6 (Dx (Ag y) d))]),(4,[LV.mm (A6 f)])]) (by (apply q5 <;> first | assumption | omega | decide))) ⟨⟨W,W,W,W,Ar⟩,⟨⟨W,W,W,W,W,W,W,W,W,W,W,W,W,W,W,W,W,W,W,W,W,W,W,W,W,Ar⟩,Ar⟩,rfl⟩,Bp AW,cl (@BU (vs) oM),am (List.length (A1 vs++(fun x=>Prod.snd x) (1,A1 (Az y))) * (15+1)<=140737488355328) (by (simp only [List.length_append,A3]; omega)),rp 6 (B7 Bt),bt true,cl (@Xp (m) (y) (vs) hz oM oM),D3 CJ] func58
theorem A5i(Ak:AU (Ac (Ag y))=0)(Au:Cp (Ag y) d=0)(AW:Bh m y vs default=0)(Bt:Di y=true)(CJ:Mw m y vs=0)(ED:E0 y=1):Ef 58 [.agg (wL m),.agg (CZ y),.sl 1 (A1 vs),PV.mp 3] ([(0,[LV.mm (A6 a)]),(1,[LV.mm (A6 b)]),(2,[LV.mm (A6 c)]),(3,[LV.mm (A6 d)]),(4,[LV.mm (A6 f)])]) (rI 0) ([(0,[LV.mm (A6 a)]),(1,[LV.mm (A6 b)]),(2,[LV.mm (A6 c)]),(3,[LV.mm (A6 (Dx (Ag y) d))]),(4,[LV.mm (A6 f)])]):=
 ef Oy [cl (@IT (m) (Ag y)),Bp Ak,bt true,ce (@GO (Ag y) (a) (b) (c) (d) (f)),Bp Au,lf (S.mk [(0,.v (.agg [.sl 4 (Da.cs (Aj m)),.sl 3 (Cl.cs (AA m)),.sl 12 (In.cs (Bv m)),.sl 8 (Ms.cs (Ba m)),.sl 6 (Qu.cs (BM m)),.sl 25 (Df.cs (AD m)),.bool false,pI 64])),(1,.v (.agg (CZ y))),(2,vL 1 (A1 vs)),(3,.v (PV.mp 3)),(4,.v (.ro [.sl 4 (Da.cs (Aj m)),.sl 3 (Cl.cs (AA m)),.sl 12 (In.cs (Bv m)),.sl 8 (Ms.cs (Ba m)),.sl 6 (Qu.cs (BM m)),.sl 25 (Df.cs (AD m)),.bool false,pI 64] 0)),(5,.lp 5 0),(8,A2 0),(14,.v (.agg [.sl 4 (Da.cs (Aj m)),.sl 3 (Cl.cs (AA m)),.sl 12 (In.cs (Bv m)),.sl 8 (Ms.cs (Ba m)),.sl 6 (Qu.cs (BM m)),.sl 25 (Df.cs (AD m)),.bool false,pI 64])),(15,.lp 5 0),(16,vS (Ag y)),(17,A2 (AU (Ac (Ag y)))),(9,A2 (AU (Ac (Ag y)))),(18,A2 (AU (Ac (Ag y)))),(19,.v (.bool (AU (Ac (Ag y)) != 0))),(21,.v (PV.mp 3)),(22,.v (.bool true)),(23,.v (PV.mp 3)),(24,.lp 5 0),(25,vS (Ag y)),(26,A2 (Cp (Ag y) d)),(10,A2 (Cp (Ag y) d)),(27,A2 (Cp (Ag y) d)),(28,.v (.bool (Cp (Ag y) d != 0)))] [(5,Jn y)] [(0,[LV.mm (A6 a)]),(1,[LV.mm (A6 b)]),(2,[LV.mm (A6 c)]),(3,[LV.mm (A6 (Dx (Ag y) d))]),(4,[LV.mm (A6 f)])]) (@Iu (m) (y) (vs) default ([(0,[LV.mm (A6 a)]),(1,[LV.mm (A6 b)]),(2,[LV.mm (A6 c)]),(3,[LV.mm (A6 (Dx (Ag y) d))]),(4,[LV.mm (A6 f)])]) (by (apply q5 <;> first | assumption | omega | decide))) ⟨⟨W,W,W,W,Ar⟩,⟨⟨W,W,W,W,W,W,W,W,W,W,W,W,W,W,W,W,W,W,W,W,W,W,W,W,W,Ar⟩,Ar⟩,rfl⟩,Bp AW,cl (@BU (vs) oM),am (List.length (A1 vs++(fun x=>Prod.snd x) (1,A1 (Az y))) * (15+1)<=140737488355328) (by (simp only [List.length_append,A3]; omega)),rp 6 (B7 Bt),bt true,cl (@Xp (m) (y) (vs) hz oM oM),Bp CJ,CT ED] func58
theorem A5j(Ak:AU (Ac (Ag y))=0)(Au:Cp (Ag y) d=0)(AW:Bh m y vs default=0)(Bt:Di y=true)(CJ:Mw m y vs=0)(ED:¬E0 y=1):Ef 58 [.agg (wL m),.agg (CZ y),.sl 1 (A1 vs),PV.mp 3] ([(0,[LV.mm (A6 a)]),(1,[LV.mm (A6 b)]),(2,[LV.mm (A6 c)]),(3,[LV.mm (A6 d)]),(4,[LV.mm (A6 f)])]) (rI (WZ (O6 m) (vs++Az y) (BD y) (DQ y))) ([(0,[LV.mm (A6 a)]),(1,[LV.mm (A6 b)]),(2,[LV.mm (A6 c)]),(3,[LV.mm (A6 (Dx (Ag y) d))]),(4,[LV.mm (A6 f)])]):=
 ef Oy [cl (@IT (m) (Ag y)),Bp Ak,bt true,ce (@GO (Ag y) (a) (b) (c) (d) (f)),Bp Au,lf (S.mk [(0,.v (.agg [.sl 4 (Da.cs (Aj m)),.sl 3 (Cl.cs (AA m)),.sl 12 (In.cs (Bv m)),.sl 8 (Ms.cs (Ba m)),.sl 6 (Qu.cs (BM m)),.sl 25 (Df.cs (AD m)),.bool false,pI 64])),(1,.v (.agg (CZ y))),(2,vL 1 (A1 vs)),(3,.v (PV.mp 3)),(4,.v (.ro [.sl 4 (Da.cs (Aj m)),.sl 3 (Cl.cs (AA m)),.sl 12 (In.cs (Bv m)),.sl 8 (Ms.cs (Ba m)),.sl 6 (Qu.cs (BM m)),.sl 25 (Df.cs (AD m)),.bool false,pI 64] 0)),(5,.lp 5 0),(8,A2 0),(14,.v (.agg [.sl 4 (Da.cs (Aj m)),.sl 3 (Cl.cs (AA m)),.sl 12 (In.cs (Bv m)),.sl 8 (Ms.cs (Ba m)),.sl 6 (Qu.cs (BM m)),.sl 25 (Df.cs (AD m)),.bool false,pI 64])),(15,.lp 5 0),(16,vS (Ag y)),(17,A2 (AU (Ac (Ag y)))),(9,A2 (AU (Ac (Ag y)))),(18,A2 (AU (Ac (Ag y)))),(19,.v (.bool (AU (Ac (Ag y)) != 0))),(21,.v (PV.mp 3)),(22,.v (.bool true)),(23,.v (PV.mp 3)),(24,.lp 5 0),(25,vS (Ag y)),(26,A2 (Cp (Ag y) d)),(10,A2 (Cp (Ag y) d)),(27,A2 (Cp (Ag y) d)),(28,.v (.bool (Cp (Ag y) d != 0)))] [(5,Jn y)] [(0,[LV.mm (A6 a)]),(1,[LV.mm (A6 b)]),(2,[LV.mm (A6 c)]),(3,[LV.mm (A6 (Dx (Ag y) d))]),(4,[LV.mm (A6 f)])]) (@Iu (m) (y) (vs) default ([(0,[LV.mm (A6 a)]),(1,[LV.mm (A6 b)]),(2,[LV.mm (A6 c)]),(3,[LV.mm (A6 (Dx (Ag y) d))]),(4,[LV.mm (A6 f)])]) (by (apply q5 <;> first | assumption | omega | decide))) ⟨⟨W,W,W,W,Ar⟩,⟨⟨W,W,W,W,W,W,W,W,W,W,W,W,W,W,W,W,W,W,W,W,W,W,W,W,W,Ar⟩,Ar⟩,rfl⟩,Bp AW,cl (@BU (vs) oM),am (List.length (A1 vs++(fun x=>Prod.snd x) (1,A1 (Az y))) * (15+1)<=140737488355328) (by (simp only [List.length_append,A3]; omega)),rp 6 (B7 Bt),bt true,cl (@Xp (m) (y) (vs) hz oM oM),Bp CJ,As ED,cl (@X0 (m) (vs) (Az y) (BD y) (DQ y) hz oM (by (apply q2 <;> first | assumption | omega | decide)) (by (apply q1 <;> first | assumption | omega | decide)))] func58
theorem A5k(Ak:AU (Ac (Ag y))=0)(Au:Cp (Ag y) d=0)(AW:Bh m y vs default=0)(Bt:Di y=false)(CJ:Ej (BV y)=false)(ED:¬Mw m y vs=0):Ef 58 [.agg (wL m),.agg (CZ y),.sl 1 (A1 vs),PV.mp 3] ([(0,[LV.mm (A6 a)]),(1,[LV.mm (A6 b)]),(2,[LV.mm (A6 c)]),(3,[LV.mm (A6 d)]),(4,[LV.mm (A6 f)])]) (rI (Mw m y vs)) ([(0,[LV.mm (A6 a)]),(1,[LV.mm (A6 b)]),(2,[LV.mm (A6 c)]),(3,[LV.mm (A6 (Dx (Ag y) d))]),(4,[LV.mm (A6 f)])]):=
 ef Oy [cl (@IT (m) (Ag y)),Bp Ak,bt true,ce (@GO (Ag y) (a) (b) (c) (d) (f)),Bp Au,lf (S.mk [(0,.v (.agg [.sl 4 (Da.cs (Aj m)),.sl 3 (Cl.cs (AA m)),.sl 12 (In.cs (Bv m)),.sl 8 (Ms.cs (Ba m)),.sl 6 (Qu.cs (BM m)),.sl 25 (Df.cs (AD m)),.bool false,pI 64])),(1,.v (.agg (CZ y))),(2,vL 1 (A1 vs)),(3,.v (PV.mp 3)),(4,.v (.ro [.sl 4 (Da.cs (Aj m)),.sl 3 (Cl.cs (AA m)),.sl 12 (In.cs (Bv m)),.sl 8 (Ms.cs (Ba m)),.sl 6 (Qu.cs (BM m)),.sl 25 (Df.cs (AD m)),.bool false,pI 64] 0)),(5,.lp 5 0),(8,A2 0),(14,.v (.agg [.sl 4 (Da.cs (Aj m)),.sl 3 (Cl.cs (AA m)),.sl 12 (In.cs (Bv m)),.sl 8 (Ms.cs (Ba m)),.sl 6 (Qu.cs (BM m)),.sl 25 (Df.cs (AD m)),.bool false,pI 64])),(15,.lp 5 0),(16,vS (Ag y)),(17,A2 (AU (Ac (Ag y)))),(9,A2 (AU (Ac (Ag y)))),(18,A2 (AU (Ac (Ag y)))),(19,.v (.bool (AU (Ac (Ag y)) != 0))),(21,.v (PV.mp 3)),(22,.v (.bool true)),(23,.v (PV.mp 3)),(24,.lp 5 0),(25,vS (Ag y)),(26,A2 (Cp (Ag y) d)),(10,A2 (Cp (Ag y) d)),(27,A2 (Cp (Ag y) d)),(28,.v (.bool (Cp (Ag y) d != 0)))] [(5,Jn y)] [(0,[LV.mm (A6 a)]),(1,[LV.mm (A6 b)]),(2,[LV.mm (A6 c)]),(3,[LV.mm (A6 (Dx (Ag y) d))]),(4,[LV.mm (A6 f)])]) (@Iu (m) (y) (vs) default ([(0,[LV.mm (A6 a)]),(1,[LV.mm (A6 b)]),(2,[LV.mm (A6 c)]),(3,[LV.mm (A6 (Dx (Ag y) d))]),(4,[LV.mm (A6 f)])]) (by (apply q5 <;> first | assumption | omega | decide))) ⟨⟨W,W,W,W,Ar⟩,⟨⟨W,W,W,W,W,W,W,W,W,W,W,W,W,W,W,W,W,W,W,W,W,W,W,W,W,Ar⟩,Ar⟩,rfl⟩,Bp AW,cl (@BU (vs) oM),am (List.length (A1 vs++(fun x=>Prod.snd x) (1,A1 (Az y))) * (15+1)<=140737488355328) (by (simp only [List.length_append,A3]; omega)),rp 4 (B1 Bt),cl (@fG (BV y)),rp 2 (B1 Bt),B7 (BH CJ),cl (@Xp (m) (y) (vs) hz oM oM),D3 ED] func58
theorem A5l(Ak:AU (Ac (Ag y))=0)(Au:Cp (Ag y) d=0)(AW:Bh m y vs default=0)(Bt:Di y=false)(CJ:Ej (BV y)=false)(ED:Mw m y vs=0)(iZ:E0 y=1):Ef 58 [.agg (wL m),.agg (CZ y),.sl 1 (A1 vs),PV.mp 3] ([(0,[LV.mm (A6 a)]),(1,[LV.mm (A6 b)]),(2,[LV.mm (A6 c)]),(3,[LV.mm (A6 d)]),(4,[LV.mm (A6 f)])]) (rI 0) ([(0,[LV.mm (A6 a)]),(1,[LV.mm (A6 b)]),(2,[LV.mm (A6 c)]),(3,[LV.mm (A6 (Dx (Ag y) d))]),(4,[LV.mm (A6 f)])]):=
 ef Oy [cl (@IT (m) (Ag y)),Bp Ak,bt true,ce (@GO (Ag y) (a) (b) (c) (d) (f)),Bp Au,lf (S.mk [(0,.v (.agg [.sl 4 (Da.cs (Aj m)),.sl 3 (Cl.cs (AA m)),.sl 12 (In.cs (Bv m)),.sl 8 (Ms.cs (Ba m)),.sl 6 (Qu.cs (BM m)),.sl 25 (Df.cs (AD m)),.bool false,pI 64])),(1,.v (.agg (CZ y))),(2,vL 1 (A1 vs)),(3,.v (PV.mp 3)),(4,.v (.ro [.sl 4 (Da.cs (Aj m)),.sl 3 (Cl.cs (AA m)),.sl 12 (In.cs (Bv m)),.sl 8 (Ms.cs (Ba m)),.sl 6 (Qu.cs (BM m)),.sl 25 (Df.cs (AD m)),.bool false,pI 64] 0)),(5,.lp 5 0),(8,A2 0),(14,.v (.agg [.sl 4 (Da.cs (Aj m)),.sl 3 (Cl.cs (AA m)),.sl 12 (In.cs (Bv m)),.sl 8 (Ms.cs (Ba m)),.sl 6 (Qu.cs (BM m)),.sl 25 (Df.cs (AD m)),.bool false,pI 64])),(15,.lp 5 0),(16,vS (Ag y)),(17,A2 (AU (Ac (Ag y)))),(9,A2 (AU (Ac (Ag y)))),(18,A2 (AU (Ac (Ag y)))),(19,.v (.bool (AU (Ac (Ag y)) != 0))),(21,.v (PV.mp 3)),(22,.v (.bool true)),(23,.v (PV.mp 3)),(24,.lp 5 0),(25,vS (Ag y)),(26,A2 (Cp (Ag y) d)),(10,A2 (Cp (Ag y) d)),(27,A2 (Cp (Ag y) d)),(28,.v (.bool (Cp (Ag y) d != 0)))] [(5,Jn y)] [(0,[LV.mm (A6 a)]),(1,[LV.mm (A6 b)]),(2,[LV.mm (A6 c)]),(3,[LV.mm (A6 (Dx (Ag y) d))]),(4,[LV.mm (A6 f)])]) (@Iu (m) (y) (vs) default ([(0,[LV.mm (A6 a)]),(1,[LV.mm (A6 b)]),(2,[LV.mm (A6 c)]),(3,[LV.mm (A6 (Dx (Ag y) d))]),(4,[LV.mm (A6 f)])]) (by (apply q5 <;> first | assumption | omega | decide))) ⟨⟨W,W,W,W,Ar⟩,⟨⟨W,W,W,W,W,W,W,W,W,W,W,W,W,W,W,W,W,W,W,W,W,W,W,W,W,Ar⟩,Ar⟩,rfl⟩,Bp AW,cl (@BU (vs) oM),am (List.length (A1 vs++(fun x=>Prod.snd x) (1,A1 (Az y))) * (15+1)<=140737488355328) (by (simp only [List.length_append,A3]; omega)),rp 4 (B1 Bt),cl (@fG (BV y)),rp 2 (B1 Bt),B7 (BH CJ),cl (@Xp (m) (y) (vs) hz oM oM),Bp ED,CT iZ] func58
theorem A5m(Ak:AU (Ac (Ag y))=0)(Au:Cp (Ag y) d=0)(AW:Bh m y vs default=0)(Bt:Di y=false)(CJ:Ej (BV y)=false)(ED:Mw m y vs=0)(iZ:¬E0 y=1):Ef 58 [.agg (wL m),.agg (CZ y),.sl 1 (A1 vs),PV.mp 3] ([(0,[LV.mm (A6 a)]),(1,[LV.mm (A6 b)]),(2,[LV.mm (A6 c)]),(3,[LV.mm (A6 d)]),(4,[LV.mm (A6 f)])]) (rI (WZ (O6 m) (vs++Az y) (BD y) (DQ y))) ([(0,[LV.mm (A6 a)]),(1,[LV.mm (A6 b)]),(2,[LV.mm (A6 c)]),(3,[LV.mm (A6 (Dx (Ag y) d))]),(4,[LV.mm (A6 f)])]):=
 ef Oy [cl (@IT (m) (Ag y)),Bp Ak,bt true,ce (@GO (Ag y) (a) (b) (c) (d) (f)),Bp Au,lf (S.mk [(0,.v (.agg [.sl 4 (Da.cs (Aj m)),.sl 3 (Cl.cs (AA m)),.sl 12 (In.cs (Bv m)),.sl 8 (Ms.cs (Ba m)),.sl 6 (Qu.cs (BM m)),.sl 25 (Df.cs (AD m)),.bool false,pI 64])),(1,.v (.agg (CZ y))),(2,vL 1 (A1 vs)),(3,.v (PV.mp 3)),(4,.v (.ro [.sl 4 (Da.cs (Aj m)),.sl 3 (Cl.cs (AA m)),.sl 12 (In.cs (Bv m)),.sl 8 (Ms.cs (Ba m)),.sl 6 (Qu.cs (BM m)),.sl 25 (Df.cs (AD m)),.bool false,pI 64] 0)),(5,.lp 5 0),(8,A2 0),(14,.v (.agg [.sl 4 (Da.cs (Aj m)),.sl 3 (Cl.cs (AA m)),.sl 12 (In.cs (Bv m)),.sl 8 (Ms.cs (Ba m)),.sl 6 (Qu.cs (BM m)),.sl 25 (Df.cs (AD m)),.bool false,pI 64])),(15,.lp 5 0),(16,vS (Ag y)),(17,A2 (AU (Ac (Ag y)))),(9,A2 (AU (Ac (Ag y)))),(18,A2 (AU (Ac (Ag y)))),(19,.v (.bool (AU (Ac (Ag y)) != 0))),(21,.v (PV.mp 3)),(22,.v (.bool true)),(23,.v (PV.mp 3)),(24,.lp 5 0),(25,vS (Ag y)),(26,A2 (Cp (Ag y) d)),(10,A2 (Cp (Ag y) d)),(27,A2 (Cp (Ag y) d)),(28,.v (.bool (Cp (Ag y) d != 0)))] [(5,Jn y)] [(0,[LV.mm (A6 a)]),(1,[LV.mm (A6 b)]),(2,[LV.mm (A6 c)]),(3,[LV.mm (A6 (Dx (Ag y) d))]),(4,[LV.mm (A6 f)])]) (@Iu (m) (y) (vs) default ([(0,[LV.mm (A6 a)]),(1,[LV.mm (A6 b)]),(2,[LV.mm (A6 c)]),(3,[LV.mm (A6 (Dx (Ag y) d))]),(4,[LV.mm (A6 f)])]) (by (apply q5 <;> first | assumption | omega | decide))) ⟨⟨W,W,W,W,Ar⟩,⟨⟨W,W,W,W,W,W,W,W,W,W,W,W,W,W,W,W,W,W,W,W,W,W,W,W,W,Ar⟩,Ar⟩,rfl⟩,Bp AW,cl (@BU (vs) oM),am (List.length (A1 vs++(fun x=>Prod.snd x) (1,A1 (Az y))) * (15+1)<=140737488355328) (by (simp only [List.length_append,A3]; omega)),rp 4 (B1 Bt),cl (@fG (BV y)),rp 2 (B1 Bt),B7 (BH CJ),cl (@Xp (m) (y) (vs) hz oM oM),Bp ED,As iZ,cl (@X0 (m) (vs) (Az y) (BD y) (DQ y) hz oM (by (apply q2 <;> first | assumption | omega | decide)) (by (apply q1 <;> first | assumption | omega | decide)))] func58
theorem vX(Ak:AU (Ac (Ag y))=0)(Au:Cp (Ag y) d=0)(AW:Bh m y vs default=0)(Bt:Di y=false)(CJ:Ej (BV y)=true)(ED:E0 y=1):Ef 58 [.agg (wL m),.agg (CZ y),.sl 1 (A1 vs),PV.mp 3] ([(0,[LV.mm (A6 a)]),(1,[LV.mm (A6 b)]),(2,[LV.mm (A6 c)]),(3,[LV.mm (A6 d)]),(4,[LV.mm (A6 f)])]) (rI 0) ([(0,[LV.mm (A6 a)]),(1,[LV.mm (A6 b)]),(2,[LV.mm (A6 c)]),(3,[LV.mm (A6 (Dx (Ag y) d))]),(4,[LV.mm (A6 f)])]):=
 ef Oy [cl (@IT (m) (Ag y)),Bp Ak,bt true,ce (@GO (Ag y) (a) (b) (c) (d) (f)),Bp Au,lf (S.mk [(0,.v (.agg [.sl 4 (Da.cs (Aj m)),.sl 3 (Cl.cs (AA m)),.sl 12 (In.cs (Bv m)),.sl 8 (Ms.cs (Ba m)),.sl 6 (Qu.cs (BM m)),.sl 25 (Df.cs (AD m)),.bool false,pI 64])),(1,.v (.agg (CZ y))),(2,vL 1 (A1 vs)),(3,.v (PV.mp 3)),(4,.v (.ro [.sl 4 (Da.cs (Aj m)),.sl 3 (Cl.cs (AA m)),.sl 12 (In.cs (Bv m)),.sl 8 (Ms.cs (Ba m)),.sl 6 (Qu.cs (BM m)),.sl 25 (Df.cs (AD m)),.bool false,pI 64] 0)),(5,.lp 5 0),(8,A2 0),(14,.v (.agg [.sl 4 (Da.cs (Aj m)),.sl 3 (Cl.cs (AA m)),.sl 12 (In.cs (Bv m)),.sl 8 (Ms.cs (Ba m)),.sl 6 (Qu.cs (BM m)),.sl 25 (Df.cs (AD m)),.bool false,pI 64])),(15,.lp 5 0),(16,vS (Ag y)),(17,A2 (AU (Ac (Ag y)))),(9,A2 (AU (Ac (Ag y)))),(18,A2 (AU (Ac (Ag y)))),(19,.v (.bool (AU (Ac (Ag y)) != 0))),(21,.v (PV.mp 3)),(22,.v (.bool true)),(23,.v (PV.mp 3)),(24,.lp 5 0),(25,vS (Ag y)),(26,A2 (Cp (Ag y) d)),(10,A2 (Cp (Ag y) d)),(27,A2 (Cp (Ag y) d)),(28,.v (.bool (Cp (Ag y) d != 0)))] [(5,Jn y)] [(0,[LV.mm (A6 a)]),(1,[LV.mm (A6 b)]),(2,[LV.mm (A6 c)]),(3,[LV.mm (A6 (Dx (Ag y) d))]),(4,[LV.mm (A6 f)])]) (@Iu (m) (y) (vs) default ([(0,[LV.mm (A6 a)]),(1,[LV.mm (A6 b)]),(2,[LV.mm (A6 c)]),(3,[LV.mm (A6 (Dx (Ag y) d))]),(4,[LV.mm (A6 f)])]) (by (apply q5 <;> first | assumption | omega | decide))) ⟨⟨W,W,W,W,Ar⟩,⟨⟨W,W,W,W,W,W,W,W,W,W,W,W,W,W,W,W,W,W,W,W,W,W,W,W,W,Ar⟩,Ar⟩,rfl⟩,Bp AW,cl (@BU (vs) oM),am (List.length (A1 vs++(fun x=>Prod.snd x) (1,A1 (Az y))) * (15+1)<=140737488355328) (by (simp only [List.length_append,A3]; omega)),rp 4 (B1 Bt),cl (@fG (BV y)),rp 2 (B1 Bt),B1 (B3 CJ),CT ED] func58
theorem vY(Ak:AU (Ac (Ag y))=0)(Au:Cp (Ag y) d=0)(AW:Bh m y vs default=0)(Bt:Di y=false)(CJ:Ej (BV y)=true)(ED:¬E0 y=1):Ef 58 [.agg (wL m),.agg (CZ y),.sl 1 (A1 vs),PV.mp 3] ([(0,[LV.mm (A6 a)]),(1,[LV.mm (A6 b)]),(2,[LV.mm (A6 c)]),(3,[LV.mm (A6 d)]),(4,[LV.mm (A6 f)])]) (rI (WZ (O6 m) (vs++Az y) (BD y) (DQ y))) ([(0,[LV.mm (A6 a)]),(1,[LV.mm (A6 b)]),(2,[LV.mm (A6 c)]),(3,[LV.mm (A6 (Dx (Ag y) d))]),(4,[LV.mm (A6 f)])]):=
 ef Oy [cl (@IT (m) (Ag y)),Bp Ak,bt true,ce (@GO (Ag y) (a) (b) (c) (d) (f)),Bp Au,lf (S.mk [(0,.v (.agg [.sl 4 (Da.cs (Aj m)),.sl 3 (Cl.cs (AA m)),.sl 12 (In.cs (Bv m)),.sl 8 (Ms.cs (Ba m)),.sl 6 (Qu.cs (BM m)),.sl 25 (Df.cs (AD m)),.bool false,pI 64])),(1,.v (.agg (CZ y))),(2,vL 1 (A1 vs)),(3,.v (PV.mp 3)),(4,.v (.ro [.sl 4 (Da.cs (Aj m)),.sl 3 (Cl.cs (AA m)),.sl 12 (In.cs (Bv m)),.sl 8 (Ms.cs (Ba m)),.sl 6 (Qu.cs (BM m)),.sl 25 (Df.cs (AD m)),.bool false,pI 64] 0)),(5,.lp 5 0),(8,A2 0),(14,.v (.agg [.sl 4 (Da.cs (Aj m)),.sl 3 (Cl.cs (AA m)),.sl 12 (In.cs (Bv m)),.sl 8 (Ms.cs (Ba m)),.sl 6 (Qu.cs (BM m)),.sl 25 (Df.cs (AD m)),.bool false,pI 64])),(15,.lp 5 0),(16,vS (Ag y)),(17,A2 (AU (Ac (Ag y)))),(9,A2 (AU (Ac (Ag y)))),(18,A2 (AU (Ac (Ag y)))),(19,.v (.bool (AU (Ac (Ag y)) != 0))),(21,.v (PV.mp 3)),(22,.v (.bool true)),(23,.v (PV.mp 3)),(24,.lp 5 0),(25,vS (Ag y)),(26,A2 (Cp (Ag y) d)),(10,A2 (Cp (Ag y) d)),(27,A2 (Cp (Ag y) d)),(28,.v (.bool (Cp (Ag y) d != 0)))] [(5,Jn y)] [(0,[LV.mm (A6 a)]),(1,[LV.mm (A6 b)]),(2,[LV.mm (A6 c)]),(3,[LV.mm (A6 (Dx (Ag y) d))]),(4,[LV.mm (A6 f)])]) (@Iu (m) (y) (vs) default ([(0,[LV.mm (A6 a)]),(1,[LV.mm (A6 b)]),(2,[LV.mm (A6 c)]),(3,[LV.mm (A6 (Dx (Ag y) d))]),(4,[LV.mm (A6 f)])]) (by (apply q5 <;> first | assumption | omega | decide))) ⟨⟨W,W,W,W,Ar⟩,⟨⟨W,W,W,W,W,W,W,W,W,W,W,W,W,W,W,W,W,W,W,W,W,W,W,W,W,Ar⟩,Ar⟩,rfl⟩,Bp AW,cl (@BU (vs) oM),am (List.length (A1 vs++(fun x=>Prod.snd x) (1,A1 (Az y))) * (15+1)<=140737488355328) (by (simp only [List.length_append,A3]; omega)),rp 4 (B1 Bt),cl (@fG (BV y)),rp 2 (B1 Bt),B1 (B3 CJ),As ED,cl (@X0 (m) (vs) (Az y) (BD y) (DQ y) hz oM (by (apply q2 <;> first | assumption | omega | decide)) (by (apply q1 <;> first | assumption | omega | decide)))] func58
end
def Xq(m:Mo)(y:Df)(vs:List BA):Int:=
 if Bh m y vs default=0 then (if Di y=true∨Ej (BV y)=false then (if Mw m y vs=0 then (if E0 y=1 then 0 else WZ (O6 m) (vs++Az y) (BD y) (DQ y)) else Mw m y vs) else (if E0 y=1 then 0 else WZ (O6 m) (vs++Az y) (BD y) (DQ y))) else Bh m y vs default
def dfE(m:Mo)(y:Df)(vs:List BA):Int:=if AU (Ac (Ag y))=0 then Xq m y vs else AU (Ac (Ag y))
def X1(m:Mo)(y:Df)(vs d:List BA):Int:=if AU (Ac (Ag y))=0 then (if Cp (Ag y) d=0 then Xq m y vs else Cp (Ag y) d) else AU (Ac (Ag y))
def yC(y:Df)(d:List BA):List BA:=if AU (Ac (Ag y))=0 then Dx (Ag y) d else d
theorem A9g(m:Mo)(y:Df)(vs:List BA)(hz:Sz m)(GA:vs.length<=10000000)(hs:A5 (CZ y)<=10000000):Pu 58 [.agg (wL m),.agg (CZ y),.sl 1 (A1 vs),.HJ] (.ret (.int .i64 (dfE m y vs))):=by
 have Kb:(Az y).length<=10000000:=by have:=HI y; have:=Dc (Az y); omega
 unfold dfE
 by_cases h0:AU (Ac (Ag y))=0
 ·rw [iP h0]
  unfold Xq
  by_cases h8:Bh m y vs default=0
  ·rw [iP h8]
   cases ht:Di y with
   | true=>
    rw [iP (.inl rfl)]
    by_cases hg:Mw m y vs=0
    ·rw [iP hg]
     by_cases hm:E0 y=1
     ·rw [iP hm]; exact A58 m y vs hz GA Kb hs h0 h8 ht hg hm
     ·rw [iN hm]; exact A59 m y vs hz GA Kb hs h0 h8 ht hg hm
    ·rw [iN hg]; exact A57 m y vs hz GA Kb hs h0 h8 ht hg
   | false=>
    cases he:Ej (BV y) with
    | false=>
     rw [iP (.inr rfl)]
     by_cases hg:Mw m y vs=0
     ·rw [iP hg]
      by_cases hm:E0 y=1
      ·rw [iP hm]; exact A5b m y vs hz GA Kb hs h0 h8 ht he hg hm
      ·rw [iN hm]; exact A5c m y vs hz GA Kb hs h0 h8 ht he hg hm
     ·rw [iN hg]; exact A5a m y vs hz GA Kb hs h0 h8 ht he hg
    | true=>
     rw [iN (by rintro (h | h) <;> cases h)]
     by_cases hm:E0 y=1
     ·rw [iP hm]; exact A5d m y vs hz GA Kb hs h0 h8 ht he hm
     ·rw [iN hm]; exact vV m y vs hz GA Kb hs h0 h8 ht he hm
  ·rw [iN h8]; exact A56 m y vs hz GA Kb hs h0 h8
 ·rw [iN h0]; exact A55 m y vs hz GA Kb hs h0
theorem A9h(m:Mo)(y:Df)(vs:List BA)(a b c d f:List BA)(hz:Sz m)(GA:vs.length<=10000000)(hs:A5 (CZ y)<=10000000):Ef 58 [.agg (wL m),.agg (CZ y),.sl 1 (A1 vs),.mp 3] [(0,[.mm (A6 a)]),(1,[.mm (A6 b)]),(2,[.mm (A6 c)]),(3,[.mm (A6 d)]),(4,[.mm (A6 f)])] (.ret (.int .i64 (X1 m y vs d))) [(0,[.mm (A6 a)]),(1,[.mm (A6 b)]),(2,[.mm (A6 c)]),(3,[.mm (A6 (yC y d))]),(4,[.mm (A6 f)])]:=by
 have Kb:(Az y).length<=10000000:=by have:=HI y; have:=Dc (Az y); omega
 unfold X1 yC
 by_cases h0:AU (Ac (Ag y))=0
 ·rw [iP h0,iP h0]
  by_cases h1:Cp (Ag y) d=0
  ·rw [iP h1]
   unfold Xq
   by_cases h8:Bh m y vs default=0
   ·rw [iP h8]
    cases ht:Di y with
    | true=>
     rw [iP (.inl rfl)]
     by_cases hg:Mw m y vs=0
     ·rw [iP hg]
      by_cases hm:E0 y=1
      ·rw [iP hm]; exact A5i m y vs a b c d f hz GA Kb hs h0 h1 h8 ht hg hm
      ·rw [iN hm]; exact A5j m y vs a b c d f hz GA Kb hs h0 h1 h8 ht hg hm
     ·rw [iN hg]; exact A5h m y vs a b c d f hz GA Kb hs h0 h1 h8 ht hg
    | false=>
     cases he:Ej (BV y) with
     | false=>
      rw [iP (.inr rfl)]
      by_cases hg:Mw m y vs=0
      ·rw [iP hg]
       by_cases hm:E0 y=1
       ·rw [iP hm]; exact A5l m y vs a b c d f hz GA Kb hs h0 h1 h8 ht he hg hm
       ·rw [iN hm]; exact A5m m y vs a b c d f hz GA Kb hs h0 h1 h8 ht he hg hm
      ·rw [iN hg]; exact A5k m y vs a b c d f hz GA Kb hs h0 h1 h8 ht he hg
     | true=>
      rw [iN (by rintro (h | h) <;> cases h)]
      by_cases hm:E0 y=1
      ·rw [iP hm]; exact vX m y vs a b c d f hz GA Kb hs h0 h1 h8 ht he hm
      ·rw [iN hm]; exact vY m y vs a b c d f hz GA Kb hs h0 h1 h8 ht he hm
   ·rw [iN h8]; exact A5g m y vs a b c d f hz GA Kb hs h0 h1 h8
  ·rw [iN h1]; exact A5f m y vs a b c d f hz GA Kb hs h0 h1
 ·rw [iN h0,iN h0]; exact A5e m y vs a b c d f hz GA Kb hs h0
theorem A5n(m:Mo)(y:Df)(a b c d f:List BA)(hz:Sz m)(hs:A5 (CZ y)<=10000000):Ef 58 [.agg (wL m),.agg (CZ y),.Ab,.mp 3] [(0,[.mm (A6 a)]),(1,[.mm (A6 b)]),(2,[.mm (A6 c)]),(3,[.mm (A6 d)]),(4,[.mm (A6 f)])] (.ret (.int .i64 (X1 m y [] d))) [(0,[.mm (A6 a)]),(1,[.mm (A6 b)]),(2,[.mm (A6 c)]),(3,[.mm (A6 (yC y d))]),(4,[.mm (A6 f)])]:=Ob.iH (Jv.c (.r _) (Jv.c (.r _) (Jv.c (.n 1) (Jv.c (.r _) (Jv.r []))))) (A9h m y [] a b c d f hz sM hs)
theorem mo6(m:Mo)(k:Int)(y:Df)(a b c d f:List BA)(hz:Sz m)(hs:A5 (CZ y)<=10000000):Ef 57 [pI k,.agg (CZ y),.ro (wL m) 0,.ro [PV.mp 3] 0] ([(0,[LV.mm (A6 a)]),(1,[LV.mm (A6 b)]),(2,[LV.mm (A6 c)]),(3,[LV.mm (A6 d)]),(4,[LV.mm (A6 f)])]) (rI (X1 m y [] d)) ([(0,[LV.mm (A6 a)]),(1,[LV.mm (A6 b)]),(2,[LV.mm (A6 c)]),(3,[LV.mm (A6 (yC y d))]),(4,[LV.mm (A6 f)])]):=
 ef CR [ce (@A5n (m) (y) (a) (b) (c) (d) (f) hz hs)] func57
theorem mo5(m:Mo)(k:Int)(y:Qu)(a b c d f:List BA)(hs:A5 (CI (P9 y))<=100000000):Ef 51 [pI k,.agg (WH y),.ro (wL m) 0,.ro [PV.mp 4] 0] ([(0,[LV.mm (A6 a)]),(1,[LV.mm (A6 b)]),(2,[LV.mm (A6 c)]),(3,[LV.mm (A6 d)]),(4,[LV.mm (A6 f)])]) (rI (HW (AU (Ac (M6 y))) (Cp (M6 y) f) (Ss (P9 y)))) ([(0,[LV.mm (A6 a)]),(1,[LV.mm (A6 b)]),(2,[LV.mm (A6 c)]),(3,[LV.mm (A6 d)]),(4,[LV.mm (A6 (Dx (M6 y) f))])]):=
 ef CR [cl (@IT (m) (M6 y)),ce (@A2g (M6 y) (a) (b) (c) (d) (f)),cl (@pcT (P9 y) hs),cl (@QA (AU (Ac (M6 y))) (Cp (M6 y) f) (Ss (P9 y)))] func51
theorem A5o(m:Mo)(k:Int)(y:Df)(vs:List BA)(hz:Sz m)(GA:vs.length<=10000000)(hs:A5 (CZ y)<=10000000)(Ak:(Di y||E0 y != 0)=false)(Au:(((Az y).length:Int)==0&&((C8 y).length:Int)==0&&((Bz y).length:Int)==0&&((BB y).length:Int)==0&&((Dj y).length:Int)==0)=true):Pu 87 [pI k,.agg (CZ y),.ro (wL m) 0,.ro [.sl 1 (A1 vs)] 0] (rI (dfE m y vs)):=
 pm CR [mg,av (.v (.bool (bif Di y then true else E0 y != 0))) (.v (.bool (Di y||E0 y != 0))) rF,rp 3 (B1 Ak),cl (@bar (y)),rp 2 (B1 Ak),B1 (B3 Au),cl (@A9g (m) (y) (vs) hz GA hs)] func87
def inB(m:Mo)(vs:List BA)(y:Df):Int:=if (Di y||E0 y != 0)=true then 6 else if (((Az y).length:Int)==0&&((C8 y).length:Int)==0&&((Bz y).length:Int)==0&&((BB y).length:Int)==0&&((Dj y).length:Int)==0)=false then 6 else dfE m y vs
theorem A9i(m:Mo)(vs:List BA)(hz:Sz m)(GA:vs.length<=10000000)(l:List Df)(hN:l.length<=1000000000)(hs:∀y∈l,A5 (CZ y)<=10000000):Pu 56 [.sl 25 (Df.cs l),.fn (.func 87) [] [.ro (wL m) 0,.ro [.sl 1 (A1 vs)] 0]] (.ret (.int .i64 (BP (inB m vs) l))):=
 A8m l _ _ (inB m vs) (fun k y hy=>by
  unfold inB
  by_cases h:(Di y||E0 y != 0)=true
  ·rw [iP h]; exact pm CR [mg,av (.v (.bool (bif Di y then true else E0 y != 0))) (.v (.bool (Di y||E0 y != 0))) rF,rp 5 (bt (Di y||E0 y != 0) h),bt true] func87
  ·rw [iN h]
   have h:=DC h
   by_cases h2:(((Az y).length:Int)==0&&((C8 y).length:Int)==0&&((Bz y).length:Int)==0&&((BB y).length:Int)==0&&((Dj y).length:Int)==0)=false
   ·rw [iP h2]; exact pm CR [mg,av (.v (.bool (bif Di y then true else E0 y != 0))) (.v (.bool (Di y||E0 y != 0))) rF,rp 3 (bf (Di y||E0 y != 0) h),cl (@bar (y)),rp 2 (bf (Di y||E0 y != 0) h),B7 (BH h2)] func87
   ·rw [iN h2]; exact A5o m k y vs hz GA (hs y hy) h (Qk h2)) hN
abbrev jY(y:Tp)(j:Int)(out:List BA)(e:Ext):S:=S.mk [(2,.v .Ab),(3,.v (.bool false)),(4,.uniq 9 1 (A1 out)),(8,vL 9 (Tp.cs (AP y))),(9,A2 ((AP y).length:Int)),(10,A2 j)] [] e
inductive KT where
 | e0 (out:List BA)
 | e1 (out:List BA)
def Jo  : List Tp->(List BA)->KT
 | [],out=>(KT.e1 out)
 | el::r,out=>(if Bd el=5 then Jo  r (out++[AK el]) else (KT.e0 out))
def U5(y:Tp)(e:Ext):KT->A7 × S
 | .e0 out=>(.ret,S.mk [(2,.v .Ab),(3,.v (.bool false)),(4,.uniq 9 1 (A1 out)),(8,vL 9 (Tp.cs (AP y))),(9,A2 ((AP y).length:Int))] [] e)
 | .e1 out=>(.exit 0,S.mk [(2,.v .Ab),(3,.v (.bool false)),(4,.uniq 9 1 (A1 out)),(8,vL 9 (Tp.cs (AP y))),(9,A2 ((AP y).length:Int))] [] e)
theorem p5(y:Tp)(e:Ext)(hN:(AP y).length<=1000000000)(out:List BA)(hv:(out.length<=0)):(Ob.loop 26 (Am f86 0) (jY y 0 out e) (U5 y e (Jo  (List.drop 0 ((AP y)))  out)).1 (U5 y e (Jo  (List.drop 0 ((AP y)))  out)).2).ok prog:=by
 refine Ek ((AP y).length) (fun j out=>jY y j out e) (fun i out=>Jo  (List.drop i ((AP y)))  out) (U5 y e) (fun i out=>(out.length<=i)) kR ?_ out (by first | exact hv | omega)
 rintro i out hi hv
 try simp only at hv
 rcases Nat.lt_or_ge i ((AP y).length) with Ad | Dm
 ·have hd:=AN Ad
  by_cases h0:Bd (List.getD (AP y) i default)=5
  ·exact lS An [dt ((i:Int)<((AP y).length:Int)),am ((0:Int)<=(i:Int)/\(i:Int)<((Tp.cs (AP y)).length:Int)) (by (simp only [Tp.A0]; omega)),ar (List.getD (Tp.cs (AP y)) (Int.toNat (i:Int)) []) (BI (List.getD (AP y) i default)) (by simp only [Int.toNat_natCast,Int.toNat_zero]; rw [@Tp.B0 (AP y) (i) Ad]; try rfl),Bp h0,am (List.length (A1 out++(fun x=>Prod.snd x) (0+1,[[.str (AK (List.getD (AP y) i default))]])) * (15+1)<=140737488355328) (by (simp only [List.length_append,List.length_cons,List.length_nil,A3]; omega)),wr ((i:Int)+1)] [2,3,4,8,9,10] [] Ad (out++[AK (List.getD (AP y) i default)]) (S.mk [(2,.v .Ab),(3,.v (.bool false)),(4,.uniq 9 1 (A1 out++[[PV.str (AK (List.getD (AP y) i default))]])),(8,vL 9 (Tp.cs (AP y))),(9,A2 ((AP y).length:Int)),(10,A2 ((i:Int)+1))] [] e) ⟨⟨W,W,(.inl (by first | (simp only [List.nil_append,Av,Aw,Pr.A4,Tp.A4,Ex.A4,Vr.A4,Df.A4]; done) | (simp only [List.nil_append,Av,Aw,Pr.A4,Tp.A4,Ex.A4,Vr.A4,Df.A4]; rfl))),W,W,W,Ar⟩,trivial,rfl⟩ (by first | assumption | omega | (simp only [List.length_append,List.length_cons,List.length_nil] at *; omega) | simp_all) (by rw [hd,Jo,iP h0])
  ·exact lX An [dt ((i:Int)<((AP y).length:Int)),am ((0:Int)<=(i:Int)/\(i:Int)<((Tp.cs (AP y)).length:Int)) (by (simp only [Tp.A0]; omega)),ar (List.getD (Tp.cs (AP y)) (Int.toNat (i:Int)) []) (BI (List.getD (AP y) i default)) (by simp only [Int.toNat_natCast,Int.toNat_zero]; rw [@Tp.B0 (AP y) (i) Ad]; try rfl),D3 h0] (KT.e0 out) (by rw [hd,Jo,iN h0])
 ·have he:i=(AP y).length:=by omega
  exact lX An [df ((i:Int)<((AP y).length:Int))] (KT.e1 out) (by rw [he,List.drop_length,Jo])
theorem A9j(y:Tp)(out:List BA)(e:Ext)(hN:(AP y).length<=1000000000)(hv:List.length out<=0)(p0:List BA)(AF:(Jo  ((AP y))  out)=(KT.e0 p0)):(Ob.loop 26 (Am f86 0) (jY y 0 out e) (U5 y e (KT.e0 p0)).1 (U5 y e (KT.e0 p0)).2).ok prog:=
 rz (p5 y e hN out hv) AF
theorem A9k(y:Tp)(out:List BA)(e:Ext)(hN:(AP y).length<=1000000000)(hv:List.length out<=0)(p0:List BA)(AF:(Jo  ((AP y))  out)=(KT.e1 p0)):(Ob.loop 26 (Am f86 0) (jY y 0 out e) (U5 y e (KT.e1 p0)).1 (U5 y e (KT.e1 p0)).2).ok prog:=
 rz (p5 y e hN out hv) AF
theorem A5p(y:Tp)(hN:(AP y).length<=1000000000)(Ee:List BA)(Au:Jo (AP y) []=KT.e0 Ee):Pu 86 [.agg (BI y)] (.ret (.B6 [.sl 1 [],.bool false])):=
 Ob.Ql (Wk.t (kn 1 (Jv.r _))) (pu An (fun e=>[sl (Tp.A0 (AP y)),lp (S.mk [(0,.v (.agg (BI y))),(1,.lp 1 0),(2,.v .Ab),(3,.v (.bool false)),(4,.v .Ab),(7,.lp 1 2),(8,vL 9 (Tp.cs (AP y))),(9,A2 ((AP y).length:Int)),(10,A2 0)] [(1,EV y)] e) (@A9j (y) ([]) (e) hN (by (simp only [List.length_nil]; omega)) Ee Au) ⟨⟨W,W,Wq,W,W,W,Ar⟩,trivial,rfl⟩]) func86)
theorem A5q(y:Tp)(hN:(AP y).length<=1000000000)(Ee:List BA)(Au:Jo (AP y) []=KT.e1 Ee)(AW:List.length Ee<=1000000000):Pu 86 [.agg (BI y)] (.ret (.B6 [.sl 1 (A1 Ee),.bool (Bi Ee)])):=
 pu An (fun e=>[sl (Tp.A0 (AP y)),lp (S.mk [(0,.v (.agg (BI y))),(1,.lp 1 0),(2,.v .Ab),(3,.v (.bool false)),(4,.v .Ab),(7,.lp 1 2),(8,vL 9 (Tp.cs (AP y))),(9,A2 ((AP y).length:Int)),(10,A2 0)] [(1,EV y)] e) (@A9k (y) ([]) (e) hN (by (simp only [List.length_nil]; omega)) Ee Au) ⟨⟨W,W,Wq,W,W,W,Ar⟩,trivial,rfl⟩,cl (@dsT (Ee) AW)]) func86
def X3(l:List Tp):Bool:=l.all fun t=>decide (Bd t=5)
theorem A5r:∀ (l:List Tp) (out:List BA),if X3 l=true then Jo l out = .e1 (out++l.map AK) else ∃o,Jo l out = .e0 o
 | [],out=>by simp [X3,Jo]
 | x::r,out=>by
  have ih:=A5r r (out++[AK x])
  unfold X3 at ih ⊢
  by_cases h:Bd x=5
  ·simp only [List.all_cons,h,decide_true,Bool.true_and,Jo,if_true,List.map_cons]
   rw [List.append_assoc] at ih; exact ih
  ·simp only [List.all_cons,h,decide_false,Bool.false_and,Bool.false_eq_true,if_false,Jo]; exact ⟨out,rfl⟩
def fL(l:List Tp):List BA:=if X3 l=true then l.map AK else []
def vaB(l:List Tp):Bool:=if X3 l=true then Bi (l.map AK) else false
theorem A9l(u:Tp)(hN:(AP u).length<=1000000000):Pu 86 [.agg (BI u)] (.ret (.B6 [.sl 1 (A1 (fL (AP u))),.bool (vaB (AP u))])):=by
 have h:=A5r (AP u) []
 unfold fL vaB
 by_cases ha:X3 (AP u)=true
 ·rw [iP ha] at h; rw [iP ha,iP ha]
  rw [List.nil_append] at h
  exact A5q u hN _ h (by rw [List.length_map]; exact hN)
 ·rw [iN ha] at h; rw [iN ha,iN ha]
  obtain ⟨o,ho⟩:=h
  exact A5p u hN o ho
section
variable (m:Mo) (y:In) (vs:List BA) (ok:Bool) (hz:Sz m) (GA:vs.length<=10000000) (Dh:vs.length<=1000000000) (hva:Pu 86 [.agg (BI (CU y))] (.ret (.B6 [.sl 1 (A1 vs),.bool ok]))) (hs:A5 (BI (CU y))<=100000000) (hN:(Nn y).length<=1000000000) (hd:∀z∈Nn y,A5 (CZ z)<=10000000)
include m y vs ok hz GA Dh hva hs hN hd
theorem A5s(Ak:¬Ds (AU (AL (Ir y))) (Bm (CU y))=0):Pu 46 [.agg (wL m),.agg (Oo y)] (rI (Ds (AU (AL (Ir y))) (Bm (CU y)))):=
 pm CR [cl (@T0 (m) (Ir y)),cl (@tE (CU y) hs),cl (@DI (AU (AL (Ir y))) (Bm (CU y))),D3 Ak] func46
theorem A5t(Ak:Ds (AU (AL (Ir y))) (Bm (CU y))=0)(Au:(Bd (CU y) != 1&&Bd (CU y) != 2&&(Bd (CU y) != 4 || !ok))=true):Pu 46 [.agg (wL m),.agg (Oo y)] (rI 6):=
 pm CR [cl (@T0 (m) (Ir y)),cl (@tE (CU y) hs),cl (@DI (AU (AL (Ir y))) (Bm (CU y))),Bp Ak,cl hva,mg,av (.v (.bool (bif Bd (CU y) != 1 then Bd (CU y) != 2 else false))) (.v (.bool (Bd (CU y) != 1&&Bd (CU y) != 2))) (by (simp only [Bool.cond_false_right]; done)),mg,av (.v (.bool (bif Bd (CU y) != 1&&Bd (CU y) != 2 then bif Bd (CU y) != 4 then true else !ok else false))) (.v (.bool (Bd (CU y) != 1&&Bd (CU y) != 2&&(Bd (CU y) != 4 || !ok)))) (by (simp only [Bool.cond_true_left,Bool.cond_false_right]; done)),B7 Au] func46
theorem A5u(Ak:Ds (AU (AL (Ir y))) (Bm (CU y))=0)(Au:(Bd (CU y) != 1&&Bd (CU y) != 2&&(Bd (CU y) != 4 || !ok))=false)(AW:¬Jb (Ea m) vs (CU y)=0):Pu 46 [.agg (wL m),.agg (Oo y)] (rI (Jb (Ea m) vs (CU y))):=
 pm CR [cl (@T0 (m) (Ir y)),cl (@tE (CU y) hs),cl (@DI (AU (AL (Ir y))) (Bm (CU y))),Bp Ak,cl hva,mg,av (.v (.bool (bif Bd (CU y) != 1 then Bd (CU y) != 2 else false))) (.v (.bool (Bd (CU y) != 1&&Bd (CU y) != 2))) (by (simp only [Bool.cond_false_right]; done)),mg,av (.v (.bool (bif Bd (CU y) != 1&&Bd (CU y) != 2 then bif Bd (CU y) != 4 then true else !ok else false))) (.v (.bool (Bd (CU y) != 1&&Bd (CU y) != 2&&(Bd (CU y) != 4 || !ok)))) (by (simp only [Bool.cond_true_left,Bool.cond_false_right]; done)),B1 Au,cl (@uQ (m) (vs) (CU y) hz Dh hs),D3 AW] func46
theorem A5v(Ak:Ds (AU (AL (Ir y))) (Bm (CU y))=0)(Au:(Bd (CU y) != 1&&Bd (CU y) != 2&&(Bd (CU y) != 4 || !ok))=false)(AW:Jb (Ea m) vs (CU y)=0):Pu 46 [.agg (wL m),.agg (Oo y)] (rI (BP (inB m vs) (Nn y))):=
 pm CR [cl (@T0 (m) (Ir y)),cl (@tE (CU y) hs),cl (@DI (AU (AL (Ir y))) (Bm (CU y))),Bp Ak,cl hva,mg,av (.v (.bool (bif Bd (CU y) != 1 then Bd (CU y) != 2 else false))) (.v (.bool (Bd (CU y) != 1&&Bd (CU y) != 2))) (by (simp only [Bool.cond_false_right]; done)),mg,av (.v (.bool (bif Bd (CU y) != 1&&Bd (CU y) != 2 then bif Bd (CU y) != 4 then true else !ok else false))) (.v (.bool (Bd (CU y) != 1&&Bd (CU y) != 2&&(Bd (CU y) != 4 || !ok)))) (by (simp only [Bool.cond_true_left,Bool.cond_false_right]; done)),B1 Au,cl (@uQ (m) (vs) (CU y) hz Dh hs),Bp AW,cl (@A9i (m) (vs) hz GA (Nn y) hN hd)] func46
end
def QO(m:Mo)(y:In):Int:=
 if Ds (AU (AL (Ir y))) (Bm (CU y))=0 then (if (Bd (CU y) != 1&&Bd (CU y) != 2&&(Bd (CU y) != 4 || !vaB (AP (CU y))))=true then 6 else if Jb (Ea m) (fL (AP (CU y))) (CU y)=0 then BP (inB m (fL (AP (CU y)))) (Nn y) else Jb (Ea m) (fL (AP (CU y))) (CU y)) else Ds (AU (AL (Ir y))) (Bm (CU y))
theorem jZ(l:List Tp):(fL l).length<=l.length:=by unfold fL; split <;> simp
theorem A9m(m:Mo)(y:In)(hz:Sz m)(hs:A5 (Oo y)<=10000000):Pu 46 [.agg (wL m),.agg (Oo y)] (.ret (.int .i64 (QO m y))):=by
 have hb:=QN y
 have ht:=DV (CU y)
 have h2:=Tp.BF (AP (CU y))
 have h3:=jZ (AP (CU y))
 have v1:(fL (AP (CU y))).length<=10000000:=by omega
 have v0:(fL (AP (CU y))).length<=1000000000:=by omega
 have va:=A9l (CU y) oM
 have v2:A5 (BI (CU y))<=100000000:=by omega
 have v3:(Nn y).length<=1000000000:=by have:=Df.BF (Nn y); omega
 have v4:∀z∈Nn y,A5 (CZ z)<=10000000:=fun z XU=>by have:=Df.mem XU; omega
 unfold QO
 by_cases h0:Ds (AU (AL (Ir y))) (Bm (CU y))=0
 ·rw [iP h0]
  by_cases h1:(Bd (CU y) != 1&&Bd (CU y) != 2&&(Bd (CU y) != 4 || !vaB (AP (CU y))))=true
  ·rw [iP h1]; exact A5t m y _ _ hz v1 v0 va v2 v3 v4 h0 h1
  ·rw [iN h1]
   have h1:=DC h1
   by_cases h5:Jb (Ea m) (fL (AP (CU y))) (CU y)=0
   ·rw [iP h5]; exact A5v m y _ _ hz v1 v0 va v2 v3 v4 h0 h1 h5
   ·rw [iN h5]; exact A5u m y _ _ hz v1 v0 va v2 v3 v4 h0 h1 h5
 ·rw [iN h0]; exact A5s m y _ _ hz v1 v0 va v2 v3 v4 h0
theorem mo3(m:Mo)(k:Int)(y:In)(hz:Sz m)(hs:A5 (Oo y)<=10000000):Pu 45 [pI k,.agg (Oo y),.ro (wL m) 0] (rI (QO m y)):=
 pm CR [cl (@A9m (m) (y) hz hs)] func45
end Go.Proofs.YtmllcplaohkjnaaGreatDoor
