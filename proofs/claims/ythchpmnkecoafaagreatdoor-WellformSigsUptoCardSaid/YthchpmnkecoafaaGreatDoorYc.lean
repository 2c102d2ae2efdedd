/- Values of Go as plain data, an evaluator over them, and what the functions of the program return; part Yc. -/
import Derived.Test.YthchpmnkecoafaaGreatDoorYa
import Derived.Test.YthchpmnkecoafaaGreatDoorYb
set_option linter.unusedSectionVars false
set_option linter.unusedSimpArgs false
set_option linter.unusedVariables false
namespace Go.Proofs.YthchpmnkecoafaaGreatDoor
open Go.Proofs.Tryz
open Go.Pv Go.Proofs.Tryz
set_option maxRecDepth 100000
abbrev qG(l:List Pr)(mx:Int)(pf:List Pr->Int->Int)(j:Int)(n:Int)(e:Ext):S:=S.mk [(0,vL 4 (Pr.cs l)),(1,A6 mx),(4,A6 0),(5,A6 n),(6,A6 j)] [] e
def L8(mx:Int)(pf:List Pr->Int->Int):List Pr->(Int)->(Int)
 | [],n=>(n)
 | el::r,n=>(if n<=mx then L8 mx pf r (IntKind.wrap .i64 (IntKind.wrap .i64 (IntKind.wrap .i64 (n+1)+IntKind.wrap .i64 (Int.tdiv (↑(ByteArray.size (Aj el)):Int) 100))+pf (Av el) (IntKind.wrap .i64 (mx - IntKind.wrap .i64 (IntKind.wrap .i64 (n+1)+IntKind.wrap .i64 (Int.tdiv (↑(ByteArray.size (Aj el)):Int) 100)))))) else (n))
def aB(l:List Pr)(mx:Int)(pf:List Pr->Int->Int)(e:Ext)(p:(Int)):A4 × S:=(.exit 0,S.mk [(0,vL 4 (Pr.cs l)),(1,A6 mx),(4,A6 0),(5,A6 p)] [] e)
theorem cp0(l:List Pr)(mx:Int)(pf:List Pr->Int->Int)(BM:∀ (w:Pr) (k:Int),w∈l->Pu 24 [.sl 4 (Pr.cs (Av w)),.int .i64 k] (.ret (.int .i64 (pf (Av w) k))))(n:Int)(e:Ext)(hN:l.length<=1000000000)  : (Ob.loop 40 (Au f24 0) (qG l mx pf 0 n e) (aB l mx pf e (L8 mx pf (l)  n)).1 (aB l mx pf e (L8 mx pf (l)  n)).2).ok prog:=by
 refine CL l.length (fun j n=>qG l mx pf j n e) (fun i n=>L8 mx pf (List.drop i (l))  n) (aB l mx pf e) (fun i n=>True) kR ?_ n trivial
 rintro i n hi -
 rcases Nat.lt_or_ge i (l.length) with Ac | Cm
 ·have hd:=At Ac
  by_cases h0:n<=mx
  ·exact lN A9 [sl (Pr.A0 l),rp 4 (dt ((i:Int)<(l.length:Int))),BL h0,kp,FG l (i:Int),My l i Ac,rp 3 (kp),ab true,FG l (i:Int),My l i Ac,kp,cl (@BM (List.getD l i default) (IntKind.wrap .i64 (mx - IntKind.wrap .i64 (IntKind.wrap .i64 (n+1)+IntKind.wrap .i64 (Int.tdiv (↑(ByteArray.size (Aj (List.getD l i default))):Int) 100)))) (by simp_all)),kp,wr ((i:Int)+1)] Ac (IntKind.wrap .i64 (IntKind.wrap .i64 (IntKind.wrap .i64 (n+1)+IntKind.wrap .i64 (Int.tdiv (↑(ByteArray.size (Aj (List.getD l i default))):Int) 100))+pf (Av (List.getD l i default)) (IntKind.wrap .i64 (mx - IntKind.wrap .i64 (IntKind.wrap .i64 (n+1)+IntKind.wrap .i64 (Int.tdiv (↑(ByteArray.size (Aj (List.getD l i default))):Int) 100)))))) trivial (by rw [hd,L8,iP h0])
  ·exact lX A9 [sl (Pr.A0 l),rp 4 (dt ((i:Int)<(l.length:Int))),Ar h0] (n) (by rw [hd,L8,iN h0])
 ·have he:i=l.length:=by omega
  exact lX A9 [sl (Pr.A0 l),rp 4 (df ((i:Int)<(l.length:Int))),bf false] (n) (by rw [he,List.drop_length,L8])
theorem cpL(l:List Pr)(mx:Int)(pf:List Pr->Int->Int)(BM:∀ (w:Pr) (k:Int),w∈l->Pu 24 [.sl 4 (Pr.cs (Av w)),.int .i64 k] (.ret (.int .i64 (pf (Av w) k))))(hN:l.length<=1000000000):Pu 24 [.sl 4 (Pr.cs l),pI mx] (rI (L8 mx pf l 0)):=
 pu A9 (fun e=>[lq (@cp0 (l) (mx) (pf) BM (0) (e) hN)]) func24
def cpD:Nat->List Pr->Int->Int
 | 0,_,_=>0
 | d+1,l,mx=>L8 mx (cpD d) l 0
theorem T0(x:Pr):Ah (Pr.cs (Av x))<A3 (AN x):=by simp only [A3,CR]; omega
theorem qH:∀ (d:Nat) (l:List Pr) (mx:Int),Ah (Pr.cs l)<d->Ah (Pr.cs l)<=100000000->Pu 24 [.sl 4 (Pr.cs l),.int .i64 mx] (.ret (.int .i64 (cpD d l mx)))
 | 0,_,_,h,_=>by omega
 | d+1,l,mx,h,hs=>cpL l mx (cpD d) (fun w k hw=>qH d (Av w) k (by have:=T0 w; have:=Pr.mem hw; omega) (by have:=T0 w; have:=Pr.mem hw; omega)) (by have:=Pr.BS l; omega)
def Ip(l:List Pr)(mx:Int):Int:=cpD (Ah (Pr.cs l)+1) l mx
theorem cpT(l:List Pr)(mx:Int)(hs:Ah (Pr.cs l)<=100000000):Pu 24 [.sl 4 (Pr.cs l),.int .i64 mx] (.ret (.int .i64 (Ip l mx))):=qH _ l mx oM hs
theorem mI(x:Pr)(mx:Int)(hs:A3 (AN x)<=100000000):Pu 24 [.sl 4 [AN x],.int .i64 mx] (.ret (.int .i64 (Ip [x] mx))):=by
 have e:Pr.cs [x]=[AN x]:=by simp [Pr.AD]
 have:=cpT [x] mx (by rw [e]; simpa [Ah] using hs)
 rwa [e] at this
theorem Ag7(x y:Pr)(mx:Int)(hs:A3 (AN x)+A3 (AN y)<=100000000):Pu 24 [.sl 4 [AN x,AN y],.int .i64 mx] (.ret (.int .i64 (Ip [x,y] mx))):=by
 have e:Pr.cs [x,y]=[AN x,AN y]:=by simp [Pr.AD]
 have:=cpT [x,y] mx (by rw [e]; simpa only [Ah,Nat.add_zero,Nat.add_assoc] using hs)
 rwa [e] at this
abbrev qI(l:List Tp)(mx:Int)(pf:List Pr->Int->Int)(tf:List Tp->Int->Int)(j:Int)(n:Int)(e:Ext):S:=S.mk [(0,vL 9 (Tp.cs l)),(1,A6 mx),(4,A6 0),(5,A6 n),(6,A6 j)] [] e
def L9(mx:Int)(pf:List Pr->Int->Int)(tf:List Tp->Int->Int):List Tp->(Int)->(Int)
 | [],n=>(n)
 | el::r,n=>(if n<=mx then L9 mx pf tf r (IntKind.wrap .i64 (IntKind.wrap .i64 (IntKind.wrap .i64 (IntKind.wrap .i64 (IntKind.wrap .i64 (IntKind.wrap .i64 (n+1)+IntKind.wrap .i64 (Int.tdiv (↑(ByteArray.size (An el)):Int) 100))+((Ag el).length:Int))+pf (Aq el) mx)+pf [AT el] mx)+tf (Ab el) (IntKind.wrap .i64 (mx - IntKind.wrap .i64 (IntKind.wrap .i64 (IntKind.wrap .i64 (IntKind.wrap .i64 (IntKind.wrap .i64 (n+1)+IntKind.wrap .i64 (Int.tdiv (↑(ByteArray.size (An el)):Int) 100))+((Ag el).length:Int))+pf (Aq el) mx)+pf [AT el] mx))))) else (n))
def aC(l:List Tp)(mx:Int)(pf:List Pr->Int->Int)(tf:List Tp->Int->Int)(e:Ext)(p:(Int)):A4 × S:=(.exit 0,S.mk [(0,vL 9 (Tp.cs l)),(1,A6 mx),(4,A6 0),(5,A6 p)] [] e)
theorem ct0(l:List Tp)(mx:Int)(pf:List Pr->Int->Int)(tf:List Tp->Int->Int)(hp:∀ (w:Tp) (k:Int),w∈l->Pu 24 [.sl 4 (Pr.cs (Aq w)),.int .i64 k] (.ret (.int .i64 (pf (Aq w) k))))(hpp:∀ (w:Tp) (k:Int),w∈l->Pu 24 [.sl 4 [AN (AT w)],.int .i64 k] (.ret (.int .i64 (pf [AT w] k))))(ht:∀ (w:Tp) (k:Int),w∈l->Pu 23 [.sl 9 (Tp.cs (Ab w)),.int .i64 k] (.ret (.int .i64 (tf (Ab w) k))))(n:Int)(e:Ext)(hN:l.length<=1000000000)  : (Ob.loop 64 (Au f23 0) (qI l mx pf tf 0 n e) (aC l mx pf tf e (L9 mx pf tf (l)  n)).1 (aC l mx pf tf e (L9 mx pf tf (l)  n)).2).ok prog:=by
 refine CL l.length (fun j n=>qI l mx pf tf j n e) (fun i n=>L9 mx pf tf (List.drop i (l))  n) (aC l mx pf tf e) (fun i n=>True) kR ?_ n trivial
 rintro i n hi -
 rcases Nat.lt_or_ge i (l.length) with Ac | Cm
 ·have hd:=At Ac
  by_cases h0:n<=mx
  ·exact lN A9 [sl (Tp.A0 l),rp 4 (dt ((i:Int)<(l.length:Int))),BL h0,kp,DH l (i:Int),I5 l i Ac,rp 3 (kp),ab true,DH l (i:Int),I5 l i Ac,sl (A5 (Ag (List.getD l i default))),kp,DH l (i:Int),I5 l i Ac,cl (@hp (List.getD l i default) (mx) (by simp_all)),kp,DH l (i:Int),I5 l i Ac,cl (@hpp (List.getD l i default) (mx) (by simp_all)),kp,DH l (i:Int),I5 l i Ac,kp,cl (@ht (List.getD l i default) (IntKind.wrap .i64 (mx - IntKind.wrap .i64 (IntKind.wrap .i64 (IntKind.wrap .i64 (IntKind.wrap .i64 (IntKind.wrap .i64 (n+1)+IntKind.wrap .i64 (Int.tdiv (↑(ByteArray.size (An (List.getD l i default))):Int) 100))+((Ag (List.getD l i default)).length:Int))+pf (Aq (List.getD l i default)) mx)+pf [AT (List.getD l i default)] mx))) (by simp_all)),kp,wr ((i:Int)+1)] Ac (IntKind.wrap .i64 (IntKind.wrap .i64 (IntKind.wrap .i64 (IntKind.wrap .i64 (IntKind.wrap .i64 (IntKind.wrap .i64 (n+1)+IntKind.wrap .i64 (Int.tdiv (↑(ByteArray.size (An (List.getD l i default))):Int) 100))+((Ag (List.getD l i default)).length:Int))+pf (Aq (List.getD l i default)) mx)+pf [AT (List.getD l i default)] mx)+tf (Ab (List.getD l i default)) (IntKind.wrap .i64 (mx - IntKind.wrap .i64 (IntKind.wrap .i64 (IntKind.wrap .i64 (IntKind.wrap .i64 (IntKind.wrap .i64 (n+1)+IntKind.wrap .i64 (Int.tdiv (↑(ByteArray.size (An (List.getD l i default))):Int) 100))+((Ag (List.getD l i default)).length:Int))+pf (Aq (List.getD l i default)) mx)+pf [AT (List.getD l i default)] mx))))) trivial (by rw [hd,L9,iP h0])
  ·exact lX A9 [sl (Tp.A0 l),rp 4 (dt ((i:Int)<(l.length:Int))),Ar h0] (n) (by rw [hd,L9,iN h0])
 ·have he:i=l.length:=by omega
  exact lX A9 [sl (Tp.A0 l),rp 4 (df ((i:Int)<(l.length:Int))),bf false] (n) (by rw [he,List.drop_length,L9])
theorem ctL(l:List Tp)(mx:Int)(pf:List Pr->Int->Int)(tf:List Tp->Int->Int)(hp:∀ (w:Tp) (k:Int),w∈l->Pu 24 [.sl 4 (Pr.cs (Aq w)),.int .i64 k] (.ret (.int .i64 (pf (Aq w) k))))(hpp:∀ (w:Tp) (k:Int),w∈l->Pu 24 [.sl 4 [AN (AT w)],.int .i64 k] (.ret (.int .i64 (pf [AT w] k))))(ht:∀ (w:Tp) (k:Int),w∈l->Pu 23 [.sl 9 (Tp.cs (Ab w)),.int .i64 k] (.ret (.int .i64 (tf (Ab w) k))))(hN:l.length<=1000000000):Pu 23 [.sl 9 (Tp.cs l),pI mx] (rI (L9 mx pf tf l 0)):=
 pu A9 (fun e=>[lq (@ct0 (l) (mx) (pf) (tf) hp hpp ht (0) (e) hN)]) func23
def ctD:Nat->List Tp->Int->Int
 | 0,_,_=>0
 | d+1,l,mx=>L9 mx Ip (ctD d) l 0
theorem F8(x:Tp):Ah (Tp.cs (Ab x))+Ah (Pr.cs (Aq x))+A3 (AN (AT x))<A3 (AO x):=by simp only [A3,CR]; omega
theorem qJ:∀ (d:Nat) (l:List Tp) (mx:Int),Ah (Tp.cs l)<d->Ah (Tp.cs l)<=100000000->Pu 23 [.sl 9 (Tp.cs l),.int .i64 mx] (.ret (.int .i64 (ctD d l mx)))
 | 0,_,_,h,_=>by omega
 | d+1,l,mx,h,hs=>ctL l mx Ip (ctD d) (fun w k hw=>cpT _ k (by have:=F8 w; have:=Tp.mem hw; omega)) (fun w k hw=>mI _ k (by have:=F8 w; have:=Tp.mem hw; omega)) (fun w k hw=>qJ d (Ab w) k (by have:=F8 w; have:=Tp.mem hw; omega) (by have:=F8 w; have:=Tp.mem hw; omega)) (by have:=Tp.BS l; omega)
def FN(l:List Tp)(mx:Int):Int:=ctD (Ah (Tp.cs l)+1) l mx
theorem ctT(l:List Tp)(mx:Int)(hs:Ah (Tp.cs l)<=100000000):Pu 23 [.sl 9 (Tp.cs l),.int .i64 mx] (.ret (.int .i64 (FN l mx))):=qJ _ l mx oM hs
theorem mJ(x:Tp)(mx:Int)(hs:A3 (AO x)<=100000000):Pu 23 [.sl 9 [AO x],.int .i64 mx] (.ret (.int .i64 (FN [x] mx))):=by
 have e:Tp.cs [x]=[AO x]:=by simp [Tp.AD]
 have:=ctT [x] mx (by rw [e]; simpa [Ah] using hs)
 rwa [e] at this
abbrev qK(x:Ex)(mx:Int)(BZ:Ex->Int->Int)(j:Int)(n:Int)(e:Ext):S:=S.mk [(1,A6 mx),(2,.lp 2 0),(4,A6 0),(5,A6 n),(6,A6 j)] [(2,exV x)] e
def Jc(mx:Int):List Pm->(Int)->(Int)
 | [],n=>(n)
 | el::r,n=>(if n<=mx then Jc mx r (IntKind.wrap .i64 (IntKind.wrap .i64 (IntKind.wrap .i64 (n+1)+IntKind.wrap .i64 (Int.tdiv (↑(ByteArray.size (Zs el)):Int) 100))+FN [H9 el] mx)) else (n))
def aD(x:Ex)(mx:Int)(BZ:Ex->Int->Int)(e:Ext)(p:(Int)):A4 × S:=(.exit 0,S.mk [(1,A6 mx),(2,.lp 2 0),(4,A6 0),(5,A6 p)] [(2,exV x)] e)
theorem pa0(x:Ex)(mx:Int)(BZ:Ex->Int->Int)(ht:∀ (k:Int),Pu 23 [.sl 9 (Tp.cs (P2 x)),.int .i64 k] (.ret (.int .i64 (FN (P2 x) k))))(hP:∀ (p:Pm) (k:Int),p∈Hy x->Pu 23 [.sl 9 [AO (H9 p)],.int .i64 k] (.ret (.int .i64 (FN [H9 p] k))))(hK:∀ (w:Ex) (k:Int),w∈IT x->Pu 65 [.agg (L1 w),.int .i64 k] (.ret (.int .i64 (BZ w k))))(hA:∀ (a:Al) (k:Int),a∈Io x->Pu 65 [.agg (L1 (Qa a)),.int .i64 k] (.ret (.int .i64 (BZ (Qa a) k))))(n:Int)(e:Ext)(hN:(Hy x).length<=1000000000)  : (Ob.loop 108 (Au f65 0) (qK x mx BZ 0 n e) (aD x mx BZ e (Jc mx ((Hy x))  n)).1 (aD x mx BZ e (Jc mx ((Hy x))  n)).2).ok prog:=by
 refine CL ((Hy x).length) (fun j n=>qK x mx BZ j n e) (fun i n=>Jc mx (List.drop i ((Hy x)))  n) (aD x mx BZ e) (fun i n=>True) kR ?_ n trivial
 rintro i n hi -
 rcases Nat.lt_or_ge i ((Hy x).length) with Ac | Cm
 ·have hd:=At Ac
  by_cases h0:n<=mx
  ·exact lN A9 [sl (Pm.A0 (Hy x)),rp 4 (dt ((i:Int)<((Hy x).length:Int))),BL h0,kp,zD (Hy x) (i:Int),xPm (Hy x) i Ac,rp 3 (kp),ab true,zD (Hy x) (i:Int),xPm (Hy x) i Ac,cl (@hP (List.getD (Hy x) i default) (mx) (by simp_all)),kp,wr ((i:Int)+1)] Ac (IntKind.wrap .i64 (IntKind.wrap .i64 (IntKind.wrap .i64 (n+1)+IntKind.wrap .i64 (Int.tdiv (↑(ByteArray.size (Zs (List.getD (Hy x) i default))):Int) 100))+FN [H9 (List.getD (Hy x) i default)] mx)) trivial (by rw [hd,Jc,iP h0])
  ·exact lX A9 [sl (Pm.A0 (Hy x)),rp 4 (dt ((i:Int)<((Hy x).length:Int))),Ar h0] (n) (by rw [hd,Jc,iN h0])
 ·have he:i=(Hy x).length:=by omega
  exact lX A9 [sl (Pm.A0 (Hy x)),rp 4 (df ((i:Int)<((Hy x).length:Int))),bf false] (n) (by rw [he,List.drop_length,Jc])
abbrev qL(x:Ex)(mx:Int)(BZ:Ex->Int->Int)(j:Int)(n:Int)(e:Ext):S:=S.mk [(1,A6 mx),(2,.lp 2 0),(4,A6 0),(5,A6 n),(7,A6 j)] [(2,exV x)] e
def JV(mx:Int)(BZ:Ex->Int->Int):List Ex->(Int)->(Int)
 | [],n=>(n)
 | el::r,n=>(if n<=mx then JV mx BZ r (IntKind.wrap .i64 (n+BZ el (IntKind.wrap .i64 (mx - n)))) else (n))
def aE(x:Ex)(mx:Int)(BZ:Ex->Int->Int)(e:Ext)(p:(Int)):A4 × S:=(.exit 2,S.mk [(1,A6 mx),(2,.lp 2 0),(4,A6 0),(5,A6 p)] [(2,exV x)] e)
theorem pa1(x:Ex)(mx:Int)(BZ:Ex->Int->Int)(ht:∀ (k:Int),Pu 23 [.sl 9 (Tp.cs (P2 x)),.int .i64 k] (.ret (.int .i64 (FN (P2 x) k))))(hP:∀ (p:Pm) (k:Int),p∈Hy x->Pu 23 [.sl 9 [AO (H9 p)],.int .i64 k] (.ret (.int .i64 (FN [H9 p] k))))(hK:∀ (w:Ex) (k:Int),w∈IT x->Pu 65 [.agg (L1 w),.int .i64 k] (.ret (.int .i64 (BZ w k))))(hA:∀ (a:Al) (k:Int),a∈Io x->Pu 65 [.agg (L1 (Qa a)),.int .i64 k] (.ret (.int .i64 (BZ (Qa a) k))))(Br:(Hy x).length<=1000000000)(n:Int)(e:Ext)(hN:(IT x).length<=1000000000)  : (Ob.loop 108 (Au f65 1) (qL x mx BZ 0 n e) (aE x mx BZ e (JV mx BZ ((IT x))  n)).1 (aE x mx BZ e (JV mx BZ ((IT x))  n)).2).ok prog:=by
 refine CL ((IT x).length) (fun j n=>qL x mx BZ j n e) (fun i n=>JV mx BZ (List.drop i ((IT x)))  n) (aE x mx BZ e) (fun i n=>True) kR ?_ n trivial
 rintro i n hi -
 rcases Nat.lt_or_ge i ((IT x).length) with Ac | Cm
 ·have hd:=At Ac
  by_cases h0:n<=mx
  ·exact lN A9 [sl (Ex.A0 (IT x)),rp 4 (dt ((i:Int)<((IT x).length:Int))),BL h0,Afx (IT x) (i:Int),xEx (IT x) i Ac,kp,cl (@hK (List.getD (IT x) i default) (IntKind.wrap .i64 (mx - n)) (by simp_all)),kp,wr ((i:Int)+1)] Ac (IntKind.wrap .i64 (n+BZ (List.getD (IT x) i default) (IntKind.wrap .i64 (mx - n)))) trivial (by rw [hd,JV,iP h0])
  ·exact lX A9 [sl (Ex.A0 (IT x)),rp 4 (dt ((i:Int)<((IT x).length:Int))),Ar h0] (n) (by rw [hd,JV,iN h0])
 ·have he:i=(IT x).length:=by omega
  exact lX A9 [sl (Ex.A0 (IT x)),rp 4 (df ((i:Int)<((IT x).length:Int))),bf false] (n) (by rw [he,List.drop_length,JV])
abbrev qM(x:Ex)(mx:Int)(BZ:Ex->Int->Int)(j:Int)(n:Int)(e:Ext):S:=S.mk [(1,A6 mx),(2,.lp 2 0),(4,A6 0),(5,A6 n),(8,A6 j)] [(2,exV x)] e
def La(mx:Int)(BZ:Ex->Int->Int):List Al->(Int)->(Int)
 | [],n=>(n)
 | el::r,n=>(if n<=mx then La mx BZ r (IntKind.wrap .i64 (IntKind.wrap .i64 (n+((Zt el).length:Int))+BZ (Qa el) (IntKind.wrap .i64 (mx - n)))) else (n))
def aG(x:Ex)(mx:Int)(BZ:Ex->Int->Int)(e:Ext)(p:(Int)):A4 × S:=(.exit 4,S.mk [(1,A6 mx),(2,.lp 2 0),(4,A6 0),(5,A6 p)] [(2,exV x)] e)
theorem pa2(x:Ex)(mx:Int)(BZ:Ex->Int->Int)(ht:∀ (k:Int),Pu 23 [.sl 9 (Tp.cs (P2 x)),.int .i64 k] (.ret (.int .i64 (FN (P2 x) k))))(hP:∀ (p:Pm) (k:Int),p∈Hy x->Pu 23 [.sl 9 [AO (H9 p)],.int .i64 k] (.ret (.int .i64 (FN [H9 p] k))))(hK:∀ (w:Ex) (k:Int),w∈IT x->Pu 65 [.agg (L1 w),.int .i64 k] (.ret (.int .i64 (BZ w k))))(hA:∀ (a:Al) (k:Int),a∈Io x->Pu 65 [.agg (L1 (Qa a)),.int .i64 k] (.ret (.int .i64 (BZ (Qa a) k))))(Br:(Hy x).length<=1000000000)(hN1:(IT x).length<=1000000000)(n:Int)(e:Ext)(hN:(Io x).length<=1000000000)  : (Ob.loop 108 (Au f65 2) (qM x mx BZ 0 n e) (aG x mx BZ e (La mx BZ ((Io x))  n)).1 (aG x mx BZ e (La mx BZ ((Io x))  n)).2).ok prog:=by
 refine CL ((Io x).length) (fun j n=>qM x mx BZ j n e) (fun i n=>La mx BZ (List.drop i ((Io x)))  n) (aG x mx BZ e) (fun i n=>True) kR ?_ n trivial
 rintro i n hi -
 rcases Nat.lt_or_ge i ((Io x).length) with Ac | Cm
 ·have hd:=At Ac
  by_cases h0:n<=mx
  ·exact lN A9 [sl (Al.A0 (Io x)),rp 4 (dt ((i:Int)<((Io x).length:Int))),BL h0,A7k (Io x) (i:Int),xAl (Io x) i Ac,sl (A5 (Zt (List.getD (Io x) i default))),kp,A7k (Io x) (i:Int),xAl (Io x) i Ac,kp,cl (@hA (List.getD (Io x) i default) (IntKind.wrap .i64 (mx - n)) (by simp_all)),kp,wr ((i:Int)+1)] Ac (IntKind.wrap .i64 (IntKind.wrap .i64 (n+((Zt (List.getD (Io x) i default)).length:Int))+BZ (Qa (List.getD (Io x) i default)) (IntKind.wrap .i64 (mx - n)))) trivial (by rw [hd,La,iP h0])
  ·exact lX A9 [sl (Al.A0 (Io x)),rp 4 (dt ((i:Int)<((Io x).length:Int))),Ar h0] (n) (by rw [hd,La,iN h0])
 ·have he:i=(Io x).length:=by omega
  exact lX A9 [sl (Al.A0 (Io x)),rp 4 (df ((i:Int)<((Io x).length:Int))),bf false] (n) (by rw [he,List.drop_length,La])
theorem paL(x:Ex)(mx:Int)(BZ:Ex->Int->Int)(ht:∀ (k:Int),Pu 23 [.sl 9 (Tp.cs (P2 x)),.int .i64 k] (.ret (.int .i64 (FN (P2 x) k))))(hP:∀ (p:Pm) (k:Int),p∈Hy x->Pu 23 [.sl 9 [AO (H9 p)],.int .i64 k] (.ret (.int .i64 (FN [H9 p] k))))(hK:∀ (w:Ex) (k:Int),w∈IT x->Pu 65 [.agg (L1 w),.int .i64 k] (.ret (.int .i64 (BZ w k))))(hA:∀ (a:Al) (k:Int),a∈Io x->Pu 65 [.agg (L1 (Qa a)),.int .i64 k] (.ret (.int .i64 (BZ (Qa a) k))))(Br:(Hy x).length<=1000000000)(hN1:(IT x).length<=1000000000)(hN2:(Io x).length<=1000000000):Pu 65 [.agg (L1 x),pI mx] (rI (La mx BZ (Io x) (JV mx BZ (IT x) (Jc mx (Hy x) (IntKind.wrap .i64 (IntKind.wrap .i64 (1+IntKind.wrap .i64 (Int.tdiv (↑(ByteArray.size (LZ x)):Int) 100))+FN (P2 x) mx)))))):=
 pu A9 (fun e=>[rp 3 (kp),ab true,cl (@ht (mx)),kp,lq (@pa0 (x) (mx) (BZ) ht hP hK hA (IntKind.wrap .i64 (IntKind.wrap .i64 (1+IntKind.wrap .i64 (Int.tdiv (↑(ByteArray.size (LZ x)):Int) 100))+FN (P2 x) mx)) (e) Br),lq (@pa1 (x) (mx) (BZ) ht hP hK hA Br (Jc mx (Hy x) (IntKind.wrap .i64 (IntKind.wrap .i64 (1+IntKind.wrap .i64 (Int.tdiv (↑(ByteArray.size (LZ x)):Int) 100))+FN (P2 x) mx))) (e) hN1),lq (@pa2 (x) (mx) (BZ) ht hP hK hA Br hN1 (JV mx BZ (IT x) (Jc mx (Hy x) (IntKind.wrap .i64 (IntKind.wrap .i64 (1+IntKind.wrap .i64 (Int.tdiv (↑(ByteArray.size (LZ x)):Int) 100))+FN (P2 x) mx)))) (e) hN2)]) func65
def paD:Nat->Ex->Int->Int
 | 0,_,_=>0
 | d+1,x,mx=>La mx (paD d) (Io x) (JV mx (paD d) (IT x) (Jc mx (Hy x) (IntKind.i64.wrap (IntKind.i64.wrap (1+IntKind.i64.wrap (((LZ x).size:Int).tdiv 100))+FN (P2 x) mx))))
theorem mK(x:Ex):Ah (Ex.cs (IT x))+Ah (Pm.cs (Hy x))+Ah (Al.cs (Io x))+Ah (Tp.cs (P2 x))<A3 (L1 x):=by simp only [A3,CR]; omega
theorem VB(a:Al):A3 (L1 (Qa a))<A3 (zC a):=by simp only [A3,CR]; omega
theorem VC(a:Pm):A3 (AO (H9 a))<A3 (jW a):=by simp only [A3,CR]; omega
theorem aH:∀ (d:Nat) (x:Ex) (mx:Int),A3 (L1 x)<d->A3 (L1 x)<=100000000->Pu 65 [.agg (L1 x),.int .i64 mx] (.ret (.int .i64 (paD d x mx)))
 | 0,_,_,h,_=>by omega
 | d+1,x,mx,h,hs=>by
  have h1:=mK x
  have h2:=Ex.BS (IT x)
  have h3:=Pm.BS (Hy x)
  have h4:=Al.BS (Io x)
  exact paL x mx (paD d) (fun k=>ctT _ k oM) (fun p k hp=>mJ _ k (by have:=VC p; have:=Pm.mem hp; omega)) (fun w k hw=>aH d w k (by have:=Ex.mem hw; omega) (by have:=Ex.mem hw; omega)) (fun a k ha=>aH d (Qa a) k (by have:=VB a; have:=Al.mem ha; omega) (by have:=VB a; have:=Al.mem ha; omega)) oM oM oM
def paF(x:Ex)(mx:Int):Int:=paD (A3 (L1 x)+1) x mx
theorem paT(x:Ex)(mx:Int)(hs:A3 (L1 x)<=100000000):Pu 65 [.agg (L1 x),.int .i64 mx] (.ret (.int .i64 (paF x mx))):=aH _ x mx oM hs
abbrev qN(l:List Df)(mx:Int)(d:Df)(o:Int)(n0:Int)(xe:Ext)(j:Int)(n:Int)  : S:=S.mk [(0,vL 25 (Df.cs l)),(1,A6 mx),(4,A6 0),(5,A6 n),(6,A6 o),(7,.lp 7 0),(8,A6 j)] [(7,[vL 1 (Ae (CS d)),vL 2 (Vr.cs (CT d)),vL 2 (Vr.cs (A8 d)),vL 10 (Bo.cs (Ak d)),A6 (AB (Ad d)),vS (An (Ad d)),vL 9 (Tp.cs (Ab (Ad d))),vL 1 (Ae (Ag (Ad d))),A6 (Af (AT (Ad d))),vS (Aj (AT (Ad d))),A6 (Bq (AT (Ad d))),vL 4 (Pr.cs (Av (AT (Ad d)))),vL 4 (Pr.cs (Aq (Ad d))),vL 4 (Pr.cs (AJ d))])] xe
def Lb(mx:Int):List Bo->(Int)->(Int)
 | [],n=>(n)
 | el::r,n=>(if n<=mx then Lb mx r (IntKind.wrap .i64 (IntKind.wrap .i64 (IntKind.wrap .i64 (n+1)+((B6 el).length:Int))+Ip [Cv el,EU el] mx)) else (n))
def aJ(l:List Df)(mx:Int)(d:Df)(o:Int)(n0:Int)(xe:Ext)(p:(Int)):A4 × S:=(.exit 2,S.mk [(0,vL 25 (Df.cs l)),(1,A6 mx),(4,A6 0),(5,A6 p),(6,A6 o),(7,.lp 7 0)] [(7,[vL 1 (Ae (CS d)),vL 2 (Vr.cs (CT d)),vL 2 (Vr.cs (A8 d)),vL 10 (Bo.cs (Ak d)),A6 (AB (Ad d)),vS (An (Ad d)),vL 9 (Tp.cs (Ab (Ad d))),vL 1 (Ae (Ag (Ad d))),A6 (Af (AT (Ad d))),vS (Aj (AT (Ad d))),A6 (Bq (AT (Ad d))),vL 4 (Pr.cs (Av (AT (Ad d)))),vL 4 (Pr.cs (Aq (Ad d))),vL 4 (Pr.cs (AJ d))])] xe)
theorem cd1(l:List Df)(mx:Int)(d:Df)(o n0:Int)(xe:Ext)(hwb:∀ (b:Bo) (k:Int),b∈Ak d->Pu 24 [.sl 4 [AN (Cv b),AN (EU b)],.int .i64 k] (.ret (.int .i64 (Ip [Cv b,EU b] k))))(n:Int)(hN:(Ak d).length<=1000000000)  : (Ob.loop 113 (Au f22 1) (qN l mx d o n0 xe 0 n) (aJ l mx d o n0 xe  (Lb mx ((Ak d))  n)).1 (aJ l mx d o n0 xe  (Lb mx ((Ak d))  n)).2).ok prog:=by
 refine CL ((Ak d).length) (fun j n=>qN l mx d o n0 xe j n) (fun i n=>Lb mx (List.drop i ((Ak d)))  n) (aJ l mx d o n0 xe) (fun i n=>True) kR ?_ n trivial
 rintro i n hi -
 rcases Nat.lt_or_ge i ((Ak d).length) with Ac | Cm
 ·have hd:=At Ac
  by_cases h0:n<=mx
  ·exact lN A9 [sl (Bo.A0 (Ak d)),rp 4 (dt ((i:Int)<((Ak d).length:Int))),BL h0,kp,L2 (Ak d) (i:Int),Uk (Ak d) i Ac,sl (Vr.A0 (B6 (List.getD (Ak d) i default))),kp,L2 (Ak d) (i:Int),Uk (Ak d) i Ac,L2 (Ak d) (i:Int),Uk (Ak d) i Ac,cl (@hwb (List.getD (Ak d) i default) (mx) (by simp_all)),kp,wr ((i:Int)+1)] Ac (IntKind.wrap .i64 (IntKind.wrap .i64 (IntKind.wrap .i64 (n+1)+((B6 (List.getD (Ak d) i default)).length:Int))+Ip [Cv (List.getD (Ak d) i default),EU (List.getD (Ak d) i default)] mx)) trivial (by rw [hd,Lb,iP h0])
  ·exact lX A9 [sl (Bo.A0 (Ak d)),rp 4 (dt ((i:Int)<((Ak d).length:Int))),Ar h0] (n) (by rw [hd,Lb,iN h0])
 ·have he:i=(Ak d).length:=by omega
  exact lX A9 [sl (Bo.A0 (Ak d)),rp 4 (df ((i:Int)<((Ak d).length:Int))),bf false] (n) (by rw [he,List.drop_length,Lb])
theorem A8b{l:List Df}{i:Nat}(hw5:∀d∈l,(Ak d).length<=1000000000)(h:i<l.length):(Ak (l.getD i default)).length<=1000000000:=hw5 _ (Bm h)
theorem A8c{l:List Df}{i:Nat}(hw3:∀ (d:Df) (b:Bo) (k:Int),d∈l->b∈Ak d->Pu 24 [.sl 4 [AN (Cv b),AN (EU b)],.int .i64 k] (.ret (.int .i64 (Ip [Cv b,EU b] k))))(h:i<l.length):∀ (b:Bo) (k:Int),b∈Ak (l.getD i default)->Pu 24 [.sl 4 [AN (Cv b),AN (EU b)],.int .i64 k] (.ret (.int .i64 (Ip [Cv b,EU b] k))):=fun b k hb=>hw3 _ b k (Bm h) hb
abbrev qO(l:List Df)(mx:Int)(j:Int)(n:Int)(e:Ext):S:=S.mk [(0,vL 25 (Df.cs l)),(1,A6 mx),(4,A6 0),(5,A6 n),(6,A6 j)] [] e
def Lc(mx:Int):List Df->(Int)->(Int)
 | [],n=>(n)
 | el::r,n=>(if n<=mx then Lc mx r (IntKind.wrap .i64 (Lb mx (Ak el) (IntKind.wrap .i64 (IntKind.wrap .i64 (IntKind.wrap .i64 (IntKind.wrap .i64 (IntKind.wrap .i64 (IntKind.wrap .i64 (IntKind.wrap .i64 (IntKind.wrap .i64 (n+1)+IntKind.wrap .i64 (Int.tdiv (↑(ByteArray.size (D4 el)):Int) 100))+((L0 el).length:Int))+((CS el).length:Int))+((CT el).length:Int))+((A8 el).length:Int))+FN [Ad el] mx)+Ip (AJ el) mx))+paF (Oq el) mx)) else (n))
def aK(l:List Df)(mx:Int)(e:Ext)(p:(Int)):A4 × S:=(.exit 0,S.mk [(0,vL 25 (Df.cs l)),(1,A6 mx),(4,A6 0),(5,A6 p)] [] e)
theorem cd0(l:List Df)(mx:Int)(oZ:∀ (d:Df) (k:Int),d∈l->Pu 23 [.sl 9 [AO (Ad d)],.int .i64 k] (.ret (.int .i64 (FN [Ad d] k))))(hw2:∀ (d:Df) (k:Int),d∈l->Pu 24 [.sl 4 (Pr.cs (AJ d)),.int .i64 k] (.ret (.int .i64 (Ip (AJ d) k))))(hw3:∀ (d:Df) (b:Bo) (k:Int),d∈l->b∈Ak d->Pu 24 [.sl 4 [AN (Cv b),AN (EU b)],.int .i64 k] (.ret (.int .i64 (Ip [Cv b,EU b] k))))(hw4:∀ (d:Df) (k:Int),d∈l->Pu 65 [.agg (L1 (Oq d)),.int .i64 k] (.ret (.int .i64 (paF (Oq d) k))))(hw5:∀d∈l,(Ak d).length<=1000000000)(n:Int)(e:Ext)(hN:l.length<=1000000000)  : (Ob.loop 113 (Au f22 0) (qO l mx 0 n e) (aK l mx e (Lc mx (l)  n)).1 (aK l mx e (Lc mx (l)  n)).2).ok prog:=by
 refine CL l.length (fun j n=>qO l mx j n e) (fun i n=>Lc mx (List.drop i (l))  n) (aK l mx e) (fun i n=>True) kR ?_ n trivial
 rintro i n hi -
 rcases Nat.lt_or_ge i (l.length) with Ac | Cm
 ·have hd:=At Ac
  by_cases h0:n<=mx
  ·exact lN A9 [sl (Df.A0 l),rp 4 (dt ((i:Int)<(l.length:Int))),BL h0,J7 l (i:Int),SN l i Ac,kp,J7 l (i:Int),SN l i Ac,rp 3 (kp),ab true,J7 l (i:Int),SN l i Ac,sl (A5 (L0 (List.getD l i default))),kp,sl (A5 (CS (List.getD l i default))),kp,sl (Vr.A0 (CT (List.getD l i default))),kp,sl (Vr.A0 (A8 (List.getD l i default))),kp,cl (@oZ (List.getD l i default) (mx) (by simp_all)),kp,cl (@hw2 (List.getD l i default) (mx) (by simp_all)),kp,lq (@cd1 (l) (mx) (List.getD l i default) ((i:Int)) default (e) (by (apply A8c <;> first | assumption | omega | decide)) (IntKind.wrap .i64 (IntKind.wrap .i64 (IntKind.wrap .i64 (IntKind.wrap .i64 (IntKind.wrap .i64 (IntKind.wrap .i64 (IntKind.wrap .i64 (IntKind.wrap .i64 (n+1)+IntKind.wrap .i64 (Int.tdiv (↑(ByteArray.size (D4 (List.getD l i default))):Int) 100))+((L0 (List.getD l i default)).length:Int))+((CS (List.getD l i default)).length:Int))+((CT (List.getD l i default)).length:Int))+((A8 (List.getD l i default)).length:Int))+FN [Ad (List.getD l i default)] mx)+Ip (AJ (List.getD l i default)) mx)) (by (apply A8b <;> first | assumption | omega | decide))),J7 l (i:Int),SN l i Ac,cl (@hw4 (List.getD l i default) (mx) (by simp_all)),kp,wr ((i:Int)+1)] Ac (IntKind.wrap .i64 (Lb mx (Ak (List.getD l i default)) (IntKind.wrap .i64 (IntKind.wrap .i64 (IntKind.wrap .i64 (IntKind.wrap .i64 (IntKind.wrap .i64 (IntKind.wrap .i64 (IntKind.wrap .i64 (IntKind.wrap .i64 (n+1)+IntKind.wrap .i64 (Int.tdiv (↑(ByteArray.size (D4 (List.getD l i default))):Int) 100))+((L0 (List.getD l i default)).length:Int))+((CS (List.getD l i default)).length:Int))+((CT (List.getD l i default)).length:Int))+((A8 (List.getD l i default)).length:Int))+FN [Ad (List.getD l i default)] mx)+Ip (AJ (List.getD l i default)) mx))+paF (Oq (List.getD l i default)) mx)) trivial (by rw [hd,Lc,iP h0])
  ·exact lX A9 [sl (Df.A0 l),rp 4 (dt ((i:Int)<(l.length:Int))),Ar h0] (n) (by rw [hd,Lc,iN h0])
 ·have he:i=l.length:=by omega
  exact lX A9 [sl (Df.A0 l),rp 4 (df ((i:Int)<(l.length:Int))),bf false] (n) (by rw [he,List.drop_length,Lc])
theorem cdL(l:List Df)(mx:Int)(oZ:∀ (d:Df) (k:Int),d∈l->Pu 23 [.sl 9 [AO (Ad d)],.int .i64 k] (.ret (.int .i64 (FN [Ad d] k))))(hw2:∀ (d:Df) (k:Int),d∈l->Pu 24 [.sl 4 (Pr.cs (AJ d)),.int .i64 k] (.ret (.int .i64 (Ip (AJ d) k))))(hw3:∀ (d:Df) (b:Bo) (k:Int),d∈l->b∈Ak d->Pu 24 [.sl 4 [AN (Cv b),AN (EU b)],.int .i64 k] (.ret (.int .i64 (Ip [Cv b,EU b] k))))(hw4:∀ (d:Df) (k:Int),d∈l->Pu 65 [.agg (L1 (Oq d)),.int .i64 k] (.ret (.int .i64 (paF (Oq d) k))))(hw5:∀d∈l,(Ak d).length<=1000000000)(Br:l.length<=1000000000):Pu 22 [.sl 25 (Df.cs l),pI mx] (rI (Lc mx l 0)):=
 pu A9 (fun e=>[lq (@cd0 (l) (mx) oZ hw2 hw3 hw4 hw5 (0) (e) Br)]) func22
theorem Ij(d:Df):A3 (L1 (Oq d))+A3 (AO (Ad d))+Ah (Pr.cs (AJ d))+Ah (Bo.cs (Ak d))<A3 (Ou d):=by simp only [A3,CR]; omega
theorem VD(b:Bo):A3 (AN (Cv b))+A3 (AN (EU b))<A3 (KH b):=by simp only [A3,CR]; omega
def BE(s:BA):Bool:=decide (s.size<=120)&&(if BW s<s.size then (Bz (s.extract 0 (BW s))||C9 (s.extract 0 (BW s))||decide (s.extract 0 (BW s)=tV))&&Oz (s.extract (BW s+1) s.size) else Bz s||C9 s)
theorem Qg{x:BA}{b:Bool}(h:Oz x=b):Pg (x,true)=b:=by rw [<-h]; unfold Pg; rw [iP rfl]
theorem OA(s:BA):Pu 85 [.str s] (.ret (.int .i64 (CJ (BE s)))):=by
 unfold BE
 by_cases hl:s.size<=120
 ·have PF:(s.size:Int)<=120:=by omega
  rw [decide_eq_true hl,Bool.true_and]
  by_cases hx:BW s<s.size
  ·rw [iP hx]
   cases h0:Bz (s.extract 0 (BW s)) with
   | true=>
    cases h3:Oz (s.extract (BW s+1) s.size) with
    | true=>simpa only [Bool.true_or,Bool.false_or,Bool.true_and,Bool.or_true,Bool.false_and,Bool.and_true,Bool.and_false,Bool.or_false,CJ,if_true,Bool.false_eq_true,if_false] using A01 s PF hx h0 (Qg h3)
    | false=>simpa only [Bool.true_or,Bool.false_or,Bool.true_and,Bool.or_true,Bool.false_and,Bool.and_true,Bool.and_false,Bool.or_false,CJ,if_true,Bool.false_eq_true,if_false] using A02 s PF hx h0 (Qg h3)
   | false=>
    cases h1:C9 (s.extract 0 (BW s)) with
    | true=>
     cases h3:Oz (s.extract (BW s+1) s.size) with
     | true=>simpa only [Bool.true_or,Bool.false_or,Bool.true_and,Bool.or_true,Bool.false_and,Bool.and_true,Bool.and_false,Bool.or_false,CJ,if_true,Bool.false_eq_true,if_false] using zZ s PF hx h0 h1 (Qg h3)
     | false=>simpa only [Bool.true_or,Bool.false_or,Bool.true_and,Bool.or_true,Bool.false_and,Bool.and_true,Bool.and_false,Bool.or_false,CJ,if_true,Bool.false_eq_true,if_false] using A00 s PF hx h0 h1 (Qg h3)
    | false=>
     by_cases h2:s.extract 0 (BW s)=tV
     ·rw [decide_eq_true h2]
      cases h3:Oz (s.extract (BW s+1) s.size) with
      | true=>simpa only [Bool.true_or,Bool.false_or,Bool.true_and,Bool.or_true,Bool.false_and,Bool.and_true,Bool.and_false,Bool.or_false,CJ,if_true,Bool.false_eq_true,if_false] using zX s PF hx h0 h1 h2 (Qg h3)
      | false=>simpa only [Bool.true_or,Bool.false_or,Bool.true_and,Bool.or_true,Bool.false_and,Bool.and_true,Bool.and_false,Bool.or_false,CJ,if_true,Bool.false_eq_true,if_false] using zY s PF hx h0 h1 h2 (Qg h3)
     ·rw [decide_eq_false h2]; simpa only [Bool.true_or,Bool.false_or,Bool.true_and,Bool.or_true,Bool.false_and,Bool.and_true,Bool.and_false,Bool.or_false,CJ,if_true,Bool.false_eq_true,if_false] using zW s PF hx h0 h1 h2
  ·rw [iN hx]
   cases h0:Bz s with
   | true=>simpa only [Bool.true_or,Bool.false_or,Bool.true_and,Bool.or_true,Bool.false_and,Bool.and_true,Bool.and_false,Bool.or_false,CJ,if_true,Bool.false_eq_true,if_false] using A06 s PF hx h0
   | false=>
    cases h1:C9 s with
    | true=>simpa only [Bool.true_or,Bool.false_or,Bool.true_and,Bool.or_true,Bool.false_and,Bool.and_true,Bool.and_false,Bool.or_false,CJ,if_true,Bool.false_eq_true,if_false] using A05 s PF hx h0 h1
    | false=>
     by_cases h2:s=tV
     ·simpa only [Bool.true_or,Bool.false_or,Bool.true_and,Bool.or_true,Bool.false_and,Bool.and_true,Bool.and_false,Bool.or_false,CJ,if_true,Bool.false_eq_true,if_false] using A04 s PF hx h0 h1 h2
     ·simpa only [Bool.true_or,Bool.false_or,Bool.true_and,Bool.or_true,Bool.false_and,Bool.and_true,Bool.and_false,Bool.or_false,CJ,if_true,Bool.false_eq_true,if_false] using A03 s PF hx h0 h1 h2
 ·rw [decide_eq_false hl,Bool.false_and]; simpa only [Bool.true_or,Bool.false_or,Bool.true_and,Bool.or_true,Bool.false_and,Bool.and_true,Bool.and_false,Bool.or_false,CJ,if_true,Bool.false_eq_true,if_false] using Ag6 s oM
theorem FH{s:BA}(h:CJ (BE s)=0):(0:Int)<=0/\(0:Int)<(s.size:Int):=by
 cases hb:BE s with
 | false=>rw [hb] at h; cases h
 | true=>
  by_cases hz:s.size=0
  ·have:s=Ai:=by
    have:s.data = #[]:=Array.eq_empty_of_size_eq_zero hz
    cases s; simp only at this; subst this; rfl
   subst this
   rw [show BE Ai=false by kernel_rfl] at hb
   cases hb
  ·omega
def US(s:BA)(l:List BA):Int:=if ix id s l<l.length then (ix id s l:Nat) else -1
def Bg{α:Type}(f:α->Int):List α->Int
 | []=>0
 | x::r=>if f x=0 then Bg f r else f x
abbrev qP(t:Tp)(Ca:Tp->Int)(j:Int)(n:Int)(e:Ext):S:=S.mk [(2,A6 0),(3,A6 n),(7,vL 9 (Tp.cs (Ab t))),(8,A6 ((Ab t).length:Int)),(9,A6 j)] [] e
def HG(Ca:Tp->Int):List Tp->(Int)->(Int)
 | [],n=>(n)
 | el::r,n=>HG Ca r (WD true n (Ca el))
def aL(t:Tp)(Ca:Tp->Int)(e:Ext)(p:(Int)):A4 × S:=(.exit 0,S.mk [(2,A6 0),(3,A6 p),(7,vL 9 (Tp.cs (Ab t))),(8,A6 ((Ab t).length:Int))] [] e)
theorem tdA(t:Tp)(Ca:Tp->Int)(BM:∀w:Tp,w∈Ab t->Pu 121 [.agg (AO w)] (.ret (.int .i64 (Ca w))))(n:Int)(e:Ext)(hN:(Ab t).length<=1000000000)  : (Ob.loop 20 (Au f121 0) (qP t Ca 0 n e) (aL t Ca e (HG Ca ((Ab t))  n)).1 (aL t Ca e (HG Ca ((Ab t))  n)).2).ok prog:=by
 refine CL ((Ab t).length) (fun j n=>qP t Ca j n e) (fun i n=>HG Ca (List.drop i ((Ab t)))  n) (aL t Ca e) (fun i n=>True) kR ?_ n trivial
 rintro i n hi -
 rcases Nat.lt_or_ge i ((Ab t).length) with Ac | Cm
 ·have hd:=At Ac
  exact lN A9 [dt ((i:Int)<((Ab t).length:Int)),DH (Ab t) (i:Int),I5 (Ab t) i Ac,cl (@BM (List.getD (Ab t) i default) (by simp_all [Dc])),wr ((i:Int)+1)] Ac (WD true n (Ca (List.getD (Ab t) i default))) trivial (by rw [hd,HG])
 ·have he:i=(Ab t).length:=by omega
  exact lX A9 [df ((i:Int)<((Ab t).length:Int))] (n) (by rw [he,List.drop_length,HG])
abbrev Qh(t:Tp)(xe:Ext)(ff:Tp->Int)(j:Int)   : S:=S.mk [(2,A6 0),(90,vL 9 (Tp.cs (Ab t))),(91,A6 ((Ab t).length:Int)),(92,A6 j)] [] xe
inductive Iq where
 | e0 (el:Tp)
 | e1
def HH(ff:Tp->Int):List Tp->Iq
 | []=>(Iq.e1)
 | el::r=>(if ff el=0 then HH ff r  else (Iq.e0 el))
def OB(t:Tp)(xe:Ext)(ff:Tp->Int)  : Iq->A4 × S
 | .e0 el=>(.ret,S.mk [(2,A6 (ff el)),(90,vL 9 (Tp.cs (Ab t))),(91,A6 ((Ab t).length:Int))] [] xe)
 | .e1=>(.exit 0,S.mk [(2,A6 0),(90,vL 9 (Tp.cs (Ab t))),(91,A6 ((Ab t).length:Int))] [] xe)
theorem aM(t:Tp)(xe:Ext)(ff:Tp->Int)(BM:∀w:Tp,w∈Ab t->Pu 122 [.agg (AO w)] (.ret (.int .i64 (ff w))))(hN:(Ab t).length<=1000000000):(Ob.loop 102 (Au f122 0) (Qh t xe ff 0) (OB t xe ff  (HH ff ((Ab t)))).1 (OB t xe ff  (HH ff ((Ab t)))).2).ok prog:=by
 refine CL ((Ab t).length) (fun j _=>Qh t xe ff j) (fun i _=>HH ff (List.drop i ((Ab t)))) (OB t xe ff) (fun i _=>True) kR ?_ () trivial
 rintro i u hi -
 rcases Nat.lt_or_ge i ((Ab t).length) with Ac | Cm
 ·have hd:=At Ac
  by_cases h0:ff (List.getD (Ab t) i default)=0
  ·exact lN A9 [dt ((i:Int)<((Ab t).length:Int)),DH (Ab t) (i:Int),I5 (Ab t) i Ac,cl (@BM (List.getD (Ab t) i default) (by simp_all [Dc])),B1 h0,wr ((i:Int)+1)] Ac () trivial (by rw [hd,HH,iP h0])
  ·exact lX A9 [dt ((i:Int)<((Ab t).length:Int)),DH (Ab t) (i:Int),I5 (Ab t) i Ac,cl (@BM (List.getD (Ab t) i default) (by simp_all [Dc])),Bi h0] (Iq.e0 (List.getD ((Ab t)) i default)) (by rw [hd,HH,iN h0])
 ·have he:i=(Ab t).length:=by omega
  exact lX A9 [df ((i:Int)<((Ab t).length:Int))] (Iq.e1) (by rw [he,List.drop_length,HH])
theorem A8d(t:Tp)(xe:Ext)(ff:Tp->Int)(BM:∀w:Tp,w∈Ab t->Pu 122 [.agg (AO w)] (.ret (.int .i64 (ff w))))(hN:(Ab t).length<=1000000000)(p0:Tp)(Be:(HH ff ((Ab t)))=(Iq.e0 p0)):(Ob.loop 102 (Au f122 0) (Qh t xe ff 0) (OB t xe ff  (Iq.e0 p0)).1 (OB t xe ff  (Iq.e0 p0)).2).ok prog:=
 rz (aM t xe ff BM hN) Be
theorem A8e(t:Tp)(xe:Ext)(ff:Tp->Int)(BM:∀w:Tp,w∈Ab t->Pu 122 [.agg (AO w)] (.ret (.int .i64 (ff w))))(hN:(Ab t).length<=1000000000)(Be:(HH ff ((Ab t)))=(Iq.e1)):(Ob.loop 102 (Au f122 0) (Qh t xe ff 0) (OB t xe ff  (Iq.e1)).1 (OB t xe ff  (Iq.e1)).2).ok prog:=
 rz (aM t xe ff BM hN) Be
def arE(t:Tp):Int:=if AB t=4 then (if ((Ab t).length:Int)>6 then 13 else 0) else if AB t=6 then (if ((Ab t).length:Int)<2 then 13 else if ((Ab t).length:Int)>7 then 13 else if ((Ag t).length:Int)=0 then 0 else if ((Ag t).length:Int)=((Ab t).length:Int) - 1 then 0 else 13) else 0
theorem arT(t:Tp):Pu 170 [.agg (AO t)] (.ret (.int .i64 (arE t))):=by
 unfold arE
 by_cases h0:AB t=4
 ·rw [iP h0]
  by_cases h1:((Ab t).length:Int)>6
  ·rw [iP h1]; exact pm A9 [Bb h0,sl (Tp.A0 (Ab t)),BL h1] func170
  ·rw [iN h1]; exact pm A9 [Bb h0,sl (Tp.A0 (Ab t)),Ar h1] func170
 ·rw [iN h0]
  by_cases h1:AB t=6
  ·rw [iP h1]
   by_cases h2:((Ab t).length:Int)<2
   ·rw [iP h2]; exact pm A9 [Ay h0,Bb h1,sl (Tp.A0 (Ab t)),rp 5 (BL h2),rp 8 (bt true)] func170
   ·rw [iN h2]
    by_cases h3:((Ab t).length:Int)>7
    ·rw [iP h3]; exact pm A9 [Ay h0,Bb h1,sl (Tp.A0 (Ab t)),rp 3 (Ar h2),sl (Tp.A0 (Ab t)),rp 2 (Ar h2),rp 7 (BL h3),bt true] func170
    ·rw [iN h3]
     by_cases h4:((Ag t).length:Int)=0
     ·rw [iP h4]; exact pm A9 [Ay h0,Bb h1,sl (Tp.A0 (Ab t)),rp 3 (Ar h2),sl (Tp.A0 (Ab t)),rp 2 (Ar h2),rp 3 (Ar h3),sl (A5 (Ag t)),rp 2 (Ar h3),rp 8 (B1 h4),Ar h3,B1 h4,Ar h3,bf false] func170
     ·rw [iN h4]
      by_cases h5:((Ag t).length:Int)=((Ab t).length:Int) - 1
      ·rw [iP h5]; exact pm A9 [Ay h0,Bb h1,sl (Tp.A0 (Ab t)),rp 3 (Ar h2),sl (Tp.A0 (Ab t)),rp 2 (Ar h2),rp 3 (Ar h3),sl (A5 (Ag t)),rp 2 (Ar h3),rp 3 (Bi h4),sl (A5 (Ag t)),rp 3 (Bi h4),sl (Tp.A0 (Ab t)),Bi h4,wr (((Ab t).length:Int) - 1),Bi h4,Ar h3,Bi h4,Ar h3,B1 h5] func170
      ·rw [iN h5]; exact pm A9 [Ay h0,Bb h1,sl (Tp.A0 (Ab t)),rp 3 (Ar h2),sl (Tp.A0 (Ab t)),rp 2 (Ar h2),rp 3 (Ar h3),sl (A5 (Ag t)),rp 2 (Ar h3),rp 3 (Bi h4),sl (A5 (Ag t)),rp 3 (Bi h4),sl (Tp.A0 (Ab t)),Bi h4,wr (((Ab t).length:Int) - 1),Bi h4,Ar h3,Bi h4,Ar h3,Bi h5] func170
  ·rw [iN h1]; exact pm A9 [Ay h0,Ay h1] func170
def VE:Nat->Tp->Int
 | 0,_=>0
 | d+1,t=>HG (VE d) (Ab t) 0+1
theorem VF{f:Tp->Int}{B:Int}:∀ (l:List Tp) (n:Int),0<=n->n<=B->(∀w∈l,0<=f w/\f w<=B)->0<=HG f l n/\HG f l n<=B
 | [],n,h0,h1,_=>⟨h0,h1⟩
 | x::r,n,h0,h1,h=>by
  have hx:=h x sM
  refine VF r _ ?_ ?_ fun w hw=>h w (List.mem_cons_of_mem _ hw)
  ·show 0<=(if f x>n then f x else n); split <;> omega
  ·show (if f x>n then f x else n)<=B; split <;> omega
theorem aN:∀ (d:Nat) (t:Tp),0<=VE d t/\VE d t<=d
 | 0,_=>⟨Int.le_refl _,Int.le_refl _⟩
 | d+1,t=>by
  have:=VF (f:=VE d) (B:=d) (Ab t) 0 oM oM fun w _=>aN d w
  simp only [VE]; omega
theorem qQ:∀ (d:Nat) (t:Tp),A3 (AO t)<d->d<=100000001->Pu 121 [.agg (AO t)] (.ret (.int .i64 (VE d t)))
 | 0,_,h,_=>by omega
 | d+1,t,h,hs=>by
  have hb:=VF (f:=VE d) (B:=d) (Ab t) 0 oM oM fun w _=>aN d w
  exact pu A9 (fun e=>[sl (Tp.A0 (Ab t)),lq (@tdA (t) ((VE d)) (fun w hw=>qQ d w (by have:=F8 t; have:=Tp.mem hw; omega) oM) (0) (e) (by have:=F8 t; have:=Tp.BS (Ab t); omega)),ai (IntKind.wrap .i64 (HG (VE d) (Ab t) 0+1)) (HG (VE d) (Ab t) 0+1) (wrap64 oM oM)]) func121
def tdF(t:Tp):Int:=VE (A3 (AO t)+1) t
theorem tdT(t:Tp)(hs:A3 (AO t)<=100000000):Pu 121 [.agg (AO t)] (.ret (.int .i64 (tdF t))):=qQ _ t oM oM
theorem aO(ff:Tp->Int):∀l:List Tp,(Bg ff l=0->HH ff l = .e1)/\(¬Bg ff l=0->∃w,HH ff l = .e0 w/\ff w=Bg ff l)
 | []=>⟨fun _=>rfl,fun h=>absurd rfl h⟩
 | x::r=>by
  have ih:=aO ff r
  by_cases h:ff x=0
  ·simp only [Bg,HH,h,if_true]; exact ih
  ·simp only [Bg,HH,h,if_false]; exact ⟨fun h'=>h'.elim,fun _=>⟨x,rfl,rfl⟩⟩
abbrev tfS(t:Tp)(v:Int)(xe:Ext):S:=⟨[(2,.v (.int .i64 v)),(90,.v (.sl 9 (Tp.cs (Ab t)))),(91,.v (.int .i64 (Ab t).length))],[],xe⟩
theorem tfT(t:Tp)(xe:Ext)(ff:Tp->Int)(BM:∀w:Tp,w∈Ab t->Pu 122 [.agg (AO w)] (.ret (.int .i64 (ff w))))(hN:(Ab t).length<=1000000000)(hx:Bg ff (Ab t)=0):(Ob.loop 102 (Au f122 0) (Qh t xe ff 0) (.exit 0) (tfS t 0 xe)).ok prog:=
 A8e t xe ff BM hN ((aO ff (Ab t)).1 hx)
theorem tfF(t:Tp)(xe:Ext)(ff:Tp->Int)(BM:∀w:Tp,w∈Ab t->Pu 122 [.agg (AO w)] (.ret (.int .i64 (ff w))))(hN:(Ab t).length<=1000000000)(hx:¬Bg ff (Ab t)=0):(Ob.loop 102 (Au f122 0) (Qh t xe ff 0) .ret (tfS t (Bg ff (Ab t)) xe)).ok prog:=by
 obtain ⟨w,h1,h2⟩:=(aO ff (Ab t)).2 hx
 have:=A8d t xe ff BM hN w h1
 rw [<-h2]
 exact this
abbrev qR(l:List BA)(s:BA)(j:Int)(e:Ext):S:=S.mk [(0,vL 1 (Ae l)),(1,vS s),(4,A6 0),(7,A6 (l.length:Int)),(8,A6 j)] [] e
inductive OC where
 | e0 (i:Nat)
 | e1
def Ir(s:BA):List BA->Nat->OC
 | [],i=>(OC.e1)
 | el::r,i=>(if el=s then (OC.e0 i) else Ir s r (i+1))
def aP(l:List BA)(s:BA)(e:Ext):OC->A4 × S
 | .e0 i=>(.ret,S.mk [(0,vL 1 (Ae l)),(1,vS s),(4,A6 (i:Int)),(7,A6 (l.length:Int))] [] e)
 | .e1=>(.exit 0,S.mk [(0,vL 1 (Ae l)),(1,vS s),(4,A6 0),(7,A6 (l.length:Int))] [] e)
theorem aQ(l:List BA)(s:BA)(e:Ext)(hN:l.length<=1000000000):(Ob.loop 19 (Au f150 0) (qR l s 0  e) (aP l s e (Ir s (l) 0)).1 (aP l s e (Ir s (l) 0)).2).ok prog:=by
 refine CL l.length (fun j _=>qR l s j  e) (fun i _=>Ir s (List.drop i (l)) i) (aP l s e) (fun i _=>True) kR ?_ () trivial
 rintro i u hi -
 rcases Nat.lt_or_ge i (l.length) with Ac | Cm
 ·have hd:=CU Ac
  by_cases h0:List.getD l i Ai=s
  ·exact lX A9 [dt ((i:Int)<(l.length:Int)),CH l (i:Int),DU l i Ac,bt (ByteArray.toList (List.getD l i Ai)==ByteArray.toList s) (BI h0)] (OC.e0 i) (by rw [hd,Ir,iP h0])
  ·exact lN A9 [dt ((i:Int)<(l.length:Int)),CH l (i:Int),DU l i Ac,bf (ByteArray.toList (List.getD l i Ai)==ByteArray.toList s) (Bp h0),wr ((i:Int)+1)] Ac () trivial (by rw [hd,Ir,iN h0])
 ·have he:i=l.length:=by omega
  exact lX A9 [df ((i:Int)<(l.length:Int))] (OC.e1) (by rw [he,List.drop_length,Ir])
theorem A07(l:List BA)(s:BA)(hN:l.length<=1000000000)(CX:Nat)(Aa:Ir s l 0=OC.e0 CX):Pu 150 [.sl 1 (Ae l),.str s] (rI (CX:Int)):=
 pu A9 (fun e=>[sl (A5 l),lq (rz (aQ (l) (s) (e) hN) Aa)]) func150
theorem aS(s:BA):∀ (l:List BA) (k:Nat),Ir s l k=if ix id s l<l.length then .e0 (k+ix id s l) else .e1
 | [],k=>by simp [Ir,ix]
 | c::r,k=>by
  by_cases h:c=s
  ·simp [Ir,ix,h]
  ·simp only [Ir,ix,id,h,if_false,aS s r (k+1),List.length_cons]
   by_cases h2:ix id s r<r.length
   ·rw [iP h2,iP (by simpa using h2)]; congr 1; show k+1+ix id s r=k+(ix id s r+1); omega
   ·rw [iN h2,iN (by simpa using h2)]
theorem A08(l:List BA)(s:BA)(hN:l.length<=1000000000):Pu 150 [.sl 1 (Ae l),.str s] (.ret (.int .i64 (US s l))):=by
 unfold US
 by_cases h:ix id s l<l.length
 ·rw [iP h]; exact A07 l s hN _ (by rw [aS,iP h,Nat.zero_add])
 ·rw [iN h]; exact pu A9 (fun e=>[sl (A5 l),lq (rz (aQ (l) (s) (e) hN) (by rw [aS,iN h]))]) func150
theorem rKy  : Pu 231 [] (.ret (.sl 1 [[.str (ByteArray.mk #[97,110,100])],[.str (ByteArray.mk #[97,115,115,117,109,101])],[.str (ByteArray.mk #[98,111,111,108])],[.str (ByteArray.mk #[98,111,117,110,100])],[.str (ByteArray.mk #[99,97,115,101])],[.str (ByteArray.mk #[99,101,108,108])],[.str (ByteArray.mk #[99,108,97,115,115])],[.str (ByteArray.mk #[100,97,116,97])],[.str (ByteArray.mk #[100,101,102])],[.str (ByteArray.mk #[100,105,118])],[.str (ByteArray.mk #[101,108,115,101])],[.str (ByteArray.mk #[101,110,100])],[.str (ByteArray.mk #[102,97,108,115,101])],[.str (ByteArray.mk #[102,111,114,97,108,108])],[.str (ByteArray.mk #[102,117,110])],[.str (ByteArray.mk #[103,101,116])],[.str (ByteArray.mk #[105,102])],[.str (ByteArray.mk #[105,110])],[.str (ByteArray.mk #[105,110,115,116])],[.str (ByteArray.mk #[105,110,116])],[.str (ByteArray.mk #[105,110,118,97,114,105,97,110,116])],[.str (ByteArray.mk #[108,101,116])],[.str (ByteArray.mk #[109,97,116,99,104])],[.str (ByteArray.mk #[109,101,97,115,117,114,101])],[.str (ByteArray.mk #[109,101,116,114,105,99])],[.str (ByteArray.mk #[109,111,100])],[.str (ByteArray.mk #[109,117])],[.str (ByteArray.mk #[110,101,119])],[.str (ByteArray.mk #[110,111,116])],[.str (ByteArray.mk #[111,102])],[.str (ByteArray.mk #[111,114])],[.str (ByteArray.mk #[113,117,97,108])],[.str (ByteArray.mk #[114,101,102,108,101,99,116])],[.str (ByteArray.mk #[115,101,116])],[.str (ByteArray.mk #[116,104,101,110])],[.str (ByteArray.mk #[116,114,117,101])],[.str (ByteArray.mk #[117,115,101])],[.str (bM 118)],[.str (ByteArray.mk #[118,97,108])],[.str (ByteArray.mk #[116,97,103])],[.str (ByteArray.mk #[119,104,101,114,101])],[.str (ByteArray.mk #[119,105,116,104])]])):=
 pm A9 [] func231
theorem Ag8:Pu 231 [] (.ret (.sl 1 (Ae L6))):=rKy
theorem A8f:L6.length<=1000000000:=by decide
theorem rKw(s:BA):Pu 184 [.str s] (rB (decide (US s L6>=0))):=
 pm A9 [cl Ag8,cl (@A08 (L6) (s) (by (apply A8f <;> first | assumption | omega | decide)))] func184
theorem A09(s:BA)(b:Bool)(h:SW s=b):decide (US s L6>=0)=b:=by
 subst h
 unfold US SW
 split
 ·rename_i h; rw [decide_eq_true h]; exact decide_eq_true oM
 ·rename_i h; rw [decide_eq_false h]; rfl
theorem A0a(s:BA):Pu 184 [.str s] (.ret (.bool (SW s))):=by rw [<-A09 s _ rfl]; exact rKw s
abbrev qS(s:BA)(xe:Ext)(j:Int)   : S:=S.mk [(0,vS s),(2,A6 0),(23,A6 (↑(ByteArray.size s):Int)),(24,A6 j)] [] xe
inductive MC where
 | e0
 | e1
def Gy  : List UInt8->MC
 | []=>(MC.e1)
 | el::r=>(if Ed (↑(UInt8.toNat el):Int)=false then (if J9 (↑(UInt8.toNat el):Int)=false then (if (↑(UInt8.toNat el):Int)=95 then Gy  r  else (MC.e0)) else Gy  r) else Gy  r)
def aU(s:BA)(xe:Ext)  : MC->A4 × S
 | .e0=>(.ret,S.mk [(0,vS s),(2,A6 3),(23,A6 (↑(ByteArray.size s):Int))] [] xe)
 | .e1=>(.exit 0,S.mk [(0,vS s),(2,A6 0),(23,A6 (↑(ByteArray.size s):Int))] [] xe)
theorem aV(s:BA)(xe:Ext)(hN:List.length ((s.data.toList))<=1000000000):(Ob.loop 46 (Au f139 0) (qS s xe 0) (aU s xe  (Gy  ((s.data.toList)))).1 (aU s xe  (Gy  ((s.data.toList)))).2).ok prog:=by
 refine CL (List.length ((s.data.toList))) (fun j _=>qS s xe j) (fun i _=>Gy  (List.drop i ((s.data.toList)))) (aU s xe) (fun i _=>True) kR ?_ () trivial
 rintro i u hi -
 rcases Nat.lt_or_ge i (List.length ((s.data.toList))) with Ac | Cm
 ·have hd:=At Ac
  by_cases h0:Ed (↑(UInt8.toNat (List.getD (Array.toList (ByteArray.data s)) i default)):Int)=false
  ·by_cases h1:J9 (↑(UInt8.toNat (List.getD (Array.toList (ByteArray.data s)) i default)):Int)=false
   ·by_cases h2:(↑(UInt8.toNat (List.getD (Array.toList (ByteArray.data s)) i default)):Int)=95
    ·exact lN A9 [dt ((i:Int)<(↑(ByteArray.size s):Int)) (by (apply Lw <;> first | assumption | omega | decide)),am ((0:Int)<=(i:Int)/\(i:Int)<(↑(ByteArray.size s):Int)) (by simp_all [Dc]),DM s i,cl (@HC ((↑(UInt8.toNat (List.getD (Array.toList (ByteArray.data s)) i default)):Int))),rp 3 (AV (B0 h0)),am ((0:Int)<=(i:Int)/\(i:Int)<(↑(ByteArray.size s):Int)) (by simp_all [Dc]),DM s i,AV (B0 h0),cl (@SV ((↑(UInt8.toNat (List.getD (Array.toList (ByteArray.data s)) i default)):Int))),rp 2 (AV (B0 h0)),rp 3 (AV (B0 h1)),am ((0:Int)<=(i:Int)/\(i:Int)<(↑(ByteArray.size s):Int)) (by simp_all [Dc]),DM s i,rp 2 (AV (B0 h1)),B1 h2,wr ((i:Int)+1)] Ac () trivial (by rw [hd,Gy,iP h0,iP h1,iP h2])
    ·exact lX A9 [dt ((i:Int)<(↑(ByteArray.size s):Int)) (by (apply Lw <;> first | assumption | omega | decide)),am ((0:Int)<=(i:Int)/\(i:Int)<(↑(ByteArray.size s):Int)) (by simp_all [Dc]),DM s i,cl (@HC ((↑(UInt8.toNat (List.getD (Array.toList (ByteArray.data s)) i default)):Int))),rp 3 (AV (B0 h0)),am ((0:Int)<=(i:Int)/\(i:Int)<(↑(ByteArray.size s):Int)) (by simp_all [Dc]),DM s i,AV (B0 h0),cl (@SV ((↑(UInt8.toNat (List.getD (Array.toList (ByteArray.data s)) i default)):Int))),rp 2 (AV (B0 h0)),rp 3 (AV (B0 h1)),am ((0:Int)<=(i:Int)/\(i:Int)<(↑(ByteArray.size s):Int)) (by simp_all [Dc]),DM s i,rp 2 (AV (B0 h1)),Bi h2] (MC.e0) (by rw [hd,Gy,iP h0,iP h1,iN h2])
   ·exact lN A9 [dt ((i:Int)<(↑(ByteArray.size s):Int)) (by (apply Lw <;> first | assumption | omega | decide)),am ((0:Int)<=(i:Int)/\(i:Int)<(↑(ByteArray.size s):Int)) (by simp_all [Dc]),DM s i,cl (@HC ((↑(UInt8.toNat (List.getD (Array.toList (ByteArray.data s)) i default)):Int))),rp 3 (AV (B0 h0)),am ((0:Int)<=(i:Int)/\(i:Int)<(↑(ByteArray.size s):Int)) (by simp_all [Dc]),DM s i,AV (B0 h0),cl (@SV ((↑(UInt8.toNat (List.getD (Array.toList (ByteArray.data s)) i default)):Int))),rp 2 (AV (B0 h0)),rp 5 (AM (AI (JQ h1))),bf false,wr ((i:Int)+1)] Ac () trivial (by rw [hd,Gy,iP h0,iN h1])
  ·exact lN A9 [dt ((i:Int)<(↑(ByteArray.size s):Int)) (by (apply Lw <;> first | assumption | omega | decide)),am ((0:Int)<=(i:Int)/\(i:Int)<(↑(ByteArray.size s):Int)) (by simp_all [Dc]),DM s i,cl (@HC ((↑(UInt8.toNat (List.getD (Array.toList (ByteArray.data s)) i default)):Int))),rp 6 (AM (AI (JQ h0))),rp 6 (bf false),wr ((i:Int)+1)] Ac () trivial (by rw [hd,Gy,iN h0])
 ·have he:i=List.length ((s.data.toList)):=by omega
  exact lX A9 [df ((i:Int)<(↑(ByteArray.size s):Int)) (by (apply jX <;> first | assumption | omega | decide))] (MC.e1) (by rw [he,List.drop_length,Gy])
abbrev qT(s:BA)(xe:Ext)(j:Int)   : S:=S.mk [(0,vS s),(2,A6 0),(35,A6 (↑(ByteArray.size s):Int)),(36,A6 j)] [] xe
inductive MD where
 | e0
 | e1
def Gz  : List UInt8->MD
 | []=>(MD.e1)
 | el::r=>(if Ed (↑(UInt8.toNat el):Int)=false then (if GN (↑(UInt8.toNat el):Int)=false then (if J9 (↑(UInt8.toNat el):Int)=false then (MD.e0) else Gz  r) else Gz  r) else Gz  r)
def aW(s:BA)(xe:Ext)  : MD->A4 × S
 | .e0=>(.ret,S.mk [(0,vS s),(2,A6 3),(35,A6 (↑(ByteArray.size s):Int))] [] xe)
 | .e1=>(.exit 0,S.mk [(0,vS s),(2,A6 0),(35,A6 (↑(ByteArray.size s):Int))] [] xe)
theorem aX(s:BA)(xe:Ext)(hN:List.length ((s.data.toList))<=1000000000):(Ob.loop 59 (Au f140 0) (qT s xe 0) (aW s xe  (Gz  ((s.data.toList)))).1 (aW s xe  (Gz  ((s.data.toList)))).2).ok prog:=by
 refine CL (List.length ((s.data.toList))) (fun j _=>qT s xe j) (fun i _=>Gz  (List.drop i ((s.data.toList)))) (aW s xe) (fun i _=>True) kR ?_ () trivial
 rintro i u hi -
 rcases Nat.lt_or_ge i (List.length ((s.data.toList))) with Ac | Cm
 ·have hd:=At Ac
  by_cases h0:Ed (↑(UInt8.toNat (List.getD (Array.toList (ByteArray.data s)) i default)):Int)=false
  ·by_cases h1:GN (↑(UInt8.toNat (List.getD (Array.toList (ByteArray.data s)) i default)):Int)=false
   ·by_cases h2:J9 (↑(UInt8.toNat (List.getD (Array.toList (ByteArray.data s)) i default)):Int)=false
    ·exact lX A9 [dt ((i:Int)<(↑(ByteArray.size s):Int)) (by (apply Lw <;> first | assumption | omega | decide)),am ((0:Int)<=(i:Int)/\(i:Int)<(↑(ByteArray.size s):Int)) (by simp_all [Dc]),DM s i,cl (@HC ((↑(UInt8.toNat (List.getD (Array.toList (ByteArray.data s)) i default)):Int))),rp 3 (AV (B0 h0)),am ((0:Int)<=(i:Int)/\(i:Int)<(↑(ByteArray.size s):Int)) (by simp_all [Dc]),DM s i,AV (B0 h0),cl (@Nh ((↑(UInt8.toNat (List.getD (Array.toList (ByteArray.data s)) i default)):Int))),rp 2 (AV (B0 h0)),rp 3 (AV (B0 h1)),am ((0:Int)<=(i:Int)/\(i:Int)<(↑(ByteArray.size s):Int)) (by simp_all [Dc]),DM s i,AV (B0 h1),cl (@SV ((↑(UInt8.toNat (List.getD (Array.toList (ByteArray.data s)) i default)):Int))),rp 2 (AV (B0 h1)),AV (B0 h2)] (MD.e0) (by rw [hd,Gz,iP h0,iP h1,iP h2])
    ·exact lN A9 [dt ((i:Int)<(↑(ByteArray.size s):Int)) (by (apply Lw <;> first | assumption | omega | decide)),am ((0:Int)<=(i:Int)/\(i:Int)<(↑(ByteArray.size s):Int)) (by simp_all [Dc]),DM s i,cl (@HC ((↑(UInt8.toNat (List.getD (Array.toList (ByteArray.data s)) i default)):Int))),rp 3 (AV (B0 h0)),am ((0:Int)<=(i:Int)/\(i:Int)<(↑(ByteArray.size s):Int)) (by simp_all [Dc]),DM s i,AV (B0 h0),cl (@Nh ((↑(UInt8.toNat (List.getD (Array.toList (ByteArray.data s)) i default)):Int))),rp 2 (AV (B0 h0)),rp 3 (AV (B0 h1)),am ((0:Int)<=(i:Int)/\(i:Int)<(↑(ByteArray.size s):Int)) (by simp_all [Dc]),DM s i,AV (B0 h1),cl (@SV ((↑(UInt8.toNat (List.getD (Array.toList (ByteArray.data s)) i default)):Int))),rp 2 (AV (B0 h1)),AM (AI (JQ h2)),wr ((i:Int)+1)] Ac () trivial (by rw [hd,Gz,iP h0,iP h1,iN h2])
   ·exact lN A9 [dt ((i:Int)<(↑(ByteArray.size s):Int)) (by (apply Lw <;> first | assumption | omega | decide)),am ((0:Int)<=(i:Int)/\(i:Int)<(↑(ByteArray.size s):Int)) (by simp_all [Dc]),DM s i,cl (@HC ((↑(UInt8.toNat (List.getD (Array.toList (ByteArray.data s)) i default)):Int))),rp 3 (AV (B0 h0)),am ((0:Int)<=(i:Int)/\(i:Int)<(↑(ByteArray.size s):Int)) (by simp_all [Dc]),DM s i,AV (B0 h0),cl (@Nh ((↑(UInt8.toNat (List.getD (Array.toList (ByteArray.data s)) i default)):Int))),rp 2 (AV (B0 h0)),rp 6 (AM (AI (JQ h1))),bf false,wr ((i:Int)+1)] Ac () trivial (by rw [hd,Gz,iP h0,iN h1])
  ·exact lN A9 [dt ((i:Int)<(↑(ByteArray.size s):Int)) (by (apply Lw <;> first | assumption | omega | decide)),am ((0:Int)<=(i:Int)/\(i:Int)<(↑(ByteArray.size s):Int)) (by simp_all [Dc]),DM s i,cl (@HC ((↑(UInt8.toNat (List.getD (Array.toList (ByteArray.data s)) i default)):Int))),rp 6 (AM (AI (JQ h0))),rp 7 (bf false),wr ((i:Int)+1)] Ac () trivial (by rw [hd,Gz,iN h0])
 ·have he:i=List.length ((s.data.toList)):=by omega
  exact lX A9 [df ((i:Int)<(↑(ByteArray.size s):Int)) (by (apply jX <;> first | assumption | omega | decide))] (MD.e1) (by rw [he,List.drop_length,Gz])
theorem bzA{s:BA}{i:Nat}(hi:i<List.length (s.data.toList)):(0:Int)<=(i:Int)/\(i:Int)<(s.size:Int):=by
 have:=Lw hi; omega
abbrev jZ(s:BA)(a b:Bool)(i:Nat)(xe:Ext):S:=⟨[(0,.v (.str s)),(2,.v (.bool false)),(3,.v (.bool a)),(4,.v (.bool b)),(18,.v (.int .i64 s.size)),(19,.v (.int .i64 i)),(5,.v (.int .i64 i))],[],xe⟩
section
variable (s:BA) (a b:Bool) (i:Nat) (hi:i<List.length (s.data.toList)) (xe:Ext)
include s a b i hi xe
theorem Ag9(A7:a=true)(Aa:Ed (↑(UInt8.toNat (List.getD (Array.toList (ByteArray.data s)) i default)):Int)=true)(cx:Cx)(Aw:cx.n=65){Q:A4->S->Prop}(hq:Q (.normal) (S.mk [(0,vS s),(2,.v (.bool false)),(3,.v (.bool true)),(4,.v (.bool b)),(18,A6 (↑(ByteArray.size s):Int)),(19,A6 (i:Int)),(5,A6 (i:Int))] [] xe)):PW prog cx (AS f141 8) (jZ s a b i xe) Q:=
 pw A9 65 [rp 3 (AV A7),am ((0:Int)<=(i:Int)/\(i:Int)<(↑(ByteArray.size s):Int)) (by simp_all [Dc]),DM s i,AV A7,cl (@HC ((↑(UInt8.toNat (List.getD (Array.toList (ByteArray.data s)) i default)):Int))),AV A7,rp 4 (AV Aa),AV A7,AV Aa,AV A7,rp 4 (bt true),AV A7,bt true,AV A7] [0,2,3,4,18,19,5] [] Aw hq
theorem Aga(A7:a=true)(Aa:Ed (↑(UInt8.toNat (List.getD (Array.toList (ByteArray.data s)) i default)):Int)=false)(Am:GN (↑(UInt8.toNat (List.getD (Array.toList (ByteArray.data s)) i default)):Int)=true)(cx:Cx)(Aw:cx.n=65){Q:A4->S->Prop}(hq:Q (.normal) (S.mk [(0,vS s),(2,.v (.bool false)),(3,.v (.bool true)),(4,.v (.bool b)),(18,A6 (↑(ByteArray.size s):Int)),(19,A6 (i:Int)),(5,A6 (i:Int))] [] xe)):PW prog cx (AS f141 8) (jZ s a b i xe) Q:=
 pw A9 65 [rp 3 (AV A7),am ((0:Int)<=(i:Int)/\(i:Int)<(↑(ByteArray.size s):Int)) (by simp_all [Dc]),DM s i,AV A7,cl (@HC ((↑(UInt8.toNat (List.getD (Array.toList (ByteArray.data s)) i default)):Int))),AV A7,rp 3 (AM Aa),am ((0:Int)<=(i:Int)/\(i:Int)<(↑(ByteArray.size s):Int)) (by simp_all [Dc]),DM s i,AM Aa,cl (@Nh ((↑(UInt8.toNat (List.getD (Array.toList (ByteArray.data s)) i default)):Int))),AV A7,AM Aa,AV A7,rp 4 (AV Am),AV A7,AV Am,AV A7] [0,2,3,4,18,19,5] [] Aw hq
theorem Agb(A7:a=true)(Aa:Ed (↑(UInt8.toNat (List.getD (Array.toList (ByteArray.data s)) i default)):Int)=false)(Am:GN (↑(UInt8.toNat (List.getD (Array.toList (ByteArray.data s)) i default)):Int)=false)(cx:Cx)(Aw:cx.n=65){Q:A4->S->Prop}(hq:Q (.normal) (S.mk [(0,vS s),(2,.v (.bool false)),(3,.v (.bool (J9 (↑(UInt8.toNat (List.getD (Array.toList (ByteArray.data s)) i default)):Int)))),(4,.v (.bool b)),(18,A6 (↑(ByteArray.size s):Int)),(19,A6 (i:Int)),(5,A6 (i:Int))] [] xe)):PW prog cx (AS f141 8) (jZ s a b i xe) Q:=
 pw A9 65 [rp 3 (AV A7),am ((0:Int)<=(i:Int)/\(i:Int)<(↑(ByteArray.size s):Int)) (by simp_all [Dc]),DM s i,AV A7,cl (@HC ((↑(UInt8.toNat (List.getD (Array.toList (ByteArray.data s)) i default)):Int))),AV A7,rp 3 (AM Aa),am ((0:Int)<=(i:Int)/\(i:Int)<(↑(ByteArray.size s):Int)) (by simp_all [Dc]),DM s i,AM Aa,cl (@Nh ((↑(UInt8.toNat (List.getD (Array.toList (ByteArray.data s)) i default)):Int))),AV A7,AM Aa,AV A7,rp 3 (AM Am),am ((0:Int)<=(i:Int)/\(i:Int)<(↑(ByteArray.size s):Int)) (by simp_all [Dc]),DM s i,AM Am,cl (@SV ((↑(UInt8.toNat (List.getD (Array.toList (ByteArray.data s)) i default)):Int))),AV A7,AM Am,AV A7] [0,2,3,4,18,19,5] [] Aw hq
theorem Agc(A7:a=false)(cx:Cx)(Aw:cx.n=65){Q:A4->S->Prop}(hq:Q (.normal) (S.mk [(0,vS s),(2,.v (.bool false)),(3,.v (.bool false)),(4,.v (.bool b)),(18,A6 (↑(ByteArray.size s):Int)),(19,A6 (i:Int)),(5,A6 (i:Int))] [] xe)):PW prog cx (AS f141 8) (jZ s a b i xe) Q:=
 pw A9 65 [rp 9 (AM A7)] [0,2,3,4,18,19,5] [] Aw hq
end
def G1(s:BA)(a b:Bool)(i:Nat):Bool:=(if a=true then (if Ed (↑(UInt8.toNat (List.getD (Array.toList (ByteArray.data s)) i default)):Int)=true then (true) else (if GN (↑(UInt8.toNat (List.getD (Array.toList (ByteArray.data s)) i default)):Int)=true then (true) else ((J9 (↑(UInt8.toNat (List.getD (Array.toList (ByteArray.data s)) i default)):Int))))) else (false))
theorem p8J(s:BA)(a b:Bool)(i:Nat)(hi:i<List.length (s.data.toList))(xe:Ext):(Ob.ES 65 (AS f141 8) (jZ s a b i xe) (.normal) (S.mk [(0,vS s),(2,.v (.bool false)),(3,.v (.bool (G1 s a b i))),(4,.v (.bool b)),(18,A6 (↑(ByteArray.size s):Int)),(19,A6 (i:Int)),(5,A6 (i:Int))] [] xe)).ok prog:=by
 intro cx Aw
 by_cases g0:a=true
 ·by_cases g1:Ed (↑(UInt8.toNat (List.getD (Array.toList (ByteArray.data s)) i default)):Int)=true
  ·exact Ag9 s a b i hi xe g0 g1 cx Aw ⟨rfl,by rw [show G1 s a b i=(true) by unfold G1; rw [iP g0,iP g1]]⟩
  ·by_cases g2:GN (↑(UInt8.toNat (List.getD (Array.toList (ByteArray.data s)) i default)):Int)=true
   ·exact Aga s a b i hi xe g0 (Bool.eq_false_iff.2 g1) g2 cx Aw ⟨rfl,by rw [show G1 s a b i=(true) by unfold G1; rw [iP g0,iN g1,iP g2]]⟩
   ·exact Agb s a b i hi xe g0 (Bool.eq_false_iff.2 g1) (Bool.eq_false_iff.2 g2) cx Aw ⟨rfl,by rw [show G1 s a b i=((J9 (↑(UInt8.toNat (List.getD (Array.toList (ByteArray.data s)) i default)):Int))) by unfold G1; rw [iP g0,iN g1,iN g2]]⟩
 ·exact Agc s a b i hi xe (Bool.eq_false_iff.2 g0) cx Aw ⟨rfl,by rw [show G1 s a b i=(false) by unfold G1; rw [iN g0]]⟩
section
variable (s:BA) (a b:Bool) (i:Nat) (hi:i<List.length (s.data.toList)) (xe:Ext)
include s a b i hi xe
theorem Agd(A7:b=true)(Aa:Ed (↑(UInt8.toNat (List.getD (Array.toList (ByteArray.data s)) i default)):Int)=true)(cx:Cx)(Aw:cx.n=65){Q:A4->S->Prop}(hq:Q (.normal) (S.mk [(0,vS s),(2,.v (.bool false)),(3,.v (.bool a)),(4,.v (.bool true)),(18,A6 (↑(ByteArray.size s):Int)),(19,A6 (i:Int)),(5,A6 (i:Int))] [] xe)):PW prog cx (AS f141 9) (jZ s a b i xe) Q:=
 pw A9 65 [rp 3 (AV A7),am ((0:Int)<=(i:Int)/\(i:Int)<(↑(ByteArray.size s):Int)) (by simp_all [Dc]),DM s i,AV A7,cl (@HC ((↑(UInt8.toNat (List.getD (Array.toList (ByteArray.data s)) i default)):Int))),AV A7,rp 4 (AV Aa),AV A7,AV Aa,AV A7,rp 4 (bt true),AV A7,bt true,AV A7] [0,2,3,4,18,19,5] [] Aw hq
theorem Age(A7:b=true)(Aa:Ed (↑(UInt8.toNat (List.getD (Array.toList (ByteArray.data s)) i default)):Int)=false)(Am:J9 (↑(UInt8.toNat (List.getD (Array.toList (ByteArray.data s)) i default)):Int)=true)(cx:Cx)(Aw:cx.n=65){Q:A4->S->Prop}(hq:Q (.normal) (S.mk [(0,vS s),(2,.v (.bool false)),(3,.v (.bool a)),(4,.v (.bool true)),(18,A6 (↑(ByteArray.size s):Int)),(19,A6 (i:Int)),(5,A6 (i:Int))] [] xe)):PW prog cx (AS f141 9) (jZ s a b i xe) Q:=
 pw A9 65 [rp 3 (AV A7),am ((0:Int)<=(i:Int)/\(i:Int)<(↑(ByteArray.size s):Int)) (by simp_all [Dc]),DM s i,AV A7,cl (@HC ((↑(UInt8.toNat (List.getD (Array.toList (ByteArray.data s)) i default)):Int))),AV A7,rp 3 (AM Aa),am ((0:Int)<=(i:Int)/\(i:Int)<(↑(ByteArray.size s):Int)) (by simp_all [Dc]),DM s i,AM Aa,cl (@SV ((↑(UInt8.toNat (List.getD (Array.toList (ByteArray.data s)) i default)):Int))),AV A7,AM Aa,AV A7,rp 4 (AV Am),AV A7,AV Am,AV A7] [0,2,3,4,18,19,5] [] Aw hq
theorem Agf(A7:b=true)(Aa:Ed (↑(UInt8.toNat (List.getD (Array.toList (ByteArray.data s)) i default)):Int)=false)(Am:J9 (↑(UInt8.toNat (List.getD (Array.toList (ByteArray.data s)) i default)):Int)=false)(cx:Cx)(Aw:cx.n=65){Q:A4->S->Prop}(hq:Q (.normal) (S.mk [(0,vS s),(2,.v (.bool false)),(3,.v (.bool a)),(4,.v (.bool ((↑(UInt8.toNat (List.getD (Array.toList (ByteArray.data s)) i default)):Int)==95))),(18,A6 (↑(ByteArray.size s):Int)),(19,A6 (i:Int)),(5,A6 (i:Int))] [] xe)):PW prog cx (AS f141 9) (jZ s a b i xe) Q:=
 pw A9 65 [rp 3 (AV A7),am ((0:Int)<=(i:Int)/\(i:Int)<(↑(ByteArray.size s):Int)) (by simp_all [Dc]),DM s i,AV A7,cl (@HC ((↑(UInt8.toNat (List.getD (Array.toList (ByteArray.data s)) i default)):Int))),AV A7,rp 3 (AM Aa),am ((0:Int)<=(i:Int)/\(i:Int)<(↑(ByteArray.size s):Int)) (by simp_all [Dc]),DM s i,AM Aa,cl (@SV ((↑(UInt8.toNat (List.getD (Array.toList (ByteArray.data s)) i default)):Int))),AV A7,AM Aa,AV A7,rp 3 (AM Am),am ((0:Int)<=(i:Int)/\(i:Int)<(↑(ByteArray.size s):Int)) (by simp_all [Dc]),DM s i,AM Am,AV A7,AM Am,AV A7] [0,2,3,4,18,19,5] [] Aw hq
theorem Agg(A7:b=false)(cx:Cx)(Aw:cx.n=65){Q:A4->S->Prop}(hq:Q (.normal) (S.mk [(0,vS s),(2,.v (.bool false)),(3,.v (.bool a)),(4,.v (.bool false)),(18,A6 (↑(ByteArray.size s):Int)),(19,A6 (i:Int)),(5,A6 (i:Int))] [] xe)):PW prog cx (AS f141 9) (jZ s a b i xe) Q:=
 pw A9 65 [rp 9 (AM A7)] [0,2,3,4,18,19,5] [] Aw hq
end
def HI(s:BA)(a b:Bool)(i:Nat):Bool:=(if b=true then (if Ed (↑(UInt8.toNat (List.getD (Array.toList (ByteArray.data s)) i default)):Int)=true then (true) else (if J9 (↑(UInt8.toNat (List.getD (Array.toList (ByteArray.data s)) i default)):Int)=true then (true) else (((↑(UInt8.toNat (List.getD (Array.toList (ByteArray.data s)) i default)):Int)==95)))) else (false))
theorem p9J(s:BA)(a b:Bool)(i:Nat)(hi:i<List.length (s.data.toList))(xe:Ext):(Ob.ES 65 (AS f141 9) (jZ s a b i xe) (.normal) (S.mk [(0,vS s),(2,.v (.bool false)),(3,.v (.bool a)),(4,.v (.bool (HI s a b i))),(18,A6 (↑(ByteArray.size s):Int)),(19,A6 (i:Int)),(5,A6 (i:Int))] [] xe)).ok prog:=by
 intro cx Aw
 by_cases g0:b=true
 ·by_cases g1:Ed (↑(UInt8.toNat (List.getD (Array.toList (ByteArray.data s)) i default)):Int)=true
  ·exact Agd s a b i hi xe g0 g1 cx Aw ⟨rfl,by rw [show HI s a b i=(true) by unfold HI; rw [iP g0,iP g1]]⟩
  ·by_cases g2:J9 (↑(UInt8.toNat (List.getD (Array.toList (ByteArray.data s)) i default)):Int)=true
   ·exact Age s a b i hi xe g0 (Bool.eq_false_iff.2 g1) g2 cx Aw ⟨rfl,by rw [show HI s a b i=(true) by unfold HI; rw [iP g0,iN g1,iP g2]]⟩
   ·exact Agf s a b i hi xe g0 (Bool.eq_false_iff.2 g1) (Bool.eq_false_iff.2 g2) cx Aw ⟨rfl,by rw [show HI s a b i=(((↑(UInt8.toNat (List.getD (Array.toList (ByteArray.data s)) i default)):Int)==95)) by unfold HI; rw [iP g0,iN g1,iN g2]]⟩
 ·exact Agg s a b i hi xe (Bool.eq_false_iff.2 g0) cx Aw ⟨rfl,by rw [show HI s a b i=(false) by unfold HI; rw [iN g0]]⟩
end Go.Proofs.YthchpmnkecoafaaGreatDoor
