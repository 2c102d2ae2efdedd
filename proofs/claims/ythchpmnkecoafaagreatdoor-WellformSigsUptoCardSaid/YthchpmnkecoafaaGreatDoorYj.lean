/- Values of Go as plain data, an evaluator over them, and what the functions of the program return; part Yj. -/
import Derived.Test.YthchpmnkecoafaaGreatDoorYc
import Derived.Test.YthchpmnkecoafaaGreatDoorYi
import Derived.Test.YthchpmnkecoafaaGreatDoorYa
set_option linter.unusedSectionVars false
set_option linter.unusedSimpArgs false
set_option linter.unusedVariables false
namespace Go.Proofs.YthchpmnkecoafaaGreatDoor
open Go.Proofs.Tryz
open Go.Pv Go.Proofs.Tryz
set_option maxRecDepth 100000
theorem Ahh{m:Mo}{o:Nat}(hA:∀ (d:Da) (c:Cn) (k:Int),d∈AL m->c∈Gm d->Pu 23 [.sl 9 (Tp.cs (Nf c)),.int .i64 k] (.ret (.int .i64 (FN (Nf c) k))))(h:o<(AL m).length):∀ (c:Cn) (k:Int),c∈Gm ((AL m).getD o default)->Pu 23 [.sl 9 (Tp.cs (Nf c)),.int .i64 k] (.ret (.int .i64 (FN (Nf c) k))):=fun c k hc=>hA _ c k (Bm h) hc
theorem Ahi{m:Mo}{o:Nat}(hB:∀ (c:Cl) (p:Pm) (k:Int),c∈CB m->p∈Hz c->Pu 23 [.sl 9 [AO (H9 p)],.int .i64 k] (.ret (.int .i64 (FN [H9 p] k))))(h:o<(CB m).length):∀ (p:Pm) (k:Int),p∈Hz ((CB m).getD o default)->Pu 23 [.sl 9 [AO (H9 p)],.int .i64 k] (.ret (.int .i64 (FN [H9 p] k))):=fun c k hc=>hB _ c k (Bm h) hc
theorem Ahj{m:Mo}{o:Nat}(hG:∀ (x:Ms) (c:Cs) (k:Int),x∈B3 m->c∈HA x->Pu 24 [.sl 4 [AN (P3 c)],.int .i64 k] (.ret (.int .i64 (Ip [P3 c] k))))(h:o<(B3 m).length):∀ (c:Cs) (k:Int),c∈HA ((B3 m).getD o default)->Pu 24 [.sl 4 [AN (P3 c)],.int .i64 k] (.ret (.int .i64 (Ip [P3 c] k))):=fun c k hc=>hG _ c k (Bm h) hc
def Pq(l:List Df)(mx:Int):Int:=Lc mx l 0
theorem Ad3{m:Mo}{i:Nat}(l1:∀c∈AL m,(Gm c).length<=1048576)(h:i<(AL m).length):(Gm ((AL m).getD i default)).length<=1000000000:=by
 have:=l1 _ (Bm h); omega
theorem Ad4{m:Mo}{i:Nat}(l2:∀c∈CB m,(Hz c).length<=1048576)(h:i<(CB m).length):(Hz ((CB m).getD i default)).length<=1000000000:=by
 have:=l2 _ (Bm h); omega
theorem Ad5{m:Mo}{i:Nat}(l3:∀c∈B3 m,(HA c).length<=1048576)(h:i<(B3 m).length):(HA ((B3 m).getD i default)).length<=1000000000:=by
 have:=l3 _ (Bm h); omega
theorem g1{l:List Da}{i:Nat}(h:i<l.length):l.getD i default∈l:=Bm h
theorem g2{l:List Cn}{i:Nat}(h:i<l.length):l.getD i default∈l:=Bm h
theorem g3{l:List Cl}{i:Nat}(h:i<l.length):l.getD i default∈l:=Bm h
theorem g4{l:List In}{i:Nat}(h:i<l.length):l.getD i default∈l:=Bm h
theorem g5{l:List Ms}{i:Nat}(h:i<l.length):l.getD i default∈l:=Bm h
theorem g6{l:List Cs}{i:Nat}(h:i<l.length):l.getD i default∈l:=Bm h
abbrev uH(m:Mo)(o:Nat)(n0:Int)(xe:Ext)(j:Int)(n:Int)  : S:=S.mk [(1,.lp 1 0),(2,.v (.bool false)),(3,A6 n),(4,A6 (o:Int)),(5,A6 j)] [(1,Er m)] xe
def Lo  : List Cn->(Int)->(Int)
 | [],n=>(n)
 | el::r,n=>(if n<=4000 then Lo  r (IntKind.wrap .i64 (IntKind.wrap .i64 (IntKind.wrap .i64 (n+1)+((X4 el).length:Int))+FN (Nf el) 4000)) else (n))
def gI(m:Mo)(o:Nat)(n0:Int)(xe:Ext)(p:(Int)):A4 × S:=(.exit 2,S.mk [(1,.lp 1 0),(2,.v (.bool false)),(3,A6 p),(4,A6 (o:Int))] [(1,Er m)] xe)
theorem sl1(m:Mo)(o:Nat)(ho:o<(AL m).length)(n0:Int)(xe:Ext)(hAo:∀ (c:Cn) (k:Int),c∈Gm ((AL m).getD o default)->Pu 23 [.sl 9 (Tp.cs (Nf c)),.int .i64 k] (.ret (.int .i64 (FN (Nf c) k))))(l1:∀c∈AL m,(Gm c).length<=1048576)(n:Int)(hN:List.length ((Gm ((AL m).getD o default)))<=1000000000)  : (Ob.loop 303 (Au f8 1) (uH m o n0 xe 0 n) (gI m o n0 xe  (Lo  ((Gm ((AL m).getD o default)))  n)).1 (gI m o n0 xe  (Lo  ((Gm ((AL m).getD o default)))  n)).2).ok prog:=by
 refine CL (List.length ((Gm ((AL m).getD o default)))) (fun j n=>uH m o n0 xe j n) (fun i n=>Lo  (List.drop i ((Gm ((AL m).getD o default))))  n) (gI m o n0 xe) (fun i n=>True) kR ?_ n trivial
 rintro i n hi -
 rcases Nat.lt_or_ge i (List.length ((Gm ((AL m).getD o default)))) with Ac | Cm
 ·have hd:=At Ac
  by_cases h0:n<=4000
  ·exact lN A9 [M0 (AL m) (o:Int),X5 (AL m) o ho,sl (Cn.A0 (Gm (List.getD (AL m) o default))),rp 3 (dt ((i:Int)<((Gm (List.getD (AL m) o default)).length:Int))),BL h0,kp,M0 (AL m) (o:Int),X5 (AL m) o ho,A7l (Gm (List.getD (AL m) o default)) (i:Int),xCn (Gm (List.getD (AL m) o default)) i Ac,sl (A5 (X4 (List.getD (Gm (List.getD (AL m) o default)) i default))),kp,M0 (AL m) (o:Int),X5 (AL m) o ho,A7l (Gm (List.getD (AL m) o default)) (i:Int),xCn (Gm (List.getD (AL m) o default)) i Ac,cl (@hAo (List.getD (Gm (List.getD (AL m) o default)) i default) (4000) (by simp_all)),kp,wr ((i:Int)+1)] Ac (IntKind.wrap .i64 (IntKind.wrap .i64 (IntKind.wrap .i64 (n+1)+((X4 (List.getD (Gm (List.getD (AL m) o default)) i default)).length:Int))+FN (Nf (List.getD (Gm (List.getD (AL m) o default)) i default)) 4000)) trivial (by rw [hd,Lo,iP h0])
  ·exact lX A9 [M0 (AL m) (o:Int),X5 (AL m) o ho,sl (Cn.A0 (Gm (List.getD (AL m) o default))),rp 3 (dt ((i:Int)<((Gm (List.getD (AL m) o default)).length:Int))),Ar h0] (n) (by rw [hd,Lo,iN h0])
 ·have he:i=List.length ((Gm ((AL m).getD o default))):=by omega
  exact lX A9 [M0 (AL m) (o:Int),X5 (AL m) o ho,sl (Cn.A0 (Gm (List.getD (AL m) o default))),rp 3 (df ((i:Int)<((Gm (List.getD (AL m) o default)).length:Int))),bf false] (n) (by rw [he,List.drop_length,Lo])
abbrev uI(m:Mo)(j:Int)(n:Int)(e:Ext):S:=S.mk [(1,.lp 1 0),(2,.v (.bool false)),(3,A6 n),(4,A6 j)] [(1,Er m)] e
def IC  : List Da->(Int)->(Int)
 | [],n=>(n)
 | el::r,n=>(if n<=4000 then IC  r (Lo (Gm el) (IntKind.wrap .i64 (IntKind.wrap .i64 (IntKind.wrap .i64 (IntKind.wrap .i64 (n+1)+IntKind.wrap .i64 (Int.tdiv (↑(ByteArray.size (Bc el)):Int) 100))+((Ii el).length:Int))+((F6 el).length:Int)))) else (n))
def gJ(m:Mo)(e:Ext)(p:(Int)):A4 × S:=(.exit 0,S.mk [(1,.lp 1 0),(2,.v (.bool false)),(3,A6 p)] [(1,Er m)] e)
theorem sl0(m:Mo)(s1:¬((AL m).length:Int)>80)(s2:¬((CB m).length:Int)>80)(s3:¬((DD m).length:Int)>80)(s4:¬((B3 m).length:Int)>80)(s5:¬((Ep m).length:Int)>80)(s6:¬((AW m).length:Int)>80)(hA:∀ (d:Da) (c:Cn) (k:Int),d∈AL m->c∈Gm d->Pu 23 [.sl 9 (Tp.cs (Nf c)),.int .i64 k] (.ret (.int .i64 (FN (Nf c) k))))(l1:∀c∈AL m,(Gm c).length<=1048576)(hI:∀ (k:Int),Pu 22 [.sl 25 (Df.cs (AW m)),.int .i64 k] (.ret (.int .i64 (Pq (AW m) k))))(n:Int)(e:Ext)(hN:(AL m).length<=1000000000)  : (Ob.loop 303 (Au f8 0) (uI m 0 n e) (gJ m e (IC  ((AL m))  n)).1 (gJ m e (IC  ((AL m))  n)).2).ok prog:=by
 refine CL ((AL m).length) (fun j n=>uI m j n e) (fun i n=>IC  (List.drop i ((AL m)))  n) (gJ m e) (fun i n=>True) kR ?_ n trivial
 rintro i n hi -
 rcases Nat.lt_or_ge i ((AL m).length) with Ac | Cm
 ·have hd:=At Ac
  by_cases h0:n<=4000
  ·exact lN A9 [sl (Da.A0 (AL m)),rp 3 (dt ((i:Int)<((AL m).length:Int))),BL h0,kp,M0 (AL m) (i:Int),X5 (AL m) i Ac,rp 3 (kp),ab true,M0 (AL m) (i:Int),X5 (AL m) i Ac,sl (A5 (Ii (List.getD (AL m) i default))),kp,M0 (AL m) (i:Int),X5 (AL m) i Ac,sl (Vr.A0 (F6 (List.getD (AL m) i default))),kp,lq (@sl1 (m) (i) Ac default (e) (by (apply Ahh <;> first | assumption | omega | decide)) l1 (IntKind.wrap .i64 (IntKind.wrap .i64 (IntKind.wrap .i64 (IntKind.wrap .i64 (n+1)+IntKind.wrap .i64 (Int.tdiv (↑(ByteArray.size (Bc (List.getD (AL m) i default))):Int) 100))+((Ii (List.getD (AL m) i default)).length:Int))+((F6 (List.getD (AL m) i default)).length:Int))) (by (apply Ad3 <;> first | assumption | omega | decide))),wr ((i:Int)+1)] Ac (Lo (Gm (List.getD (AL m) i default)) (IntKind.wrap .i64 (IntKind.wrap .i64 (IntKind.wrap .i64 (IntKind.wrap .i64 (n+1)+IntKind.wrap .i64 (Int.tdiv (↑(ByteArray.size (Bc (List.getD (AL m) i default))):Int) 100))+((Ii (List.getD (AL m) i default)).length:Int))+((F6 (List.getD (AL m) i default)).length:Int)))) trivial (by rw [hd,IC,iP h0])
  ·exact lX A9 [sl (Da.A0 (AL m)),rp 3 (dt ((i:Int)<((AL m).length:Int))),Ar h0] (n) (by rw [hd,IC,iN h0])
 ·have he:i=(AL m).length:=by omega
  exact lX A9 [sl (Da.A0 (AL m)),rp 3 (df ((i:Int)<((AL m).length:Int))),bf false] (n) (by rw [he,List.drop_length,IC])
abbrev uJ(m:Mo)(o:Nat)(n0:Int)(xe:Ext)(j:Int)(n:Int)  : S:=S.mk [(1,.lp 1 0),(2,.v (.bool false)),(3,A6 n),(6,A6 (o:Int)),(7,A6 j)] [(1,Er m)] xe
def Lp  : List Pm->(Int)->(Int)
 | [],n=>(n)
 | el::r,n=>(if n<=4000 then Lp  r (IntKind.wrap .i64 (IntKind.wrap .i64 (n+1)+FN [H9 el] 4000)) else (n))
def gK(m:Mo)(o:Nat)(n0:Int)(xe:Ext)(p:(Int)):A4 × S:=(.exit 6,S.mk [(1,.lp 1 0),(2,.v (.bool false)),(3,A6 p),(6,A6 (o:Int))] [(1,Er m)] xe)
theorem sl3(m:Mo)(o:Nat)(ho:o<(CB m).length)(n0:Int)(xe:Ext)(hBo:∀ (p:Pm) (k:Int),p∈Hz ((CB m).getD o default)->Pu 23 [.sl 9 [AO (H9 p)],.int .i64 k] (.ret (.int .i64 (FN [H9 p] k))))(l2:∀c∈CB m,(Hz c).length<=1048576)(n:Int)(hN:List.length ((Hz ((CB m).getD o default)))<=1000000000)  : (Ob.loop 303 (Au f8 3) (uJ m o n0 xe 0 n) (gK m o n0 xe  (Lp  ((Hz ((CB m).getD o default)))  n)).1 (gK m o n0 xe  (Lp  ((Hz ((CB m).getD o default)))  n)).2).ok prog:=by
 refine CL (List.length ((Hz ((CB m).getD o default)))) (fun j n=>uJ m o n0 xe j n) (fun i n=>Lp  (List.drop i ((Hz ((CB m).getD o default))))  n) (gK m o n0 xe) (fun i n=>True) kR ?_ n trivial
 rintro i n hi -
 rcases Nat.lt_or_ge i (List.length ((Hz ((CB m).getD o default)))) with Ac | Cm
 ·have hd:=At Ac
  by_cases h0:n<=4000
  ·exact lN A9 [mD (CB m) (o:Int),xCl (CB m) o ho,sl (Pm.A0 (Hz (List.getD (CB m) o default))),rp 3 (dt ((i:Int)<((Hz (List.getD (CB m) o default)).length:Int))),BL h0,kp,mD (CB m) (o:Int),xCl (CB m) o ho,zD (Hz (List.getD (CB m) o default)) (i:Int),xPm (Hz (List.getD (CB m) o default)) i Ac,cl (@hBo (List.getD (Hz (List.getD (CB m) o default)) i default) (4000) (by simp_all)),kp,wr ((i:Int)+1)] Ac (IntKind.wrap .i64 (IntKind.wrap .i64 (n+1)+FN [H9 (List.getD (Hz (List.getD (CB m) o default)) i default)] 4000)) trivial (by rw [hd,Lp,iP h0])
  ·exact lX A9 [mD (CB m) (o:Int),xCl (CB m) o ho,sl (Pm.A0 (Hz (List.getD (CB m) o default))),rp 3 (dt ((i:Int)<((Hz (List.getD (CB m) o default)).length:Int))),Ar h0] (n) (by rw [hd,Lp,iN h0])
 ·have he:i=List.length ((Hz ((CB m).getD o default))):=by omega
  exact lX A9 [mD (CB m) (o:Int),xCl (CB m) o ho,sl (Pm.A0 (Hz (List.getD (CB m) o default))),rp 3 (df ((i:Int)<((Hz (List.getD (CB m) o default)).length:Int))),bf false] (n) (by rw [he,List.drop_length,Lp])
abbrev uK(m:Mo)(j:Int)(n:Int)(e:Ext):S:=S.mk [(1,.lp 1 0),(2,.v (.bool false)),(3,A6 n),(6,A6 j)] [(1,Er m)] e
def Jp  : List Cl->(Int)->(Int)
 | [],n=>(n)
 | el::r,n=>(if n<=4000 then Jp  r (Lp (Hz el) n) else (n))
def gL(m:Mo)(e:Ext)(p:(Int)):A4 × S:=(.exit 4,S.mk [(1,.lp 1 0),(2,.v (.bool false)),(3,A6 p)] [(1,Er m)] e)
theorem sl2(m:Mo)(s1:¬((AL m).length:Int)>80)(s2:¬((CB m).length:Int)>80)(s3:¬((DD m).length:Int)>80)(s4:¬((B3 m).length:Int)>80)(s5:¬((Ep m).length:Int)>80)(s6:¬((AW m).length:Int)>80)(hA:∀ (d:Da) (c:Cn) (k:Int),d∈AL m->c∈Gm d->Pu 23 [.sl 9 (Tp.cs (Nf c)),.int .i64 k] (.ret (.int .i64 (FN (Nf c) k))))(l1:∀c∈AL m,(Gm c).length<=1048576)(hI:∀ (k:Int),Pu 22 [.sl 25 (Df.cs (AW m)),.int .i64 k] (.ret (.int .i64 (Pq (AW m) k))))(hB:∀ (c:Cl) (p:Pm) (k:Int),c∈CB m->p∈Hz c->Pu 23 [.sl 9 [AO (H9 p)],.int .i64 k] (.ret (.int .i64 (FN [H9 p] k))))(l2:∀c∈CB m,(Hz c).length<=1048576)(n:Int)(e:Ext)(hN:(CB m).length<=1000000000)  : (Ob.loop 303 (Au f8 2) (uK m 0 n e) (gL m e (Jp  ((CB m))  n)).1 (gL m e (Jp  ((CB m))  n)).2).ok prog:=by
 refine CL ((CB m).length) (fun j n=>uK m j n e) (fun i n=>Jp  (List.drop i ((CB m)))  n) (gL m e) (fun i n=>True) kR ?_ n trivial
 rintro i n hi -
 rcases Nat.lt_or_ge i ((CB m).length) with Ac | Cm
 ·have hd:=At Ac
  by_cases h0:n<=4000
  ·exact lN A9 [sl (Cl.A0 (CB m)),rp 3 (dt ((i:Int)<((CB m).length:Int))),BL h0,lq (@sl3 (m) (i) Ac default (e) (by (apply Ahi <;> first | assumption | omega | decide)) l2 (n) (by (apply Ad4 <;> first | assumption | omega | decide))),wr ((i:Int)+1)] Ac (Lp (Hz (List.getD (CB m) i default)) n) trivial (by rw [hd,Jp,iP h0])
  ·exact lX A9 [sl (Cl.A0 (CB m)),rp 3 (dt ((i:Int)<((CB m).length:Int))),Ar h0] (n) (by rw [hd,Jp,iN h0])
 ·have he:i=(CB m).length:=by omega
  exact lX A9 [sl (Cl.A0 (CB m)),rp 3 (df ((i:Int)<((CB m).length:Int))),bf false] (n) (by rw [he,List.drop_length,Jp])
abbrev uL(m:Mo)(j:Int)(n:Int)(e:Ext):S:=S.mk [(1,.lp 1 0),(2,.v (.bool false)),(3,A6 n),(8,A6 j)] [(1,Er m)] e
def K5  : List In->(Int)->(Int)
 | [],n=>(n)
 | el::r,n=>(if n<=4000 then K5  r (IntKind.wrap .i64 (IntKind.wrap .i64 (IntKind.wrap .i64 (IntKind.wrap .i64 (n+1)+((Zu el).length:Int))+FN [Ot el] 4000)+Pq (Ul el) 4000)) else (n))
def gM(m:Mo)(e:Ext)(p:(Int)):A4 × S:=(.exit 8,S.mk [(1,.lp 1 0),(2,.v (.bool false)),(3,A6 p)] [(1,Er m)] e)
theorem sl4(m:Mo)(s1:¬((AL m).length:Int)>80)(s2:¬((CB m).length:Int)>80)(s3:¬((DD m).length:Int)>80)(s4:¬((B3 m).length:Int)>80)(s5:¬((Ep m).length:Int)>80)(s6:¬((AW m).length:Int)>80)(hA:∀ (d:Da) (c:Cn) (k:Int),d∈AL m->c∈Gm d->Pu 23 [.sl 9 (Tp.cs (Nf c)),.int .i64 k] (.ret (.int .i64 (FN (Nf c) k))))(l1:∀c∈AL m,(Gm c).length<=1048576)(hI:∀ (k:Int),Pu 22 [.sl 25 (Df.cs (AW m)),.int .i64 k] (.ret (.int .i64 (Pq (AW m) k))))(hB:∀ (c:Cl) (p:Pm) (k:Int),c∈CB m->p∈Hz c->Pu 23 [.sl 9 [AO (H9 p)],.int .i64 k] (.ret (.int .i64 (FN [H9 p] k))))(l2:∀c∈CB m,(Hz c).length<=1048576)(hC:∀ (x:In) (k:Int),x∈DD m->Pu 23 [.sl 9 [AO (Ot x)],.int .i64 k] (.ret (.int .i64 (FN [Ot x] k))))(hD:∀ (x:In) (k:Int),x∈DD m->Pu 22 [.sl 25 (Df.cs (Ul x)),.int .i64 k] (.ret (.int .i64 (Pq (Ul x) k))))(n:Int)(e:Ext)(hN:(DD m).length<=1000000000)  : (Ob.loop 303 (Au f8 4) (uL m 0 n e) (gM m e (K5  ((DD m))  n)).1 (gM m e (K5  ((DD m))  n)).2).ok prog:=by
 refine CL ((DD m).length) (fun j n=>uL m j n e) (fun i n=>K5  (List.drop i ((DD m)))  n) (gM m e) (fun i n=>True) kR ?_ n trivial
 rintro i n hi -
 rcases Nat.lt_or_ge i ((DD m).length) with Ac | Cm
 ·have hd:=At Ac
  by_cases h0:n<=4000
  ·exact lN A9 [sl (In.A0 (DD m)),rp 3 (dt ((i:Int)<((DD m).length:Int))),BL h0,kp,zE (DD m) (i:Int),xIn (DD m) i Ac,sl (Vr.A0 (Zu (List.getD (DD m) i default))),kp,zE (DD m) (i:Int),xIn (DD m) i Ac,cl (@hC (List.getD (DD m) i default) (4000) (by simp_all)),kp,zE (DD m) (i:Int),xIn (DD m) i Ac,cl (@hD (List.getD (DD m) i default) (4000) (by simp_all)),kp,wr ((i:Int)+1)] Ac (IntKind.wrap .i64 (IntKind.wrap .i64 (IntKind.wrap .i64 (IntKind.wrap .i64 (n+1)+((Zu (List.getD (DD m) i default)).length:Int))+FN [Ot (List.getD (DD m) i default)] 4000)+Pq (Ul (List.getD (DD m) i default)) 4000)) trivial (by rw [hd,K5,iP h0])
  ·exact lX A9 [sl (In.A0 (DD m)),rp 3 (dt ((i:Int)<((DD m).length:Int))),Ar h0] (n) (by rw [hd,K5,iN h0])
 ·have he:i=(DD m).length:=by omega
  exact lX A9 [sl (In.A0 (DD m)),rp 3 (df ((i:Int)<((DD m).length:Int))),bf false] (n) (by rw [he,List.drop_length,K5])
abbrev uM(m:Mo)(o:Nat)(n0:Int)(xe:Ext)(j:Int)(n:Int)  : S:=S.mk [(1,.lp 1 0),(2,.v (.bool false)),(3,A6 n),(9,A6 (o:Int)),(10,A6 j)] [(1,Er m)] xe
def Lq  : List Cs->(Int)->(Int)
 | [],n=>(n)
 | el::r,n=>(if n<=4000 then Lq  r (IntKind.wrap .i64 (IntKind.wrap .i64 (IntKind.wrap .i64 (n+1)+((Zv el).length:Int))+Ip [P3 el] 4000)) else (n))
def gN(m:Mo)(o:Nat)(n0:Int)(xe:Ext)(p:(Int)):A4 × S:=(.exit 12,S.mk [(1,.lp 1 0),(2,.v (.bool false)),(3,A6 p),(9,A6 (o:Int))] [(1,Er m)] xe)
theorem sl6(m:Mo)(o:Nat)(ho:o<(B3 m).length)(n0:Int)(xe:Ext)(hGo:∀ (c:Cs) (k:Int),c∈HA ((B3 m).getD o default)->Pu 24 [.sl 4 [AN (P3 c)],.int .i64 k] (.ret (.int .i64 (Ip [P3 c] k))))(l3:∀c∈B3 m,(HA c).length<=1048576)(n:Int)(hN:List.length ((HA ((B3 m).getD o default)))<=1000000000)  : (Ob.loop 303 (Au f8 6) (uM m o n0 xe 0 n) (gN m o n0 xe  (Lq  ((HA ((B3 m).getD o default)))  n)).1 (gN m o n0 xe  (Lq  ((HA ((B3 m).getD o default)))  n)).2).ok prog:=by
 refine CL (List.length ((HA ((B3 m).getD o default)))) (fun j n=>uM m o n0 xe j n) (fun i n=>Lq  (List.drop i ((HA ((B3 m).getD o default))))  n) (gN m o n0 xe) (fun i n=>True) kR ?_ n trivial
 rintro i n hi -
 rcases Nat.lt_or_ge i (List.length ((HA ((B3 m).getD o default)))) with Ac | Cm
 ·have hd:=At Ac
  by_cases h0:n<=4000
  ·exact lN A9 [Ng (B3 m) (o:Int),XD (B3 m) o ho,sl (Cs.A0 (HA (List.getD (B3 m) o default))),rp 3 (dt ((i:Int)<((HA (List.getD (B3 m) o default)).length:Int))),BL h0,kp,Ng (B3 m) (o:Int),XD (B3 m) o ho,A7m (HA (List.getD (B3 m) o default)) (i:Int),xCs (HA (List.getD (B3 m) o default)) i Ac,sl (A5 (Zv (List.getD (HA (List.getD (B3 m) o default)) i default))),kp,Ng (B3 m) (o:Int),XD (B3 m) o ho,A7m (HA (List.getD (B3 m) o default)) (i:Int),xCs (HA (List.getD (B3 m) o default)) i Ac,cl (@hGo (List.getD (HA (List.getD (B3 m) o default)) i default) (4000) (by simp_all)),kp,wr ((i:Int)+1)] Ac (IntKind.wrap .i64 (IntKind.wrap .i64 (IntKind.wrap .i64 (n+1)+((Zv (List.getD (HA (List.getD (B3 m) o default)) i default)).length:Int))+Ip [P3 (List.getD (HA (List.getD (B3 m) o default)) i default)] 4000)) trivial (by rw [hd,Lq,iP h0])
  ·exact lX A9 [Ng (B3 m) (o:Int),XD (B3 m) o ho,sl (Cs.A0 (HA (List.getD (B3 m) o default))),rp 3 (dt ((i:Int)<((HA (List.getD (B3 m) o default)).length:Int))),Ar h0] (n) (by rw [hd,Lq,iN h0])
 ·have he:i=List.length ((HA ((B3 m).getD o default))):=by omega
  exact lX A9 [Ng (B3 m) (o:Int),XD (B3 m) o ho,sl (Cs.A0 (HA (List.getD (B3 m) o default))),rp 3 (df ((i:Int)<((HA (List.getD (B3 m) o default)).length:Int))),bf false] (n) (by rw [he,List.drop_length,Lq])
abbrev uN(m:Mo)(j:Int)(n:Int)(e:Ext):S:=S.mk [(1,.lp 1 0),(2,.v (.bool false)),(3,A6 n),(9,A6 j)] [(1,Er m)] e
def Lr  : List Ms->(Int)->(Int)
 | [],n=>(n)
 | el::r,n=>(if n<=4000 then Lr  r (Lq (HA el) (IntKind.wrap .i64 (IntKind.wrap .i64 (n+1)+Ip [SL el] 4000))) else (n))
def gO(m:Mo)(e:Ext)(p:(Int)):A4 × S:=(.exit 10,S.mk [(1,.lp 1 0),(2,.v (.bool false)),(3,A6 p)] [(1,Er m)] e)
theorem sl5(m:Mo)(s1:¬((AL m).length:Int)>80)(s2:¬((CB m).length:Int)>80)(s3:¬((DD m).length:Int)>80)(s4:¬((B3 m).length:Int)>80)(s5:¬((Ep m).length:Int)>80)(s6:¬((AW m).length:Int)>80)(hA:∀ (d:Da) (c:Cn) (k:Int),d∈AL m->c∈Gm d->Pu 23 [.sl 9 (Tp.cs (Nf c)),.int .i64 k] (.ret (.int .i64 (FN (Nf c) k))))(l1:∀c∈AL m,(Gm c).length<=1048576)(hI:∀ (k:Int),Pu 22 [.sl 25 (Df.cs (AW m)),.int .i64 k] (.ret (.int .i64 (Pq (AW m) k))))(hB:∀ (c:Cl) (p:Pm) (k:Int),c∈CB m->p∈Hz c->Pu 23 [.sl 9 [AO (H9 p)],.int .i64 k] (.ret (.int .i64 (FN [H9 p] k))))(l2:∀c∈CB m,(Hz c).length<=1048576)(hC:∀ (x:In) (k:Int),x∈DD m->Pu 23 [.sl 9 [AO (Ot x)],.int .i64 k] (.ret (.int .i64 (FN [Ot x] k))))(hD:∀ (x:In) (k:Int),x∈DD m->Pu 22 [.sl 25 (Df.cs (Ul x)),.int .i64 k] (.ret (.int .i64 (Pq (Ul x) k))))(hE:∀ (x:Ms) (k:Int),x∈B3 m->Pu 24 [.sl 4 [AN (SL x)],.int .i64 k] (.ret (.int .i64 (Ip [SL x] k))))(hG:∀ (x:Ms) (c:Cs) (k:Int),x∈B3 m->c∈HA x->Pu 24 [.sl 4 [AN (P3 c)],.int .i64 k] (.ret (.int .i64 (Ip [P3 c] k))))(l3:∀c∈B3 m,(HA c).length<=1048576)(n:Int)(e:Ext)(hN:(B3 m).length<=1000000000)  : (Ob.loop 303 (Au f8 5) (uN m 0 n e) (gO m e (Lr  ((B3 m))  n)).1 (gO m e (Lr  ((B3 m))  n)).2).ok prog:=by
 refine CL ((B3 m).length) (fun j n=>uN m j n e) (fun i n=>Lr  (List.drop i ((B3 m)))  n) (gO m e) (fun i n=>True) kR ?_ n trivial
 rintro i n hi -
 rcases Nat.lt_or_ge i ((B3 m).length) with Ac | Cm
 ·have hd:=At Ac
  by_cases h0:n<=4000
  ·exact lN A9 [sl (Ms.A0 (B3 m)),rp 3 (dt ((i:Int)<((B3 m).length:Int))),BL h0,kp,Ng (B3 m) (i:Int),XD (B3 m) i Ac,cl (@hE (List.getD (B3 m) i default) (4000) (by simp_all)),kp,lq (@sl6 (m) (i) Ac default (e) (by (apply Ahj <;> first | assumption | omega | decide)) l3 (IntKind.wrap .i64 (IntKind.wrap .i64 (n+1)+Ip [SL (List.getD (B3 m) i default)] 4000)) (by (apply Ad5 <;> first | assumption | omega | decide))),wr ((i:Int)+1)] Ac (Lq (HA (List.getD (B3 m) i default)) (IntKind.wrap .i64 (IntKind.wrap .i64 (n+1)+Ip [SL (List.getD (B3 m) i default)] 4000))) trivial (by rw [hd,Lr,iP h0])
  ·exact lX A9 [sl (Ms.A0 (B3 m)),rp 3 (dt ((i:Int)<((B3 m).length:Int))),Ar h0] (n) (by rw [hd,Lr,iN h0])
 ·have he:i=(B3 m).length:=by omega
  exact lX A9 [sl (Ms.A0 (B3 m)),rp 3 (df ((i:Int)<((B3 m).length:Int))),bf false] (n) (by rw [he,List.drop_length,Lr])
abbrev uO(m:Mo)(j:Int)(n:Int)(e:Ext):S:=S.mk [(1,.lp 1 0),(2,.v (.bool false)),(3,A6 n),(11,A6 j)] [(1,Er m)] e
def MW  : List Qu->(Int)->(Int)
 | [],n=>(n)
 | el::r,n=>(if n<=4000 then MW  r (IntKind.wrap .i64 (IntKind.wrap .i64 (IntKind.wrap .i64 (n+1)+((quW el).length:Int))+Ip [Vv el] 4000)) else (n))
def gP(m:Mo)(e:Ext)(p:(Int)):A4 × S:=(.exit 14,S.mk [(1,.lp 1 0),(2,.v (.bool false)),(3,A6 p)] [(1,Er m)] e)
theorem sl7(m:Mo)(s1:¬((AL m).length:Int)>80)(s2:¬((CB m).length:Int)>80)(s3:¬((DD m).length:Int)>80)(s4:¬((B3 m).length:Int)>80)(s5:¬((Ep m).length:Int)>80)(s6:¬((AW m).length:Int)>80)(hA:∀ (d:Da) (c:Cn) (k:Int),d∈AL m->c∈Gm d->Pu 23 [.sl 9 (Tp.cs (Nf c)),.int .i64 k] (.ret (.int .i64 (FN (Nf c) k))))(l1:∀c∈AL m,(Gm c).length<=1048576)(hI:∀ (k:Int),Pu 22 [.sl 25 (Df.cs (AW m)),.int .i64 k] (.ret (.int .i64 (Pq (AW m) k))))(hB:∀ (c:Cl) (p:Pm) (k:Int),c∈CB m->p∈Hz c->Pu 23 [.sl 9 [AO (H9 p)],.int .i64 k] (.ret (.int .i64 (FN [H9 p] k))))(l2:∀c∈CB m,(Hz c).length<=1048576)(hC:∀ (x:In) (k:Int),x∈DD m->Pu 23 [.sl 9 [AO (Ot x)],.int .i64 k] (.ret (.int .i64 (FN [Ot x] k))))(hD:∀ (x:In) (k:Int),x∈DD m->Pu 22 [.sl 25 (Df.cs (Ul x)),.int .i64 k] (.ret (.int .i64 (Pq (Ul x) k))))(hE:∀ (x:Ms) (k:Int),x∈B3 m->Pu 24 [.sl 4 [AN (SL x)],.int .i64 k] (.ret (.int .i64 (Ip [SL x] k))))(hG:∀ (x:Ms) (c:Cs) (k:Int),x∈B3 m->c∈HA x->Pu 24 [.sl 4 [AN (P3 c)],.int .i64 k] (.ret (.int .i64 (Ip [P3 c] k))))(l3:∀c∈B3 m,(HA c).length<=1048576)(hH:∀ (x:Qu) (k:Int),x∈Ep m->Pu 24 [.sl 4 [AN (Vv x)],.int .i64 k] (.ret (.int .i64 (Ip [Vv x] k))))(n:Int)(e:Ext)(hN:(Ep m).length<=1000000000)  : (Ob.loop 303 (Au f8 7) (uO m 0 n e) (gP m e (MW  ((Ep m))  n)).1 (gP m e (MW  ((Ep m))  n)).2).ok prog:=by
 refine CL ((Ep m).length) (fun j n=>uO m j n e) (fun i n=>MW  (List.drop i ((Ep m)))  n) (gP m e) (fun i n=>True) kR ?_ n trivial
 rintro i n hi -
 rcases Nat.lt_or_ge i ((Ep m).length) with Ac | Cm
 ·have hd:=At Ac
  by_cases h0:n<=4000
  ·exact lN A9 [sl (Qu.A0 (Ep m)),rp 3 (dt ((i:Int)<((Ep m).length:Int))),BL h0,kp,A7n (Ep m) (i:Int),xQu (Ep m) i Ac,sl (Vr.A0 (quW (List.getD (Ep m) i default))),kp,A7n (Ep m) (i:Int),xQu (Ep m) i Ac,cl (@hH (List.getD (Ep m) i default) (4000) (by simp_all)),kp,wr ((i:Int)+1)] Ac (IntKind.wrap .i64 (IntKind.wrap .i64 (IntKind.wrap .i64 (n+1)+((quW (List.getD (Ep m) i default)).length:Int))+Ip [Vv (List.getD (Ep m) i default)] 4000)) trivial (by rw [hd,MW,iP h0])
  ·exact lX A9 [sl (Qu.A0 (Ep m)),rp 3 (dt ((i:Int)<((Ep m).length:Int))),Ar h0] (n) (by rw [hd,MW,iN h0])
 ·have he:i=(Ep m).length:=by omega
  exact lX A9 [sl (Qu.A0 (Ep m)),rp 3 (df ((i:Int)<((Ep m).length:Int))),bf false] (n) (by rw [he,List.drop_length,MW])
section
variable (m:Mo) (hA:∀ (d:Da) (c:Cn) (k:Int),d∈AL m->c∈Gm d->Pu 23 [.sl 9 (Tp.cs (Nf c)),.int .i64 k] (.ret (.int .i64 (FN (Nf c) k)))) (l1:∀c∈AL m,(Gm c).length<=1048576) (hI:∀ (k:Int),Pu 22 [.sl 25 (Df.cs (AW m)),.int .i64 k] (.ret (.int .i64 (Pq (AW m) k)))) (hB:∀ (c:Cl) (p:Pm) (k:Int),c∈CB m->p∈Hz c->Pu 23 [.sl 9 [AO (H9 p)],.int .i64 k] (.ret (.int .i64 (FN [H9 p] k)))) (l2:∀c∈CB m,(Hz c).length<=1048576) (hC:∀ (x:In) (k:Int),x∈DD m->Pu 23 [.sl 9 [AO (Ot x)],.int .i64 k] (.ret (.int .i64 (FN [Ot x] k)))) (hD:∀ (x:In) (k:Int),x∈DD m->Pu 22 [.sl 25 (Df.cs (Ul x)),.int .i64 k] (.ret (.int .i64 (Pq (Ul x) k)))) (hE:∀ (x:Ms) (k:Int),x∈B3 m->Pu 24 [.sl 4 [AN (SL x)],.int .i64 k] (.ret (.int .i64 (Ip [SL x] k)))) (hG:∀ (x:Ms) (c:Cs) (k:Int),x∈B3 m->c∈HA x->Pu 24 [.sl 4 [AN (P3 c)],.int .i64 k] (.ret (.int .i64 (Ip [P3 c] k)))) (l3:∀c∈B3 m,(HA c).length<=1048576) (hH:∀ (x:Qu) (k:Int),x∈Ep m->Pu 24 [.sl 4 [AN (Vv x)],.int .i64 k] (.ret (.int .i64 (Ip [Vv x] k))))
include m hA l1 hI hB l2 hC hD hE hG l3 hH
theorem Ad6(A7:((AL m).length:Int)>80):Pu 8 [.agg (BD m)] (rB false):=
 pm A9 [sl (Da.A0 (AL m)),rp 5 (BL A7),rp 21 (bt true)] func8
theorem Ad7(A7:¬((AL m).length:Int)>80)(Aa:((CB m).length:Int)>80):Pu 8 [.agg (BD m)] (rB false):=
 pm A9 [sl (Da.A0 (AL m)),rp 3 (Ar A7),sl (Cl.A0 (CB m)),rp 2 (Ar A7),rp 5 (BL Aa),rp 16 (bt true)] func8
theorem Ad8(A7:¬((AL m).length:Int)>80)(Aa:¬((CB m).length:Int)>80)(Am:((DD m).length:Int)>80):Pu 8 [.agg (BD m)] (rB false):=
 pm A9 [sl (Da.A0 (AL m)),rp 3 (Ar A7),sl (Cl.A0 (CB m)),rp 2 (Ar A7),rp 3 (Ar Aa),sl (In.A0 (DD m)),rp 2 (Ar Aa),rp 5 (BL Am),rp 11 (bt true)] func8
theorem Ad9(A7:¬((AL m).length:Int)>80)(Aa:¬((CB m).length:Int)>80)(Am:¬((DD m).length:Int)>80)(Az:((B3 m).length:Int)>80):Pu 8 [.agg (BD m)] (rB false):=
 pm A9 [sl (Da.A0 (AL m)),rp 3 (Ar A7),sl (Cl.A0 (CB m)),rp 2 (Ar A7),rp 3 (Ar Aa),sl (In.A0 (DD m)),rp 2 (Ar Aa),rp 3 (Ar Am),sl (Ms.A0 (B3 m)),rp 2 (Ar Am),rp 5 (BL Az),rp 6 (bt true)] func8
theorem Ada(A7:¬((AL m).length:Int)>80)(Aa:¬((CB m).length:Int)>80)(Am:¬((DD m).length:Int)>80)(Az:¬((B3 m).length:Int)>80)(AP:((Ep m).length:Int)>80):Pu 8 [.agg (BD m)] (rB false):=
 pm A9 [sl (Da.A0 (AL m)),rp 3 (Ar A7),sl (Cl.A0 (CB m)),rp 2 (Ar A7),rp 3 (Ar Aa),sl (In.A0 (DD m)),rp 2 (Ar Aa),rp 3 (Ar Am),sl (Ms.A0 (B3 m)),rp 2 (Ar Am),rp 3 (Ar Az),sl (Qu.A0 (Ep m)),rp 2 (Ar Az),rp 5 (BL AP),bt true] func8
theorem Adb(A7:¬((AL m).length:Int)>80)(Aa:¬((CB m).length:Int)>80)(Am:¬((DD m).length:Int)>80)(Az:¬((B3 m).length:Int)>80)(AP:¬((Ep m).length:Int)>80)(Bu:((AW m).length:Int)>80):Pu 8 [.agg (BD m)] (rB false):=
 pm A9 [sl (Da.A0 (AL m)),rp 3 (Ar A7),sl (Cl.A0 (CB m)),rp 2 (Ar A7),rp 3 (Ar Aa),sl (In.A0 (DD m)),rp 2 (Ar Aa),rp 3 (Ar Am),sl (Ms.A0 (B3 m)),rp 2 (Ar Am),rp 3 (Ar Az),sl (Qu.A0 (Ep m)),rp 2 (Ar Az),rp 3 (Ar AP),sl (Df.A0 (AW m)),rp 2 (Ar AP),BL Bu] func8
theorem Adc(A7:¬((AL m).length:Int)>80)(Aa:¬((CB m).length:Int)>80)(Am:¬((DD m).length:Int)>80)(Az:¬((B3 m).length:Int)>80)(AP:¬((Ep m).length:Int)>80)(Bu:¬((AW m).length:Int)>80):Pu 8 [.agg (BD m)] (rB (decide (MW (Ep m) (Lr (B3 m) (K5 (DD m) (Jp (CB m) (IC (AL m) (Pq (AW m) 4000)))))<=4000))):=
 pu A9 (fun e=>[sl (Da.A0 (AL m)),rp 3 (Ar A7),sl (Cl.A0 (CB m)),rp 2 (Ar A7),rp 3 (Ar Aa),sl (In.A0 (DD m)),rp 2 (Ar Aa),rp 3 (Ar Am),sl (Ms.A0 (B3 m)),rp 2 (Ar Am),rp 3 (Ar Az),sl (Qu.A0 (Ep m)),rp 2 (Ar Az),rp 3 (Ar AP),sl (Df.A0 (AW m)),rp 2 (Ar AP),Ar Bu,cl (@hI (4000)),lq (@sl0 (m) A7 Aa Am Az AP Bu hA l1 hI (Pq (AW m) 4000) (e) oM),lq (@sl2 (m) A7 Aa Am Az AP Bu hA l1 hI hB l2 (IC (AL m) (Pq (AW m) 4000)) (e) oM),lq (@sl4 (m) A7 Aa Am Az AP Bu hA l1 hI hB l2 hC hD (Jp (CB m) (IC (AL m) (Pq (AW m) 4000))) (e) oM),lq (@sl5 (m) A7 Aa Am Az AP Bu hA l1 hI hB l2 hC hD hE hG l3 (K5 (DD m) (Jp (CB m) (IC (AL m) (Pq (AW m) 4000)))) (e) oM),lq (@sl7 (m) A7 Aa Am Az AP Bu hA l1 hI hB l2 hC hD hE hG l3 hH (Lr (B3 m) (K5 (DD m) (Jp (CB m) (IC (AL m) (Pq (AW m) 4000))))) (e) oM)]) func8
end
theorem Gi(m:Mo):Ah (Da.cs (AL m))+Ah (Cl.cs (CB m))+Ah (In.cs (DD m))+Ah (Ms.cs (B3 m))+Ah (Qu.cs (Ep m))+Ah (Df.cs (AW m))<=A3 (BD m):=by simp only [A3,CR]; omega
theorem W7(x:Da):Ah (Cn.cs (Gm x))+Ah (Vr.cs (F6 x))+Ah (Ae (Ii x))<A3 (Vw x):=by simp only [A3,CR]; omega
theorem nK(x:Cn):Ah (Tp.cs (Nf x))+Ah (Ae (X4 x))<A3 (pR x):=by simp only [A3,CR]; omega
theorem W8(x:Cl):Ah (Pm.cs (Hz x))<A3 (pU x):=by simp only [A3,CR]; omega
theorem W9(x:In):A3 (AO (Ot x))+Ah (Df.cs (Ul x))<A3 (pV x):=by simp only [A3,CR]; omega
theorem RE(x:Ms):A3 (AN (SL x))+Ah (Cs.cs (HA x))<A3 (mC x):=by simp only [A3,CR]; omega
theorem nL(x:Cs):A3 (AN (P3 x))<A3 (pW x):=by simp only [A3,CR]; omega
theorem nM(x:Qu):A3 (AN (Vv x))<A3 (pX x):=by simp only [A3,CR]; omega
theorem Ade(l:List Df)(mx:Int)(hs:Ah (Df.cs l)<=100000000):Pu 22 [.sl 25 (Df.cs l),.int .i64 mx] (.ret (.int .i64 (Pq l mx))):=
 cdL l mx (fun d k hd=>mJ _ k (by have:=Ij d; have:=Df.mem hd; omega)) (fun d k hd=>cpT _ k (by have:=Ij d; have:=Df.mem hd; omega)) (fun d b k hd hb=>Ag7 _ _ k (by have:=Ij d; have:=Df.mem hd; have:=VD b; have:=Bo.mem hb; omega)) (fun d k hd=>paT _ k (by have:=Ij d; have:=Df.mem hd; omega)) (fun d hd=>by have:=Ij d; have:=Df.mem hd; have:=Bo.BS (Ak d); omega) (by have:=Df.BS l; omega)
theorem smX(m:Mo)(hA:∀ (d:Da) (c:Cn) (k:Int),d∈AL m->c∈Gm d->Pu 23 [.sl 9 (Tp.cs (Nf c)),.int .i64 k] (.ret (.int .i64 (FN (Nf c) k))))(l1:∀c∈AL m,(Gm c).length<=1048576)(hI:∀ (k:Int),Pu 22 [.sl 25 (Df.cs (AW m)),.int .i64 k] (.ret (.int .i64 (Pq (AW m) k))))(hB:∀ (c:Cl) (p:Pm) (k:Int),c∈CB m->p∈Hz c->Pu 23 [.sl 9 [AO (H9 p)],.int .i64 k] (.ret (.int .i64 (FN [H9 p] k))))(l2:∀c∈CB m,(Hz c).length<=1048576)(hC:∀ (x:In) (k:Int),x∈DD m->Pu 23 [.sl 9 [AO (Ot x)],.int .i64 k] (.ret (.int .i64 (FN [Ot x] k))))(hD:∀ (x:In) (k:Int),x∈DD m->Pu 22 [.sl 25 (Df.cs (Ul x)),.int .i64 k] (.ret (.int .i64 (Pq (Ul x) k))))(hE:∀ (x:Ms) (k:Int),x∈B3 m->Pu 24 [.sl 4 [AN (SL x)],.int .i64 k] (.ret (.int .i64 (Ip [SL x] k))))(hG:∀ (x:Ms) (c:Cs) (k:Int),x∈B3 m->c∈HA x->Pu 24 [.sl 4 [AN (P3 c)],.int .i64 k] (.ret (.int .i64 (Ip [P3 c] k))))(l3:∀c∈B3 m,(HA c).length<=1048576)(hH:∀ (x:Qu) (k:Int),x∈Ep m->Pu 24 [.sl 4 [AN (Vv x)],.int .i64 k] (.ret (.int .i64 (Ip [Vv x] k)))):∃b,Pu 8 [.agg (BD m)] (.ret (.bool b)):=by
 by_cases h0:(((AL m).length:Nat):Int)>80
 ·exact ⟨_,Ad6 m hA l1 hI hB l2 hC hD hE hG l3 hH h0⟩
 by_cases h1:(((CB m).length:Nat):Int)>80
 ·exact ⟨_,Ad7 m hA l1 hI hB l2 hC hD hE hG l3 hH h0 h1⟩
 by_cases h2:(((DD m).length:Nat):Int)>80
 ·exact ⟨_,Ad8 m hA l1 hI hB l2 hC hD hE hG l3 hH h0 h1 h2⟩
 by_cases h3:(((B3 m).length:Nat):Int)>80
 ·exact ⟨_,Ad9 m hA l1 hI hB l2 hC hD hE hG l3 hH h0 h1 h2 h3⟩
 by_cases h4:(((Ep m).length:Nat):Int)>80
 ·exact ⟨_,Ada m hA l1 hI hB l2 hC hD hE hG l3 hH h0 h1 h2 h3 h4⟩
 by_cases h5:(((AW m).length:Nat):Int)>80
 ·exact ⟨_,Adb m hA l1 hI hB l2 hC hD hE hG l3 hH h0 h1 h2 h3 h4 h5⟩
 exact ⟨_,Adc m hA l1 hI hB l2 hC hD hE hG l3 hH h0 h1 h2 h3 h4 h5⟩
theorem DX(l:List Sy)(a b:BA)(r:List BA):Sy.cs (l++[.mk a r b])=Sy.cs l++[[.str a,.sl 1 (Ae r),.str b]]:=Sy.A1 l (.mk a r b)
theorem Wa:∀ (l:List Tp) (acc:List BA),D8 l acc=acc++(l.filter KB).map Qt
 | [],acc=>by simp [D8]
 | x::r,acc=>by
  rw [D8]
  by_cases h:KB x=true
  ·rw [iP h,Wa r,List.filter_cons_of_pos h,List.map_cons,List.append_assoc]; rfl
  ·rw [iN h,Wa r,List.filter_cons_of_neg h]
theorem kE{m:Mo}{i:Nat}(hs:A3 (BD m)<=10000000)(h:i<(AW m).length):A3 (AO (Ad ((AW m).getD i default)))<=10000000:=by
 have h1:=Gi m
 have h2:=Df.mem (Bm h)
 have h3:=Ij ((AW m).getD i default)
 omega
theorem gEa{l:List Tp}(h:l.length<=1000000000):(D8 l []).length<=1000000000:=by
 rw [Wa,List.nil_append,List.length_map]
 exact Nat.le_trans (List.length_filter_le _ _) h
theorem gQ{m:Mo}{i:Nat}(hs:A3 (BD m)<=10000000)(h:i<(AW m).length):(Ab (Ad ((AW m).getD i default))).length<=1000000000:=by
 have h1:=kE hs h
 have h2:=BY (Ad ((AW m).getD i default))
 have h3:=Tp.BS (Ab (Ad ((AW m).getD i default)))
 omega
theorem Th:∀ (l:List BA) (n:Nat),List.take n (Ae l)=Ae (l.take n)
 | [],n=>by simp [Ae]
 | x::r,0=>by simp [Ae]
 | x::r,n+1=>by rw [show Ae (x::r)=[.str x]::Ae r by simp [Ae],List.take_succ_cons,List.take_succ_cons,Th r n]; simp [Ae]
theorem gEb{m:Mo}{i:Nat}(hs:A3 (BD m)<=10000000)(h:i<(AW m).length):(D8 (Ab (Ad ((AW m).getD i default))) []).length<=1000000000:=gEa (gQ hs h)
theorem uP{m:Mo}{i:Nat}(hs:A3 (BD m)<=10000000)(h:i<(AW m).length):((Ab (Ad ((AW m).getD i default))).length:Int) - 1<=9223372036854775807:=by have:=gQ hs h; omega
theorem uQ{m:Mo}{i:Nat}(hs:A3 (BD m)<=10000000)(h:i<(AW m).length):((Ab (Ad ((AW m).getD i default))).length:Int) - 1+1<=9223372036854775807:=by have:=gQ hs h; omega
theorem Ahk(l:List BA)(n:Nat)(hn:l.length<=1000000000):Pu 30 [.sl 1 (List.drop 0 (List.take n (Ae l)))] (.own 74 1 (Ae (l.take n))):=by
 have e:List.drop 0 (List.take n (Ae l))=Ae (l.take n):=by
  rw [List.drop_zero]; exact Th l n
 rw [e]
 exact A2y _ (Nat.le_trans (List.length_take_le' _ _) hn)
abbrev uR(m:Mo)(j:Int)(out:List Sy)(e:Ext):S:=S.mk [(2,.v .A2),(3,.uniq 77 3 (Sy.cs out)),(16,vL 25 (Df.cs (AW m))),(17,A6 ((AW m).length:Int)),(18,A6 j)] [] e
def EN  : List Df->(List Sy)->(List Sy)
 | [],out=>(out)
 | el::r,out=>(if Tu el=2 then (if ((L0 el).length:Int)=0 then EN  r (out) else (if AB (Ad el)=6 then (if ((Ab (Ad el)).length:Int)=0 then EN  r (out) else (if ((D8 (Ab (Ad el)) []).length:Int)=((Ab (Ad el)).length:Int) - 1+1 then EN  r (out++[Sy.mk (D4 el) (List.take (Int.toNat (((Ab (Ad el)).length:Int) - 1)) (D8 (Ab (Ad el)) [])) (List.getD (D8 (Ab (Ad el)) []) (Int.toNat (((Ab (Ad el)).length:Int) - 1)) Ai)]) else EN  r (out))) else EN  r (out))) else EN  r (out))
def gR(m:Mo)(e:Ext)(p:(List Sy)):A4 × S:=(.exit 0,S.mk [(2,.v .A2),(3,.uniq 77 3 (Sy.cs p)),(16,vL 25 (Df.cs (AW m))),(17,A6 ((AW m).length:Int))] [] e)
theorem evb(m:Mo)(XL:(B3 m).length<=2000000)(hs:A3 (BD m)<=10000000)(out:List Sy)(e:Ext)(hN:(AW m).length<=1000000000)(hv:List.length out<=List.length (B3 m)+0):(Ob.loop 96 (Au f12 0) (uR m 0 out e) (gR m e (EN  ((AW m))  out)).1 (gR m e (EN  ((AW m))  out)).2).ok prog:=by
 refine CL ((AW m).length) (fun j out=>uR m j out e) (fun i out=>EN  (List.drop i ((AW m)))  out) (gR m e) (fun i out=>(out.length<=(B3 m).length+i)) kR ?_ out (by first | exact hv | omega)
 rintro i out hi hv
 try simp only at hv
 rcases Nat.lt_or_ge i ((AW m).length) with Ac | Cm
 ·have hd:=At Ac
  by_cases h0:Tu (List.getD (AW m) i default)=2
  ·by_cases h1:((L0 (List.getD (AW m) i default)).length:Int)=0
   ·exact lN A9 [dt ((i:Int)<((AW m).length:Int)),J7 (AW m) (i:Int),SN (AW m) i Ac,rp 3 (B1 h0),sl (A5 (L0 (List.getD (AW m) i default))),rp 2 (B1 h0),rp 4 (Bb h1),rp 6 (bt true),wr ((i:Int)+1)] Ac (out) (by first | assumption | omega | (apply kE <;> first | assumption | omega | decide) | (apply gEb <;> first | assumption | omega | decide) | (apply gQ <;> first | assumption | omega | decide) | (apply uP <;> first | assumption | omega | decide) | (apply uQ <;> first | assumption | omega | decide) | (simp only [List.length_append,List.length_cons,List.length_nil] at *; omega) | simp_all) (by rw [hd,EN,iP h0,iP h1])
   ·by_cases h2:AB (Ad (List.getD (AW m) i default))=6
    ·by_cases h3:((Ab (Ad (List.getD (AW m) i default))).length:Int)=0
     ·exact lN A9 [dt ((i:Int)<((AW m).length:Int)),J7 (AW m) (i:Int),SN (AW m) i Ac,rp 3 (B1 h0),sl (A5 (L0 (List.getD (AW m) i default))),rp 2 (B1 h0),rp 4 (Ay h1),rp 3 (B1 h2),sl (Tp.A0 (Ab (Ad (List.getD (AW m) i default)))),rp 2 (B1 h2),Bb h3,wr ((i:Int)+1)] Ac (out) (by first | assumption | omega | (apply kE <;> first | assumption | omega | decide) | (apply gEb <;> first | assumption | omega | decide) | (apply gQ <;> first | assumption | omega | decide) | (apply uP <;> first | assumption | omega | decide) | (apply uQ <;> first | assumption | omega | decide) | (simp only [List.length_append,List.length_cons,List.length_nil] at *; omega) | simp_all) (by rw [hd,EN,iP h0,iN h1,iP h2,iP h3])
     ·by_cases h4:((D8 (Ab (Ad (List.getD (AW m) i default))) []).length:Int)=((Ab (Ad (List.getD (AW m) i default))).length:Int) - 1+1
      ·exact lS A9 [dt ((i:Int)<((AW m).length:Int)),J7 (AW m) (i:Int),SN (AW m) i Ac,rp 3 (B1 h0),sl (A5 (L0 (List.getD (AW m) i default))),rp 2 (B1 h0),rp 4 (Ay h1),rp 3 (B1 h2),sl (Tp.A0 (Ab (Ad (List.getD (AW m) i default)))),rp 2 (B1 h2),Ay h3,sl (Tp.A0 (Ab (Ad (List.getD (AW m) i default)))),lp (S.mk [(2,.v .A2),(3,.uniq 77 3 (Sy.cs out)),(16,vL 25 (Df.cs (AW m))),(17,A6 ((AW m).length:Int)),(18,A6 (i:Int)),(6,.lp 6 0),(7,.lp 7 0),(49,vL 9 (Tp.cs (Ab (Ad (List.getD (AW m) i default))))),(50,A6 ((Ab (Ad (List.getD (AW m) i default))).length:Int)),(51,A6 0)] [(6,Cz (Ad (List.getD (AW m) i default))),(7,[vS (D4 (List.getD (AW m) i default)),.v .A2,vS Ai])] e) (@eva (m) (out) (List.getD (AW m) i default) ((i:Int)) (e) (by (apply kE <;> first | assumption | omega | decide)) ([]) (by (apply gQ <;> first | assumption | omega | decide)) (by (simp only [List.length_nil]; omega))) ⟨⟨W,W,W,W,W,W,W,W,W,W,B7⟩,⟨⟨W,W,W,W,W,W,W,W,W,B7⟩,⟨W,Wq,Wq,B7⟩,B7⟩,rfl⟩,sl (Tp.A0 (Ab (Ad (List.getD (AW m) i default)))),wr (((Ab (Ad (List.getD (AW m) i default))).length:Int) - 1) oM (by (apply uP <;> first | assumption | omega | decide)),ai (↑((fun x=>List.length (Prod.snd x)) (1,Ae (D8 (Ab (Ad (List.getD (AW m) i default))) []))):Int) ((D8 (Ab (Ad (List.getD (AW m) i default))) []).length:Int) (by (simp only [List.length_nil,A5]; done)),wr (((Ab (Ad (List.getD (AW m) i default))).length:Int) - 1+1) oM (by (apply uQ <;> first | assumption | omega | decide)),Bb h4,am ((0:Int)<=((Ab (Ad (List.getD (AW m) i default))).length:Int) - 1/\((Ab (Ad (List.getD (AW m) i default))).length:Int) - 1<((Ae (D8 (Ab (Ad (List.getD (AW m) i default))) [])).length:Int)) (by (simp only [List.length_nil,A5]; omega)),DU (D8 (Ab (Ad (List.getD (AW m) i default))) []) (Int.toNat (((Ab (Ad (List.getD (AW m) i default))).length:Int) - 1)),kp,am ((0:Int)<=(0:Int)/\(0:Int)<=((Ab (Ad (List.getD (AW m) i default))).length:Int) - 1/\((Ab (Ad (List.getD (AW m) i default))).length:Int) - 1<=((Ae (D8 (Ab (Ad (List.getD (AW m) i default))) [])).length:Int)) (by (simp only [List.length_nil,A5]; omega)),cl (@Ahk (D8 (Ab (Ad (List.getD (AW m) i default))) []) (Int.toNat (((Ab (Ad (List.getD (AW m) i default))).length:Int) - 1)) (by (apply gEb <;> first | assumption | omega | decide))),am (List.length (Sy.cs out++(fun x=>Prod.snd x) (2+1,[[.str (D4 (List.getD (AW m) i default)),.sl 1 (Ae (List.take (Int.toNat (((Ab (Ad (List.getD (AW m) i default))).length:Int) - 1)) (D8 (Ab (Ad (List.getD (AW m) i default))) []))),.str (List.getD (D8 (Ab (Ad (List.getD (AW m) i default))) []) (Int.toNat (((Ab (Ad (List.getD (AW m) i default))).length:Int) - 1)) Ai)]])) * (55+1)<=140737488355328) (by (simp only [List.length_append,List.length_cons,List.length_nil,A5,Sy.A0,Int.toNat_natCast]; omega)),wr ((i:Int)+1)] [2,3,16,17,18] [] Ac (out++[Sy.mk (D4 (List.getD (AW m) i default)) (List.take (Int.toNat (((Ab (Ad (List.getD (AW m) i default))).length:Int) - 1)) (D8 (Ab (Ad (List.getD (AW m) i default))) [])) (List.getD (D8 (Ab (Ad (List.getD (AW m) i default))) []) (Int.toNat (((Ab (Ad (List.getD (AW m) i default))).length:Int) - 1)) Ai)]) (S.mk [(2,.v .A2),(3,.uniq 77 3 (Sy.cs out++[[PV.str (D4 (List.getD (AW m) i default)),.sl 1 (Ae (List.take (Int.toNat (((Ab (Ad (List.getD (AW m) i default))).length:Int) - 1)) (D8 (Ab (Ad (List.getD (AW m) i default))) []))),.str (List.getD (D8 (Ab (Ad (List.getD (AW m) i default))) []) (Int.toNat (((Ab (Ad (List.getD (AW m) i default))).length:Int) - 1)) Ai)]])),(16,vL 25 (Df.cs (AW m))),(17,A6 ((AW m).length:Int)),(18,A6 ((i:Int)+1))] [] e) ⟨⟨W,(.inl (by first | (simp only [List.nil_append,AK,AF,Pr.A1,Tp.A1,Ex.A1,Vr.A1,Df.A1,Sy.A1,Ho.A1,CN,DX]; done) | (simp only [List.nil_append,AK,AF,Pr.A1,Tp.A1,Ex.A1,Vr.A1,Df.A1,Sy.A1,Ho.A1,CN,DX]; rfl))),W,W,W,B7⟩,trivial,rfl⟩ (by first | assumption | omega | (apply kE <;> first | assumption | omega | decide) | (apply gEb <;> first | assumption | omega | decide) | (apply gQ <;> first | assumption | omega | decide) | (apply uP <;> first | assumption | omega | decide) | (apply uQ <;> first | assumption | omega | decide) | (simp only [List.length_append,List.length_cons,List.length_nil] at *; omega) | simp_all) (by rw [hd,EN,iP h0,iN h1,iP h2,iN h3,iP h4])
      ·exact lN A9 [dt ((i:Int)<((AW m).length:Int)),J7 (AW m) (i:Int),SN (AW m) i Ac,rp 3 (B1 h0),sl (A5 (L0 (List.getD (AW m) i default))),rp 2 (B1 h0),rp 4 (Ay h1),rp 3 (B1 h2),sl (Tp.A0 (Ab (Ad (List.getD (AW m) i default)))),rp 2 (B1 h2),Ay h3,sl (Tp.A0 (Ab (Ad (List.getD (AW m) i default)))),lp (S.mk [(2,.v .A2),(3,.uniq 77 3 (Sy.cs out)),(16,vL 25 (Df.cs (AW m))),(17,A6 ((AW m).length:Int)),(18,A6 (i:Int)),(6,.lp 6 0),(7,.lp 7 0),(49,vL 9 (Tp.cs (Ab (Ad (List.getD (AW m) i default))))),(50,A6 ((Ab (Ad (List.getD (AW m) i default))).length:Int)),(51,A6 0)] [(6,Cz (Ad (List.getD (AW m) i default))),(7,[vS (D4 (List.getD (AW m) i default)),.v .A2,vS Ai])] e) (@eva (m) (out) (List.getD (AW m) i default) ((i:Int)) (e) (by (apply kE <;> first | assumption | omega | decide)) ([]) (by (apply gQ <;> first | assumption | omega | decide)) (by (simp only [List.length_nil]; omega))) ⟨⟨W,W,W,W,W,W,W,W,W,W,B7⟩,⟨⟨W,W,W,W,W,W,W,W,W,B7⟩,⟨W,Wq,Wq,B7⟩,B7⟩,rfl⟩,sl (Tp.A0 (Ab (Ad (List.getD (AW m) i default)))),wr (((Ab (Ad (List.getD (AW m) i default))).length:Int) - 1) oM (by (apply uP <;> first | assumption | omega | decide)),ai (↑((fun x=>List.length (Prod.snd x)) (1,Ae (D8 (Ab (Ad (List.getD (AW m) i default))) []))):Int) ((D8 (Ab (Ad (List.getD (AW m) i default))) []).length:Int) (by (simp only [List.length_nil,A5]; done)),wr (((Ab (Ad (List.getD (AW m) i default))).length:Int) - 1+1) oM (by (apply uQ <;> first | assumption | omega | decide)),Ay h4,wr ((i:Int)+1)] Ac (out) (by first | assumption | omega | (apply kE <;> first | assumption | omega | decide) | (apply gEb <;> first | assumption | omega | decide) | (apply gQ <;> first | assumption | omega | decide) | (apply uP <;> first | assumption | omega | decide) | (apply uQ <;> first | assumption | omega | decide) | (simp only [List.length_append,List.length_cons,List.length_nil] at *; omega) | simp_all) (by rw [hd,EN,iP h0,iN h1,iP h2,iN h3,iN h4])
    ·exact lN A9 [dt ((i:Int)<((AW m).length:Int)),J7 (AW m) (i:Int),SN (AW m) i Ac,rp 3 (B1 h0),sl (A5 (L0 (List.getD (AW m) i default))),rp 2 (B1 h0),rp 4 (Ay h1),rp 5 (Bi h2),bt true,wr ((i:Int)+1)] Ac (out) (by first | assumption | omega | (apply kE <;> first | assumption | omega | decide) | (apply gEb <;> first | assumption | omega | decide) | (apply gQ <;> first | assumption | omega | decide) | (apply uP <;> first | assumption | omega | decide) | (apply uQ <;> first | assumption | omega | decide) | (simp only [List.length_append,List.length_cons,List.length_nil] at *; omega) | simp_all) (by rw [hd,EN,iP h0,iN h1,iN h2])
  ·exact lN A9 [dt ((i:Int)<((AW m).length:Int)),J7 (AW m) (i:Int),SN (AW m) i Ac,rp 5 (Bi h0),rp 10 (bt true),wr ((i:Int)+1)] Ac (out) (by first | assumption | omega | (apply kE <;> first | assumption | omega | decide) | (apply gEb <;> first | assumption | omega | decide) | (apply gQ <;> first | assumption | omega | decide) | (apply uP <;> first | assumption | omega | decide) | (apply uQ <;> first | assumption | omega | decide) | (simp only [List.length_append,List.length_cons,List.length_nil] at *; omega) | simp_all) (by rw [hd,EN,iN h0])
 ·have he:i=(AW m).length:=by omega
  exact lX A9 [df ((i:Int)<((AW m).length:Int))] (out) (by rw [he,List.drop_length,EN])
theorem Ahl(m:Mo)(hN:(B3 m).length<=2000000):Pu 28 [.agg (BD m)] (.own 77 3 (Sy.cs ((B3 m).map Xk))):=meT m oM
theorem gMl{m:Mo}:((B3 m).map Xk).length<=(B3 m).length+0:=by rw [List.length_map]; omega
theorem enL(m:Mo)(XL:(B3 m).length<=2000000)(hs:A3 (BD m)<=10000000)(Ti:(AW m).length<=1000000000):Pu 12 [.agg (BD m)] (.own 77 3 (Sy.cs (EN (AW m) (List.map Xk (B3 m))))):=
 pu A9 (fun e=>[cl (@Ahl (m) XL),sl (Df.A0 (AW m)),lq (@evb (m) XL hs (List.map Xk (B3 m)) (e) Ti (by (simp only [List.length_map]; omega)))]) func12
abbrev uS(d:Df)(j:Int)(acc:List BA)(g:BA)(e:Ext):S:=S.mk [(2,.lp 2 0),(4,.lp 4 0),(5,.lp 5 0),(6,A6 j)] [(2,[vS Ai,.v .A2,vS Ai]),(4,Cz (Ad d)),(5,[vS (D4 d),.uniq 74 1 (Ae acc),vS g])] e
inductive MX where
 | e0 (acc:List BA) (g:BA)
 | e1 (acc:List BA) (g:BA)
def DF(d:Df):List Tp->Nat->(List BA)->(BA)->MX
 | [],i,acc,g=>(MX.e1 acc g)
 | el::r,i,acc,g=>(if AB el=1 then (if (i:Int)<((Ab (Ad d)).length:Int) - 1 then DF d r (i+1) (acc++[ByteArray.mk #[73,110,116]]) (g) else DF d r (i+1) (acc) (ByteArray.mk #[73,110,116])) else (if AB el=2 then (if (i:Int)<((Ab (Ad d)).length:Int) - 1 then DF d r (i+1) (acc++[ByteArray.mk #[66,111,111,108]]) (g) else DF d r (i+1) (acc) (ByteArray.mk #[66,111,111,108])) else (MX.e0 acc g)))
def gS(d:Df)(e:Ext):MX->A4 × S
 | .e0 acc g=>(.ret,S.mk [(2,.lp 2 0),(4,.lp 4 0),(5,.lp 5 0),(3,.v (.bool false))] [(2,[vS Ai,.v .A2,vS Ai]),(4,Cz (Ad d)),(5,[vS (D4 d),.uniq 74 1 (Ae acc),vS g])] e)
 | .e1 acc g=>(.exit 0,S.mk [(2,.lp 2 0),(4,.lp 4 0),(5,.lp 5 0)] [(2,[vS Ai,.v .A2,vS Ai]),(4,Cz (Ad d)),(5,[vS (D4 d),.uniq 74 1 (Ae acc),vS g])] e)
theorem gT(d:Df)(Gp:Tu d=2)(XF:¬((L0 d).length:Int)=0)(sQ:AB (Ad d)=6)(hq4:¬((Ab (Ad d)).length:Int)=0)(hlen:(Ab (Ad d)).length<=10000000)(e:Ext)(hN:List.length ((Ab (Ad d)))<=1000000000)(acc:List BA)(g:BA)(hv:(acc.length<=0)):(Ob.loop 68 (Au f32 0) (uS d 0 acc g e) (gS d e (DF d ((Ab (Ad d))) 0 acc g)).1 (gS d e (DF d ((Ab (Ad d))) 0 acc g)).2).ok prog:=by
 refine CL (List.length ((Ab (Ad d)))) (fun j zz=>uS d j zz.1 zz.2 e) (fun i zz=>DF d (List.drop i ((Ab (Ad d)))) i zz.1 zz.2) (gS d e) (fun i zz=>(fun (i:Nat) (acc:List BA) (g:BA)=>(acc.length<=i)) i zz.1 zz.2) kR ?_ (acc,g) (by first | exact hv | omega)
 rintro i ⟨acc,g⟩ hi hv
 try simp only at hv
 rcases Nat.lt_or_ge i (List.length ((Ab (Ad d)))) with Ac | Cm
 ·have hd:=At Ac
  by_cases h0:AB (List.getD (Ab (Ad d)) i default)=1
  ·by_cases h1:(i:Int)<((Ab (Ad d)).length:Int) - 1
   ·exact lS A9 [sl (Tp.A0 (Ab (Ad d))),dt ((i:Int)<((Ab (Ad d)).length:Int)),DH (Ab (Ad d)) (i:Int),I5 (Ab (Ad d)) i Ac,Bb h0,sl (Tp.A0 (Ab (Ad d))),wr (((Ab (Ad d)).length:Int) - 1),BL h1,am (List.length (Ae acc++(fun x=>Prod.snd x) (0+1,[[.str (ByteArray.mk #[73,110,116])]])) * (15+1)<=140737488355328) (by (simp only [List.length_append,List.length_cons,List.length_nil,A5]; omega)),wr ((i:Int)+1)] [2,4,5,6,3] [2,4,5] Ac ((acc++[ByteArray.mk #[73,110,116]]),(g)) (S.mk [(2,.lp 2 0),(4,.lp 4 0),(5,.lp 5 0),(6,A6 ((i:Int)+1))] [(2,[vS Ai,.v .A2,vS Ai]),(4,Cz (Ad d)),(5,[vS (D4 d),.uniq 74 1 (Ae acc++[[PV.str (ByteArray.mk #[73,110,116])]]),vS g])] e) ⟨⟨W,W,W,W,B7⟩,⟨Ws,Ws,⟨W,(.inl (by first | (simp only [List.nil_append,AK,AF,Pr.A1,Tp.A1,Ex.A1,Vr.A1,Df.A1,Sy.A1,Ho.A1,CN,DX]; done) | (simp only [List.nil_append,AK,AF,Pr.A1,Tp.A1,Ex.A1,Vr.A1,Df.A1,Sy.A1,Ho.A1,CN,DX]; rfl))),W,B7⟩,B7⟩,rfl⟩ (by first | assumption | omega | (simp only [List.length_append,List.length_cons,List.length_nil] at *; omega) | simp_all) (by rw [hd,DF,iP h0,iP h1])
   ·exact lS A9 [sl (Tp.A0 (Ab (Ad d))),dt ((i:Int)<((Ab (Ad d)).length:Int)),DH (Ab (Ad d)) (i:Int),I5 (Ab (Ad d)) i Ac,Bb h0,sl (Tp.A0 (Ab (Ad d))),wr (((Ab (Ad d)).length:Int) - 1),Ar h1,wr ((i:Int)+1)] [2,4,5,6,3] [2,4,5] Ac ((acc),(ByteArray.mk #[73,110,116])) (S.mk [(2,.lp 2 0),(4,.lp 4 0),(5,.lp 5 0),(6,A6 ((i:Int)+1))] [(2,[vS Ai,.v .A2,vS Ai]),(4,Cz (Ad d)),(5,[vS (D4 d),.uniq 74 1 (Ae acc),vS (ByteArray.mk #[73,110,116])])] e) ⟨⟨W,W,W,W,B7⟩,⟨Ws,Ws,⟨W,W,Wq,B7⟩,B7⟩,rfl⟩ (by first | assumption | omega | (simp only [List.length_append,List.length_cons,List.length_nil] at *; omega) | simp_all) (by rw [hd,DF,iP h0,iN h1])
  ·by_cases h1:AB (List.getD (Ab (Ad d)) i default)=2
   ·by_cases h2:(i:Int)<((Ab (Ad d)).length:Int) - 1
    ·exact lS A9 [sl (Tp.A0 (Ab (Ad d))),dt ((i:Int)<((Ab (Ad d)).length:Int)),DH (Ab (Ad d)) (i:Int),I5 (Ab (Ad d)) i Ac,Ay h0,Bb h1,sl (Tp.A0 (Ab (Ad d))),wr (((Ab (Ad d)).length:Int) - 1),BL h2,am (List.length (Ae acc++(fun x=>Prod.snd x) (0+1,[[.str (ByteArray.mk #[66,111,111,108])]])) * (15+1)<=140737488355328) (by (simp only [List.length_append,List.length_cons,List.length_nil,A5]; omega)),wr ((i:Int)+1)] [2,4,5,6,3] [2,4,5] Ac ((acc++[ByteArray.mk #[66,111,111,108]]),(g)) (S.mk [(2,.lp 2 0),(4,.lp 4 0),(5,.lp 5 0),(6,A6 ((i:Int)+1))] [(2,[vS Ai,.v .A2,vS Ai]),(4,Cz (Ad d)),(5,[vS (D4 d),.uniq 74 1 (Ae acc++[[PV.str (ByteArray.mk #[66,111,111,108])]]),vS g])] e) ⟨⟨W,W,W,W,B7⟩,⟨Ws,Ws,⟨W,(.inl (by first | (simp only [List.nil_append,AK,AF,Pr.A1,Tp.A1,Ex.A1,Vr.A1,Df.A1,Sy.A1,Ho.A1,CN,DX]; done) | (simp only [List.nil_append,AK,AF,Pr.A1,Tp.A1,Ex.A1,Vr.A1,Df.A1,Sy.A1,Ho.A1,CN,DX]; rfl))),W,B7⟩,B7⟩,rfl⟩ (by first | assumption | omega | (simp only [List.length_append,List.length_cons,List.length_nil] at *; omega) | simp_all) (by rw [hd,DF,iN h0,iP h1,iP h2])
    ·exact lS A9 [sl (Tp.A0 (Ab (Ad d))),dt ((i:Int)<((Ab (Ad d)).length:Int)),DH (Ab (Ad d)) (i:Int),I5 (Ab (Ad d)) i Ac,Ay h0,Bb h1,sl (Tp.A0 (Ab (Ad d))),wr (((Ab (Ad d)).length:Int) - 1),Ar h2,wr ((i:Int)+1)] [2,4,5,6,3] [2,4,5] Ac ((acc),(ByteArray.mk #[66,111,111,108])) (S.mk [(2,.lp 2 0),(4,.lp 4 0),(5,.lp 5 0),(6,A6 ((i:Int)+1))] [(2,[vS Ai,.v .A2,vS Ai]),(4,Cz (Ad d)),(5,[vS (D4 d),.uniq 74 1 (Ae acc),vS (ByteArray.mk #[66,111,111,108])])] e) ⟨⟨W,W,W,W,B7⟩,⟨Ws,Ws,⟨W,W,Wq,B7⟩,B7⟩,rfl⟩ (by first | assumption | omega | (simp only [List.length_append,List.length_cons,List.length_nil] at *; omega) | simp_all) (by rw [hd,DF,iN h0,iP h1,iN h2])
   ·exact lX A9 [sl (Tp.A0 (Ab (Ad d))),dt ((i:Int)<((Ab (Ad d)).length:Int)),DH (Ab (Ad d)) (i:Int),I5 (Ab (Ad d)) i Ac,Ay h0,Ay h1] (MX.e0 acc g) (by rw [hd,DF,iN h0,iN h1])
 ·have he:i=List.length ((Ab (Ad d))):=by omega
  exact lX A9 [sl (Tp.A0 (Ab (Ad d))),df ((i:Int)<((Ab (Ad d)).length:Int))] (MX.e1 acc g) (by rw [he,List.drop_length,DF])
theorem A4n(d:Df)(hlen:(Ab (Ad d)).length<=10000000)(A7:¬Tu d=2):Pu 32 [.agg (Ou d)] (.ret (.Bf [.agg [.str Ai,.sl 1 [],.str Ai],.bool false])):=
 Ob.Ej (Wk.t (Co.c (Wk.a (kr (kn 1 (Co.r _)))) (Co.r _))) (pm A9 [rp 5 (Bi A7),rp 10 (bt true)] func32)
theorem A4o(d:Df)(hlen:(Ab (Ad d)).length<=10000000)(A7:Tu d=2)(Aa:((L0 d).length:Int)=0):Pu 32 [.agg (Ou d)] (.ret (.Bf [.agg [.str Ai,.sl 1 [],.str Ai],.bool false])):=
 Ob.Ej (Wk.t (Co.c (Wk.a (kr (kn 1 (Co.r _)))) (Co.r _))) (pm A9 [rp 3 (B1 A7),sl (A5 (L0 d)),rp 2 (B1 A7),rp 4 (Bb Aa),rp 6 (bt true)] func32)
theorem A4p(d:Df)(hlen:(Ab (Ad d)).length<=10000000)(A7:Tu d=2)(Aa:¬((L0 d).length:Int)=0)(Am:¬AB (Ad d)=6):Pu 32 [.agg (Ou d)] (.ret (.Bf [.agg [.str Ai,.sl 1 [],.str Ai],.bool false])):=
 Ob.Ej (Wk.t (Co.c (Wk.a (kr (kn 1 (Co.r _)))) (Co.r _))) (pm A9 [rp 3 (B1 A7),sl (A5 (L0 d)),rp 2 (B1 A7),rp 4 (Ay Aa),rp 5 (Bi Am),bt true] func32)
theorem A4q(d:Df)(hlen:(Ab (Ad d)).length<=10000000)(A7:Tu d=2)(Aa:¬((L0 d).length:Int)=0)(Am:AB (Ad d)=6)(Az:((Ab (Ad d)).length:Int)=0):Pu 32 [.agg (Ou d)] (.ret (.Bf [.agg [.str Ai,.sl 1 [],.str Ai],.bool false])):=
 Ob.Ej (Wk.t (Co.c (Wk.a (kr (kn 1 (Co.r _)))) (Co.r _))) (pm A9 [rp 3 (B1 A7),sl (A5 (L0 d)),rp 2 (B1 A7),rp 4 (Ay Aa),rp 3 (B1 Am),sl (Tp.A0 (Ab (Ad d))),rp 2 (B1 Am),Bb Az] func32)
theorem A4r(d:Df)(hlen:(Ab (Ad d)).length<=10000000)(A7:Tu d=2)(Aa:¬((L0 d).length:Int)=0)(Am:AB (Ad d)=6)(Az:¬((Ab (Ad d)).length:Int)=0)(Xi:List BA)(kD:BA)(En:DF d (Ab (Ad d)) 0 [] Ai=MX.e0 Xi kD):Pu 32 [.agg (Ou d)] (.ret (.Bf [.agg [.str Ai,.sl 1 [],.str Ai],.bool false])):=
 Ob.Ej (Wk.t (Co.c (Wk.a (kr (kn 1 (Co.r _)))) (Co.r _))) (pu A9 (fun e=>[rp 3 (B1 A7),sl (A5 (L0 d)),rp 2 (B1 A7),rp 4 (Ay Aa),rp 3 (B1 Am),sl (Tp.A0 (Ab (Ad d))),rp 2 (B1 Am),Ay Az,lp (S.mk [(2,.lp 2 0),(4,.lp 4 0),(5,.lp 5 0),(6,A6 0)] [(2,[vS Ai,.v .A2,vS Ai]),(4,Cz (Ad d)),(5,[vS (D4 d),.v .A2,vS Ai])] e) (rz (gT (d) A7 Aa Am Az hlen (e) oM ([]) Ai (by (simp only [List.length_nil]; omega))) En) ⟨⟨W,W,W,W,B7⟩,⟨⟨W,W,W,B7⟩,⟨W,W,W,W,W,W,W,W,W,B7⟩,⟨W,Wq,W,B7⟩,B7⟩,rfl⟩]) func32)
theorem A4s(d:Df)(hlen:(Ab (Ad d)).length<=10000000)(A7:Tu d=2)(Aa:¬((L0 d).length:Int)=0)(Am:AB (Ad d)=6)(Az:¬((Ab (Ad d)).length:Int)=0)(Xi:List BA)(kD:BA)(En:DF d (Ab (Ad d)) 0 [] Ai=MX.e1 Xi kD):Pu 32 [.agg (Ou d)] (.ret (.Bf [.agg [.str (D4 d),.sl 1 (Ae Xi),.str kD],.bool true])):=
 pu A9 (fun e=>[rp 3 (B1 A7),sl (A5 (L0 d)),rp 2 (B1 A7),rp 4 (Ay Aa),rp 3 (B1 Am),sl (Tp.A0 (Ab (Ad d))),rp 2 (B1 Am),Ay Az,lp (S.mk [(2,.lp 2 0),(4,.lp 4 0),(5,.lp 5 0),(6,A6 0)] [(2,[vS Ai,.v .A2,vS Ai]),(4,Cz (Ad d)),(5,[vS (D4 d),.v .A2,vS Ai])] e) (rz (gT (d) A7 Aa Am Az hlen (e) oM ([]) Ai (by (simp only [List.length_nil]; omega))) En) ⟨⟨W,W,W,W,B7⟩,⟨⟨W,W,W,B7⟩,⟨W,W,W,W,W,W,W,W,W,B7⟩,⟨W,Wq,W,B7⟩,B7⟩,rfl⟩]) func32
theorem A4t(l:List Tp):(l.filter KB).length<=l.length:=List.length_filter_le _ _
theorem Wb:∀l:List Tp,l.all KB=true->l.filter KB=l
 | [],_=>rfl
 | x::r,h=>by
  rw [List.all_cons,Bool.and_eq_true] at h
  rw [List.filter_cons_of_pos h.1,Wb r h.2]
theorem Wc:∀l:List Tp,l.all KB=false->(l.filter KB).length<l.length
 | [],h=>by cases h
 | x::r,h=>by
  by_cases hx:KB x=true
  ·rw [List.all_cons,hx,Bool.true_and] at h
   rw [List.filter_cons_of_pos hx]
   have:=Wc r h
   simp only [List.length_cons]; omega
  ·rw [List.filter_cons_of_neg hx]
   have:=A4t r
   simp only [List.length_cons]; omega
def Me(d:Df):Bool:=if Tu d=2 then (if ((L0 d).length:Int)=0 then false else (if AB (Ad d)=6 then (if ((Ab (Ad d)).length:Int)=0 then false else (Ab (Ad d)).all KB) else false)) else false
def rfS(d:Df):Sy := .mk (D4 d) (((Ab (Ad d)).map Qt).take ((Ab (Ad d)).length - 1)) (((Ab (Ad d)).map Qt).getD ((Ab (Ad d)).length - 1) Ai)
def PZ(m:Mo):List Sy:=(B3 m).map Xk++((AW m).filter Me).map rfS
theorem uT:∀ (l:List Df) (out:List Sy),EN l out=out++(l.filter Me).map rfS
 | [],out=>by simp [EN]
 | d::r,out=>by
  have ih:=uT r
  have Vm:Me d=false->(d::r).filter Me=r.filter Me:=fun h=>List.filter_cons_of_neg (by rw [h]; decide)
  rw [EN]
  by_cases h1:Tu d=2
  ·rw [iP h1]
   by_cases h2:((L0 d).length:Int)=0
   ·rw [iP h2,ih,Vm (by unfold Me; rw [iP h1,iP h2])]
   ·rw [iN h2]
    by_cases h3:AB (Ad d)=6
    ·rw [iP h3]
     by_cases h4:((Ab (Ad d)).length:Int)=0
     ·rw [iP h4,ih,Vm (by unfold Me; rw [iP h1,iN h2,iP h3,iP h4])]
     ·rw [iN h4]
      have hb:Me d=(Ab (Ad d)).all KB:=by unfold Me; rw [iP h1,iN h2,iP h3,iN h4]
      rw [Wa,List.nil_append,List.length_map]
      cases ha:(Ab (Ad d)).all KB with
      | true=>
       rw [Wb _ ha,iP oM,ih,List.filter_cons_of_pos (by rw [hb]; exact ha),List.map_cons,List.append_assoc]
       have e:(((Ab (Ad d)).length:Int) - 1).toNat=(Ab (Ad d)).length - 1:=by omega
       rw [e]; rfl
      | false=>
       have:=Wc _ ha
       rw [iN oM,ih,Vm (by rw [hb]; exact ha)]
    ·rw [iN h3,ih,Vm (by unfold Me; rw [iP h1,iN h2,iN h3])]
  ·rw [iN h1,ih,Vm (by unfold Me; rw [iN h1])]
theorem uU(d:Df):∀ (l:List Tp) (i:Nat) (acc:List BA) (g:BA),l.length+i=(Ab (Ad d)).length ->
  (l.all KB=true->DF d l i acc g = .e1 (acc++(l.map Qt).take (l.length - 1)) ((l.map Qt).getLast?.getD g))/\(l.all KB=false->∃a b,DF d l i acc g = .e0 a b)
 | [],i,acc,g,_=>⟨fun _=>by simp [DF],fun h=>by cases h⟩
 | c::r,i,acc,g,h=>by
  have PN:∀s:BA,KB c=true->Qt c=s->DF d (c::r) i acc g=(if (i:Int)<((Ab (Ad d)).length:Int) - 1 then DF d r (i+1) (acc++[s]) g else DF d r (i+1) acc s)->((c::r).all KB=true->DF d (c::r) i acc g = .e1 (acc++((c::r).map Qt).take ((c::r).length - 1)) (((c::r).map Qt).getLast?.getD g))/\((c::r).all KB=false->∃a b,DF d (c::r) i acc g = .e0 a b):=by
   intro s hb hz he
   rw [List.all_cons,hb,Bool.true_and,he]
   simp only [List.length_cons] at h
   cases r with
   | nil=>
    rw [iN (by simp at h; omega)]
    refine ⟨fun _=>?_,fun h=>by cases h⟩
    simp [DF,hz]
   | cons c2 r2=>
    have ih:=uU d (c2::r2) (i+1) (acc++[s]) g (by simp only [List.length_cons] at h ⊢; omega)
    rw [iP (by simp only [List.length_cons] at h; omega)]
    refine ⟨fun ha=>?_,ih.2⟩
    rw [ih.1 ha]
    simp [hz]
  by_cases h1:AB c=1
  ·refine PN Gg (by simp [KB,h1]) (by simp [Qt,KB,baS,h1]) ?_
   rw [DF,iP h1]
  ·by_cases h2:AB c=2
   ·refine PN DP (by simp [KB,h2]) (by simp [Qt,KB,baS,h2]) ?_
    rw [DF,iN h1,iP h2]
   ·have hb:KB c=false:=by simp [KB,h1,h2]
    rw [List.all_cons,hb,Bool.false_and]
    refine ⟨fun h=>absurd h dD,fun _=>⟨acc,g,?_⟩⟩
    rw [DF,iN h1,iN h2]
def nN(d:Df):Sy:=if Me d=true then rfS d else .mk Ai [] Ai
theorem Adf(d:Df)(hlen:(Ab (Ad d)).length<=10000000):Pu 32 [.agg (Ou d)] (.ret (.Bf [.agg (Tv (nN d)),.bool (Me d)])):=by
 have Vm:Me d=false->Pu 32 [.agg (Ou d)] (.ret (.Bf [.agg [.str Ai,.sl 1 [],.str Ai],.bool false]))->Pu 32 [.agg (Ou d)] (.ret (.Bf [.agg (Tv (nN d)),.bool (Me d)])):=fun h hp=>by
  rw [nN,h,iN dD]; exact hp
 by_cases h1:Tu d=2
 ·by_cases h2:((L0 d).length:Int)=0
  ·exact Vm (by unfold Me; rw [iP h1,iP h2]) (A4o d hlen h1 h2)
  ·by_cases h3:AB (Ad d)=6
   ·by_cases h4:((Ab (Ad d)).length:Int)=0
    ·exact Vm (by unfold Me; rw [iP h1,iN h2,iP h3,iP h4]) (A4q d hlen h1 h2 h3 h4)
    ·have hb:Me d=(Ab (Ad d)).all KB:=by unfold Me; rw [iP h1,iN h2,iP h3,iN h4]
     have he:=uU d (Ab (Ad d)) 0 [] Ai rfl
     cases ha:(Ab (Ad d)).all KB with
     | true=>
      have h5:=A4s d hlen h1 h2 h3 h4 _ _ (he.1 ha)
      have hn:(Ab (Ad d)).map Qt≠[]:=fun e=>h4 (by have:=congrArg List.length e; simp at this; simp [this])
      have eg:((Ab (Ad d)).map Qt).getLast?.getD Ai=((Ab (Ad d)).map Qt).getD ((Ab (Ad d)).length - 1) Ai:=by
       rw [List.getLast?_eq_getElem?,List.length_map]; rfl
      rw [eg,List.nil_append] at h5
      rw [nN,hb,ha,iP rfl]
      exact h5
     | false=>
      obtain ⟨a,b,e⟩:=he.2 ha
      exact Vm (by rw [hb]; exact ha) (A4r d hlen h1 h2 h3 h4 a b e)
   ·exact Vm (by unfold Me; rw [iP h1,iN h2,iN h3]) (A4p d hlen h1 h2 h3)
 ·exact Vm (by unfold Me; rw [iN h1]) (A4n d hlen h1)
theorem gNd{m:Mo}{i:Nat}(hs:A3 (BD m)<=10000000)(h:i<(AW m).length):(Ab (Ad ((AW m).getD i default))).length<=10000000:=by
 have h1:=kE hs h
 have h2:=BY (Ad ((AW m).getD i default))
 have h3:=Tp.BS (Ab (Ad ((AW m).getD i default)))
 omega
theorem Ahm(m:Mo)(hN:(B3 m).length<=2000000):Pu 31 [.agg (BD m)] (.own 77 3 (Sy.cs ((B3 m).map Xk))):=Ahg m oM
abbrev uV(m:Mo)(j:Int)(out:List Sy)(e:Ext):S:=S.mk [(1,.lp 1 0),(2,.v .A2),(3,.uniq 77 3 (Sy.cs out)),(4,A6 j)] [(1,Er m)] e
def ID  : List Df->(List Sy)->(List Sy)
 | [],out=>(out)
 | el::r,out=>(if Me el=true then ID  r (out++[nN el]) else ID  r (out))
def gU(m:Mo)(e:Ext)(p:(List Sy)):A4 × S:=(.exit 0,S.mk [(1,.lp 1 0),(2,.v .A2),(3,.uniq 77 3 (Sy.cs p))] [(1,Er m)] e)
theorem ren(m:Mo)(XL:(B3 m).length<=2000000)(hs:A3 (BD m)<=10000000)(out:List Sy)(e:Ext)(hN:(AW m).length<=1000000000)(hv:List.length out<=List.length (B3 m)+0):(Ob.loop 31 (Au f13 0) (uV m 0 out e) (gU m e (ID  ((AW m))  out)).1 (gU m e (ID  ((AW m))  out)).2).ok prog:=by
 refine CL ((AW m).length) (fun j out=>uV m j out e) (fun i out=>ID  (List.drop i ((AW m)))  out) (gU m e) (fun i out=>(out.length<=(B3 m).length+i)) kR ?_ out (by first | exact hv | omega)
 rintro i out hi hv
 try simp only at hv
 rcases Nat.lt_or_ge i ((AW m).length) with Ac | Cm
 ·have hd:=At Ac
  by_cases h0:Me (List.getD (AW m) i default)=true
  ·exact lS A9 [sl (Df.A0 (AW m)),dt ((i:Int)<((AW m).length:Int)),J7 (AW m) (i:Int),SN (AW m) i Ac,cl (@Adf (List.getD (AW m) i default) (by (apply gNd <;> first | assumption | omega | decide))),AV h0,am (List.length (Sy.cs out++(fun x=>Prod.snd x) (2+1,[Tv (nN (List.getD (AW m) i default))])) * (55+1)<=140737488355328) (by (simp only [List.length_append,List.length_cons,List.length_nil,A5,Sy.A0]; omega)),wr ((i:Int)+1)] [1,2,3,4] [1] Ac (out++[nN (List.getD (AW m) i default)]) (S.mk [(1,.lp 1 0),(2,.v .A2),(3,.uniq 77 3 (Sy.cs out++[Tv (nN (List.getD (AW m) i default))])),(4,A6 ((i:Int)+1))] [(1,Er m)] e) ⟨⟨W,W,(.inl (by first | (simp only [List.nil_append,AK,AF,Pr.A1,Tp.A1,Ex.A1,Vr.A1,Df.A1,Sy.A1,Ho.A1,CN,DX]; done) | (simp only [List.nil_append,AK,AF,Pr.A1,Tp.A1,Ex.A1,Vr.A1,Df.A1,Sy.A1,Ho.A1,CN,DX]; rfl))),W,B7⟩,⟨Ws,B7⟩,rfl⟩ (by first | assumption | omega | (apply gNd <;> first | assumption | omega | decide) | (apply gMl <;> first | assumption | omega | decide) | (simp only [List.length_append,List.length_cons,List.length_nil] at *; omega) | simp_all) (by rw [hd,ID,iP h0])
  ·exact lN A9 [sl (Df.A0 (AW m)),dt ((i:Int)<((AW m).length:Int)),J7 (AW m) (i:Int),SN (AW m) i Ac,cl (@Adf (List.getD (AW m) i default) (by (apply gNd <;> first | assumption | omega | decide))),AM (Db h0),wr ((i:Int)+1)] Ac (out) (by first | assumption | omega | (apply gNd <;> first | assumption | omega | decide) | (apply gMl <;> first | assumption | omega | decide) | (simp only [List.length_append,List.length_cons,List.length_nil] at *; omega) | simp_all) (by rw [hd,ID,iN h0])
 ·have he:i=(AW m).length:=by omega
  exact lX A9 [sl (Df.A0 (AW m)),df ((i:Int)<((AW m).length:Int))] (out) (by rw [he,List.drop_length,ID])
theorem Ahn(m:Mo)(XL:(B3 m).length<=2000000)(hs:A3 (BD m)<=10000000)(Ti:(AW m).length<=1000000000):Pu 13 [.agg (BD m)] (.own 77 3 (Sy.cs (ID (AW m) (List.map Xk (B3 m))))):=
 pu A9 (fun e=>[cl (@Ahm (m) XL),lq (@ren (m) XL hs (List.map Xk (B3 m)) (e) Ti (by (simp only [List.length_map]; omega)))]) func13
theorem gV:∀ (l:List Df) (out:List Sy),ID l out=out++(l.filter Me).map rfS
 | [],out=>by simp [ID]
 | d::r,out=>by
  rw [ID]
  by_cases h:Me d=true
  ·rw [iP h,gV r,List.filter_cons_of_pos h,List.map_cons,List.append_assoc,nN,iP h]; rfl
  ·rw [iN h,gV r,List.filter_cons_of_neg h]
theorem UD(m:Mo)(hs:A3 (BD m)<=1048576):(∀w∈PZ m,(DW w).length<=1000000000)/\(PZ m).length<=1000000000:=by
 have h1:=Gi m
 have h2:=Ms.BS (B3 m)
 have h3:=Df.BS (AW m)
 constructor
 ·intro w hw
  rcases List.mem_append.1 hw with hw | hw
  ·obtain ⟨x,_,rfl⟩:=List.mem_map.1 hw
   simp [Xk,DW]
  ·obtain ⟨d,hd,rfl⟩:=List.mem_map.1 hw
   have hd:=(List.mem_filter.1 hd).1
   have h4:=Df.mem hd
   have h5:=Ij d
   have h6:=BY (Ad d)
   have h7:=Tp.BS (Ab (Ad d))
   have h8:(DW (rfS d)).length<=(Ab (Ad d)).length:=by
    simp only [rfS,DW,List.length_take,List.length_map]; omega
   omega
 ·unfold PZ
  have:=List.length_filter_le Me (AW m)
  simp only [List.length_append,List.length_map]; omega
theorem Aho(m:Mo)(hs:A3 (BD m)<=1048576):Pu 12 [.agg (BD m)] (.own 77 3 (Sy.cs (PZ m))):=by
 have h1:=Gi m
 have h2:=Ms.BS (B3 m)
 have h3:=Df.BS (AW m)
 have:=enL m oM oM oM
 rw [uT] at this
 exact this
theorem Adg(m:Mo)(hs:A3 (BD m)<=1048576):Pu 13 [.agg (BD m)] (.own 77 3 (Sy.cs (PZ m))):=by
 have h1:=Gi m
 have h2:=Ms.BS (B3 m)
 have h3:=Df.BS (AW m)
 have:=Ahn m oM oM oM
 rw [gV] at this
 exact this
theorem OX{s:BA}(h:CJ (BE s)=0):(0:Int)<=0/\(0:Int)<(s.size:Int):=FH h
section
variable (s:BA)
include s
theorem Adh(A7:s=ByteArray.mk #[73,110,116]):Pu 41 [.str s] (rI 0):=
 pm A9 [rp 2 (bt (ByteArray.toList s==ByteArray.toList (ByteArray.mk #[73,110,116])) (BI A7))] func41
theorem Adi(A7:¬s=ByteArray.mk #[73,110,116])(Aa:s=ByteArray.mk #[66,111,111,108]):Pu 41 [.str s] (rI 0):=
 pm A9 [bf (ByteArray.toList s==ByteArray.toList (ByteArray.mk #[73,110,116])) (Bp A7),rp 2 (bt (ByteArray.toList s==ByteArray.toList (ByteArray.mk #[66,111,111,108])) (BI Aa))] func41
theorem Adj(A7:¬s=ByteArray.mk #[73,110,116])(Aa:¬s=ByteArray.mk #[66,111,111,108])(Am:s=ByteArray.mk #[67,101,108,108]):Pu 41 [.str s] (rI 0):=
 pm A9 [bf (ByteArray.toList s==ByteArray.toList (ByteArray.mk #[73,110,116])) (Bp A7),bf (ByteArray.toList s==ByteArray.toList (ByteArray.mk #[66,111,111,108])) (Bp Aa),bt (ByteArray.toList s==ByteArray.toList (ByteArray.mk #[67,101,108,108])) (BI Am)] func41
theorem Adk(A7:¬s=ByteArray.mk #[73,110,116])(Aa:¬s=ByteArray.mk #[66,111,111,108])(Am:¬s=ByteArray.mk #[67,101,108,108])(Az:¬CJ (BE s)=0):Pu 41 [.str s] (rI 11):=
 pm A9 [bf (ByteArray.toList s==ByteArray.toList (ByteArray.mk #[73,110,116])) (Bp A7),bf (ByteArray.toList s==ByteArray.toList (ByteArray.mk #[66,111,111,108])) (Bp Aa),bf (ByteArray.toList s==ByteArray.toList (ByteArray.mk #[67,101,108,108])) (Bp Am),cl (@OA (s)),rp 4 (Bi Az),rp 5 (bt true)] func41
theorem Adl(A7:¬s=ByteArray.mk #[73,110,116])(Aa:¬s=ByteArray.mk #[66,111,111,108])(Am:¬s=ByteArray.mk #[67,101,108,108])(Az:CJ (BE s)=0)(AP:(↑(UInt8.toNat (List.getD (Array.toList (ByteArray.data s)) (Int.toNat 0) default)):Int)<65):Pu 41 [.str s] (rI 11):=
 pm A9 [bf (ByteArray.toList s==ByteArray.toList (ByteArray.mk #[73,110,116])) (Bp A7),bf (ByteArray.toList s==ByteArray.toList (ByteArray.mk #[66,111,111,108])) (Bp Aa),bf (ByteArray.toList s==ByteArray.toList (ByteArray.mk #[67,101,108,108])) (Bp Am),cl (@OA (s)),rp 2 (B1 Az),kp,am ((0:Int)<=0/\0<(↑(ByteArray.size s):Int)) (by (apply OX <;> first | assumption | omega | decide)),rp 2 (B1 Az),rp 4 (BL AP),bt true] func41
theorem Adm(A7:¬s=ByteArray.mk #[73,110,116])(Aa:¬s=ByteArray.mk #[66,111,111,108])(Am:¬s=ByteArray.mk #[67,101,108,108])(Az:CJ (BE s)=0)(AP:¬(↑(UInt8.toNat (List.getD (Array.toList (ByteArray.data s)) (Int.toNat 0) default)):Int)<65)(Bu:(↑(UInt8.toNat (List.getD (Array.toList (ByteArray.data s)) (Int.toNat 0) default)):Int)>90):Pu 41 [.str s] (rI 11):=
 pm A9 [bf (ByteArray.toList s==ByteArray.toList (ByteArray.mk #[73,110,116])) (Bp A7),bf (ByteArray.toList s==ByteArray.toList (ByteArray.mk #[66,111,111,108])) (Bp Aa),bf (ByteArray.toList s==ByteArray.toList (ByteArray.mk #[67,101,108,108])) (Bp Am),cl (@OA (s)),rp 2 (B1 Az),kp,am ((0:Int)<=0/\0<(↑(ByteArray.size s):Int)) (by (apply OX <;> first | assumption | omega | decide)),rp 2 (B1 Az),rp 2 (Ar AP),kp,am ((0:Int)<=0/\0<(↑(ByteArray.size s):Int)) (by (apply OX <;> first | assumption | omega | decide)),rp 2 (Ar AP),BL Bu] func41
theorem Adn(A7:¬s=ByteArray.mk #[73,110,116])(Aa:¬s=ByteArray.mk #[66,111,111,108])(Am:¬s=ByteArray.mk #[67,101,108,108])(Az:CJ (BE s)=0)(AP:¬(↑(UInt8.toNat (List.getD (Array.toList (ByteArray.data s)) (Int.toNat 0) default)):Int)<65)(Bu:¬(↑(UInt8.toNat (List.getD (Array.toList (ByteArray.data s)) (Int.toNat 0) default)):Int)>90):Pu 41 [.str s] (rI 0):=
 pm A9 [bf (ByteArray.toList s==ByteArray.toList (ByteArray.mk #[73,110,116])) (Bp A7),bf (ByteArray.toList s==ByteArray.toList (ByteArray.mk #[66,111,111,108])) (Bp Aa),bf (ByteArray.toList s==ByteArray.toList (ByteArray.mk #[67,101,108,108])) (Bp Am),cl (@OA (s)),rp 2 (B1 Az),kp,am ((0:Int)<=0/\0<(↑(ByteArray.size s):Int)) (by (apply OX <;> first | assumption | omega | decide)),rp 2 (B1 Az),rp 2 (Ar AP),kp,am ((0:Int)<=0/\0<(↑(ByteArray.size s):Int)) (by (apply OX <;> first | assumption | omega | decide)),rp 2 (Ar AP),Ar Bu] func41
theorem Ado(A7:s=ByteArray.mk #[73,110,116]):Pu 50 [.str s] (rI 0):=
 pm A9 [rp 3 (bt (ByteArray.toList s==ByteArray.toList (ByteArray.mk #[73,110,116])) (BI A7)),rp 4 (bt true)] func50
theorem Adp(A7:¬s=ByteArray.mk #[73,110,116])(Aa:s=ByteArray.mk #[66,111,111,108]):Pu 50 [.str s] (rI 0):=
 pm A9 [rp 3 (bf (ByteArray.toList s==ByteArray.toList (ByteArray.mk #[73,110,116])) (Bp A7)),rp 3 (bt (ByteArray.toList s==ByteArray.toList (ByteArray.mk #[66,111,111,108])) (BI Aa)),bt true] func50
theorem Adq(A7:¬s=ByteArray.mk #[73,110,116])(Aa:¬s=ByteArray.mk #[66,111,111,108])(Am:s=ByteArray.mk #[67,101,108,108]):Pu 50 [.str s] (rI 0):=
 pm A9 [rp 3 (bf (ByteArray.toList s==ByteArray.toList (ByteArray.mk #[73,110,116])) (Bp A7)),rp 3 (bf (ByteArray.toList s==ByteArray.toList (ByteArray.mk #[66,111,111,108])) (Bp Aa)),bt (ByteArray.toList s==ByteArray.toList (ByteArray.mk #[67,101,108,108])) (BI Am)] func50
theorem Adr(A7:¬s=ByteArray.mk #[73,110,116])(Aa:¬s=ByteArray.mk #[66,111,111,108])(Am:¬s=ByteArray.mk #[67,101,108,108])(Az:(↑(ByteArray.size s):Int)>0)(AP:(↑(UInt8.toNat (List.getD (Array.toList (ByteArray.data s)) (Int.toNat 0) default)):Int)>=65)(Bu:(↑(UInt8.toNat (List.getD (Array.toList (ByteArray.data s)) (Int.toNat 0) default)):Int)<=90)(En:CJ (BE s)=0):Pu 50 [.str s] (rI 0):=
 pm A9 [rp 3 (bf (ByteArray.toList s==ByteArray.toList (ByteArray.mk #[73,110,116])) (Bp A7)),rp 3 (bf (ByteArray.toList s==ByteArray.toList (ByteArray.mk #[66,111,111,108])) (Bp Aa)),bf (ByteArray.toList s==ByteArray.toList (ByteArray.mk #[67,101,108,108])) (Bp Am),kp,rp 2 (BL Az),kp,am ((0:Int)<=0/\0<(↑(ByteArray.size s):Int)),rp 2 (BL Az),rp 2 (BL AP),kp,am ((0:Int)<=0/\0<(↑(ByteArray.size s):Int)),rp 2 (BL AP),rp 2 (BL Bu),cl (@Pj (s)),rp 2 (BL Bu),Bb En] func50
theorem Ads(A7:¬s=ByteArray.mk #[73,110,116])(Aa:¬s=ByteArray.mk #[66,111,111,108])(Am:¬s=ByteArray.mk #[67,101,108,108])(Az:(↑(ByteArray.size s):Int)>0)(AP:(↑(UInt8.toNat (List.getD (Array.toList (ByteArray.data s)) (Int.toNat 0) default)):Int)>=65)(Bu:(↑(UInt8.toNat (List.getD (Array.toList (ByteArray.data s)) (Int.toNat 0) default)):Int)<=90)(En:¬CJ (BE s)=0):Pu 50 [.str s] (rI 11):=
 pm A9 [rp 3 (bf (ByteArray.toList s==ByteArray.toList (ByteArray.mk #[73,110,116])) (Bp A7)),rp 3 (bf (ByteArray.toList s==ByteArray.toList (ByteArray.mk #[66,111,111,108])) (Bp Aa)),bf (ByteArray.toList s==ByteArray.toList (ByteArray.mk #[67,101,108,108])) (Bp Am),kp,rp 2 (BL Az),kp,am ((0:Int)<=0/\0<(↑(ByteArray.size s):Int)),rp 2 (BL Az),rp 2 (BL AP),kp,am ((0:Int)<=0/\0<(↑(ByteArray.size s):Int)),rp 2 (BL AP),rp 2 (BL Bu),cl (@Pj (s)),rp 2 (BL Bu),Ay En] func50
theorem Adt(A7:¬s=ByteArray.mk #[73,110,116])(Aa:¬s=ByteArray.mk #[66,111,111,108])(Am:¬s=ByteArray.mk #[67,101,108,108])(Az:(↑(ByteArray.size s):Int)>0)(AP:(↑(UInt8.toNat (List.getD (Array.toList (ByteArray.data s)) (Int.toNat 0) default)):Int)>=65)(Bu:¬(↑(UInt8.toNat (List.getD (Array.toList (ByteArray.data s)) (Int.toNat 0) default)):Int)<=90):Pu 50 [.str s] (rI 11):=
 pm A9 [rp 3 (bf (ByteArray.toList s==ByteArray.toList (ByteArray.mk #[73,110,116])) (Bp A7)),rp 3 (bf (ByteArray.toList s==ByteArray.toList (ByteArray.mk #[66,111,111,108])) (Bp Aa)),bf (ByteArray.toList s==ByteArray.toList (ByteArray.mk #[67,101,108,108])) (Bp Am),kp,rp 2 (BL Az),kp,am ((0:Int)<=0/\0<(↑(ByteArray.size s):Int)),rp 2 (BL Az),rp 2 (BL AP),kp,am ((0:Int)<=0/\0<(↑(ByteArray.size s):Int)),rp 2 (BL AP),rp 4 (Ar Bu),bf false] func50
theorem Adu(A7:¬s=ByteArray.mk #[73,110,116])(Aa:¬s=ByteArray.mk #[66,111,111,108])(Am:¬s=ByteArray.mk #[67,101,108,108])(Az:(↑(ByteArray.size s):Int)>0)(AP:¬(↑(UInt8.toNat (List.getD (Array.toList (ByteArray.data s)) (Int.toNat 0) default)):Int)>=65):Pu 50 [.str s] (rI 11):=
 pm A9 [rp 3 (bf (ByteArray.toList s==ByteArray.toList (ByteArray.mk #[73,110,116])) (Bp A7)),rp 3 (bf (ByteArray.toList s==ByteArray.toList (ByteArray.mk #[66,111,111,108])) (Bp Aa)),bf (ByteArray.toList s==ByteArray.toList (ByteArray.mk #[67,101,108,108])) (Bp Am),kp,rp 2 (BL Az),kp,am ((0:Int)<=0/\0<(↑(ByteArray.size s):Int)),rp 2 (BL Az),rp 4 (Ar AP),rp 5 (bf false)] func50
theorem Adv(A7:¬s=ByteArray.mk #[73,110,116])(Aa:¬s=ByteArray.mk #[66,111,111,108])(Am:¬s=ByteArray.mk #[67,101,108,108])(Az:¬(↑(ByteArray.size s):Int)>0):Pu 50 [.str s] (rI 11):=
 pm A9 [rp 3 (bf (ByteArray.toList s==ByteArray.toList (ByteArray.mk #[73,110,116])) (Bp A7)),rp 3 (bf (ByteArray.toList s==ByteArray.toList (ByteArray.mk #[66,111,111,108])) (Bp Aa)),bf (ByteArray.toList s==ByteArray.toList (ByteArray.mk #[67,101,108,108])) (Bp Am),kp,rp 4 (Ar Az),rp 9 (bf false)] func50
end
theorem imC(u:Ms)(name:BA):Pu 81 [.agg (mC u),.ro [.str name] 0] (rB (ByteArray.toList (El u)==ByteArray.toList name)):=
 pm A9 [] func81
theorem idC(u:Df)(name:BA):Pu 83 [.agg (Ou u),.ro [.str name] 0] (rB (ByteArray.toList (D4 u)==ByteArray.toList name)):=
 pm A9 [] func83
theorem iaC(u:Vr)(b:Vr):Pu 40 [.agg (FU u),.ro (FU b) 0] (rB (ByteArray.toList (AE u)==ByteArray.toList (AE b))):=
 pm A9 [] func40
theorem ibC(u:Bo)(b:Bo):Pu 44 [.agg (KH u),.ro (KH b) 0] (rB (ByteArray.toList (Cd u)==ByteArray.toList (Cd b))):=
 pm A9 [] func44
abbrev uW(l:List Ms)(name:BA)(j:Int)(e:Ext):S:=S.mk [(0,vL 8 (Ms.cs l)),(1,.v (.fn (.func 81) [] [.ro [.str name] 0])),(7,A6 (l.length:Int)),(8,A6 j)] [] e
inductive MY where
 | e0 (i:Nat)
 | e1
def IE(name:BA):List Ms->Nat->MY
 | [],i=>(MY.e1)
 | el::r,i=>(if El el=name then (MY.e0 i) else IE name r (i+1))
def gW(l:List Ms)(name:BA)(e:Ext):MY->A4 × S
 | .e0 i=>(.ret,S.mk [(0,vL 8 (Ms.cs l)),(1,.v (.fn (.func 81) [] [.ro [.str name] 0])),(7,A6 (l.length:Int)),(4,A6 (i:Int))] [] e)
 | .e1=>(.exit 0,S.mk [(0,vL 8 (Ms.cs l)),(1,.v (.fn (.func 81) [] [.ro [.str name] 0])),(7,A6 (l.length:Int))] [] e)
theorem gX(l:List Ms)(name:BA)(e:Ext)(hN:l.length<=1000000000):(Ob.loop 19 (Au f130 0) (uW l name 0  e) (gW l name e (IE name (l) 0)).1 (gW l name e (IE name (l) 0)).2).ok prog:=by
 refine CL l.length (fun j _=>uW l name j  e) (fun i _=>IE name (List.drop i (l)) i) (gW l name e) (fun i _=>True) kR ?_ () trivial
 rintro i u hi -
 rcases Nat.lt_or_ge i (l.length) with Ac | Cm
 ·have hd:=At Ac
  by_cases h0:El (List.getD l i default)=name
  ·exact lX A9 [dt ((i:Int)<(l.length:Int)),Ng l (i:Int),XD l i Ac,cl (@imC (List.getD l i default) (name)),bt (ByteArray.toList (El (List.getD l i default))==ByteArray.toList name) (BI h0)] (MY.e0 i) (by rw [hd,IE,iP h0])
  ·exact lN A9 [dt ((i:Int)<(l.length:Int)),Ng l (i:Int),XD l i Ac,cl (@imC (List.getD l i default) (name)),bf (ByteArray.toList (El (List.getD l i default))==ByteArray.toList name) (Bp h0),wr ((i:Int)+1)] Ac () trivial (by rw [hd,IE,iN h0])
 ·have he:i=l.length:=by omega
  exact lX A9 [df ((i:Int)<(l.length:Int))] (MY.e1) (by rw [he,List.drop_length,IE])
section
variable (l:List Ms) (name:BA) (Br:l.length<=1000000000)
include l name Br
theorem Adw(CX:Nat)(Aa:IE name l 0=MY.e0 CX):Pu 130 [.sl 8 (Ms.cs l),.fn (.func 81) [] [.ro [.str name] 0]] (rI (CX:Int)):=
 pu A9 (fun e=>[sl (Ms.A0 l),lq (rz (gX (l) (name) (e) Br) Aa)]) func130
theorem Adx(A7:IE name l 0=MY.e1):Pu 130 [.sl 8 (Ms.cs l),.fn (.func 81) [] [.ro [.str name] 0]] (rI (-1)):=
 pu A9 (fun e=>[sl (Ms.A0 l),lq (rz (gX (l) (name) (e) Br) A7)]) func130
end
abbrev uX(l:List Df)(name:BA)(j:Int)(e:Ext):S:=S.mk [(0,vL 25 (Df.cs l)),(1,.v (.fn (.func 83) [] [.ro [.str name] 0])),(7,A6 (l.length:Int)),(8,A6 j)] [] e
inductive MZ where
 | e0 (i:Nat)
 | e1
def IF(name:BA):List Df->Nat->MZ
 | [],i=>(MZ.e1)
 | el::r,i=>(if D4 el=name then (MZ.e0 i) else IF name r (i+1))
def gY(l:List Df)(name:BA)(e:Ext):MZ->A4 × S
 | .e0 i=>(.ret,S.mk [(0,vL 25 (Df.cs l)),(1,.v (.fn (.func 83) [] [.ro [.str name] 0])),(7,A6 (l.length:Int)),(4,A6 (i:Int))] [] e)
 | .e1=>(.exit 0,S.mk [(0,vL 25 (Df.cs l)),(1,.v (.fn (.func 83) [] [.ro [.str name] 0])),(7,A6 (l.length:Int))] [] e)
theorem gZ(l:List Df)(name:BA)(e:Ext)(hN:l.length<=1000000000):(Ob.loop 19 (Au f131 0) (uX l name 0  e) (gY l name e (IF name (l) 0)).1 (gY l name e (IF name (l) 0)).2).ok prog:=by
 refine CL l.length (fun j _=>uX l name j  e) (fun i _=>IF name (List.drop i (l)) i) (gY l name e) (fun i _=>True) kR ?_ () trivial
 rintro i u hi -
 rcases Nat.lt_or_ge i (l.length) with Ac | Cm
 ·have hd:=At Ac
  by_cases h0:D4 (List.getD l i default)=name
  ·exact lX A9 [dt ((i:Int)<(l.length:Int)),J7 l (i:Int),SN l i Ac,cl (@idC (List.getD l i default) (name)),bt (ByteArray.toList (D4 (List.getD l i default))==ByteArray.toList name) (BI h0)] (MZ.e0 i) (by rw [hd,IF,iP h0])
  ·exact lN A9 [dt ((i:Int)<(l.length:Int)),J7 l (i:Int),SN l i Ac,cl (@idC (List.getD l i default) (name)),bf (ByteArray.toList (D4 (List.getD l i default))==ByteArray.toList name) (Bp h0),wr ((i:Int)+1)] Ac () trivial (by rw [hd,IF,iN h0])
 ·have he:i=l.length:=by omega
  exact lX A9 [df ((i:Int)<(l.length:Int))] (MZ.e1) (by rw [he,List.drop_length,IF])
section
variable (l:List Df) (name:BA) (Br:l.length<=1000000000)
include l name Br
theorem Ady(CX:Nat)(Aa:IF name l 0=MZ.e0 CX):Pu 131 [.sl 25 (Df.cs l),.fn (.func 83) [] [.ro [.str name] 0]] (rI (CX:Int)):=
 pu A9 (fun e=>[sl (Df.A0 l),lq (rz (gZ (l) (name) (e) Br) Aa)]) func131
theorem Adz(A7:IF name l 0=MZ.e1):Pu 131 [.sl 25 (Df.cs l),.fn (.func 83) [] [.ro [.str name] 0]] (rI (-1)):=
 pu A9 (fun e=>[sl (Df.A0 l),lq (rz (gZ (l) (name) (e) Br) A7)]) func131
end
abbrev uY(l:List Vr)(b:Vr)(j:Int)(e:Ext):S:=S.mk [(0,vL 2 (Vr.cs l)),(1,.v (.fn (.func 40) [] [.ro (FU b) 0])),(7,A6 (l.length:Int)),(8,A6 j)] [] e
inductive N0 where
 | e0 (i:Nat)
 | e1
def IG(b:Vr):List Vr->Nat->N0
 | [],i=>(N0.e1)
 | el::r,i=>(if AE el=AE b then (N0.e0 i) else IG b r (i+1))
def iA(l:List Vr)(b:Vr)(e:Ext):N0->A4 × S
 | .e0 i=>(.ret,S.mk [(0,vL 2 (Vr.cs l)),(1,.v (.fn (.func 40) [] [.ro (FU b) 0])),(7,A6 (l.length:Int)),(4,A6 (i:Int))] [] e)
 | .e1=>(.exit 0,S.mk [(0,vL 2 (Vr.cs l)),(1,.v (.fn (.func 40) [] [.ro (FU b) 0])),(7,A6 (l.length:Int))] [] e)
theorem iB(l:List Vr)(b:Vr)(e:Ext)(hN:l.length<=1000000000):(Ob.loop 19 (Au f84 0) (uY l b 0  e) (iA l b e (IG b (l) 0)).1 (iA l b e (IG b (l) 0)).2).ok prog:=by
 refine CL l.length (fun j _=>uY l b j  e) (fun i _=>IG b (List.drop i (l)) i) (iA l b e) (fun i _=>True) kR ?_ () trivial
 rintro i u hi -
 rcases Nat.lt_or_ge i (l.length) with Ac | Cm
 ·have hd:=At Ac
  by_cases h0:AE (List.getD l i default)=AE b
  ·exact lX A9 [dt ((i:Int)<(l.length:Int)),D2 l (i:Int),Gn l i Ac,cl (@iaC (List.getD l i default) (b)),bt (ByteArray.toList (AE (List.getD l i default))==ByteArray.toList (AE b)) (BI h0)] (N0.e0 i) (by rw [hd,IG,iP h0])
  ·exact lN A9 [dt ((i:Int)<(l.length:Int)),D2 l (i:Int),Gn l i Ac,cl (@iaC (List.getD l i default) (b)),bf (ByteArray.toList (AE (List.getD l i default))==ByteArray.toList (AE b)) (Bp h0),wr ((i:Int)+1)] Ac () trivial (by rw [hd,IG,iN h0])
 ·have he:i=l.length:=by omega
  exact lX A9 [df ((i:Int)<(l.length:Int))] (N0.e1) (by rw [he,List.drop_length,IG])
section
variable (l:List Vr) (b:Vr) (Br:l.length<=1000000000)
include l b Br
theorem Ae0(CX:Nat)(Aa:IG b l 0=N0.e0 CX):Pu 84 [.sl 2 (Vr.cs l),.fn (.func 40) [] [.ro (FU b) 0]] (rI (CX:Int)):=
 pu A9 (fun e=>[sl (Vr.A0 l),lq (rz (iB (l) (b) (e) Br) Aa)]) func84
theorem Ae1(A7:IG b l 0=N0.e1):Pu 84 [.sl 2 (Vr.cs l),.fn (.func 40) [] [.ro (FU b) 0]] (rI (-1)):=
 pu A9 (fun e=>[sl (Vr.A0 l),lq (rz (iB (l) (b) (e) Br) A7)]) func84
end
abbrev uZ(l:List Bo)(b:Bo)(j:Int)(e:Ext):S:=S.mk [(0,vL 10 (Bo.cs l)),(1,.v (.fn (.func 44) [] [.ro (.str (Cd b) :: .sl 2 (Vr.cs (B6 b))::pI (Af (Cv b)) :: .str (Aj (Cv b))::pI (Bq (Cv b)) :: .sl 4 (Pr.cs (Av (Cv b)))::AN (EU b)) 0])),(7,A6 (l.length:Int)),(8,A6 j)] [] e
inductive N1 where
 | e0 (i:Nat)
 | e1
def II(b:Bo):List Bo->Nat->N1
 | [],i=>(N1.e1)
 | el::r,i=>(if Cd el=Cd b then (N1.e0 i) else II b r (i+1))
def iC(l:List Bo)(b:Bo)(e:Ext):N1->A4 × S
 | .e0 i=>(.ret,S.mk [(0,vL 10 (Bo.cs l)),(1,.v (.fn (.func 44) [] [.ro (.str (Cd b) :: .sl 2 (Vr.cs (B6 b))::pI (Af (Cv b)) :: .str (Aj (Cv b))::pI (Bq (Cv b)) :: .sl 4 (Pr.cs (Av (Cv b)))::AN (EU b)) 0])),(7,A6 (l.length:Int)),(4,A6 (i:Int))] [] e)
 | .e1=>(.exit 0,S.mk [(0,vL 10 (Bo.cs l)),(1,.v (.fn (.func 44) [] [.ro (.str (Cd b) :: .sl 2 (Vr.cs (B6 b))::pI (Af (Cv b)) :: .str (Aj (Cv b))::pI (Bq (Cv b)) :: .sl 4 (Pr.cs (Av (Cv b)))::AN (EU b)) 0])),(7,A6 (l.length:Int))] [] e)
theorem iD(l:List Bo)(b:Bo)(e:Ext)(hN:l.length<=1000000000):(Ob.loop 19 (Au f87 0) (uZ l b 0  e) (iC l b e (II b (l) 0)).1 (iC l b e (II b (l) 0)).2).ok prog:=by
 refine CL l.length (fun j _=>uZ l b j  e) (fun i _=>II b (List.drop i (l)) i) (iC l b e) (fun i _=>True) kR ?_ () trivial
 rintro i u hi -
 rcases Nat.lt_or_ge i (l.length) with Ac | Cm
 ·have hd:=At Ac
  by_cases h0:Cd (List.getD l i default)=Cd b
  ·exact lX A9 [dt ((i:Int)<(l.length:Int)),L2 l (i:Int),Uk l i Ac,cl (@ibC (List.getD l i default) (b)),bt (ByteArray.toList (Cd (List.getD l i default))==ByteArray.toList (Cd b)) (BI h0)] (N1.e0 i) (by rw [hd,II,iP h0])
  ·exact lN A9 [dt ((i:Int)<(l.length:Int)),L2 l (i:Int),Uk l i Ac,cl (@ibC (List.getD l i default) (b)),bf (ByteArray.toList (Cd (List.getD l i default))==ByteArray.toList (Cd b)) (Bp h0),wr ((i:Int)+1)] Ac () trivial (by rw [hd,II,iN h0])
 ·have he:i=l.length:=by omega
  exact lX A9 [df ((i:Int)<(l.length:Int))] (N1.e1) (by rw [he,List.drop_length,II])
section
variable (l:List Bo) (b:Bo) (Br:l.length<=1000000000)
include l b Br
theorem Ae2(CX:Nat)(Aa:II b l 0=N1.e0 CX):Pu 87 [.sl 10 (Bo.cs l),.fn (.func 44) [] [.ro (KH b) 0]] (rI (CX:Int)):=
 pu A9 (fun e=>[sl (Bo.A0 l),lq (rz (iD (l) (b) (e) Br) Aa)]) func87
theorem Ae3(A7:II b l 0=N1.e1):Pu 87 [.sl 10 (Bo.cs l),.fn (.func 44) [] [.ro (KH b) 0]] (rI (-1)):=
 pu A9 (fun e=>[sl (Bo.A0 l),lq (rz (iD (l) (b) (e) Br) A7)]) func87
end
end Go.Proofs.YthchpmnkecoafaaGreatDoor
