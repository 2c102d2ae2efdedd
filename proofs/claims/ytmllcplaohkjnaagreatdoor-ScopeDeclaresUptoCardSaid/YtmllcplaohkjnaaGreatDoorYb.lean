/- Values of Go as plain data, an evaluator over them, and what the functions of the program return; part Yb. -/
import Derived.Test.YtmllcplaohkjnaaGreatDoorYa
set_option linter.unusedSectionVars false
set_option linter.unusedSimpArgs false
set_option linter.unusedVariables false
namespace Go.Proofs.YtmllcplaohkjnaaGreatDoor
open Go.Proofs.Tryz
open Go.Pv Go.Proofs.Tryz
set_option maxRecDepth 100000
theorem A18{c:Cl}{i:Nat}(ht:∀p∈B9 c,(AP (Co p)).length<=1048576)(h:i<(B9 c).length):((AP (Co ((B9 c).getD i default))).length:Int) - 1<=9223372036854775807:=by
 have:=ht _ (Bk h); omega
theorem m4{m:Mo}{o:Nat}(ht:∀c∈AA m,∀p∈B9 c,(AP (Co p)).length<=1048576)(ho:o<(AA m).length):∀p∈B9 ((AA m).getD o default),(AP (Co p)).length<=1048576:=ht _ (Bk ho)
def xV(p:Pm):Int:=if Bd (Co p)=6 then (if ((AP (Co p)).length:Int) - 1>0 then ((AP (Co p)).length:Int) - 1 else 0) else 0
abbrev LO(m:Mo)(c:Cl)(name:BA)(o:Int)(xe:Ext)(j:Int)   : S:=S.mk [(1,vS name),(4,A2 0),(5,.v (.bool false)),(23,vL 3 (Cl.cs (AA m))),(24,A2 ((AA m).length:Int)),(25,A2 o),(30,vL 10 (Pm.cs (B9 c))),(31,A2 ((B9 c).length:Int)),(32,A2 j)] [] xe
section
variable (m:Mo) (c:Cl) (name:BA) (o:Int) (xe:Ext) (ht:∀p∈B9 c,(AP (Co p)).length<=1048576) (i:Nat)
include m c name o xe ht i
theorem rO(hi:i<(B9 c).length)(hN:(B9 c).length<=1000000000)(Ak:¬BR (List.getD (B9 c) i default)=name)(cx:Cx)(AH:cx.n=52){Q:A7->S->Prop}(hq:Q (.normal) (S.mk [(1,vS name),(4,A2 0),(5,.v (.bool false)),(23,vL 3 (Cl.cs (AA m))),(24,A2 ((AA m).length:Int)),(25,A2 o),(30,vL 10 (Pm.cs (B9 c))),(31,A2 ((B9 c).length:Int)),(32,A2 ((i:Int)+1))] [] xe)):PW prog cx (Am f12 1) (LO m c name o xe (i:Int)) Q:=
 pw An 52 [dt ((i:Int)<((B9 c).length:Int)),am ((0:Int)<=(i:Int)/\(i:Int)<((Pm.cs (B9 c)).length:Int)) (by (simp only [Pm.A0]; omega)),rG (B9 c) i hi,bt (!ByteArray.toList (BR (List.getD (B9 c) i default))==ByteArray.toList name) (BH (HT Ak)),wr ((i:Int)+1)] [1,4,5,23,24,25,30,31,32] [] AH hq
theorem rP(hi:i<(B9 c).length)(hN:(B9 c).length<=1000000000)(Ak:BR (List.getD (B9 c) i default)=name)(Au:Bd (Co (List.getD (B9 c) i default))=6)(cx:Cx)(AH:cx.n=52){Q:A7->S->Prop}(hq:Q (.ret) (S.mk [(1,vS name),(4,A2 (EU true 0 (((AP (Co (List.getD (B9 c) i default))).length:Int) - 1))),(5,.v (.bool true)),(23,vL 3 (Cl.cs (AA m))),(24,A2 ((AA m).length:Int)),(25,A2 o),(30,vL 10 (Pm.cs (B9 c))),(31,A2 ((B9 c).length:Int)),(32,A2 (i:Int))] [] xe)):PW prog cx (Am f12 1) (LO m c name o xe (i:Int)) Q:=
 pw An 52 [dt ((i:Int)<((B9 c).length:Int)),am ((0:Int)<=(i:Int)/\(i:Int)<((Pm.cs (B9 c)).length:Int)) (by (simp only [Pm.A0]; omega)),rG (B9 c) i hi,bf (!ByteArray.toList (BR (List.getD (B9 c) i default))==ByteArray.toList name) (B3 (DZ Ak)),CT Au,sl (Tp.A0 (AP (Co (List.getD (B9 c) i default)))),wr (((AP (Co (List.getD (B9 c) i default))).length:Int) - 1) oM (by (apply A18 <;> first | assumption | omega | decide))] [1,4,5,23,24,25,30,31,32] [] AH hq
theorem rQ(hi:i<(B9 c).length)(hN:(B9 c).length<=1000000000)(Ak:BR (List.getD (B9 c) i default)=name)(Au:¬Bd (Co (List.getD (B9 c) i default))=6)(cx:Cx)(AH:cx.n=52){Q:A7->S->Prop}(hq:Q (.ret) (S.mk [(1,vS name),(4,A2 0),(5,.v (.bool true)),(23,vL 3 (Cl.cs (AA m))),(24,A2 ((AA m).length:Int)),(25,A2 o),(30,vL 10 (Pm.cs (B9 c))),(31,A2 ((B9 c).length:Int)),(32,A2 (i:Int))] [] xe)):PW prog cx (Am f12 1) (LO m c name o xe (i:Int)) Q:=
 pw An 52 [dt ((i:Int)<((B9 c).length:Int)),am ((0:Int)<=(i:Int)/\(i:Int)<((Pm.cs (B9 c)).length:Int)) (by (simp only [Pm.A0]; omega)),rG (B9 c) i hi,bf (!ByteArray.toList (BR (List.getD (B9 c) i default))==ByteArray.toList name) (B3 (DZ Ak)),As Au] [1,4,5,23,24,25,30,31,32] [] AH hq
theorem rR(hi:i=(B9 c).length)(hN:(B9 c).length<=1000000000)(cx:Cx)(AH:cx.n=52){Q:A7->S->Prop}(hq:Q (.exit 2) (S.mk [(1,vS name),(4,A2 0),(5,.v (.bool false)),(23,vL 3 (Cl.cs (AA m))),(24,A2 ((AA m).length:Int)),(25,A2 o),(30,vL 10 (Pm.cs (B9 c))),(31,A2 ((B9 c).length:Int)),(32,A2 (i:Int))] [] xe)):PW prog cx (Am f12 1) (LO m c name o xe (i:Int)) Q:=
 pw An 52 [df ((i:Int)<((B9 c).length:Int))] [1,4,5,23,24,25,30,31,32] [] AH hq
end
inductive LP where
 | e0 (el:Pm)
 | e1
 | e2
def FE(name:BA):List Pm->LP
 | []=>(LP.e2)
 | el::r=>(if BR el=name then (if Bd (Co el)=6 then (LP.e0 el) else (LP.e1)) else FE name r)
def Zs(m:Mo)(c:Cl)(name:BA)(o:Int)(xe:Ext)  : LP->A7 × S
 | .e0 el=>(.ret,S.mk [(1,vS name),(4,A2 (EU true 0 (((AP (Co el)).length:Int) - 1))),(5,.v (.bool true)),(23,vL 3 (Cl.cs (AA m))),(24,A2 ((AA m).length:Int)),(25,A2 o),(30,vL 10 (Pm.cs (B9 c))),(31,A2 ((B9 c).length:Int))] [] xe)
 | .e1=>(.ret,S.mk [(1,vS name),(4,A2 0),(5,.v (.bool true)),(23,vL 3 (Cl.cs (AA m))),(24,A2 ((AA m).length:Int)),(25,A2 o),(30,vL 10 (Pm.cs (B9 c))),(31,A2 ((B9 c).length:Int))] [] xe)
 | .e2=>(.exit 2,S.mk [(1,vS name),(4,A2 0),(5,.v (.bool false)),(23,vL 3 (Cl.cs (AA m))),(24,A2 ((AA m).length:Int)),(25,A2 o),(30,vL 10 (Pm.cs (B9 c))),(31,A2 ((B9 c).length:Int))] [] xe)
theorem Zt(m:Mo)(c:Cl)(name:BA)(o:Int)(xe:Ext)(ht:∀p∈B9 c,(AP (Co p)).length<=1048576)(hN:(B9 c).length<=1000000000)(i:Nat)(m5:i<=(B9 c).length)  : (Ob.loop 52 (Am f12 1) (LO m c name o xe (i:Int)) (Zs m c name o xe  (FE name (List.drop i ((B9 c))))).1 (Zs m c name o xe  (FE name (List.drop i ((B9 c))))).2).ok prog:=by
 refine Ob.G9 (P:=prog) (α:={ zz:Nat × Unit // zz.1<=(B9 c).length }) (fun zz=>LO m c name o xe (zz.1.1:Int)) (fun zz=>(B9 c).length - zz.1.1) (fun zz=>(Zs m c name o xe  (FE name (List.drop zz.1.1 ((B9 c)))))) ?_ ⟨(i,()),m5⟩
 clear m5
 clear  i
 rintro ⟨⟨i,u⟩,hi⟩ cx AH
 simp only at hi  ⊢
 rcases Nat.lt_or_ge i ((B9 c).length) with Ad | Dm
 ·have hd:=AN Ad
  by_cases h0:BR (List.getD (B9 c) i default)=name
  ·by_cases h1:Bd (Co (List.getD (B9 c) i default))=6
   ·have hr:(FE name (List.drop i ((B9 c))))=(LP.e0 (List.getD ((B9 c)) i default)):=by rw [hd,FE,iP h0,iP h1]
    refine rP m c name o xe ht i   Ad hN  h0 h1 cx AH (.inr ?_)
    rw [hr]
    exact ⟨by simp,rfl,xr⟩
   ·have hr:(FE name (List.drop i ((B9 c))))=(LP.e1):=by rw [hd,FE,iP h0,iN h1]
    refine rQ m c name o xe ht i   Ad hN  h0 h1 cx AH (.inr ?_)
    rw [hr]
    exact ⟨by simp,rfl,xr⟩
  ·have hr:(FE name (List.drop i ((B9 c))))=(FE name (List.drop (i+1) ((B9 c)))):=by rw [hd,FE,iN h0]
   exact rO m c name o xe ht i   Ad hN  h0 cx AH (.inl ⟨rfl,⟨((i+1),()),by simp only; omega⟩,by simp only; omega,xr,by simp only; rw [hr]⟩)
 ·have he:i=(B9 c).length:=by omega
  subst he
  have hr:(FE name (List.drop ((B9 c).length) ((B9 c))))=(LP.e2):=by rw [List.drop_length,FE]
  refine rR m c name o xe ht ((B9 c).length)   rfl hN   cx AH (.inr ?_)
  rw [hr]
  exact ⟨by simp,rfl,xr⟩
theorem Zu(name:BA):∀ (l:List Pm),FE name l=if ix BR name l<l.length then (if Bd (Co (l.getD (ix BR name l) default))=6 then .e0 (l.getD (ix BR name l) default) else .e1) else .e2
 | []=>by simp [FE,ix]
 | c::r=>by
  by_cases h:BR c=name
  ·simp [FE,ix,h]
  ·simp only [FE,ix,h,if_false,Zu name r,List.length_cons,Nat.add_lt_add_iff_right,List.getD_cons_succ]
abbrev A19(m:Mo)(c:Cl)(name:BA)(o:Int)(v:Int)(b:Bool)(xe:Ext):S:=⟨[(1,.v (.str name)),(4,.v (.int .i64 v)),(5,.v (.bool b)),(23,.v (.sl 3 (Cl.cs (AA m)))),(24,.v (.int .i64 (AA m).length)),(25,.v (.int .i64 o)),(30,.v (.sl 10 (Pm.cs (B9 c)))),(31,.v (.int .i64 (B9 c).length))],[],xe⟩
theorem A7w(m:Mo)(c:Cl)(name:BA)(o:Int)(xe:Ext)(ht:∀p∈B9 c,(AP (Co p)).length<=1048576)(hN:(B9 c).length<=1000000000)(hx:ix BR name (B9 c)<(B9 c).length):(Ob.loop 52 (Am f12 1) (LO m c name o xe 0) .ret (A19 m c name o (xV ((B9 c).getD (ix BR name (B9 c)) default)) true xe)).ok prog:=by
 have:=Zt m c name o xe ht hN 0 (Nat.zero_le _)
 rw [List.drop_zero,Zu,iP hx] at this
 by_cases h6:Bd (Co ((B9 c).getD (ix BR name (B9 c)) default))=6
 ·rw [iP h6] at this; unfold xV; rw [iP h6]; exact this
 ·rw [iN h6] at this; unfold xV; rw [iN h6]; exact this
theorem A7x(m:Mo)(c:Cl)(name:BA)(o:Int)(xe:Ext)(ht:∀p∈B9 c,(AP (Co p)).length<=1048576)(hN:(B9 c).length<=1000000000)(hx:¬ix BR name (B9 c)<(B9 c).length):(Ob.loop 52 (Am f12 1) (LO m c name o xe 0) (.exit 2) (A19 m c name o 0 false xe)).ok prog:=by
 have:=Zt m c name o xe ht hN 0 (Nat.zero_le _)
 rw [List.drop_zero,Zu,iN hx] at this
 exact this
def iR(name:BA):List Cl->Nat
 | []=>0
 | d::r=>if ix BR name (B9 d)<(B9 d).length then 0 else iR name r+1
def clF(name:BA)(c:Cl):Int:=xV ((B9 c).getD (ix BR name (B9 c)) default)
abbrev UZ(m:Mo)(name:BA)(j:Int)(e:Ext):S:=S.mk [(1,vS name),(4,A2 0),(5,.v (.bool false)),(23,vL 3 (Cl.cs (AA m))),(24,A2 ((AA m).length:Int)),(25,A2 j)] [] e
inductive HA where
 | e0 (el:Cl)
 | e1
def GI(name:BA):List Cl->HA
 | []=>(HA.e1)
 | el::r=>(if ix BR name (B9 el)<List.length (B9 el) then (HA.e0 el) else GI name r)
def Np(m:Mo)(name:BA)(e:Ext):HA->A7 × S
 | .e0 el=>(.ret,S.mk [(1,vS name),(4,A2 (xV (List.getD (B9 el) (ix BR name (B9 el)) default))),(5,.v (.bool true)),(23,vL 3 (Cl.cs (AA m))),(24,A2 ((AA m).length:Int))] [] e)
 | .e1=>(.exit 0,S.mk [(1,vS name),(4,A2 0),(5,.v (.bool false)),(23,vL 3 (Cl.cs (AA m))),(24,A2 ((AA m).length:Int))] [] e)
theorem Zv(m:Mo)(name:BA)(hc:(AA m).length<=1048576)(hm:∀c∈AA m,(B9 c).length<=1048576)(hf:(AD m).length<=1048576)(ht:∀c∈AA m,∀p∈B9 c,(AP (Co p)).length<=1048576)(hx:¬ix Ag name (AD m)<(AD m).length)(e:Ext)(hN:(AA m).length<=1000000000):(Ob.loop 52 (Am f12 0) (UZ m name 0  e) (Np m name e (GI name (List.drop 0 ((AA m))))).1 (Np m name e (GI name (List.drop 0 ((AA m))))).2).ok prog:=by
 refine Ek ((AA m).length) (fun j _=>UZ m name j  e) (fun i _=>GI name (List.drop i ((AA m)))) (Np m name e) (fun i _=>True) kR ?_ () trivial
 rintro i u hi -
 rcases Nat.lt_or_ge i ((AA m).length) with Ad | Dm
 ·have hd:=AN Ad
  by_cases h0:ix BR name (B9 (List.getD (AA m) i default))<List.length (B9 (List.getD (AA m) i default))
  ·exact lX An [dt ((i:Int)<((AA m).length:Int)),am ((0:Int)<=(i:Int)/\(i:Int)<((Cl.cs (AA m)).length:Int)) (by (simp only [Cl.A0]; omega)),rJ (AA m) i Ad,sl (Pm.A0 (B9 (List.getD (AA m) i default))),lp (S.mk [(1,vS name),(4,A2 0),(5,.v (.bool false)),(23,vL 3 (Cl.cs (AA m))),(24,A2 ((AA m).length:Int)),(25,A2 (i:Int)),(26,.v (.bool (decide ((i:Int)<((AA m).length:Int))))),(27,.v (.ro (Lm (List.getD (AA m) i default)) 0)),(28,.v (.agg (Lm (List.getD (AA m) i default)))),(9,.lp 9 0),(29,.lp 9 2),(30,vL 10 (Pm.cs (B9 (List.getD (AA m) i default)))),(31,A2 ((B9 (List.getD (AA m) i default)).length:Int)),(32,A2 0)] [(9,clV (List.getD (AA m) i default))] e) (@A7w (m) (List.getD (AA m) i default) (name) ((i:Int)) (e) (by (apply m4 <;> first | assumption | omega | decide)) (by (apply Se <;> first | assumption | omega | decide)) h0) xr] (HA.e0 (List.getD ((AA m)) i default)) (by rw [hd,GI,iP h0])
  ·exact lN An [dt ((i:Int)<((AA m).length:Int)),am ((0:Int)<=(i:Int)/\(i:Int)<((Cl.cs (AA m)).length:Int)) (by (simp only [Cl.A0]; omega)),rJ (AA m) i Ad,sl (Pm.A0 (B9 (List.getD (AA m) i default))),lp (S.mk [(1,vS name),(4,A2 0),(5,.v (.bool false)),(23,vL 3 (Cl.cs (AA m))),(24,A2 ((AA m).length:Int)),(25,A2 (i:Int)),(26,.v (.bool (decide ((i:Int)<((AA m).length:Int))))),(27,.v (.ro (Lm (List.getD (AA m) i default)) 0)),(28,.v (.agg (Lm (List.getD (AA m) i default)))),(9,.lp 9 0),(29,.lp 9 2),(30,vL 10 (Pm.cs (B9 (List.getD (AA m) i default)))),(31,A2 ((B9 (List.getD (AA m) i default)).length:Int)),(32,A2 0)] [(9,clV (List.getD (AA m) i default))] e) (@A7x (m) (List.getD (AA m) i default) (name) ((i:Int)) (e) (by (apply m4 <;> first | assumption | omega | decide)) (by (apply Se <;> first | assumption | omega | decide)) h0) xr,wr ((i:Int)+1)] Ad () trivial (by rw [hd,GI,iN h0])
 ·have he:i=(AA m).length:=by omega
  exact lX An [df ((i:Int)<((AA m).length:Int))] (HA.e1) (by rw [he,List.drop_length,GI])
theorem A1a(m:Mo)(name:BA)(hc:(AA m).length<=1048576)(hm:∀c∈AA m,(B9 c).length<=1048576)(hf:(AD m).length<=1048576)(ht:∀c∈AA m,∀p∈B9 c,(AP (Co p)).length<=1048576)(hx:¬ix Ag name (AD m)<(AD m).length)(e:Ext)(hN:(AA m).length<=1000000000)(p0:Cl)(AF:(GI name ((AA m)))=(HA.e0 p0)):(Ob.loop 52 (Am f12 0) (UZ m name 0  e) (Np m name e (HA.e0 p0)).1 (Np m name e (HA.e0 p0)).2).ok prog:=
 rz (Zv m name hc hm hf ht hx e hN) AF
theorem A1b(m:Mo)(name:BA)(hc:(AA m).length<=1048576)(hm:∀c∈AA m,(B9 c).length<=1048576)(hf:(AD m).length<=1048576)(ht:∀c∈AA m,∀p∈B9 c,(AP (Co p)).length<=1048576)(hx:¬ix Ag name (AD m)<(AD m).length)(e:Ext)(hN:(AA m).length<=1000000000)(AF:(GI name ((AA m)))=(HA.e1)):(Ob.loop 52 (Am f12 0) (UZ m name 0  e) (Np m name e (HA.e1)).1 (Np m name e (HA.e1)).2).ok prog:=
 rz (Zv m name hc hm hf ht hx e hN) AF
def Fb(m:Mo)(name:BA):Int × Bool:=if ix Ag name (AD m)<(AD m).length then ((BD ((AD m).getD (ix Ag name (AD m)) default)).length,true) else if iR name (AA m)<(AA m).length then (clF name ((AA m).getD (iR name (AA m)) default),true) else (0,false)
def Fq(m:Mo)(name:BA):Int × Bool:=if JZ name (Aj m)<(Aj m).length then ((Fp ((AS ((Aj m).getD (JZ name (Aj m)) default)).getD (ix Bj name (AS ((Aj m).getD (JZ name (Aj m)) default))) default)).length,true) else (0,false)
theorem Zw(name:BA):∀ (l:List Cl),GI name l=if iR name l<l.length then .e0 (l.getD (iR name l) default) else .e1
 | []=>by simp [GI,iR]
 | c::r=>by
  by_cases h:ix BR name (B9 c)<(B9 c).length
  ·simp [GI,iR,h]
  ·simp only [GI,iR,h,if_false,Zw name r,List.length_cons,Nat.add_lt_add_iff_right,List.getD_cons_succ]
theorem A1c(m:Mo)(name:BA)(hc:(AA m).length<=1048576)(hm:∀c∈AA m,(B9 c).length<=1048576)(hf:(AD m).length<=1048576)(ht:∀c∈AA m,∀p∈B9 c,(AP (Co p)).length<=1048576)(hx:¬ix Ag name (AD m)<(AD m).length)(Ee:Cl)(Au:GI name (AA m)=HA.e0 Ee):Pu 12 [.agg (DJ m),.str name] (.ret (.B6 [pI (xV (List.getD (B9 Ee) (ix BR name (B9 Ee)) default)),.bool true])):=
 pu An (fun e=>[cl (@dFF (m) (name) hf hx),bf false,sl (Cl.A0 (AA m)),lp (S.mk [(0,.v (.agg (DJ m))),(1,vS name),(2,.lp 2 0),(4,A2 0),(5,.v (.bool false)),(13,.v (.agg (DJ m))),(14,vS name),(15,.v (.B6 [.agg [.str (Ag default),.sl 1 [],pI 0,.str (Ap (DQ default)),pI 0,.sl 7 [],.sl 10 [],.sl 9 [],.sl 9 [],pI 0,.bool false,.sl 1 [],.sl 2 [],.sl 2 [],.sl 10 [],pI 0,.str (AK (BV default)),.sl 9 [],.sl 1 [],pI 0,.str (AR (DU (BV default))),pI 0,.sl 4 [],.sl 4 [],.sl 4 []],.bool false])),(12,.v (.B6 [.agg [.str (Ag default),.sl 1 [],pI 0,.str (Ap (DQ default)),pI 0,.sl 7 [],.sl 10 [],.sl 9 [],.sl 9 [],pI 0,.bool false,.sl 1 [],.sl 2 [],.sl 2 [],.sl 10 [],pI 0,.str (AK (BV default)),.sl 9 [],.sl 1 [],pI 0,.str (AR (DU (BV default))),pI 0,.sl 4 [],.sl 4 [],.sl 4 []],.bool false])),(16,.v (.agg [.str (Ag default),.sl 1 [],pI 0,.str (Ap (DQ default)),pI 0,.sl 7 [],.sl 10 [],.sl 9 [],.sl 9 [],pI 0,.bool false,.sl 1 [],.sl 2 [],.sl 2 [],.sl 10 [],pI 0,.str (AK (BV default)),.sl 9 [],.sl 1 [],pI 0,.str (AR (DU (BV default))),pI 0,.sl 4 [],.sl 4 [],.sl 4 []])),(17,.v (.bool false)),(6,.lp 6 0),(7,.v (.bool false)),(18,.v (.bool false)),(22,.lp 2 1),(23,vL 3 (Cl.cs (AA m))),(24,A2 ((AA m).length:Int)),(25,A2 0)] [(2,E1 m),(6,[vS (Ag default),vL 1 [],A2 0,vS (Ap (DQ default)),A2 0,vL 7 [],vL 10 [],vL 9 [],vL 9 [],A2 0,.v (.bool false),vL 1 [],vL 2 [],vL 2 [],vL 10 [],A2 0,vS (AK (BV default)),vL 9 [],vL 1 [],A2 0,vS (AR (DU (BV default))),A2 0,vL 4 [],vL 4 [],vL 4 []])] e) (@A1a (m) (name) hc hm hf ht hx (e) oM Ee Au) xr]) func12
theorem spT(m:Mo)(name:BA)(hc:(AA m).length<=1048576)(hm:∀c∈AA m,(B9 c).length<=1048576)(hf:(AD m).length<=1048576)(ht:∀c∈AA m,∀p∈B9 c,(AP (Co p)).length<=1048576):Pu 12 [.agg (DJ m),.str name] (.ret (.B6 [.int .i64 (Fb m name).1,.bool (Fb m name).2])):=by
 unfold Fb
 by_cases hx:ix Ag name (AD m)<(AD m).length
 ·rw [iP hx]; exact pm An [cl (@dFT (m) (name) hf hx),bt true,sl (A3 (BD (List.getD (AD m) (ix Ag name (AD m)) default)))] func12
 ·rw [iN hx]
  by_cases hy:iR name (AA m)<(AA m).length
  ·rw [iP hy]; exact A1c m name hc hm hf ht hx _ (by rw [Zw,iP hy])
  ·rw [iN hy]; exact pu An (fun e=>[cl (@dFF (m) (name) hf hx),bf false,sl (Cl.A0 (AA m)),lp (S.mk [(0,.v (.agg (DJ m))),(1,vS name),(2,.lp 2 0),(4,A2 0),(5,.v (.bool false)),(13,.v (.agg (DJ m))),(14,vS name),(15,.v (.B6 [.agg [.str (Ag default),.sl 1 [],pI 0,.str (Ap (DQ default)),pI 0,.sl 7 [],.sl 10 [],.sl 9 [],.sl 9 [],pI 0,.bool false,.sl 1 [],.sl 2 [],.sl 2 [],.sl 10 [],pI 0,.str (AK (BV default)),.sl 9 [],.sl 1 [],pI 0,.str (AR (DU (BV default))),pI 0,.sl 4 [],.sl 4 [],.sl 4 []],.bool false])),(12,.v (.B6 [.agg [.str (Ag default),.sl 1 [],pI 0,.str (Ap (DQ default)),pI 0,.sl 7 [],.sl 10 [],.sl 9 [],.sl 9 [],pI 0,.bool false,.sl 1 [],.sl 2 [],.sl 2 [],.sl 10 [],pI 0,.str (AK (BV default)),.sl 9 [],.sl 1 [],pI 0,.str (AR (DU (BV default))),pI 0,.sl 4 [],.sl 4 [],.sl 4 []],.bool false])),(16,.v (.agg [.str (Ag default),.sl 1 [],pI 0,.str (Ap (DQ default)),pI 0,.sl 7 [],.sl 10 [],.sl 9 [],.sl 9 [],pI 0,.bool false,.sl 1 [],.sl 2 [],.sl 2 [],.sl 10 [],pI 0,.str (AK (BV default)),.sl 9 [],.sl 1 [],pI 0,.str (AR (DU (BV default))),pI 0,.sl 4 [],.sl 4 [],.sl 4 []])),(17,.v (.bool false)),(6,.lp 6 0),(7,.v (.bool false)),(18,.v (.bool false)),(22,.lp 2 1),(23,vL 3 (Cl.cs (AA m))),(24,A2 ((AA m).length:Int)),(25,A2 0)] [(2,E1 m),(6,[vS (Ag default),vL 1 [],A2 0,vS (Ap (DQ default)),A2 0,vL 7 [],vL 10 [],vL 9 [],vL 9 [],A2 0,.v (.bool false),vL 1 [],vL 2 [],vL 2 [],vL 10 [],A2 0,vS (AK (BV default)),vL 9 [],vL 1 [],A2 0,vS (AR (DU (BV default))),A2 0,vL 4 [],vL 4 [],vL 4 []])] e) (@A1b (m) (name) hc hm hf ht hx (e) oM (by rw [Zw,iN hy])) xr]) func12
theorem A7y(m:Mo)(name:BA)(K1:(Aj m).length<=1048576)(hk:∀c∈Aj m,(AS c).length<=1048576):Pu 15 [.agg (DJ m),.str name] (.ret (.B6 [.int .i64 (Fq m name).1,.bool (Fq m name).2])):=by
 unfold Fq
 by_cases hx:JZ name (Aj m)<(Aj m).length
 ·rw [iP hx]; exact A16 m name K1 hk hx (by rw [Cn.A0]; have:=Qw hx; omega)
 ·rw [iN hx]; exact A17 m name K1 hk hx
def FU(m:Mo):List BA:=Qv m++(AD m).map Ag
theorem iS(m:Mo)(hc:(AA m).length<=1048576)(hm:∀c∈AA m,(B9 c).length<=1048576)(hf:(AD m).length<=1048576):Pu 18 [.agg (DJ m)] (.own 9 1 (A1 (FU m))):=by
 have:=rM m hc hm hf
 rw [Zn,TS] at this
 exact this
def H9(c:Int):Bool:=decide (97<=c)&&decide (c<=122)
def KY(c:Int):Bool:=decide (65<=c)&&decide (c<=90)
def SZ(c:Int):Bool:=decide (48<=c)&&decide (c<=57)
theorem Fg(i:Nat):((i:Int)+1).toNat=i+1:=by omega
def KZ:List BA:=[⟨#[97,110,100]⟩,⟨#[97,115,115,117,109,101]⟩,⟨#[98,111,111,108]⟩,⟨#[98,111,117,110,100]⟩,⟨#[99,97,115,101]⟩,⟨#[99,101,108,108]⟩,⟨#[99,108,97,115,115]⟩,⟨#[100,97,116,97]⟩,⟨#[100,101,102]⟩,⟨#[100,105,118]⟩,⟨#[101,108,115,101]⟩,⟨#[101,110,100]⟩,⟨#[102,97,108,115,101]⟩,⟨#[102,111,114,97,108,108]⟩,⟨#[102,117,110]⟩,⟨#[103,101,116]⟩,⟨#[105,102]⟩,⟨#[105,110]⟩,⟨#[105,110,115,116]⟩,⟨#[105,110,116]⟩,⟨#[105,110,118,97,114,105,97,110,116]⟩,⟨#[108,101,116]⟩,⟨#[109,97,116,99,104]⟩,⟨#[109,101,97,115,117,114,101]⟩,⟨#[109,101,116,114,105,99]⟩,⟨#[109,111,100]⟩,⟨#[109,117]⟩,⟨#[110,101,119]⟩,⟨#[110,111,116]⟩,⟨#[111,102]⟩,⟨#[111,114]⟩,⟨#[113,117,97,108]⟩,⟨#[114,101,102,108,101,99,116]⟩,⟨#[115,101,116]⟩,⟨#[116,104,101,110]⟩,⟨#[116,114,117,101]⟩,⟨#[117,115,101]⟩,⟨#[118]⟩,⟨#[118,97,108]⟩,⟨#[116,97,103]⟩,⟨#[119,104,101,114,101]⟩,⟨#[119,105,116,104]⟩]
def kwC:List PV:=[.str ⟨#[97,110,100]⟩,.str ⟨#[97,115,115,117,109,101]⟩,.str ⟨#[98,111,111,108]⟩,.str ⟨#[98,111,117,110,100]⟩,.str ⟨#[99,97,115,101]⟩,.str ⟨#[99,101,108,108]⟩,.str ⟨#[99,108,97,115,115]⟩,.str ⟨#[100,97,116,97]⟩,.str ⟨#[100,101,102]⟩,.str ⟨#[100,105,118]⟩,.str ⟨#[101,108,115,101]⟩,.str ⟨#[101,110,100]⟩,.str ⟨#[102,97,108,115,101]⟩,.str ⟨#[102,111,114,97,108,108]⟩,.str ⟨#[102,117,110]⟩,.str ⟨#[103,101,116]⟩,.str ⟨#[105,102]⟩,.str ⟨#[105,110]⟩,.str ⟨#[105,110,115,116]⟩,.str ⟨#[105,110,116]⟩,.str ⟨#[105,110,118,97,114,105,97,110,116]⟩,.str ⟨#[108,101,116]⟩,.str ⟨#[109,97,116,99,104]⟩,.str ⟨#[109,101,97,115,117,114,101]⟩,.str ⟨#[109,101,116,114,105,99]⟩,.str ⟨#[109,111,100]⟩,.str ⟨#[109,117]⟩,.str ⟨#[110,101,119]⟩,.str ⟨#[110,111,116]⟩,.str ⟨#[111,102]⟩,.str ⟨#[111,114]⟩,.str ⟨#[113,117,97,108]⟩,.str ⟨#[114,101,102,108,101,99,116]⟩,.str ⟨#[115,101,116]⟩,.str ⟨#[116,104,101,110]⟩,.str ⟨#[116,114,117,101]⟩,.str ⟨#[117,115,101]⟩,.str ⟨#[118]⟩,.str ⟨#[118,97,108]⟩,.str ⟨#[116,97,103]⟩,.str ⟨#[119,104,101,114,101]⟩,.str ⟨#[119,105,116,104]⟩]
theorem Zx{i:Nat}(h:i<KZ.length):[PV.str ⟨#[97,110,100]⟩,.str ⟨#[97,115,115,117,109,101]⟩,.str ⟨#[98,111,111,108]⟩,.str ⟨#[98,111,117,110,100]⟩,.str ⟨#[99,97,115,101]⟩,.str ⟨#[99,101,108,108]⟩,.str ⟨#[99,108,97,115,115]⟩,.str ⟨#[100,97,116,97]⟩,.str ⟨#[100,101,102]⟩,.str ⟨#[100,105,118]⟩,.str ⟨#[101,108,115,101]⟩,.str ⟨#[101,110,100]⟩,.str ⟨#[102,97,108,115,101]⟩,.str ⟨#[102,111,114,97,108,108]⟩,.str ⟨#[102,117,110]⟩,.str ⟨#[103,101,116]⟩,.str ⟨#[105,102]⟩,.str ⟨#[105,110]⟩,.str ⟨#[105,110,115,116]⟩,.str ⟨#[105,110,116]⟩,.str ⟨#[105,110,118,97,114,105,97,110,116]⟩,.str ⟨#[108,101,116]⟩,.str ⟨#[109,97,116,99,104]⟩,.str ⟨#[109,101,97,115,117,114,101]⟩,.str ⟨#[109,101,116,114,105,99]⟩,.str ⟨#[109,111,100]⟩,.str ⟨#[109,117]⟩,.str ⟨#[110,101,119]⟩,.str ⟨#[110,111,116]⟩,.str ⟨#[111,102]⟩,.str ⟨#[111,114]⟩,.str ⟨#[113,117,97,108]⟩,.str ⟨#[114,101,102,108,101,99,116]⟩,.str ⟨#[115,101,116]⟩,.str ⟨#[116,104,101,110]⟩,.str ⟨#[116,114,117,101]⟩,.str ⟨#[117,115,101]⟩,.str ⟨#[118]⟩,.str ⟨#[118,97,108]⟩,.str ⟨#[116,97,103]⟩,.str ⟨#[119,104,101,114,101]⟩,.str ⟨#[119,105,116,104]⟩].getD i .Dy = .str (KZ.getD i AI):=by
 show kwC.getD i .Dy=_
 have e:kwC=KZ.map .str:=rfl
 rw [e]
 simp [List.getD,h]
theorem Kw{l:List UInt8}{i:Nat}(h:i<List.length (List.drop 1 l)):l.getD (i+1) default=(List.drop 1 l).getD i default:=by simp [List.getD,Nat.add_comm]
theorem kwT{i:Nat}(h:i<KZ.length):(i:Int)<42:=by
 have:KZ.length=42:=rfl
 omega
theorem kwF{i:Nat}(h:i=KZ.length):¬(i:Int)<42:=by
 have:KZ.length=42:=rfl
 omega
theorem kwA{i:Nat}(h:i<KZ.length):(0:Int)<=(i:Int)/\(i:Int)<((42:Nat):Int):=by
 have:=kwT h; omega
theorem b1T{s:BA}{i:Nat}(h:i<List.length (List.drop 1 s.data.toList)):(i:Int)+1<(s.size:Int):=by
 have:s.size=s.data.size:=rfl
 simp at h; omega
theorem b1F{s:BA}{i:Nat}(h:i=List.length (List.drop 1 s.data.toList)):¬(i:Int)+1<(s.size:Int):=by
 have:s.size=s.data.size:=rfl
 simp at h; omega
theorem WJ{s:BA}{i:Nat}(h:i<List.length (s.data.toList)):(i:Int)<(s.size:Int):=by
 have:s.size=s.data.size:=rfl
 simp at h; omega
theorem bzF{s:BA}{i:Nat}(h:i=List.length (s.data.toList)):¬(i:Int)<(s.size:Int):=by
 have:s.size=s.data.size:=rfl
 simp at h; omega
theorem IP(c:Int):Pu 188 [.int .u8 c] (.ret (.bool (H9 c))):=by
 by_cases h:97<=c
 ·rw [show H9 c=decide (c<=122) by simp [H9,h]]; exact pm An [rp 3 (dt (97<=c) h)] func188
 ·rw [show H9 c=false by simp [H9,h]]; exact pm An [rp 3 (df (97<=c) h)] func188
theorem Qy(c:Int):Pu 191 [.int .u8 c] (.ret (.bool (KY c))):=by
 by_cases h:65<=c
 ·rw [show KY c=decide (c<=90) by simp [KY,h]]; exact pm An [rp 3 (dt (65<=c) h)] func191
 ·rw [show KY c=false by simp [KY,h]]; exact pm An [rp 3 (df (65<=c) h)] func191
theorem Sf(c:Int):Pu 190 [.int .u8 c] (.ret (.bool (SZ c))):=by
 by_cases h:48<=c
 ·rw [show SZ c=decide (c<=57) by simp [SZ,h]]; exact pm An [rp 3 (dt (48<=c) h)] func190
 ·rw [show SZ c=false by simp [SZ,h]]; exact pm An [rp 3 (df (48<=c) h)] func190
abbrev V0(s:BA)(j:Int)(e:Ext):S:=S.mk [(0,vS s),(3,A2 j)] [] e
inductive GJ where
 | e0
 | e1
def FF  : List UInt8->GJ
 | []=>(GJ.e1)
 | el::r=>(if H9 (↑(UInt8.toNat el):Int)=false then (if KY (↑(UInt8.toNat el):Int)=false then (if SZ (↑(UInt8.toNat el):Int)=false then (GJ.e0) else FF  r) else FF  r) else FF  r)
def Nq(s:BA)(e:Ext):GJ->A7 × S
 | .e0=>(.ret,S.mk [(0,vS s),(2,.v (.bool false))] [] e)
 | .e1=>(.exit 0,S.mk [(0,vS s)] [] e)
theorem Zy(s:BA)(e:Ext)(hN:List.length ((s.data.toList))<=1000000000):(Ob.loop 29 (Am f139 0) (V0 s 0  e) (Nq s e (FF  (List.drop 0 ((s.data.toList))))).1 (Nq s e (FF  (List.drop 0 ((s.data.toList))))).2).ok prog:=by
 refine Ek (List.length ((s.data.toList))) (fun j _=>V0 s j  e) (fun i _=>FF  (List.drop i ((s.data.toList)))) (Nq s e) (fun i _=>True) kR ?_ () trivial
 rintro i u hi -
 rcases Nat.lt_or_ge i (List.length ((s.data.toList))) with Ad | Dm
 ·have hd:=AN Ad
  by_cases h0:H9 (↑(UInt8.toNat (List.getD (Array.toList (ByteArray.data s)) i default)):Int)=false
  ·by_cases h1:KY (↑(UInt8.toNat (List.getD (Array.toList (ByteArray.data s)) i default)):Int)=false
   ·by_cases h2:SZ (↑(UInt8.toNat (List.getD (Array.toList (ByteArray.data s)) i default)):Int)=false
    ·exact lX An [kp,dt ((i:Int)<(↑(ByteArray.size s):Int)) (by (apply WJ <;> first | assumption | omega | decide)),am ((0:Int)<=(i:Int)/\(i:Int)<(↑(ByteArray.size s):Int)) (by simp_all [List.length_map,List.length_append,List.length_cons,List.length_nil,A3,Pr.A0,Tp.A0,Pm.A0,Ex.A0,Al.A0,Vr.A0,Cn.A0,Da.A0,Cl.A0,Bo.A0,Df.A0,In.A0,Cs.A0,Ms.A0,Qu.A0,Int.toNat_natCast,Int.toNat_zero,Fg]),av (.v (.int .u8 (↑(UInt8.toNat (List.getD (Array.toList (ByteArray.data s)) (Int.toNat (i:Int)) default)):Int))) (.v (.int .u8 (↑(UInt8.toNat (List.getD (Array.toList (ByteArray.data s)) i default)):Int))) rF,cl (@IP ((↑(UInt8.toNat (List.getD (Array.toList (ByteArray.data s)) i default)):Int))),rp 3 (B7 (BH h0)),am ((0:Int)<=(i:Int)/\(i:Int)<(↑(ByteArray.size s):Int)) (by simp_all [List.length_map,List.length_append,List.length_cons,List.length_nil,A3,Pr.A0,Tp.A0,Pm.A0,Ex.A0,Al.A0,Vr.A0,Cn.A0,Da.A0,Cl.A0,Bo.A0,Df.A0,In.A0,Cs.A0,Ms.A0,Qu.A0,Int.toNat_natCast,Int.toNat_zero,Fg]),av (.v (.int .u8 (↑(UInt8.toNat (List.getD (Array.toList (ByteArray.data s)) (Int.toNat (i:Int)) default)):Int))) (.v (.int .u8 (↑(UInt8.toNat (List.getD (Array.toList (ByteArray.data s)) i default)):Int))) rF,B7 (BH h0),cl (@Qy ((↑(UInt8.toNat (List.getD (Array.toList (ByteArray.data s)) i default)):Int))),rp 2 (B7 (BH h0)),rp 3 (B7 (BH h1)),am ((0:Int)<=(i:Int)/\(i:Int)<(↑(ByteArray.size s):Int)) (by simp_all [List.length_map,List.length_append,List.length_cons,List.length_nil,A3,Pr.A0,Tp.A0,Pm.A0,Ex.A0,Al.A0,Vr.A0,Cn.A0,Da.A0,Cl.A0,Bo.A0,Df.A0,In.A0,Cs.A0,Ms.A0,Qu.A0,Int.toNat_natCast,Int.toNat_zero,Fg]),av (.v (.int .u8 (↑(UInt8.toNat (List.getD (Array.toList (ByteArray.data s)) (Int.toNat (i:Int)) default)):Int))) (.v (.int .u8 (↑(UInt8.toNat (List.getD (Array.toList (ByteArray.data s)) i default)):Int))) rF,B7 (BH h1),cl (@Sf ((↑(UInt8.toNat (List.getD (Array.toList (ByteArray.data s)) i default)):Int))),rp 2 (B7 (BH h1)),B7 (BH h2)] (GJ.e0) (by rw [hd,FF,iP h0,iP h1,iP h2])
    ·exact lN An [kp,dt ((i:Int)<(↑(ByteArray.size s):Int)) (by (apply WJ <;> first | assumption | omega | decide)),am ((0:Int)<=(i:Int)/\(i:Int)<(↑(ByteArray.size s):Int)) (by simp_all [List.length_map,List.length_append,List.length_cons,List.length_nil,A3,Pr.A0,Tp.A0,Pm.A0,Ex.A0,Al.A0,Vr.A0,Cn.A0,Da.A0,Cl.A0,Bo.A0,Df.A0,In.A0,Cs.A0,Ms.A0,Qu.A0,Int.toNat_natCast,Int.toNat_zero,Fg]),av (.v (.int .u8 (↑(UInt8.toNat (List.getD (Array.toList (ByteArray.data s)) (Int.toNat (i:Int)) default)):Int))) (.v (.int .u8 (↑(UInt8.toNat (List.getD (Array.toList (ByteArray.data s)) i default)):Int))) rF,cl (@IP ((↑(UInt8.toNat (List.getD (Array.toList (ByteArray.data s)) i default)):Int))),rp 3 (B7 (BH h0)),am ((0:Int)<=(i:Int)/\(i:Int)<(↑(ByteArray.size s):Int)) (by simp_all [List.length_map,List.length_append,List.length_cons,List.length_nil,A3,Pr.A0,Tp.A0,Pm.A0,Ex.A0,Al.A0,Vr.A0,Cn.A0,Da.A0,Cl.A0,Bo.A0,Df.A0,In.A0,Cs.A0,Ms.A0,Qu.A0,Int.toNat_natCast,Int.toNat_zero,Fg]),av (.v (.int .u8 (↑(UInt8.toNat (List.getD (Array.toList (ByteArray.data s)) (Int.toNat (i:Int)) default)):Int))) (.v (.int .u8 (↑(UInt8.toNat (List.getD (Array.toList (ByteArray.data s)) i default)):Int))) rF,B7 (BH h0),cl (@Qy ((↑(UInt8.toNat (List.getD (Array.toList (ByteArray.data s)) i default)):Int))),rp 2 (B7 (BH h0)),rp 3 (B7 (BH h1)),am ((0:Int)<=(i:Int)/\(i:Int)<(↑(ByteArray.size s):Int)) (by simp_all [List.length_map,List.length_append,List.length_cons,List.length_nil,A3,Pr.A0,Tp.A0,Pm.A0,Ex.A0,Al.A0,Vr.A0,Cn.A0,Da.A0,Cl.A0,Bo.A0,Df.A0,In.A0,Cs.A0,Ms.A0,Qu.A0,Int.toNat_natCast,Int.toNat_zero,Fg]),av (.v (.int .u8 (↑(UInt8.toNat (List.getD (Array.toList (ByteArray.data s)) (Int.toNat (i:Int)) default)):Int))) (.v (.int .u8 (↑(UInt8.toNat (List.getD (Array.toList (ByteArray.data s)) i default)):Int))) rF,B7 (BH h1),cl (@Sf ((↑(UInt8.toNat (List.getD (Array.toList (ByteArray.data s)) i default)):Int))),rp 2 (B7 (BH h1)),B1 (B3 (Qk h2)),wr ((i:Int)+1)] Ad () trivial (by rw [hd,FF,iP h0,iP h1,iN h2])
   ·exact lN An [kp,dt ((i:Int)<(↑(ByteArray.size s):Int)) (by (apply WJ <;> first | assumption | omega | decide)),am ((0:Int)<=(i:Int)/\(i:Int)<(↑(ByteArray.size s):Int)) (by simp_all [List.length_map,List.length_append,List.length_cons,List.length_nil,A3,Pr.A0,Tp.A0,Pm.A0,Ex.A0,Al.A0,Vr.A0,Cn.A0,Da.A0,Cl.A0,Bo.A0,Df.A0,In.A0,Cs.A0,Ms.A0,Qu.A0,Int.toNat_natCast,Int.toNat_zero,Fg]),av (.v (.int .u8 (↑(UInt8.toNat (List.getD (Array.toList (ByteArray.data s)) (Int.toNat (i:Int)) default)):Int))) (.v (.int .u8 (↑(UInt8.toNat (List.getD (Array.toList (ByteArray.data s)) i default)):Int))) rF,cl (@IP ((↑(UInt8.toNat (List.getD (Array.toList (ByteArray.data s)) i default)):Int))),rp 3 (B7 (BH h0)),am ((0:Int)<=(i:Int)/\(i:Int)<(↑(ByteArray.size s):Int)) (by simp_all [List.length_map,List.length_append,List.length_cons,List.length_nil,A3,Pr.A0,Tp.A0,Pm.A0,Ex.A0,Al.A0,Vr.A0,Cn.A0,Da.A0,Cl.A0,Bo.A0,Df.A0,In.A0,Cs.A0,Ms.A0,Qu.A0,Int.toNat_natCast,Int.toNat_zero,Fg]),av (.v (.int .u8 (↑(UInt8.toNat (List.getD (Array.toList (ByteArray.data s)) (Int.toNat (i:Int)) default)):Int))) (.v (.int .u8 (↑(UInt8.toNat (List.getD (Array.toList (ByteArray.data s)) i default)):Int))) rF,B7 (BH h0),cl (@Qy ((↑(UInt8.toNat (List.getD (Array.toList (ByteArray.data s)) i default)):Int))),rp 2 (B7 (BH h0)),rp 6 (B1 (B3 (Qk h1))),bf false,wr ((i:Int)+1)] Ad () trivial (by rw [hd,FF,iP h0,iN h1])
  ·exact lN An [kp,dt ((i:Int)<(↑(ByteArray.size s):Int)) (by (apply WJ <;> first | assumption | omega | decide)),am ((0:Int)<=(i:Int)/\(i:Int)<(↑(ByteArray.size s):Int)) (by simp_all [List.length_map,List.length_append,List.length_cons,List.length_nil,A3,Pr.A0,Tp.A0,Pm.A0,Ex.A0,Al.A0,Vr.A0,Cn.A0,Da.A0,Cl.A0,Bo.A0,Df.A0,In.A0,Cs.A0,Ms.A0,Qu.A0,Int.toNat_natCast,Int.toNat_zero,Fg]),av (.v (.int .u8 (↑(UInt8.toNat (List.getD (Array.toList (ByteArray.data s)) (Int.toNat (i:Int)) default)):Int))) (.v (.int .u8 (↑(UInt8.toNat (List.getD (Array.toList (ByteArray.data s)) i default)):Int))) rF,cl (@IP ((↑(UInt8.toNat (List.getD (Array.toList (ByteArray.data s)) i default)):Int))),rp 6 (B1 (B3 (Qk h0))),rp 7 (bf false),wr ((i:Int)+1)] Ad () trivial (by rw [hd,FF,iN h0])
 ·have he:i=List.length ((s.data.toList)):=by omega
  exact lX An [kp,df ((i:Int)<(↑(ByteArray.size s):Int)) (by (apply bzF <;> first | assumption | omega | decide))] (GJ.e1) (by rw [he,List.drop_length,FF])
theorem A1d(s:BA)(e:Ext)(hN:List.length ((s.data.toList))<=1000000000)(AF:(FF  ((s.data.toList)))=(GJ.e0)):(Ob.loop 29 (Am f139 0) (V0 s 0  e) (Nq s e (GJ.e0)).1 (Nq s e (GJ.e0)).2).ok prog:=
 rz (Zy s e hN) AF
theorem A1e(s:BA)(e:Ext)(hN:List.length ((s.data.toList))<=1000000000)(AF:(FF  ((s.data.toList)))=(GJ.e1)):(Ob.loop 29 (Am f139 0) (V0 s 0  e) (Nq s e (GJ.e1)).1 (Nq s e (GJ.e1)).2).ok prog:=
 rz (Zy s e hN) AF
def M8(c:UInt8):Bool:=H9 c.toNat||KY c.toNat||SZ c.toNat
def rS(c:UInt8):Bool:=H9 c.toNat||SZ c.toNat||decide (((c.toNat:Nat):Int)=95)
theorem Zz:∀l:List UInt8,FF l=if l.all M8=true then .e1 else .e0
 | []=>rfl
 | c::r=>by
  by_cases h1:H9 c.toNat=true <;> by_cases h2:KY c.toNat=true <;> by_cases h3:SZ c.toNat=true <;> simp [FF,M8,h1,h2,h3,Zz r]
theorem Pd{s:BA}(h:s.size<=1000000000):List.length (s.data.toList)<=1000000000:=by simpa using h
theorem rT(s:BA)(hs:s.size<=1000000000)(Ak:FF (Array.toList (ByteArray.data s))=GJ.e0):Pu 139 [.str s] (rB false):=
 pu An (fun e=>[lp (S.mk [(0,vS s),(2,.v (.bool false)),(3,A2 0)] [] e) (@A1d (s) (e) (by (apply Pd <;> first | assumption | omega | decide)) Ak) xr]) func139
theorem rU(s:BA)(hs:s.size<=1000000000)(Ak:FF (Array.toList (ByteArray.data s))=GJ.e1):Pu 139 [.str s] (rB true):=
 pu An (fun e=>[lp (S.mk [(0,vS s),(2,.v (.bool false)),(3,A2 0)] [] e) (@A1e (s) (e) (by (apply Pd <;> first | assumption | omega | decide)) Ak) xr]) func139
theorem Nr(s:BA)(hs:s.size<=1000000000):Pu 139 [.str s] (.ret (.bool (s.data.toList.all M8))):=by
 cases h:s.data.toList.all M8 with
 | true=>exact rU s hs (by rw [Zz,iP h])
 | false=>exact rT s hs (by rw [Zz,iN (by rw [h]; simp)])
def Ec(s:BA):Bool:=decide (1<=s.size)&&decide (s.size<=24)
theorem HB(s:BA):Pu 138 [.str s] (.ret (.bool (Ec s))):=by
 by_cases h:(s.size:Int)>=1
 ·rw [show Ec s=decide ((s.size:Int)<=24) by unfold Ec; rw [decide_eq_true (by omega:1<=s.size),Bool.true_and]; exact decide_eq_decide.2 oM]; exact pm An [kp,rp 2 (dt ((↑(ByteArray.size s):Int)>=1) h),kp,rp 2 (dt ((↑(ByteArray.size s):Int)>=1) h)] func138
 ·rw [show Ec s=false by unfold Ec; rw [decide_eq_false (by omega:¬1<=s.size),Bool.false_and]]; exact pm An [kp,rp 4 (df ((↑(ByteArray.size s):Int)>=1) h)] func138
abbrev V1(s:BA)(j:Int)(e:Ext):S:=S.mk [(0,vS s),(3,A2 j)] [] e
inductive FY where
 | e0
 | e1
def Er  : List UInt8->Nat->FY
 | [],i=>(FY.e1)
 | el::r,i=>(if H9 (↑(UInt8.toNat el):Int)=false then (if (i:Int)=0 then (FY.e0) else (if SZ (↑(UInt8.toNat el):Int)=false then (if (↑(UInt8.toNat el):Int)=95 then Er  r (i+1)  else (FY.e0)) else Er  r (i+1))) else Er  r (i+1))
def Ns(s:BA)(e:Ext):FY->A7 × S
 | .e0=>(.ret,S.mk [(0,vS s),(2,.v (.bool false))] [] e)
 | .e1=>(.exit 0,S.mk [(0,vS s)] [] e)
theorem ZA(s:BA)(e:Ext)(hN:List.length ((s.data.toList))<=1000000000):(Ob.loop 32 (Am f140 0) (V1 s 0  e) (Ns s e (Er  (List.drop 0 ((s.data.toList))) 0)).1 (Ns s e (Er  (List.drop 0 ((s.data.toList))) 0)).2).ok prog:=by
 refine Ek (List.length ((s.data.toList))) (fun j _=>V1 s j  e) (fun i _=>Er  (List.drop i ((s.data.toList))) i) (Ns s e) (fun i _=>True) kR ?_ () trivial
 rintro i u hi -
 rcases Nat.lt_or_ge i (List.length ((s.data.toList))) with Ad | Dm
 ·have hd:=AN Ad
  by_cases h0:H9 (↑(UInt8.toNat (List.getD (Array.toList (ByteArray.data s)) i default)):Int)=false
  ·by_cases h1:(i:Int)=0
   ·exact lX An [kp,dt ((i:Int)<(↑(ByteArray.size s):Int)) (by (apply WJ <;> first | assumption | omega | decide)),am ((0:Int)<=(i:Int)/\(i:Int)<(↑(ByteArray.size s):Int)) (by simp_all [List.length_map,List.length_append,List.length_cons,List.length_nil,A3,Pr.A0,Tp.A0,Pm.A0,Ex.A0,Al.A0,Vr.A0,Cn.A0,Da.A0,Cl.A0,Bo.A0,Df.A0,In.A0,Cs.A0,Ms.A0,Qu.A0,Int.toNat_natCast,Int.toNat_zero,Fg]),av (.v (.int .u8 (↑(UInt8.toNat (List.getD (Array.toList (ByteArray.data s)) (Int.toNat (i:Int)) default)):Int))) (.v (.int .u8 (↑(UInt8.toNat (List.getD (Array.toList (ByteArray.data s)) i default)):Int))) rF,cl (@IP ((↑(UInt8.toNat (List.getD (Array.toList (ByteArray.data s)) i default)):Int))),rp 3 (B7 (BH h0)),rp 7 (CT h1),B7 (BH h0),CT h1,B7 (BH h0),bt true] (FY.e0) (by rw [hd,Er,iP h0,iP h1])
   ·by_cases h2:SZ (↑(UInt8.toNat (List.getD (Array.toList (ByteArray.data s)) i default)):Int)=false
    ·by_cases h3:(↑(UInt8.toNat (List.getD (Array.toList (ByteArray.data s)) i default)):Int)=95
     ·exact lN An [kp,dt ((i:Int)<(↑(ByteArray.size s):Int)) (by (apply WJ <;> first | assumption | omega | decide)),am ((0:Int)<=(i:Int)/\(i:Int)<(↑(ByteArray.size s):Int)) (by simp_all [List.length_map,List.length_append,List.length_cons,List.length_nil,A3,Pr.A0,Tp.A0,Pm.A0,Ex.A0,Al.A0,Vr.A0,Cn.A0,Da.A0,Cl.A0,Bo.A0,Df.A0,In.A0,Cs.A0,Ms.A0,Qu.A0,Int.toNat_natCast,Int.toNat_zero,Fg]),av (.v (.int .u8 (↑(UInt8.toNat (List.getD (Array.toList (ByteArray.data s)) (Int.toNat (i:Int)) default)):Int))) (.v (.int .u8 (↑(UInt8.toNat (List.getD (Array.toList (ByteArray.data s)) i default)):Int))) rF,cl (@IP ((↑(UInt8.toNat (List.getD (Array.toList (ByteArray.data s)) i default)):Int))),rp 3 (B7 (BH h0)),rp 3 (As h1),am ((0:Int)<=(i:Int)/\(i:Int)<(↑(ByteArray.size s):Int)) (by simp_all [List.length_map,List.length_append,List.length_cons,List.length_nil,A3,Pr.A0,Tp.A0,Pm.A0,Ex.A0,Al.A0,Vr.A0,Cn.A0,Da.A0,Cl.A0,Bo.A0,Df.A0,In.A0,Cs.A0,Ms.A0,Qu.A0,Int.toNat_natCast,Int.toNat_zero,Fg]),av (.v (.int .u8 (↑(UInt8.toNat (List.getD (Array.toList (ByteArray.data s)) (Int.toNat (i:Int)) default)):Int))) (.v (.int .u8 (↑(UInt8.toNat (List.getD (Array.toList (ByteArray.data s)) i default)):Int))) rF,As h1,cl (@Sf ((↑(UInt8.toNat (List.getD (Array.toList (ByteArray.data s)) i default)):Int))),rp 2 (As h1),rp 3 (B7 (BH h2)),am ((0:Int)<=(i:Int)/\(i:Int)<(↑(ByteArray.size s):Int)) (by simp_all [List.length_map,List.length_append,List.length_cons,List.length_nil,A3,Pr.A0,Tp.A0,Pm.A0,Ex.A0,Al.A0,Vr.A0,Cn.A0,Da.A0,Cl.A0,Bo.A0,Df.A0,In.A0,Cs.A0,Ms.A0,Qu.A0,Int.toNat_natCast,Int.toNat_zero,Fg]),av (.v (.int .u8 (↑(UInt8.toNat (List.getD (Array.toList (ByteArray.data s)) (Int.toNat (i:Int)) default)):Int))) (.v (.int .u8 (↑(UInt8.toNat (List.getD (Array.toList (ByteArray.data s)) i default)):Int))) rF,B7 (BH h2),As h1,B7 (BH h2),B7 (BH h0),As h1,B7 (BH h0),Bp h3,wr ((i:Int)+1)] Ad () trivial (by rw [hd,Er,iP h0,iN h1,iP h2,iP h3])
     ·exact lX An [kp,dt ((i:Int)<(↑(ByteArray.size s):Int)) (by (apply WJ <;> first | assumption | omega | decide)),am ((0:Int)<=(i:Int)/\(i:Int)<(↑(ByteArray.size s):Int)) (by simp_all [List.length_map,List.length_append,List.length_cons,List.length_nil,A3,Pr.A0,Tp.A0,Pm.A0,Ex.A0,Al.A0,Vr.A0,Cn.A0,Da.A0,Cl.A0,Bo.A0,Df.A0,In.A0,Cs.A0,Ms.A0,Qu.A0,Int.toNat_natCast,Int.toNat_zero,Fg]),av (.v (.int .u8 (↑(UInt8.toNat (List.getD (Array.toList (ByteArray.data s)) (Int.toNat (i:Int)) default)):Int))) (.v (.int .u8 (↑(UInt8.toNat (List.getD (Array.toList (ByteArray.data s)) i default)):Int))) rF,cl (@IP ((↑(UInt8.toNat (List.getD (Array.toList (ByteArray.data s)) i default)):Int))),rp 3 (B7 (BH h0)),rp 3 (As h1),am ((0:Int)<=(i:Int)/\(i:Int)<(↑(ByteArray.size s):Int)) (by simp_all [List.length_map,List.length_append,List.length_cons,List.length_nil,A3,Pr.A0,Tp.A0,Pm.A0,Ex.A0,Al.A0,Vr.A0,Cn.A0,Da.A0,Cl.A0,Bo.A0,Df.A0,In.A0,Cs.A0,Ms.A0,Qu.A0,Int.toNat_natCast,Int.toNat_zero,Fg]),av (.v (.int .u8 (↑(UInt8.toNat (List.getD (Array.toList (ByteArray.data s)) (Int.toNat (i:Int)) default)):Int))) (.v (.int .u8 (↑(UInt8.toNat (List.getD (Array.toList (ByteArray.data s)) i default)):Int))) rF,As h1,cl (@Sf ((↑(UInt8.toNat (List.getD (Array.toList (ByteArray.data s)) i default)):Int))),rp 2 (As h1),rp 3 (B7 (BH h2)),am ((0:Int)<=(i:Int)/\(i:Int)<(↑(ByteArray.size s):Int)) (by simp_all [List.length_map,List.length_append,List.length_cons,List.length_nil,A3,Pr.A0,Tp.A0,Pm.A0,Ex.A0,Al.A0,Vr.A0,Cn.A0,Da.A0,Cl.A0,Bo.A0,Df.A0,In.A0,Cs.A0,Ms.A0,Qu.A0,Int.toNat_natCast,Int.toNat_zero,Fg]),av (.v (.int .u8 (↑(UInt8.toNat (List.getD (Array.toList (ByteArray.data s)) (Int.toNat (i:Int)) default)):Int))) (.v (.int .u8 (↑(UInt8.toNat (List.getD (Array.toList (ByteArray.data s)) i default)):Int))) rF,B7 (BH h2),As h1,B7 (BH h2),B7 (BH h0),As h1,B7 (BH h0),D3 h3] (FY.e0) (by rw [hd,Er,iP h0,iN h1,iP h2,iN h3])
    ·exact lN An [kp,dt ((i:Int)<(↑(ByteArray.size s):Int)) (by (apply WJ <;> first | assumption | omega | decide)),am ((0:Int)<=(i:Int)/\(i:Int)<(↑(ByteArray.size s):Int)) (by simp_all [List.length_map,List.length_append,List.length_cons,List.length_nil,A3,Pr.A0,Tp.A0,Pm.A0,Ex.A0,Al.A0,Vr.A0,Cn.A0,Da.A0,Cl.A0,Bo.A0,Df.A0,In.A0,Cs.A0,Ms.A0,Qu.A0,Int.toNat_natCast,Int.toNat_zero,Fg]),av (.v (.int .u8 (↑(UInt8.toNat (List.getD (Array.toList (ByteArray.data s)) (Int.toNat (i:Int)) default)):Int))) (.v (.int .u8 (↑(UInt8.toNat (List.getD (Array.toList (ByteArray.data s)) i default)):Int))) rF,cl (@IP ((↑(UInt8.toNat (List.getD (Array.toList (ByteArray.data s)) i default)):Int))),rp 3 (B7 (BH h0)),rp 3 (As h1),am ((0:Int)<=(i:Int)/\(i:Int)<(↑(ByteArray.size s):Int)) (by simp_all [List.length_map,List.length_append,List.length_cons,List.length_nil,A3,Pr.A0,Tp.A0,Pm.A0,Ex.A0,Al.A0,Vr.A0,Cn.A0,Da.A0,Cl.A0,Bo.A0,Df.A0,In.A0,Cs.A0,Ms.A0,Qu.A0,Int.toNat_natCast,Int.toNat_zero,Fg]),av (.v (.int .u8 (↑(UInt8.toNat (List.getD (Array.toList (ByteArray.data s)) (Int.toNat (i:Int)) default)):Int))) (.v (.int .u8 (↑(UInt8.toNat (List.getD (Array.toList (ByteArray.data s)) i default)):Int))) rF,As h1,cl (@Sf ((↑(UInt8.toNat (List.getD (Array.toList (ByteArray.data s)) i default)):Int))),rp 2 (As h1),rp 4 (B1 (B3 (Qk h2))),As h1,B1 (B3 (Qk h2)),B7 (BH h0),As h1,B7 (BH h0),bf false,wr ((i:Int)+1)] Ad () trivial (by rw [hd,Er,iP h0,iN h1,iN h2])
  ·exact lN An [kp,dt ((i:Int)<(↑(ByteArray.size s):Int)) (by (apply WJ <;> first | assumption | omega | decide)),am ((0:Int)<=(i:Int)/\(i:Int)<(↑(ByteArray.size s):Int)) (by simp_all [List.length_map,List.length_append,List.length_cons,List.length_nil,A3,Pr.A0,Tp.A0,Pm.A0,Ex.A0,Al.A0,Vr.A0,Cn.A0,Da.A0,Cl.A0,Bo.A0,Df.A0,In.A0,Cs.A0,Ms.A0,Qu.A0,Int.toNat_natCast,Int.toNat_zero,Fg]),av (.v (.int .u8 (↑(UInt8.toNat (List.getD (Array.toList (ByteArray.data s)) (Int.toNat (i:Int)) default)):Int))) (.v (.int .u8 (↑(UInt8.toNat (List.getD (Array.toList (ByteArray.data s)) i default)):Int))) rF,cl (@IP ((↑(UInt8.toNat (List.getD (Array.toList (ByteArray.data s)) i default)):Int))),rp 5 (B1 (B3 (Qk h0))),bf false,wr ((i:Int)+1)] Ad () trivial (by rw [hd,Er,iN h0])
 ·have he:i=List.length ((s.data.toList)):=by omega
  exact lX An [kp,df ((i:Int)<(↑(ByteArray.size s):Int)) (by (apply bzF <;> first | assumption | omega | decide))] (FY.e1) (by rw [he,List.drop_length,Er])
theorem A1f(s:BA)(e:Ext)(hN:List.length ((s.data.toList))<=1000000000)(AF:(Er  ((s.data.toList)) 0)=(FY.e0)):(Ob.loop 32 (Am f140 0) (V1 s 0  e) (Ns s e (FY.e0)).1 (Ns s e (FY.e0)).2).ok prog:=
 rz (ZA s e hN) AF
theorem A1g(s:BA)(e:Ext)(hN:List.length ((s.data.toList))<=1000000000)(AF:(Er  ((s.data.toList)) 0)=(FY.e1)):(Ob.loop 32 (Am f140 0) (V1 s 0  e) (Ns s e (FY.e1)).1 (Ns s e (FY.e1)).2).ok prog:=
 rz (ZA s e hN) AF
abbrev V2(s:BA)(j:Int)(e:Ext):S:=S.mk [(0,vS s),(5,.v (.agg kwC)),(6,A2 j)] [] e
inductive I7 where
 | e0
 | e1
def HC(s:BA):List BA->I7
 | []=>(I7.e1)
 | el::r=>(if el=s then (I7.e0) else HC s r)
def Nt(s:BA)(e:Ext):I7->A7 × S
 | .e0=>(.ret,S.mk [(0,vS s),(5,.v (.agg [.str (ByteArray.mk #[97,110,100]),.str (ByteArray.mk #[97,115,115,117,109,101]),.str (ByteArray.mk #[98,111,111,108]),.str (ByteArray.mk #[98,111,117,110,100]),.str (ByteArray.mk #[99,97,115,101]),.str (ByteArray.mk #[99,101,108,108]),.str (ByteArray.mk #[99,108,97,115,115]),.str (ByteArray.mk #[100,97,116,97]),.str (ByteArray.mk #[100,101,102]),.str (ByteArray.mk #[100,105,118]),.str (ByteArray.mk #[101,108,115,101]),.str (ByteArray.mk #[101,110,100]),.str (ByteArray.mk #[102,97,108,115,101]),.str (ByteArray.mk #[102,111,114,97,108,108]),.str (ByteArray.mk #[102,117,110]),.str (ByteArray.mk #[103,101,116]),.str (ByteArray.mk #[105,102]),.str (ByteArray.mk #[105,110]),.str (ByteArray.mk #[105,110,115,116]),.str (ByteArray.mk #[105,110,116]),.str (ByteArray.mk #[105,110,118,97,114,105,97,110,116]),.str (ByteArray.mk #[108,101,116]),.str (ByteArray.mk #[109,97,116,99,104]),.str (ByteArray.mk #[109,101,97,115,117,114,101]),.str (ByteArray.mk #[109,101,116,114,105,99]),.str (ByteArray.mk #[109,111,100]),.str (ByteArray.mk #[109,117]),.str (ByteArray.mk #[110,101,119]),.str (ByteArray.mk #[110,111,116]),.str (ByteArray.mk #[111,102]),.str (ByteArray.mk #[111,114]),.str (ByteArray.mk #[113,117,97,108]),.str (ByteArray.mk #[114,101,102,108,101,99,116]),.str (ByteArray.mk #[115,101,116]),.str (ByteArray.mk #[116,104,101,110]),.str (ByteArray.mk #[116,114,117,101]),.str (ByteArray.mk #[117,115,101]),.str (bM 118),.str (ByteArray.mk #[118,97,108]),.str (ByteArray.mk #[116,97,103]),.str (ByteArray.mk #[119,104,101,114,101]),.str (ByteArray.mk #[119,105,116,104])])),(2,.v (.bool true))] [] e)
 | .e1=>(.exit 0,S.mk [(0,vS s),(5,.v (.agg [.str (ByteArray.mk #[97,110,100]),.str (ByteArray.mk #[97,115,115,117,109,101]),.str (ByteArray.mk #[98,111,111,108]),.str (ByteArray.mk #[98,111,117,110,100]),.str (ByteArray.mk #[99,97,115,101]),.str (ByteArray.mk #[99,101,108,108]),.str (ByteArray.mk #[99,108,97,115,115]),.str (ByteArray.mk #[100,97,116,97]),.str (ByteArray.mk #[100,101,102]),.str (ByteArray.mk #[100,105,118]),.str (ByteArray.mk #[101,108,115,101]),.str (ByteArray.mk #[101,110,100]),.str (ByteArray.mk #[102,97,108,115,101]),.str (ByteArray.mk #[102,111,114,97,108,108]),.str (ByteArray.mk #[102,117,110]),.str (ByteArray.mk #[103,101,116]),.str (ByteArray.mk #[105,102]),.str (ByteArray.mk #[105,110]),.str (ByteArray.mk #[105,110,115,116]),.str (ByteArray.mk #[105,110,116]),.str (ByteArray.mk #[105,110,118,97,114,105,97,110,116]),.str (ByteArray.mk #[108,101,116]),.str (ByteArray.mk #[109,97,116,99,104]),.str (ByteArray.mk #[109,101,97,115,117,114,101]),.str (ByteArray.mk #[109,101,116,114,105,99]),.str (ByteArray.mk #[109,111,100]),.str (ByteArray.mk #[109,117]),.str (ByteArray.mk #[110,101,119]),.str (ByteArray.mk #[110,111,116]),.str (ByteArray.mk #[111,102]),.str (ByteArray.mk #[111,114]),.str (ByteArray.mk #[113,117,97,108]),.str (ByteArray.mk #[114,101,102,108,101,99,116]),.str (ByteArray.mk #[115,101,116]),.str (ByteArray.mk #[116,104,101,110]),.str (ByteArray.mk #[116,114,117,101]),.str (ByteArray.mk #[117,115,101]),.str (bM 118),.str (ByteArray.mk #[118,97,108]),.str (ByteArray.mk #[116,97,103]),.str (ByteArray.mk #[119,104,101,114,101]),.str (ByteArray.mk #[119,105,116,104])]))] [] e)
theorem ZB(s:BA)(e:Ext)(hN:List.length ((KZ))<=1000000000):(Ob.loop 13 (Am f189 0) (V2 s 0  e) (Nt s e (HC s (List.drop 0 ((KZ))))).1 (Nt s e (HC s (List.drop 0 ((KZ))))).2).ok prog:=by
 refine Ek (List.length ((KZ))) (fun j _=>V2 s j  e) (fun i _=>HC s (List.drop i ((KZ)))) (Nt s e) (fun i _=>True) kR ?_ () trivial
 rintro i u hi -
 rcases Nat.lt_or_ge i (List.length ((KZ))) with Ad | Dm
 ·have hd:=D9 Ad
  by_cases h0:List.getD KZ i AI=s
  ·exact lX An [dt ((i:Int)<42) (by (apply kwT <;> first | assumption | omega | decide)),am ((0:Int)<=(i:Int)/\(i:Int)<(42:Int)) (by (apply kwA <;> first | assumption | omega | decide)),av (.v (List.getD [.str (ByteArray.mk #[97,110,100]),.str (ByteArray.mk #[97,115,115,117,109,101]),.str (ByteArray.mk #[98,111,111,108]),.str (ByteArray.mk #[98,111,117,110,100]),.str (ByteArray.mk #[99,97,115,101]),.str (ByteArray.mk #[99,101,108,108]),.str (ByteArray.mk #[99,108,97,115,115]),.str (ByteArray.mk #[100,97,116,97]),.str (ByteArray.mk #[100,101,102]),.str (ByteArray.mk #[100,105,118]),.str (ByteArray.mk #[101,108,115,101]),.str (ByteArray.mk #[101,110,100]),.str (ByteArray.mk #[102,97,108,115,101]),.str (ByteArray.mk #[102,111,114,97,108,108]),.str (ByteArray.mk #[102,117,110]),.str (ByteArray.mk #[103,101,116]),.str (ByteArray.mk #[105,102]),.str (ByteArray.mk #[105,110]),.str (ByteArray.mk #[105,110,115,116]),.str (ByteArray.mk #[105,110,116]),.str (ByteArray.mk #[105,110,118,97,114,105,97,110,116]),.str (ByteArray.mk #[108,101,116]),.str (ByteArray.mk #[109,97,116,99,104]),.str (ByteArray.mk #[109,101,97,115,117,114,101]),.str (ByteArray.mk #[109,101,116,114,105,99]),.str (ByteArray.mk #[109,111,100]),.str (ByteArray.mk #[109,117]),.str (ByteArray.mk #[110,101,119]),.str (ByteArray.mk #[110,111,116]),.str (ByteArray.mk #[111,102]),.str (ByteArray.mk #[111,114]),.str (ByteArray.mk #[113,117,97,108]),.str (ByteArray.mk #[114,101,102,108,101,99,116]),.str (ByteArray.mk #[115,101,116]),.str (ByteArray.mk #[116,104,101,110]),.str (ByteArray.mk #[116,114,117,101]),.str (ByteArray.mk #[117,115,101]),.str (bM 118),.str (ByteArray.mk #[118,97,108]),.str (ByteArray.mk #[116,97,103]),.str (ByteArray.mk #[119,104,101,114,101]),.str (ByteArray.mk #[119,105,116,104])] (Int.toNat (i:Int)) .Dy)) (vS (List.getD KZ i AI)) (by simp only [Int.toNat_natCast,Int.toNat_zero]; rw [@Zx (i) Ad]; try rfl),bt (ByteArray.toList (List.getD KZ i AI)==ByteArray.toList s) (DZ h0)] (I7.e0) (by rw [hd,HC,iP h0])
  ·exact lN An [dt ((i:Int)<42) (by (apply kwT <;> first | assumption | omega | decide)),am ((0:Int)<=(i:Int)/\(i:Int)<(42:Int)) (by (apply kwA <;> first | assumption | omega | decide)),av (.v (List.getD [.str (ByteArray.mk #[97,110,100]),.str (ByteArray.mk #[97,115,115,117,109,101]),.str (ByteArray.mk #[98,111,111,108]),.str (ByteArray.mk #[98,111,117,110,100]),.str (ByteArray.mk #[99,97,115,101]),.str (ByteArray.mk #[99,101,108,108]),.str (ByteArray.mk #[99,108,97,115,115]),.str (ByteArray.mk #[100,97,116,97]),.str (ByteArray.mk #[100,101,102]),.str (ByteArray.mk #[100,105,118]),.str (ByteArray.mk #[101,108,115,101]),.str (ByteArray.mk #[101,110,100]),.str (ByteArray.mk #[102,97,108,115,101]),.str (ByteArray.mk #[102,111,114,97,108,108]),.str (ByteArray.mk #[102,117,110]),.str (ByteArray.mk #[103,101,116]),.str (ByteArray.mk #[105,102]),.str (ByteArray.mk #[105,110]),.str (ByteArray.mk #[105,110,115,116]),.str (ByteArray.mk #[105,110,116]),.str (ByteArray.mk #[105,110,118,97,114,105,97,110,116]),.str (ByteArray.mk #[108,101,116]),.str (ByteArray.mk #[109,97,116,99,104]),.str (ByteArray.mk #[109,101,97,115,117,114,101]),.str (ByteArray.mk #[109,101,116,114,105,99]),.str (ByteArray.mk #[109,111,100]),.str (ByteArray.mk #[109,117]),.str (ByteArray.mk #[110,101,119]),.str (ByteArray.mk #[110,111,116]),.str (ByteArray.mk #[111,102]),.str (ByteArray.mk #[111,114]),.str (ByteArray.mk #[113,117,97,108]),.str (ByteArray.mk #[114,101,102,108,101,99,116]),.str (ByteArray.mk #[115,101,116]),.str (ByteArray.mk #[116,104,101,110]),.str (ByteArray.mk #[116,114,117,101]),.str (ByteArray.mk #[117,115,101]),.str (bM 118),.str (ByteArray.mk #[118,97,108]),.str (ByteArray.mk #[116,97,103]),.str (ByteArray.mk #[119,104,101,114,101]),.str (ByteArray.mk #[119,105,116,104])] (Int.toNat (i:Int)) .Dy)) (vS (List.getD KZ i AI)) (by simp only [Int.toNat_natCast,Int.toNat_zero]; rw [@Zx (i) Ad]; try rfl),bf (ByteArray.toList (List.getD KZ i AI)==ByteArray.toList s) (HT h0),wr ((i:Int)+1)] Ad () trivial (by rw [hd,HC,iN h0])
 ·have he:i=List.length ((KZ)):=by omega
  exact lX An [df ((i:Int)<42) (by (apply kwF <;> first | assumption | omega | decide))] (I7.e1) (by rw [he,List.drop_length,HC])
theorem A1h(s:BA)(e:Ext)(hN:List.length ((KZ))<=1000000000)(AF:(HC s ((KZ)))=(I7.e0)):(Ob.loop 13 (Am f189 0) (V2 s 0  e) (Nt s e (I7.e0)).1 (Nt s e (I7.e0)).2).ok prog:=
 rz (ZB s e hN) AF
theorem A1i(s:BA)(e:Ext)(hN:List.length ((KZ))<=1000000000)(AF:(HC s ((KZ)))=(I7.e1)):(Ob.loop 13 (Am f189 0) (V2 s 0  e) (Nt s e (I7.e1)).1 (Nt s e (I7.e1)).2).ok prog:=
 rz (ZB s e hN) AF
def I8:List UInt8->Bool
 | []=>true
 | c::r=>H9 c.toNat&&r.all rS
theorem ZC:∀ (l:List UInt8) (i:Nat),Er l (i+1)=if l.all rS=true then .e1 else .e0
 | [],_=>rfl
 | c::r,i=>by
  have hi:¬(((i+1:Nat):Int)=0):=by omega
  have hj:¬((i:Int)+1=0):=by omega
  by_cases h1:H9 c.toNat=true <;> by_cases h2:SZ c.toNat=true <;> by_cases h3:((c.toNat:Nat):Int)=95 <;> simp [Er,rS,h1,h2,h3,hi,hj,ZC r (i+1)]
theorem m6(l:List UInt8):Er l 0=if I8 l=true then .e1 else .e0:=by
 cases l with
 | nil=>rfl
 | cons c r=>
  by_cases h1:H9 c.toNat=true
  ·have:=ZC r 0
   simp [Er,I8,h1,this]
  ·simp [Er,I8,h1]
def Sg(s:BA):Bool:=decide (ix id s KZ<KZ.length)
theorem ZD(s:BA):∀l:List BA,HC s l=if ix id s l<l.length then .e0 else .e1
 | []=>by simp [HC,ix]
 | c::r=>by
  by_cases h:c=s
  ·simp [HC,ix,h]
  ·simp only [HC,ix,id,h,if_false,ZD s r,List.length_cons,Nat.add_lt_add_iff_right]
theorem rV(s:BA)(hs:s.size<=1000000000)(Ak:Er (Array.toList (ByteArray.data s)) 0=FY.e0):Pu 140 [.str s] (rB false):=
 pu An (fun e=>[lp (S.mk [(0,vS s),(2,.v (.bool false)),(3,A2 0)] [] e) (@A1f (s) (e) (by (apply Pd <;> first | assumption | omega | decide)) Ak) xr]) func140
theorem rW(s:BA)(hs:s.size<=1000000000)(Ak:Er (Array.toList (ByteArray.data s)) 0=FY.e1):Pu 140 [.str s] (rB true):=
 pu An (fun e=>[lp (S.mk [(0,vS s),(2,.v (.bool false)),(3,A2 0)] [] e) (@A1g (s) (e) (by (apply Pd <;> first | assumption | omega | decide)) Ak) xr]) func140
theorem iT(s:BA)(hs:s.size<=1000000000):Pu 140 [.str s] (.ret (.bool (I8 s.data.toList))):=by
 cases h:I8 s.data.toList with
 | true=>exact rW s hs (by rw [m6,iP h])
 | false=>exact rV s hs (by rw [m6,iN (by rw [h]; simp)])
theorem rX(s:BA):Pu 189 [.str s] (.ret (.bool (Sg s))):=by
 unfold Sg
 by_cases h:ix id s KZ<KZ.length
 ·rw [decide_eq_true h]; exact pu An (fun e=>[lp (S.mk [(0,vS s),(2,.v (.bool false)),(5,.v (.agg [.str (ByteArray.mk #[97,110,100]),.str (ByteArray.mk #[97,115,115,117,109,101]),.str (ByteArray.mk #[98,111,111,108]),.str (ByteArray.mk #[98,111,117,110,100]),.str (ByteArray.mk #[99,97,115,101]),.str (ByteArray.mk #[99,101,108,108]),.str (ByteArray.mk #[99,108,97,115,115]),.str (ByteArray.mk #[100,97,116,97]),.str (ByteArray.mk #[100,101,102]),.str (ByteArray.mk #[100,105,118]),.str (ByteArray.mk #[101,108,115,101]),.str (ByteArray.mk #[101,110,100]),.str (ByteArray.mk #[102,97,108,115,101]),.str (ByteArray.mk #[102,111,114,97,108,108]),.str (ByteArray.mk #[102,117,110]),.str (ByteArray.mk #[103,101,116]),.str (ByteArray.mk #[105,102]),.str (ByteArray.mk #[105,110]),.str (ByteArray.mk #[105,110,115,116]),.str (ByteArray.mk #[105,110,116]),.str (ByteArray.mk #[105,110,118,97,114,105,97,110,116]),.str (ByteArray.mk #[108,101,116]),.str (ByteArray.mk #[109,97,116,99,104]),.str (ByteArray.mk #[109,101,97,115,117,114,101]),.str (ByteArray.mk #[109,101,116,114,105,99]),.str (ByteArray.mk #[109,111,100]),.str (ByteArray.mk #[109,117]),.str (ByteArray.mk #[110,101,119]),.str (ByteArray.mk #[110,111,116]),.str (ByteArray.mk #[111,102]),.str (ByteArray.mk #[111,114]),.str (ByteArray.mk #[113,117,97,108]),.str (ByteArray.mk #[114,101,102,108,101,99,116]),.str (ByteArray.mk #[115,101,116]),.str (ByteArray.mk #[116,104,101,110]),.str (ByteArray.mk #[116,114,117,101]),.str (ByteArray.mk #[117,115,101]),.str (bM 118),.str (ByteArray.mk #[118,97,108]),.str (ByteArray.mk #[116,97,103]),.str (ByteArray.mk #[119,104,101,114,101]),.str (ByteArray.mk #[119,105,116,104])])),(6,A2 0)] [] e) (@A1h (s) (e) dD (by rw [ZD,iP h])) xr]) func189
 ·rw [decide_eq_false h]; exact pu An (fun e=>[lp (S.mk [(0,vS s),(2,.v (.bool false)),(5,.v (.agg [.str (ByteArray.mk #[97,110,100]),.str (ByteArray.mk #[97,115,115,117,109,101]),.str (ByteArray.mk #[98,111,111,108]),.str (ByteArray.mk #[98,111,117,110,100]),.str (ByteArray.mk #[99,97,115,101]),.str (ByteArray.mk #[99,101,108,108]),.str (ByteArray.mk #[99,108,97,115,115]),.str (ByteArray.mk #[100,97,116,97]),.str (ByteArray.mk #[100,101,102]),.str (ByteArray.mk #[100,105,118]),.str (ByteArray.mk #[101,108,115,101]),.str (ByteArray.mk #[101,110,100]),.str (ByteArray.mk #[102,97,108,115,101]),.str (ByteArray.mk #[102,111,114,97,108,108]),.str (ByteArray.mk #[102,117,110]),.str (ByteArray.mk #[103,101,116]),.str (ByteArray.mk #[105,102]),.str (ByteArray.mk #[105,110]),.str (ByteArray.mk #[105,110,115,116]),.str (ByteArray.mk #[105,110,116]),.str (ByteArray.mk #[105,110,118,97,114,105,97,110,116]),.str (ByteArray.mk #[108,101,116]),.str (ByteArray.mk #[109,97,116,99,104]),.str (ByteArray.mk #[109,101,97,115,117,114,101]),.str (ByteArray.mk #[109,101,116,114,105,99]),.str (ByteArray.mk #[109,111,100]),.str (ByteArray.mk #[109,117]),.str (ByteArray.mk #[110,101,119]),.str (ByteArray.mk #[110,111,116]),.str (ByteArray.mk #[111,102]),.str (ByteArray.mk #[111,114]),.str (ByteArray.mk #[113,117,97,108]),.str (ByteArray.mk #[114,101,102,108,101,99,116]),.str (ByteArray.mk #[115,101,116]),.str (ByteArray.mk #[116,104,101,110]),.str (ByteArray.mk #[116,114,117,101]),.str (ByteArray.mk #[117,115,101]),.str (bM 118),.str (ByteArray.mk #[118,97,108]),.str (ByteArray.mk #[116,97,103]),.str (ByteArray.mk #[119,104,101,114,101]),.str (ByteArray.mk #[119,105,116,104])])),(6,A2 0)] [] e) (@A1i (s) (e) dD (by rw [ZD,iN h])) xr]) func189
theorem H7{s:BA}(h:Ec s=true):(0:Int)<=0/\(0:Int)<(s.size:Int):=by
 simp only [Ec,Bool.and_eq_true,decide_eq_true_eq] at h; omega
theorem ZE{s:BA}(h:Ec s=true):List.length (List.drop 1 s.data.toList)<=1000000000:=by
 have:s.size=s.data.size:=rfl
 simp only [Ec,Bool.and_eq_true,decide_eq_true_eq] at h; simp; omega
theorem iU{s:BA}{i:Nat}(h:i<List.length (List.drop 1 s.data.toList)):(0:Int)<=(i:Int)+1/\(i:Int)+1<(s.size:Int):=by
 have:=b1T h; omega
abbrev V3(s:BA)(j:Int)(e:Ext):S:=S.mk [(0,vS s),(3,A2 (j+1))] [] e
inductive GK where
 | e0
 | e1
def FG  : List UInt8->GK
 | []=>(GK.e1)
 | el::r=>(if H9 (↑(UInt8.toNat el):Int)=false then (if SZ (↑(UInt8.toNat el):Int)=false then (if (↑(UInt8.toNat el):Int)=95 then FG  r  else (GK.e0)) else FG  r) else FG  r)
def Nu(s:BA)(e:Ext):GK->A7 × S
 | .e0=>(.ret,S.mk [(0,vS s),(2,.v (.bool false))] [] e)
 | .e1=>(.exit 0,S.mk [(0,vS s)] [] e)
theorem ZF(s:BA)(Fc:Ec s=true)(Gy:H9 (s.data.toList.getD 0 default).toNat=true)(JA:Sg s=false)(e:Ext)(hN:List.length ((List.drop 1 s.data.toList))<=1000000000):(Ob.loop 41 (Am f136 0) (V3 s 0  e) (Nu s e (FG  (List.drop 0 ((List.drop 1 s.data.toList))))).1 (Nu s e (FG  (List.drop 0 ((List.drop 1 s.data.toList))))).2).ok prog:=by
 refine Ek (List.length ((List.drop 1 s.data.toList))) (fun j _=>V3 s j  e) (fun i _=>FG  (List.drop i ((List.drop 1 s.data.toList)))) (Nu s e) (fun i _=>True) kR ?_ () trivial
 rintro i u hi -
 rcases Nat.lt_or_ge i (List.length ((List.drop 1 s.data.toList))) with Ad | Dm
 ·have hd:=AN Ad
  by_cases h0:H9 (↑(UInt8.toNat (List.getD (List.drop 1 (Array.toList (ByteArray.data s))) i default)):Int)=false
  ·by_cases h1:SZ (↑(UInt8.toNat (List.getD (List.drop 1 (Array.toList (ByteArray.data s))) i default)):Int)=false
   ·by_cases h2:(↑(UInt8.toNat (List.getD (List.drop 1 (Array.toList (ByteArray.data s))) i default)):Int)=95
    ·exact lN An [kp,dt ((i:Int)+1<(↑(ByteArray.size s):Int)) (by (apply b1T <;> first | assumption | omega | decide)),am ((0:Int)<=(i:Int)+1/\(i:Int)+1<(↑(ByteArray.size s):Int)) (by (apply iU <;> first | assumption | omega | decide)),av (.v (.int .u8 (↑(UInt8.toNat (List.getD (Array.toList (ByteArray.data s)) (Int.toNat ((i:Int)+1)) default)):Int))) (.v (.int .u8 (↑(UInt8.toNat (List.getD (List.drop 1 (Array.toList (ByteArray.data s))) i default)):Int))) (by simp only [Int.toNat_natCast,Int.toNat_zero,Fg]; rw [@Kw (Array.toList (ByteArray.data s)) (i) Ad]; try rfl),cl (@IP ((↑(UInt8.toNat (List.getD (List.drop 1 (Array.toList (ByteArray.data s))) i default)):Int))),rp 3 (B7 (BH h0)),am ((0:Int)<=(i:Int)+1/\(i:Int)+1<(↑(ByteArray.size s):Int)) (by (apply iU <;> first | assumption | omega | decide)),av (.v (.int .u8 (↑(UInt8.toNat (List.getD (Array.toList (ByteArray.data s)) (Int.toNat ((i:Int)+1)) default)):Int))) (.v (.int .u8 (↑(UInt8.toNat (List.getD (List.drop 1 (Array.toList (ByteArray.data s))) i default)):Int))) (by simp only [Int.toNat_natCast,Int.toNat_zero,Fg]; rw [@Kw (Array.toList (ByteArray.data s)) (i) Ad]; try rfl),B7 (BH h0),cl (@Sf ((↑(UInt8.toNat (List.getD (List.drop 1 (Array.toList (ByteArray.data s))) i default)):Int))),rp 2 (B7 (BH h0)),rp 3 (B7 (BH h1)),am ((0:Int)<=(i:Int)+1/\(i:Int)+1<(↑(ByteArray.size s):Int)) (by (apply iU <;> first | assumption | omega | decide)),av (.v (.int .u8 (↑(UInt8.toNat (List.getD (Array.toList (ByteArray.data s)) (Int.toNat ((i:Int)+1)) default)):Int))) (.v (.int .u8 (↑(UInt8.toNat (List.getD (List.drop 1 (Array.toList (ByteArray.data s))) i default)):Int))) (by simp only [Int.toNat_natCast,Int.toNat_zero,Fg]; rw [@Kw (Array.toList (ByteArray.data s)) (i) Ad]; try rfl),rp 2 (B7 (BH h1)),Bp h2,wr ((i:Int)+1+1)] Ad () trivial (by rw [hd,FG,iP h0,iP h1,iP h2])
    ·exact lX An [kp,dt ((i:Int)+1<(↑(ByteArray.size s):Int)) (by (apply b1T <;> first | assumption | omega | decide)),am ((0:Int)<=(i:Int)+1/\(i:Int)+1<(↑(ByteArray.size s):Int)) (by (apply iU <;> first | assumption | omega | decide)),av (.v (.int .u8 (↑(UInt8.toNat (List.getD (Array.toList (ByteArray.data s)) (Int.toNat ((i:Int)+1)) default)):Int))) (.v (.int .u8 (↑(UInt8.toNat (List.getD (List.drop 1 (Array.toList (ByteArray.data s))) i default)):Int))) (by simp only [Int.toNat_natCast,Int.toNat_zero,Fg]; rw [@Kw (Array.toList (ByteArray.data s)) (i) Ad]; try rfl),cl (@IP ((↑(UInt8.toNat (List.getD (List.drop 1 (Array.toList (ByteArray.data s))) i default)):Int))),rp 3 (B7 (BH h0)),am ((0:Int)<=(i:Int)+1/\(i:Int)+1<(↑(ByteArray.size s):Int)) (by (apply iU <;> first | assumption | omega | decide)),av (.v (.int .u8 (↑(UInt8.toNat (List.getD (Array.toList (ByteArray.data s)) (Int.toNat ((i:Int)+1)) default)):Int))) (.v (.int .u8 (↑(UInt8.toNat (List.getD (List.drop 1 (Array.toList (ByteArray.data s))) i default)):Int))) (by simp only [Int.toNat_natCast,Int.toNat_zero,Fg]; rw [@Kw (Array.toList (ByteArray.data s)) (i) Ad]; try rfl),B7 (BH h0),cl (@Sf ((↑(UInt8.toNat (List.getD (List.drop 1 (Array.toList (ByteArray.data s))) i default)):Int))),rp 2 (B7 (BH h0)),rp 3 (B7 (BH h1)),am ((0:Int)<=(i:Int)+1/\(i:Int)+1<(↑(ByteArray.size s):Int)) (by (apply iU <;> first | assumption | omega | decide)),av (.v (.int .u8 (↑(UInt8.toNat (List.getD (Array.toList (ByteArray.data s)) (Int.toNat ((i:Int)+1)) default)):Int))) (.v (.int .u8 (↑(UInt8.toNat (List.getD (List.drop 1 (Array.toList (ByteArray.data s))) i default)):Int))) (by simp only [Int.toNat_natCast,Int.toNat_zero,Fg]; rw [@Kw (Array.toList (ByteArray.data s)) (i) Ad]; try rfl),rp 2 (B7 (BH h1)),D3 h2] (GK.e0) (by rw [hd,FG,iP h0,iP h1,iN h2])
   ·exact lN An [kp,dt ((i:Int)+1<(↑(ByteArray.size s):Int)) (by (apply b1T <;> first | assumption | omega | decide)),am ((0:Int)<=(i:Int)+1/\(i:Int)+1<(↑(ByteArray.size s):Int)) (by (apply iU <;> first | assumption | omega | decide)),av (.v (.int .u8 (↑(UInt8.toNat (List.getD (Array.toList (ByteArray.data s)) (Int.toNat ((i:Int)+1)) default)):Int))) (.v (.int .u8 (↑(UInt8.toNat (List.getD (List.drop 1 (Array.toList (ByteArray.data s))) i default)):Int))) (by simp only [Int.toNat_natCast,Int.toNat_zero,Fg]; rw [@Kw (Array.toList (ByteArray.data s)) (i) Ad]; try rfl),cl (@IP ((↑(UInt8.toNat (List.getD (List.drop 1 (Array.toList (ByteArray.data s))) i default)):Int))),rp 3 (B7 (BH h0)),am ((0:Int)<=(i:Int)+1/\(i:Int)+1<(↑(ByteArray.size s):Int)) (by (apply iU <;> first | assumption | omega | decide)),av (.v (.int .u8 (↑(UInt8.toNat (List.getD (Array.toList (ByteArray.data s)) (Int.toNat ((i:Int)+1)) default)):Int))) (.v (.int .u8 (↑(UInt8.toNat (List.getD (List.drop 1 (Array.toList (ByteArray.data s))) i default)):Int))) (by simp only [Int.toNat_natCast,Int.toNat_zero,Fg]; rw [@Kw (Array.toList (ByteArray.data s)) (i) Ad]; try rfl),B7 (BH h0),cl (@Sf ((↑(UInt8.toNat (List.getD (List.drop 1 (Array.toList (ByteArray.data s))) i default)):Int))),rp 2 (B7 (BH h0)),rp 5 (B1 (B3 (Qk h1))),bf false,wr ((i:Int)+1+1)] Ad () trivial (by rw [hd,FG,iP h0,iN h1])
  ·exact lN An [kp,dt ((i:Int)+1<(↑(ByteArray.size s):Int)) (by (apply b1T <;> first | assumption | omega | decide)),am ((0:Int)<=(i:Int)+1/\(i:Int)+1<(↑(ByteArray.size s):Int)) (by (apply iU <;> first | assumption | omega | decide)),av (.v (.int .u8 (↑(UInt8.toNat (List.getD (Array.toList (ByteArray.data s)) (Int.toNat ((i:Int)+1)) default)):Int))) (.v (.int .u8 (↑(UInt8.toNat (List.getD (List.drop 1 (Array.toList (ByteArray.data s))) i default)):Int))) (by simp only [Int.toNat_natCast,Int.toNat_zero,Fg]; rw [@Kw (Array.toList (ByteArray.data s)) (i) Ad]; try rfl),cl (@IP ((↑(UInt8.toNat (List.getD (List.drop 1 (Array.toList (ByteArray.data s))) i default)):Int))),rp 6 (B1 (B3 (Qk h0))),rp 6 (bf false),wr ((i:Int)+1+1)] Ad () trivial (by rw [hd,FG,iN h0])
 ·have he:i=List.length ((List.drop 1 s.data.toList)):=by omega
  exact lX An [kp,df ((i:Int)+1<(↑(ByteArray.size s):Int)) (by (apply b1F <;> first | assumption | omega | decide))] (GK.e1) (by rw [he,List.drop_length,FG])
theorem A1j(s:BA)(Fc:Ec s=true)(Gy:H9 (s.data.toList.getD 0 default).toNat=true)(JA:Sg s=false)(e:Ext)(hN:List.length ((List.drop 1 s.data.toList))<=1000000000)(AF:(FG  ((List.drop 1 s.data.toList)))=(GK.e0)):(Ob.loop 41 (Am f136 0) (V3 s 0  e) (Nu s e (GK.e0)).1 (Nu s e (GK.e0)).2).ok prog:=
 rz (ZF s Fc Gy JA e hN) AF
theorem A1k(s:BA)(Fc:Ec s=true)(Gy:H9 (s.data.toList.getD 0 default).toNat=true)(JA:Sg s=false)(e:Ext)(hN:List.length ((List.drop 1 s.data.toList))<=1000000000)(AF:(FG  ((List.drop 1 s.data.toList)))=(GK.e1)):(Ob.loop 41 (Am f136 0) (V3 s 0  e) (Nu s e (GK.e1)).1 (Nu s e (GK.e1)).2).ok prog:=
 rz (ZF s Fc Gy JA e hN) AF
theorem ZG:∀l:List UInt8,FG l=if l.all rS=true then .e1 else .e0
 | []=>rfl
 | c::r=>by
  by_cases h1:H9 c.toNat=true <;> by_cases h2:SZ c.toNat=true <;> by_cases h3:((c.toNat:Nat):Int)=95 <;> simp [FG,rS,h1,h2,h3,ZG r]
def Ac(s:BA):Bool:=Ec s&&H9 (s.data.toList.getD 0 default).toNat && !Sg s&&(s.data.toList.drop 1).all rS
section
variable (s:BA) (Fc:Ec s=true)
include s Fc
theorem A7z(Gy:H9 (s.data.toList.getD 0 default).toNat=false):Pu 136 [.str s] (rB false):=
 pm An [cl (@HB (s)),rp 2 (bf (!Ec s) (B3 Fc)),am ((0:Int)<=0/\0<(↑(ByteArray.size s):Int)) (by (apply H7 <;> first | assumption | omega | decide)),av (.v (.int .u8 (↑(UInt8.toNat (List.getD (Array.toList (ByteArray.data s)) (Int.toNat 0) default)):Int))) (.v (.int .u8 (↑(UInt8.toNat (List.getD (Array.toList (ByteArray.data s)) 0 default)):Int))) rF,bf (!Ec s) (B3 Fc),cl (@IP ((↑(UInt8.toNat (List.getD (Array.toList (ByteArray.data s)) 0 default)):Int))),rp 2 (bf (!Ec s) (B3 Fc)),rp 3 (bt (!H9 (↑(UInt8.toNat (List.getD (Array.toList (ByteArray.data s)) 0 default)):Int)) (BH Gy)),bt true] func136
theorem A80(Gy:H9 (s.data.toList.getD 0 default).toNat=true)(JA:Sg s=true):Pu 136 [.str s] (rB false):=
 pm An [cl (@HB (s)),rp 2 (bf (!Ec s) (B3 Fc)),am ((0:Int)<=0/\0<(↑(ByteArray.size s):Int)) (by (apply H7 <;> first | assumption | omega | decide)),av (.v (.int .u8 (↑(UInt8.toNat (List.getD (Array.toList (ByteArray.data s)) (Int.toNat 0) default)):Int))) (.v (.int .u8 (↑(UInt8.toNat (List.getD (Array.toList (ByteArray.data s)) 0 default)):Int))) rF,bf (!Ec s) (B3 Fc),cl (@IP ((↑(UInt8.toNat (List.getD (Array.toList (ByteArray.data s)) 0 default)):Int))),rp 2 (bf (!Ec s) (B3 Fc)),rp 2 (bf (!H9 (↑(UInt8.toNat (List.getD (Array.toList (ByteArray.data s)) 0 default)):Int)) (B3 Gy)),cl (@rX (s)),bf (!H9 (↑(UInt8.toNat (List.getD (Array.toList (ByteArray.data s)) 0 default)):Int)) (B3 Gy),bt (Sg s) JA] func136
theorem rY(Gy:H9 (s.data.toList.getD 0 default).toNat=true)(JA:Sg s=false)(Ak:FG (List.drop 1 (Array.toList (ByteArray.data s)))=GK.e0):Pu 136 [.str s] (rB false):=
 pu An (fun e=>[cl (@HB (s)),rp 2 (bf (!Ec s) (B3 Fc)),am ((0:Int)<=0/\0<(↑(ByteArray.size s):Int)) (by (apply H7 <;> first | assumption | omega | decide)),av (.v (.int .u8 (↑(UInt8.toNat (List.getD (Array.toList (ByteArray.data s)) (Int.toNat 0) default)):Int))) (.v (.int .u8 (↑(UInt8.toNat (List.getD (Array.toList (ByteArray.data s)) 0 default)):Int))) rF,bf (!Ec s) (B3 Fc),cl (@IP ((↑(UInt8.toNat (List.getD (Array.toList (ByteArray.data s)) 0 default)):Int))),rp 2 (bf (!Ec s) (B3 Fc)),rp 2 (bf (!H9 (↑(UInt8.toNat (List.getD (Array.toList (ByteArray.data s)) 0 default)):Int)) (B3 Gy)),cl (@rX (s)),bf (!H9 (↑(UInt8.toNat (List.getD (Array.toList (ByteArray.data s)) 0 default)):Int)) (B3 Gy),bf (Sg s) JA,lp (S.mk [(0,vS s),(2,.v (.bool false)),(4,vS s),(5,.v (.bool (Ec s))),(6,.v (.bool !Ec s)),(7,.v (.bool !Ec s)),(8,vS s),(9,.v (.int .u8 (↑(UInt8.toNat (List.getD (Array.toList (ByteArray.data s)) 0 default)):Int))),(10,.v (.bool (H9 (↑(UInt8.toNat (List.getD (Array.toList (ByteArray.data s)) 0 default)):Int)))),(11,.v (.bool !H9 (↑(UInt8.toNat (List.getD (Array.toList (ByteArray.data s)) 0 default)):Int))),(12,.v (.bool !H9 (↑(UInt8.toNat (List.getD (Array.toList (ByteArray.data s)) 0 default)):Int))),(13,.v (.bool !H9 (↑(UInt8.toNat (List.getD (Array.toList (ByteArray.data s)) 0 default)):Int))),(14,vS s),(15,.v (.bool (Sg s))),(16,.v (.bool (Sg s))),(3,A2 1)] [] e) (@A1j (s) Fc Gy JA (e) (by (apply ZE <;> first | assumption | omega | decide)) Ak) xr]) func136
theorem rZ(Gy:H9 (s.data.toList.getD 0 default).toNat=true)(JA:Sg s=false)(Ak:FG (List.drop 1 (Array.toList (ByteArray.data s)))=GK.e1):Pu 136 [.str s] (rB true):=
 pu An (fun e=>[cl (@HB (s)),rp 2 (bf (!Ec s) (B3 Fc)),am ((0:Int)<=0/\0<(↑(ByteArray.size s):Int)) (by (apply H7 <;> first | assumption | omega | decide)),av (.v (.int .u8 (↑(UInt8.toNat (List.getD (Array.toList (ByteArray.data s)) (Int.toNat 0) default)):Int))) (.v (.int .u8 (↑(UInt8.toNat (List.getD (Array.toList (ByteArray.data s)) 0 default)):Int))) rF,bf (!Ec s) (B3 Fc),cl (@IP ((↑(UInt8.toNat (List.getD (Array.toList (ByteArray.data s)) 0 default)):Int))),rp 2 (bf (!Ec s) (B3 Fc)),rp 2 (bf (!H9 (↑(UInt8.toNat (List.getD (Array.toList (ByteArray.data s)) 0 default)):Int)) (B3 Gy)),cl (@rX (s)),bf (!H9 (↑(UInt8.toNat (List.getD (Array.toList (ByteArray.data s)) 0 default)):Int)) (B3 Gy),bf (Sg s) JA,lp (S.mk [(0,vS s),(2,.v (.bool false)),(4,vS s),(5,.v (.bool (Ec s))),(6,.v (.bool !Ec s)),(7,.v (.bool !Ec s)),(8,vS s),(9,.v (.int .u8 (↑(UInt8.toNat (List.getD (Array.toList (ByteArray.data s)) 0 default)):Int))),(10,.v (.bool (H9 (↑(UInt8.toNat (List.getD (Array.toList (ByteArray.data s)) 0 default)):Int)))),(11,.v (.bool !H9 (↑(UInt8.toNat (List.getD (Array.toList (ByteArray.data s)) 0 default)):Int))),(12,.v (.bool !H9 (↑(UInt8.toNat (List.getD (Array.toList (ByteArray.data s)) 0 default)):Int))),(13,.v (.bool !H9 (↑(UInt8.toNat (List.getD (Array.toList (ByteArray.data s)) 0 default)):Int))),(14,vS s),(15,.v (.bool (Sg s))),(16,.v (.bool (Sg s))),(3,A2 1)] [] e) (@A1k (s) Fc Gy JA (e) (by (apply ZE <;> first | assumption | omega | decide)) Ak) xr]) func136
end
theorem M9(s:BA):Pu 136 [.str s] (.ret (.bool (Ac s))):=by
 unfold Ac
 cases Fc:Ec s with
 | false=>exact pm An [cl (@HB (s)),rp 5 (bt (!Ec s) (BH Fc)),rp 4 (bt true)] func136
 | true=>
  cases Gy:H9 (s.data.toList.getD 0 default).toNat with
  | false=>exact A7z s Fc Gy
  | true=>
   cases JA:Sg s with
   | true=>exact A80 s Fc Gy JA
   | false=>
    cases h:(s.data.toList.drop 1).all rS with
    | true=>exact rZ s Fc Gy JA (by rw [ZG,iP h])
    | false=>exact rY s Fc Gy JA (by rw [ZG,iN (by rw [h]; simp)])
end Go.Proofs.YtmllcplaohkjnaaGreatDoor
