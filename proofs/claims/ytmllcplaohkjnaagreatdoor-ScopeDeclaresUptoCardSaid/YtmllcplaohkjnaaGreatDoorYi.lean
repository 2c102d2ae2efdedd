/- Values of Go as plain data, an evaluator over them, and what the functions of the program return; part Yi. -/
import Derived.Test.YtmllcplaohkjnaaGreatDoorYh
import Derived.Test.YtmllcplaohkjnaaGreatDoorYf
import Derived.Test.YtmllcplaohkjnaaGreatDoorYd
import Derived.Test.YtmllcplaohkjnaaGreatDoorXe
import Derived.Test.YtmllcplaohkjnaaGreatDoorYa
set_option linter.unusedSectionVars false
set_option linter.unusedSimpArgs false
set_option linter.unusedVariables false
namespace Go.Proofs.YtmllcplaohkjnaaGreatDoor
open Go.Proofs.Tryz
open Go.Pv Go.Proofs.Tryz
set_option maxRecDepth 100000
theorem Jf(l:List BA)(k:Nat):(A1 l).take k=A1 (l.take k):=by simp [Fx]
theorem Jg(l:List BA)(k:Nat):(A1 l).drop k=A1 (l.drop k):=by simp [Fx]
abbrev Vu(l:List BA)(s:BA)(j:Int)(e:Ext):S:=S.mk [(0,vL 1 (A1 l)),(1,vS s),(7,A2 (l.length:Int)),(8,A2 j)] [] e
inductive HG where
 | e0 (i:Nat)
 | e1
def GZ(s:BA):List BA->Nat->HG
 | [],i=>(HG.e1)
 | el::r,i=>(if el=s then (HG.e0 i) else GZ s r (i+1))
def NP(l:List BA)(s:BA)(e:Ext):HG->A7 × S
 | .e0 i=>(.ret,S.mk [(0,vL 1 (A1 l)),(1,vS s),(7,A2 (l.length:Int)),(4,A2 (i:Int))] [] e)
 | .e1=>(.exit 0,S.mk [(0,vL 1 (A1 l)),(1,vS s),(7,A2 (l.length:Int))] [] e)
theorem cO(l:List BA)(s:BA)(e:Ext)(hN:l.length<=1000000000):(Ob.loop 19 (Am f122 0) (Vu l s 0  e) (NP l s e (GZ s (List.drop 0 (l)) 0)).1 (NP l s e (GZ s (List.drop 0 (l)) 0)).2).ok prog:=by
 refine Ek l.length (fun j _=>Vu l s j  e) (fun i _=>GZ s (List.drop i (l)) i) (NP l s e) (fun i _=>True) kR ?_ () trivial
 rintro i u hi -
 rcases Nat.lt_or_ge i (l.length) with Ad | Dm
 ·have hd:=D9 Ad
  by_cases h0:List.getD l i AI=s
  ·exact lX An [dt ((i:Int)<(l.length:Int)),am ((0:Int)<=(i:Int)/\(i:Int)<((A1 l).length:Int)) (by (simp only [A3]; omega)),ar (List.getD (A1 l) (Int.toNat (i:Int)) []) [.str (List.getD l i AI)] (by simp only [Int.toNat_natCast,Int.toNat_zero]; rw [@BN (l) (i) Ad]; try rfl),bt (ByteArray.toList (List.getD l i AI)==ByteArray.toList s) (DZ h0)] (HG.e0 i) (by rw [hd,GZ,iP h0])
  ·exact lN An [dt ((i:Int)<(l.length:Int)),am ((0:Int)<=(i:Int)/\(i:Int)<((A1 l).length:Int)) (by (simp only [A3]; omega)),ar (List.getD (A1 l) (Int.toNat (i:Int)) []) [.str (List.getD l i AI)] (by simp only [Int.toNat_natCast,Int.toNat_zero]; rw [@BN (l) (i) Ad]; try rfl),bf (ByteArray.toList (List.getD l i AI)==ByteArray.toList s) (HT h0),wr ((i:Int)+1)] Ad () trivial (by rw [hd,GZ,iN h0])
 ·have he:i=l.length:=by omega
  exact lX An [df ((i:Int)<(l.length:Int))] (HG.e1) (by rw [he,List.drop_length,GZ])
theorem A3z(l:List BA)(s:BA)(e:Ext)(hN:l.length<=1000000000)(p0:Nat)(AF:(GZ s (l) 0)=(HG.e0 p0)):(Ob.loop 19 (Am f122 0) (Vu l s 0  e) (NP l s e (HG.e0 p0)).1 (NP l s e (HG.e0 p0)).2).ok prog:=
 rz (cO l s e hN) AF
theorem A40(l:List BA)(s:BA)(e:Ext)(hN:l.length<=1000000000)(AF:(GZ s (l) 0)=(HG.e1)):(Ob.loop 19 (Am f122 0) (Vu l s 0  e) (NP l s e (HG.e1)).1 (NP l s e (HG.e1)).2).ok prog:=
 rz (cO l s e hN) AF
theorem jR(l:List BA)(s:BA)(hn:l.length<=1000000000)(Ee:Nat)(Au:GZ s l 0=HG.e0 Ee):Pu 122 [.sl 1 (A1 l),.str s] (rI (Ee:Int)):=
 pu An (fun e=>[sl (A3 l),lp (S.mk [(0,vL 1 (A1 l)),(1,vS s),(4,A2 0),(6,vL 1 (A1 l)),(7,A2 (l.length:Int)),(8,A2 0)] [] e) (@A3z (l) (s) (e) hn Ee Au) xr]) func122
theorem oD(s:BA):∀ (l:List BA) (k:Nat),GZ s l k=if ix id s l<l.length then .e0 (k+ix id s l) else .e1
 | [],k=>by simp [GZ,ix]
 | c::r,k=>by
  by_cases h:c=s
  ·simp [GZ,ix,h]
  ·simp only [GZ,ix,h,if_false,oD s r (k+1),List.length_cons,Nat.add_lt_add_iff_right,id_eq]
   split
   ·congr 1; omega
   ·rfl
theorem uS(l:List BA)(s:BA)(hn:l.length<=1000000000):Pu 122 [.sl 1 (A1 l),.str s] (.ret (.int .i64 (FX s l))):=by
 have h:=oD s l 0
 unfold FX
 by_cases h1:ix id s l<l.length
 ·rw [iP h1] at h ⊢
  have:=jR l s hn _ h
  simpa using this
 ·rw [iN h1] at h ⊢
  exact pu An (fun e=>[sl (A3 l),lp (S.mk [(0,vL 1 (A1 l)),(1,vS s),(4,A2 0),(6,vL 1 (A1 l)),(7,A2 (l.length:Int)),(8,A2 0)] [] e) (@A40 (l) (s) (e) hn h) xr]) func122
theorem jS(l:List BA)(s:BA)(hn:l.length<=1000000000):Pu 67 [.sl 1 (A1 l),.str s] (rB (decide (FX s l>=0))):=
 pm An [cl (@uS (l) (s) hn)] func67
abbrev oG(x:Ex)(k:Int)(h:List BA)(j:Int)(out:List BA)(e:Ext):S:=S.mk [(3,.lp 3 0),(6,.v .Ab),(7,.uniq 9 1 (A1 out)),(8,A2 j)] [(3,CP x)] e
def HH(x:Ex):List Pm->(List BA)->(List BA)
 | [],out=>(out)
 | el::r,out=>(if B2 x=6 then HH x r (out++[BR el]) else (out))
def cP(x:Ex)(k:Int)(h:List BA)(e:Ext)(p:(List BA)):A7 × S:=(.exit 0,S.mk [(3,.lp 3 0),(6,.v .Ab),(7,.uniq 9 1 (A1 p))] [(3,CP x)] e)
theorem unr(x:Ex)(k:Int)(h:List BA)(hb:h.length<=1000000000)(out:List BA)(e:Ext)(hN:(Ao x).length<=1000000000)(hv:List.length out<=1000000001+0):(Ob.loop 46 (Am f68 0) (oG x k h 0 out e) (cP x k h e (HH x ((Ao x))  out)).1 (cP x k h e (HH x ((Ao x))  out)).2).ok prog:=by
 refine Ek ((Ao x).length) (fun j out=>oG x k h j out e) (fun i out=>HH x (List.drop i ((Ao x)))  out) (cP x k h e) (fun i out=>(out.length<=1000000001+i)) kR ?_ out (by first | exact hv | omega)
 rintro i out hi hv
 try simp only at hv
 rcases Nat.lt_or_ge i ((Ao x).length) with Ad | Dm
 ·have hd:=AN Ad
  by_cases h0:B2 x=6
  ·exact lS An [sl (Pm.A0 (Ao x)),rp 4 (dt ((i:Int)<((Ao x).length:Int))),CT h0,am ((0:Int)<=(i:Int)/\(i:Int)<((Pm.cs (Ao x)).length:Int)) (by (simp only [Pm.A0]; omega)),ar (List.getD (Pm.cs (Ao x)) (Int.toNat (i:Int)) []) (KW (List.getD (Ao x) i default)) (by simp only [Int.toNat_natCast,Int.toNat_zero]; rw [@Pm.B0 (Ao x) (i) Ad]; try rfl),am (List.length (A1 out++(fun x=>Prod.snd x) (0+1,[[.str (BR (List.getD (Ao x) i default))]])) * (15+1)<=140737488355328) (by (simp only [List.length_append,List.length_cons,List.length_nil,A3]; omega)),wr ((i:Int)+1)] [3,6,7,8] [3] Ad (out++[BR (List.getD (Ao x) i default)]) (S.mk [(3,.lp 3 0),(6,.v .Ab),(7,.uniq 9 1 (A1 out++[[PV.str (BR (List.getD (Ao x) i default))]])),(8,A2 ((i:Int)+1))] [(3,CP x)] e) ⟨⟨W,W,(.inl (by first | (simp only [List.nil_append,Av,Aw,Pr.A4,Tp.A4,Ex.A4,Vr.A4,Df.A4]; done) | (simp only [List.nil_append,Av,Aw,Pr.A4,Tp.A4,Ex.A4,Vr.A4,Df.A4]; rfl))),W,Ar⟩,⟨Ws,Ar⟩,rfl⟩ (by first | assumption | omega | (simp only [List.length_append,List.length_cons,List.length_nil] at *; omega) | simp_all) (by rw [hd,HH,iP h0])
  ·exact lX An [sl (Pm.A0 (Ao x)),rp 4 (dt ((i:Int)<((Ao x).length:Int))),As h0] (out) (by rw [hd,HH,iN h0])
 ·have he:i=(Ao x).length:=by omega
  exact lX An [sl (Pm.A0 (Ao x)),rp 4 (df ((i:Int)<((Ao x).length:Int))),bf false] (out) (by rw [he,List.drop_length,HH])
section
variable (x:Ex) (k:Int) (h:List BA) (hb:h.length<=1000000000) (hp:(Ao x).length<=1000000000)
include x k h hb hp
theorem cQ(Ak:B2 x=7)(Au:k>0):Pu 68 [.agg (AT x),pI k,.sl 1 (A1 h)] (.own 9 1 (A1 (HH x (Ao x) (h++[Ap x])))):=
 pu An (fun e=>[am (List.length ([]++(fun x=>Prod.snd x) (1,A1 h)) * (15+1)<=140737488355328) (by (simp only [List.length_append,List.length_nil,A3]; omega)),rp 3 (CT Ak),E9 Au,am (List.length ([]++(fun x=>Prod.snd x) (1,A1 h)++(fun x=>Prod.snd x) (0+1,[[.str (Ap x)]])) * (15+1)<=140737488355328) (by (simp only [List.length_append,List.length_cons,List.length_nil,A3]; omega)),lp (S.mk [(0,.v (.agg (AT x))),(1,A2 k),(2,vL 1 (A1 h)),(3,.lp 3 0),(6,.v .Ab),(9,LV.full 1 []),(10,vL 1 (A1 h)),(11,vL 1 ([]++A1 h)),(7,.uniq 9 1 ([]++A1 h++[[PV.str (Ap x)]])),(12,.lp 3 0),(13,A2 (B2 x)),(14,.v (.bool (B2 x==7))),(15,.v (.bool (B2 x==7))),(16,A2 k),(17,.v (.bool (decide (k>0)))),(18,.v (.bool (decide (k>0)))),(19,vL 1 ([]++A1 h)),(20,.lp 3 1),(21,vS (Ap x)),(22,LV.full 1 [[.str (Ap x)]]),(23,vL 1 ([]++A1 h++[[PV.str (Ap x)]])),(8,A2 0)] [(3,CP x)] e) (@unr (x) default (h) hb (h++[Ap x]) (e) hp (by (simp only [List.length_append,List.length_cons,List.length_nil]; omega))) ⟨⟨W,W,(by first | exact .inl rfl | exact .inr ⟨rfl,rfl⟩ | exact .inr rfl | exact .inr trivial | exact .inl (by first | (simp only [List.nil_append,Av,Aw,Pr.A4,Tp.A4,Ex.A4,Vr.A4,Df.A4]; done) | (simp only [List.nil_append,Av,Aw,Pr.A4,Tp.A4,Ex.A4,Vr.A4,Df.A4]; rfl))),W,Ar⟩,⟨⟨W,W,W,W,W,W,W,Ar⟩,Ar⟩,rfl⟩]) func68
theorem cR(Ak:B2 x=7)(Au:¬k>0):Pu 68 [.agg (AT x),pI k,.sl 1 (A1 h)] (.own 9 1 (A1 (HH x (Ao x) h))):=
 pu An (fun e=>[am (List.length ([]++(fun x=>Prod.snd x) (1,A1 h)) * (15+1)<=140737488355328) (by (simp only [List.length_append,List.length_nil,A3]; omega)),rp 3 (CT Ak),Br Au,lp (S.mk [(0,.v (.agg (AT x))),(1,A2 k),(2,vL 1 (A1 h)),(3,.lp 3 0),(6,.v .Ab),(9,LV.full 1 []),(10,vL 1 (A1 h)),(11,vL 1 ([]++A1 h)),(7,.uniq 9 1 ([]++A1 h)),(12,.lp 3 0),(13,A2 (B2 x)),(14,.v (.bool (B2 x==7))),(15,.v (.bool (B2 x==7))),(16,A2 k),(17,.v (.bool (decide (k>0)))),(18,.v (.bool (decide (k>0)))),(8,A2 0)] [(3,CP x)] e) (@unr (x) default (h) hb (h) (e) hp oM) ⟨⟨W,W,(by first | exact .inl rfl | exact .inr ⟨rfl,rfl⟩ | exact .inr rfl | exact .inr trivial | exact .inl (by first | (simp only [List.nil_append,Av,Aw,Pr.A4,Tp.A4,Ex.A4,Vr.A4,Df.A4]; done) | (simp only [List.nil_append,Av,Aw,Pr.A4,Tp.A4,Ex.A4,Vr.A4,Df.A4]; rfl))),W,Ar⟩,⟨⟨W,W,W,W,W,W,W,Ar⟩,Ar⟩,rfl⟩]) func68
theorem cS(Ak:¬B2 x=7):Pu 68 [.agg (AT x),pI k,.sl 1 (A1 h)] (.own 9 1 (A1 (HH x (Ao x) h))):=
 pu An (fun e=>[am (List.length ([]++(fun x=>Prod.snd x) (1,A1 h)) * (15+1)<=140737488355328) (by (simp only [List.length_append,List.length_nil,A3]; omega)),rp 3 (As Ak),bf false,lp (S.mk [(0,.v (.agg (AT x))),(1,A2 k),(2,vL 1 (A1 h)),(3,.lp 3 0),(6,.v .Ab),(9,LV.full 1 []),(10,vL 1 (A1 h)),(11,vL 1 ([]++A1 h)),(7,.uniq 9 1 ([]++A1 h)),(12,.lp 3 0),(13,A2 (B2 x)),(14,.v (.bool (B2 x==7))),(15,.v (.bool (B2 x==7))),(16,.v (.B6 [])),(17,.v (.B6 [])),(18,.v (.bool false)),(8,A2 0)] [(3,CP x)] e) (@unr (x) default (h) hb (h) (e) hp oM) ⟨⟨W,W,(by first | exact .inl rfl | exact .inr ⟨rfl,rfl⟩ | exact .inr rfl | exact .inr trivial | exact .inl (by first | (simp only [List.nil_append,Av,Aw,Pr.A4,Tp.A4,Ex.A4,Vr.A4,Df.A4]; done) | (simp only [List.nil_append,Av,Aw,Pr.A4,Tp.A4,Ex.A4,Vr.A4,Df.A4]; rfl))),W,Ar⟩,⟨⟨W,W,W,W,W,W,W,Ar⟩,Ar⟩,rfl⟩]) func68
end
def Vv(x:Ex)(k:Int):List BA:=if B2 x=7 then (if k>0 then [Ap x] else []) else if B2 x=6 then (Ao x).map BR else []
theorem QI(x:Ex):∀ (ps:List Pm) (out:List BA),HH x ps out=out++(if B2 x=6 then ps.map BR else [])
 | [],out=>by simp [HH]
 | p::r,out=>by
  rw [HH]
  by_cases h:B2 x=6
  ·rw [iP h,QI x r,iP h,iP h]; simp
  ·rw [iN h,iN h]; simp
theorem jT(x:Ex)(k:Int)(h:List BA)(hb:h.length<=1000000000)(hp:(Ao x).length<=1000000000):Pu 68 [.agg (AT x),.int .i64 k,.sl 1 (A1 h)] (.ret (.sl 1 (A1 h++A1 (Vv x k)))):=by
 refine Ob.Ge (te:=9) ?_
 rw [<-Av]
 unfold Vv
 by_cases h7:B2 x=7
 ·by_cases hk:k>0
  ·have:=cQ x k h hb hp h7 hk
   rw [QI] at this
   simp only [h7,hk,if_true] at this ⊢
   simpa using this
  ·have:=cR x k h hb hp h7 hk
   rw [QI] at this
   simp only [h7,hk,if_true,if_false] at this ⊢
   simpa using this
 ·have:=cS x k h hb hp h7
  rw [QI] at this
  simp only [h7,if_false]
  exact this
abbrev rfI(x:Ex)(h out:List BA)(i:Int)(ext:Ext):S:=⟨[(1,.v (.sl 1 (A1 h))),(2,.v (.bool false)),(3,.lp 3 0),(7,.uniq 9 1 (A1 out)),(8,.v (.int .i64 i))],[(3,CP x)],ext⟩
abbrev rfJ(x:Ex)(h out:List BA)(i:Int)(ext:Ext):S:=⟨[(1,.v (.sl 1 (A1 h))),(2,.v (.bool false)),(3,.lp 3 0),(7,.uniq 9 1 (A1 out)),(9,.v (.int .i64 i))],[(3,CP x)],ext⟩
theorem rfA(x:Ex)(h out ns:List BA)(i:Nat)(ext:Ext)(hi:i<(AQ x).length)(hn:(AQ x).length<=1000000000)(hp:(Ao x).length<=1000000000)(hb:h.length<=1000000000)(ho:out.length<=1000000000)(hs:ns.length<=1000000000)(hr:Pu 34 [.agg (AT ((AQ x).getD i default)),.sl 1 (A1 h++A1 (Vv x i)),.bool false] (.ret (.sl 1 (A1 ns))))(cx:Cx)(AH:cx.n=84){Q:A7->S->Prop}(hq:Q (.normal) (S.mk [(1,vL 1 (A1 h)),(2,.v (.bool false)),(3,.lp 3 0),(7,.uniq 9 1 (A1 out++A1 ns)),(8,A2 ((i:Int)+1))] [(3,CP x)] ext)):PW prog cx (Am f34 0) (rfI x h out (i:Int) ext) Q:=
 pw An 84 [sl (Ex.A0 (AQ x)),dt ((i:Int)<((AQ x).length:Int)),am ((0:Int)<=(i:Int)/\(i:Int)<((Ex.cs (AQ x)).length:Int)) (by (simp only [Ex.A0]; omega)),ar (List.getD (Ex.cs (AQ x)) (Int.toNat (i:Int)) []) (AT (List.getD (AQ x) i default)) (by simp only [Int.toNat_natCast,Int.toNat_zero]; rw [@Ex.B0 (AQ x) (i) hi]; try rfl),cl (@jT (x) ((i:Int)) (h) hb hp),cl hr,am (List.length (A1 out++(fun x=>Prod.snd x) (1,A1 ns)) * (15+1)<=140737488355328) (by (simp only [List.length_append,A3]; omega)),wr ((i:Int)+1)] [1,2,3,7,8] [3] AH hq
theorem rfZ(x:Ex)(h out:List BA)(ext:Ext)(cx:Cx)(AH:cx.n=84){Q:A7->S->Prop}(hq:Q (.exit 0) (S.mk [(1,vL 1 (A1 h)),(2,.v (.bool false)),(3,.lp 3 0),(7,.uniq 9 1 (A1 out)),(8,A2 ((AQ x).length:Int))] [(3,CP x)] ext)):PW prog cx (Am f34 0) (rfI x h out ((AQ x).length:Int) ext) Q:=
 pw An 84 [sl (Ex.A0 (AQ x)),df (((AQ x).length:Int)<((AQ x).length:Int))] [1,2,3,7,8] [3] AH hq
theorem rfB(x:Ex)(h out ns:List BA)(i:Nat)(ext:Ext)(hi:i<(Ae x).length)(hn:(Ae x).length<=1000000000)(hb:h.length+(Bl ((Ae x).getD i default)).length<=1000000000)(ho:out.length<=1000000000)(hs:ns.length<=1000000000)(hr:Pu 34 [.agg (AT (D4 ((Ae x).getD i default))),.sl 1 (A1 h++A1 (Bl ((Ae x).getD i default))),.bool false] (.ret (.sl 1 (A1 ns))))(cx:Cx)(AH:cx.n=84){Q:A7->S->Prop}(hq:Q (.normal) (S.mk [(1,vL 1 (A1 h)),(2,.v (.bool false)),(3,.lp 3 0),(7,.uniq 9 1 (A1 out++A1 ns)),(9,A2 ((i:Int)+1))] [(3,CP x)] ext)):PW prog cx (Am f34 1) (rfJ x h out (i:Int) ext) Q:=
 pw An 84 [sl (Al.A0 (Ae x)),dt ((i:Int)<((Ae x).length:Int)),am (List.length ([]++(fun x=>Prod.snd x) (1,A1 h)) * (15+1)<=140737488355328) (by (simp only [List.length_append,List.length_nil,A3]; omega)),am ((0:Int)<=(i:Int)/\(i:Int)<((Al.cs (Ae x)).length:Int)) (by (simp only [Al.A0]; omega)),ar (List.getD (Al.cs (Ae x)) (Int.toNat (i:Int)) []) (I4 (List.getD (Ae x) i default)) (by simp only [Int.toNat_natCast,Int.toNat_zero]; rw [@Al.B0 (Ae x) (i) hi]; try rfl),am (List.length ([]++(fun x=>Prod.snd x) (1,A1 h)++(fun x=>Prod.snd x) (1,A1 (Bl (List.getD (Ae x) i default)))) * (15+1)<=140737488355328) (by (simp only [List.length_append,List.length_nil,A3]; omega)),am ((0:Int)<=(i:Int)/\(i:Int)<((Al.cs (Ae x)).length:Int)) (by (simp only [Al.A0]; omega)),ar (List.getD (Al.cs (Ae x)) (Int.toNat (i:Int)) []) (I4 (List.getD (Ae x) i default)) (by simp only [Int.toNat_natCast,Int.toNat_zero]; rw [@Al.B0 (Ae x) (i) hi]; try rfl),cl hr,am (List.length (A1 out++(fun x=>Prod.snd x) (1,A1 ns)) * (15+1)<=140737488355328) (by (simp only [List.length_append,A3]; omega)),wr ((i:Int)+1)] [1,2,3,7,9] [3] AH hq
theorem rfY(x:Ex)(h out:List BA)(ext:Ext)(cx:Cx)(AH:cx.n=84){Q:A7->S->Prop}(hq:Q (.exit 2) (S.mk [(1,vL 1 (A1 h)),(2,.v (.bool false)),(3,.lp 3 0),(7,.uniq 9 1 (A1 out)),(9,A2 ((Ae x).length:Int))] [(3,CP x)] ext)):PW prog cx (Am f34 1) (rfJ x h out ((Ae x).length:Int) ext) Q:=
 pw An 84 [sl (Al.A0 (Ae x)),df (((Ae x).length:Int)<((Ae x).length:Int))] [1,2,3,7,9] [3] AH hq
abbrev WX(x:Ex)(h out F5:List BA):Prop:=∀ext,(Ob.loop 84 (Am f34 0) (rfI x h out 0 ext) (.exit 0) ⟨[(1,.v (.sl 1 (A1 h))),(2,.v (.bool false)),(3,.lp 3 0),(7,.uniq 9 1 (A1 F5))],[(3,CP x)],ext⟩).ok prog
abbrev WY(x:Ex)(h out F5:List BA):Prop:=∀ext,(Ob.loop 84 (Am f34 1) (rfJ x h out 0 ext) (.exit 2) ⟨[(7,.uniq 9 1 (A1 F5))],[],ext⟩).ok prog
section
variable (x:Ex) (h F5 Me:List BA) (hh:h.length<=1000000000) (hv:B2 x=3∨B2 x=5)
include x h F5 Me hh hv
theorem A41(hp:FX (Ap x) h<0)(l0:WX x h [Ap x] F5)(l1:WY x h F5 Me)(Ak:B2 x=5):Pu 34 [.agg (AT x),.sl 1 (A1 h),.bool false] (.own 9 1 (A1 Me)):=
 pu An (fun e=>[rp 6 (CT Ak),rp 4 (bt true),cl (@jS (h) (Ap x) hh),rp 2 (bt true),bt (!decide (FX (Ap x) h>=0)) (BH (dF oM)),ab true,lp (S.mk [(0,.v (.agg (AT x))),(1,vL 1 (A1 h)),(2,.v (.bool false)),(3,.lp 3 0),(6,.v .Ab),(7,.uniq 9 1 [[.str (Ap x)]]),(11,.lp 3 0),(12,A2 (B2 x)),(13,.v (.bool (B2 x==5))),(14,.v (.bool (B2 x==5))),(15,.v (.B6 [])),(16,.v (.B6 [])),(17,.v (.B6 [])),(18,.v (.B6 [])),(19,.v (.B6 [])),(20,.v (.B6 [])),(21,.v (.B6 [])),(22,.v (.bool true)),(23,.v (.bool true)),(24,vL 1 (A1 h)),(25,.lp 3 1),(26,vS (Ap x)),(27,.v (.bool (decide (FX (Ap x) h>=0)))),(28,.v (.bool !decide (FX (Ap x) h>=0))),(29,.v (.bool !decide (FX (Ap x) h>=0))),(30,.v .Ab),(31,.lp 3 1),(32,vS (Ap x)),(33,LV.full 1 [[.str (Ap x)]]),(34,vL 1 [[.str (Ap x)]]),(8,A2 0)] [(3,CP x)] e) (@l0 (e)) xr,lp (S.mk [(1,vL 1 (A1 h)),(2,.v (.bool false)),(3,.lp 3 0),(7,.uniq 9 1 (A1 F5)),(9,A2 0)] [(3,CP x)] e) (@l1 (e)) xr]) func34
theorem A42(hp:FX (Ap x) h<0)(l0:WX x h [Ap x] F5)(l1:WY x h F5 Me)(Ak:¬B2 x=5):Pu 34 [.agg (AT x),.sl 1 (A1 h),.bool false] (.own 9 1 (A1 Me)):=
 pu An (fun e=>[rp 4 (As Ak),rp 2 (et (B2 x) 3),As Ak,et (B2 x) 3,As Ak,rp 4 (bt true),cl (@jS (h) (Ap x) hh),rp 2 (bt true),bt (!decide (FX (Ap x) h>=0)) (BH (dF oM)),ab true,lp (S.mk [(0,.v (.agg (AT x))),(1,vL 1 (A1 h)),(2,.v (.bool false)),(3,.lp 3 0),(6,.v .Ab),(7,.uniq 9 1 [[.str (Ap x)]]),(11,.lp 3 0),(12,A2 (B2 x)),(13,.v (.bool (B2 x==5))),(14,.v (.bool (B2 x==5))),(15,.lp 3 0),(16,A2 (B2 x)),(17,.v (.bool (B2 x==3))),(18,.v (.bool (B2 x==3))),(19,.v (.bool false)),(20,.v (.bool true)),(21,.v (.bool true)),(22,.v (.bool true)),(23,.v (.bool true)),(24,vL 1 (A1 h)),(25,.lp 3 1),(26,vS (Ap x)),(27,.v (.bool (decide (FX (Ap x) h>=0)))),(28,.v (.bool !decide (FX (Ap x) h>=0))),(29,.v (.bool !decide (FX (Ap x) h>=0))),(30,.v .Ab),(31,.lp 3 1),(32,vS (Ap x)),(33,LV.full 1 [[.str (Ap x)]]),(34,vL 1 [[.str (Ap x)]]),(8,A2 0)] [(3,CP x)] e) (@l0 (e)) xr,lp (S.mk [(1,vL 1 (A1 h)),(2,.v (.bool false)),(3,.lp 3 0),(7,.uniq 9 1 (A1 F5)),(9,A2 0)] [(3,CP x)] e) (@l1 (e)) xr]) func34
theorem A43(hp:¬FX (Ap x) h<0)(l0:WX x h [] F5)(l1:WY x h F5 Me)(Ak:B2 x=5):Pu 34 [.agg (AT x),.sl 1 (A1 h),.bool false] (.own 9 1 (A1 Me)):=
 pu An (fun e=>[rp 6 (CT Ak),rp 4 (bt true),cl (@jS (h) (Ap x) hh),rp 2 (bt true),bf (!decide (FX (Ap x) h>=0)) (B3 (dT oM)),lp (S.mk [(0,.v (.agg (AT x))),(1,vL 1 (A1 h)),(2,.v (.bool false)),(3,.lp 3 0),(6,.v .Ab),(7,.v .Ab),(11,.lp 3 0),(12,A2 (B2 x)),(13,.v (.bool (B2 x==5))),(14,.v (.bool (B2 x==5))),(15,.v (.B6 [])),(16,.v (.B6 [])),(17,.v (.B6 [])),(18,.v (.B6 [])),(19,.v (.B6 [])),(20,.v (.B6 [])),(21,.v (.B6 [])),(22,.v (.bool true)),(23,.v (.bool true)),(24,vL 1 (A1 h)),(25,.lp 3 1),(26,vS (Ap x)),(27,.v (.bool (decide (FX (Ap x) h>=0)))),(28,.v (.bool !decide (FX (Ap x) h>=0))),(29,.v (.bool !decide (FX (Ap x) h>=0))),(8,A2 0)] [(3,CP x)] e) (@l0 (e)) ⟨⟨W,W,W,Wq,W,Ar⟩,⟨⟨W,W,W,W,W,W,W,Ar⟩,Ar⟩,rfl⟩,lp (S.mk [(1,vL 1 (A1 h)),(2,.v (.bool false)),(3,.lp 3 0),(7,.uniq 9 1 (A1 F5)),(9,A2 0)] [(3,CP x)] e) (@l1 (e)) xr]) func34
theorem A44(hp:¬FX (Ap x) h<0)(l0:WX x h [] F5)(l1:WY x h F5 Me)(Ak:¬B2 x=5):Pu 34 [.agg (AT x),.sl 1 (A1 h),.bool false] (.own 9 1 (A1 Me)):=
 pu An (fun e=>[rp 4 (As Ak),rp 2 (et (B2 x) 3),As Ak,et (B2 x) 3,As Ak,rp 4 (bt true),cl (@jS (h) (Ap x) hh),rp 2 (bt true),bf (!decide (FX (Ap x) h>=0)) (B3 (dT oM)),lp (S.mk [(0,.v (.agg (AT x))),(1,vL 1 (A1 h)),(2,.v (.bool false)),(3,.lp 3 0),(6,.v .Ab),(7,.v .Ab),(11,.lp 3 0),(12,A2 (B2 x)),(13,.v (.bool (B2 x==5))),(14,.v (.bool (B2 x==5))),(15,.lp 3 0),(16,A2 (B2 x)),(17,.v (.bool (B2 x==3))),(18,.v (.bool (B2 x==3))),(19,.v (.bool false)),(20,.v (.bool true)),(21,.v (.bool true)),(22,.v (.bool true)),(23,.v (.bool true)),(24,vL 1 (A1 h)),(25,.lp 3 1),(26,vS (Ap x)),(27,.v (.bool (decide (FX (Ap x) h>=0)))),(28,.v (.bool !decide (FX (Ap x) h>=0))),(29,.v (.bool !decide (FX (Ap x) h>=0))),(8,A2 0)] [(3,CP x)] e) (@l0 (e)) ⟨⟨W,W,W,Wq,W,Ar⟩,⟨⟨W,W,W,W,W,W,W,Ar⟩,Ar⟩,rfl⟩,lp (S.mk [(1,vL 1 (A1 h)),(2,.v (.bool false)),(3,.lp 3 0),(7,.uniq 9 1 (A1 F5)),(9,A2 0)] [(3,CP x)] e) (@l1 (e)) xr]) func34
end
theorem rfX(x:Ex)(h F5 Me:List BA)(hh:h.length<=1000000000)(hv:¬B2 x=3)(hw:¬B2 x=5)(l0:WX x h [] F5)(l1:WY x h F5 Me):Pu 34 [.agg (AT x),.sl 1 (A1 h),.bool false] (.own 9 1 (A1 Me)):=
 pu An (fun e=>[rp 4 (en (B2 x) 5 hw),rp 2 (en (B2 x) 3 hv),en (B2 x) 5 hw,en (B2 x) 3 hv,en (B2 x) 5 hw,rp 7 (bf false),lp (S.mk [(0,.v (.agg (AT x))),(1,vL 1 (A1 h)),(2,.v (.bool false)),(3,.lp 3 0),(6,.v .Ab),(7,.v .Ab),(11,.lp 3 0),(12,A2 (B2 x)),(13,.v (.bool (B2 x==5))),(14,.v (.bool (B2 x==5))),(15,.lp 3 0),(16,A2 (B2 x)),(17,.v (.bool (B2 x==3))),(18,.v (.bool (B2 x==3))),(19,.v (.B6 [])),(20,.v (.B6 [])),(21,.v (.bool false)),(22,.v (.bool false)),(23,.v (.bool false)),(24,.v (.B6 [])),(25,.v (.B6 [])),(26,.v (.B6 [])),(27,.v (.B6 [])),(28,.v (.B6 [])),(29,.v (.bool false)),(8,A2 0)] [(3,CP x)] e) (@l0 (e)) ⟨⟨W,W,W,Wq,W,Ar⟩,⟨⟨W,W,W,W,W,W,W,Ar⟩,Ar⟩,rfl⟩,lp (S.mk [(1,vL 1 (A1 h)),(2,.v (.bool false)),(3,.lp 3 0),(7,.uniq 9 1 (A1 F5)),(9,A2 0)] [(3,CP x)] e) (@l1 (e)) xr]) func34
abbrev oH(l:List BA)(s:BA)(j:Int)(out:List BA)(e:Ext):S:=S.mk [(0,vL 1 (A1 l)),(1,vS s),(4,.v .Ab),(5,.uniq 9 1 (A1 out)),(6,A2 j)] [] e
def AB(s:BA):List BA->Nat->(List BA)->(List BA) × (Nat)
 | [],i,out=>(out,i)
 | el::r,i,out=>(if Op.bytesLess (ByteArray.toList el) (ByteArray.toList s)=true then AB s r (i+1) (out++[el]) else (out,i))
def cT(l:List BA)(s:BA)(e:Ext)(p:(List BA) × (Nat)):A7 × S:=(.exit 0,S.mk [(0,vL 1 (A1 l)),(1,vS s),(4,.v .Ab),(5,.uniq 9 1 (A1 (Prod.fst p))),(6,A2 (↑(Prod.snd p):Int))] [] e)
theorem put(l:List BA)(s:BA)(out:List BA)(e:Ext)(hN:l.length<=1000000000)(hv:List.length out<=0):(Ob.loop 52 (Am f66 0) (oH l s 0 out e) (cT l s e (AB s (l) 0 out)).1 (cT l s e (AB s (l) 0 out)).2).ok prog:=by
 refine Ek l.length (fun j out=>oH l s j out e) (fun i out=>AB s (List.drop i (l)) i out) (cT l s e) (fun i out=>(out.length<=i)) kR ?_ out (by first | exact hv | omega)
 rintro i out hi hv
 try simp only at hv
 rcases Nat.lt_or_ge i (l.length) with Ad | Dm
 ·have hd:=D9 Ad
  by_cases h0:Op.bytesLess (ByteArray.toList (List.getD l i AI)) (ByteArray.toList s)=true
  ·exact lS An [sl (A3 l),rp 3 (dt ((i:Int)<(l.length:Int))),am ((0:Int)<=(i:Int)/\(i:Int)<((A1 l).length:Int)) (by (simp only [A3]; omega)),ar (List.getD (A1 l) (Int.toNat (i:Int)) []) [.str (List.getD l i AI)] (by simp only [Int.toNat_natCast,Int.toNat_zero]; rw [@BN (l) (i) Ad]; try rfl),rp 4 (dt ((i:Int)<(l.length:Int))),B7 h0,am ((0:Int)<=(i:Int)/\(i:Int)<((A1 l).length:Int)) (by (simp only [A3]; omega)),ar (List.getD (A1 l) (Int.toNat (i:Int)) []) [.str (List.getD l i AI)] (by simp only [Int.toNat_natCast,Int.toNat_zero]; rw [@BN (l) (i) Ad]; try rfl),am (List.length (A1 out++(fun x=>Prod.snd x) (0+1,[[.str (List.getD l i AI)]])) * (15+1)<=140737488355328) (by (simp only [List.length_append,List.length_cons,List.length_nil,A3]; omega)),wr ((i:Int)+1)] [0,1,4,5,6] [] Ad (out++[List.getD l i AI]) (S.mk [(0,vL 1 (A1 l)),(1,vS s),(4,.v .Ab),(5,.uniq 9 1 (A1 out++[[PV.str (List.getD l i AI)]])),(6,A2 ((i:Int)+1))] [] e) ⟨⟨W,W,W,(.inl (by first | (simp only [List.nil_append,Av,Aw,Pr.A4,Tp.A4,Ex.A4,Vr.A4,Df.A4]; done) | (simp only [List.nil_append,Av,Aw,Pr.A4,Tp.A4,Ex.A4,Vr.A4,Df.A4]; rfl))),W,Ar⟩,trivial,rfl⟩ (by first | assumption | omega | (simp only [List.length_append,List.length_cons,List.length_nil] at *; omega) | simp_all) (by rw [hd,AB,iP h0])
  ·exact lX An [sl (A3 l),rp 3 (dt ((i:Int)<(l.length:Int))),am ((0:Int)<=(i:Int)/\(i:Int)<((A1 l).length:Int)) (by (simp only [A3]; omega)),ar (List.getD (A1 l) (Int.toNat (i:Int)) []) [.str (List.getD l i AI)] (by simp only [Int.toNat_natCast,Int.toNat_zero]; rw [@BN (l) (i) Ad]; try rfl),rp 4 (dt ((i:Int)<(l.length:Int))),B1 (DC h0)] (out,i) (by rw [hd,AB,iN h0])
 ·have he:i=l.length:=by omega
  exact lX An [sl (A3 l),rp 7 (df ((i:Int)<(l.length:Int))),bf false] (out,i) (by rw [he,List.drop_length,AB])
def R7(f:Ex->List BA->List BA)(x:Ex)(h:List BA):List Ex->Nat->List BA
 | [],_=>[]
 | w::r,i=>f w (h++Vv x i)++R7 f x h r (i+1)
def R8(f:Ex->List BA->List BA)(h:List BA):List Al->List BA
 | []=>[]
 | a::r=>f (D4 a) (h++Bl a)++R8 f h r
def foB(f:Ex->List BA->List BA)(x:Ex)(h:List BA):List BA:=
 (if (B2 x=3∨B2 x=5)/\FX (Ap x) h<0 then [Ap x] else [])++(R7 f x h (AQ x) 0++R8 f h (Ae x))
def Iw:Nat->Ex->List BA->List BA
 | 0,_,_=>[]
 | d+1,x,h=>foB (Iw d) x h
theorem Vw(f:Ex->List BA->List BA)(hf:∀w h,(f w h).length<=A5 (AT w))(x:Ex)(h:List BA):∀ (l:List Ex) (i:Nat),(R7 f x h l i).length<=Af (Ex.cs l)
 | [],_=>Nat.zero_le _
 | w::r,i=>by
  have h1:=Vw f hf x h r (i+1)
  have h2:=hf w (h++Vv x i)
  have h3:Af (Ex.cs (w::r))=A5 (AT w)+Af (Ex.cs r):=by rw [Ex.Ay,Ex.Ay]; rfl
  simp only [R7,List.length_append]; omega
theorem Vx(f:Ex->List BA->List BA)(hf:∀w h,(f w h).length<=A5 (AT w))(h:List BA):∀ (l:List Al),(R8 f h l).length<=Af (Al.cs l)
 | []=>Nat.zero_le _
 | a::r=>by
  have h1:=Vx f hf h r
  have h2:=hf (D4 a) (h++Bl a)
  have h4:=HV a
  have h3:Af (Al.cs (a::r))=A5 (I4 a)+Af (Al.cs r):=by rw [Al.Ay,Al.Ay]; rfl
  simp only [R8,List.length_append]; omega
theorem KI:∀ (d:Nat) (x:Ex) (h:List BA),(Iw d x h).length<=A5 (AT x)
 | 0,_,_=>Nat.zero_le _
 | d+1,x,h=>by
  have h1:=Vw (Iw d) (KI d) x h (AQ x) 0
  have h2:=Vx (Iw d) (KI d) h (Ae x)
  have h3:=CQ x
  simp only [Iw,foB,List.length_append]
  split <;> simp only [List.length_cons,List.length_nil] <;> omega
abbrev cU(x:Ex)(h ns:List BA):Prop:=Pu 34 [.agg (AT x),.sl 1 (A1 h),.bool false] (.ret (.sl 1 (A1 ns)))
theorem cV(d:Nat)(x:Ex)(h:List BA)(hn:(AQ x).length<=1000000000)(hp:(Ao x).length<=1000000000)(hh:h.length<=1000000000)(out:List BA)(hT:(out++R7 (Iw d) x h (AQ x) 0).length<=1000000000)
  (hr:∀i:Nat,i<(AQ x).length->cU ((AQ x).getD i default) (h++Vv x i) (Iw d ((AQ x).getD i default) (h++Vv x i))):WX x h out (out++R7 (Iw d) x h (AQ x) 0):=by
 intro ext
 have:=Ob.G9 (P:=prog) (n:=84) (c:=Am f34 0) (α:={ p:Nat × List BA // p.1<=(AQ x).length/\p.2++R7 (Iw d) x h ((AQ x).drop p.1) p.1=out++R7 (Iw d) x h (AQ x) 0 })
  (fun p=>rfI x h p.1.2 p.1.1 ext) (fun p=>(AQ x).length - p.1.1) (fun _=>(.exit 0,⟨[(1,.v (.sl 1 (A1 h))),(2,.v (.bool false)),(3,.lp 3 0),(7,.uniq 9 1 (A1 (out++R7 (Iw d) x h (AQ x) 0)))],[(3,CP x)],ext⟩)) ?_ ⟨(0,out),by simp,by simp⟩
 ·exact this
 ·rintro ⟨⟨i,o1⟩,hi,he⟩ cx AH
  simp only at hi he ⊢
  rcases Nat.lt_or_ge i (AQ x).length with Ad | Dm
  ·rw [AN Ad,R7,<-List.append_assoc] at he
   have hl:=congrArg List.length he
   simp only [List.length_append] at hl hT
   have h1:=hr i Ad
   unfold cU at h1
   rw [Av] at h1
   refine rfA x h o1 _ i ext Ad hn hp hh oM oM h1 cx AH (.inl ⟨rfl,⟨(i+1,_),Ad,he⟩,by simp only; omega,⟨⟨W,W,W,.inl ?_,W,Ar⟩,⟨ES.refl _,Ar⟩,rfl⟩,Ar⟩)
   rw [Av]
  ·have hx:i=(AQ x).length:=by omega
   subst hx
   rw [List.drop_length] at he
   have Tk:o1=out++R7 (Iw d) x h (AQ x) 0:=by rw [<-he]; simp [R7]
   rw [<-Tk]
   exact rfZ x h _ ext cx AH (.inr ⟨by simp,rfl,⟨W,W,W,W,Ar⟩,⟨ES.refl _,Ar⟩,rfl⟩)
theorem cW(d:Nat)(x:Ex)(h:List BA)(hn:(Ae x).length<=1000000000)(hb:∀i,i<(Ae x).length->h.length+(Bl ((Ae x).getD i default)).length<=1000000000)(out:List BA)(hT:(out++R8 (Iw d) h (Ae x)).length<=1000000000)
  (hr:∀i,i<(Ae x).length->cU (D4 ((Ae x).getD i default)) (h++Bl ((Ae x).getD i default)) (Iw d (D4 ((Ae x).getD i default)) (h++Bl ((Ae x).getD i default)))):WY x h out (out++R8 (Iw d) h (Ae x)):=by
 intro ext
 have:=Ob.G9 (P:=prog) (n:=84) (c:=Am f34 1) (α:={ p:Nat × List BA // p.1<=(Ae x).length/\p.2++R8 (Iw d) h ((Ae x).drop p.1)=out++R8 (Iw d) h (Ae x) })
  (fun p=>rfJ x h p.1.2 p.1.1 ext) (fun p=>(Ae x).length - p.1.1) (fun _=>(.exit 2,⟨[(7,.uniq 9 1 (A1 (out++R8 (Iw d) h (Ae x))))],[],ext⟩)) ?_ ⟨(0,out),by simp,by simp⟩
 ·exact this
 ·rintro ⟨⟨i,o1⟩,hi,he⟩ cx AH
  simp only at hi he ⊢
  rcases Nat.lt_or_ge i (Ae x).length with Ad | Dm
  ·rw [AN Ad,R8,<-List.append_assoc] at he
   have hl:=congrArg List.length he
   simp only [List.length_append] at hl hT
   have h1:=hr i Ad
   unfold cU at h1
   rw [Av] at h1
   refine rfB x h o1 _ i ext Ad hn (hb i Ad) oM oM h1 cx AH (.inl ⟨rfl,⟨(i+1,_),Ad,he⟩,by simp only; omega,⟨⟨W,W,W,.inl ?_,W,Ar⟩,⟨ES.refl _,Ar⟩,rfl⟩,Ar⟩)
   rw [Av]
  ·have hx:i=(Ae x).length:=by omega
   subst hx
   rw [List.drop_length] at he
   have Tk:o1=out++R8 (Iw d) h (Ae x):=by rw [<-he]; simp [R8]
   rw [<-Tk]
   exact rfY x h _ ext cx AH (.inr ⟨by simp,rfl,⟨W,Ar⟩,trivial,rfl⟩)
theorem jU(x:Ex)(k:Int):(Vv x k).length+1<=Af (Pm.cs (Ao x))+2:=by
 have:=Pm.BF (Ao x)
 unfold Vv
 (repeat' split) <;> simp only [List.length_cons,List.length_nil,List.length_map] <;> omega
theorem NQ:∀ (d:Nat) (x:Ex),A5 (AT x)<d->∀h:List BA,h.length+A5 (AT x)<=100000000->cU x h (Iw d x h)
 | 0,x,hd,_,_=>by omega
 | d+1,x,hd,h,hb=>by
  have hx:=CQ x
  have hk:=Ex.BF (AQ x)
  have hp:=Pm.BF (Ao x)
  have ha:=Al.BF (Ae x)
  have hl:=KI (d+1) x h
  unfold Iw foB at hl ⊢
  simp only [List.length_append] at hl
  have L0:=fun out hT=>cV d x h oM oM oM out hT fun i hi=>NQ d _ (by have:=Ex.mem (Bk hi); omega) _ (by have:=Ex.mem (Bk hi); have:=jU x i; rw [List.length_append]; omega)
  have L1:=fun out hT=>cW d x h oM (fun i hi=>by have:=Al.mem (Bk hi); have:=Gw ((Ae x).getD i default); have:=Dc (Bl ((Ae x).getD i default)); omega) out hT fun i hi=>NQ d _ (by have:=Al.mem (Bk hi); have:=Gw ((Ae x).getD i default); omega) _ (by have:=Al.mem (Bk hi); have:=Gw ((Ae x).getD i default); have:=Dc (Bl ((Ae x).getD i default)); rw [List.length_append]; omega)
  refine Ob.Ge (te:=9) ?_
  by_cases hv:B2 x=3∨B2 x=5
  ·by_cases hq:FX (Ap x) h<0
   ·rw [iP ⟨hv,hq⟩] at hl ⊢
    rw [<-List.append_assoc]
    simp only [List.length_cons,List.length_nil] at hl
    have l0:=L0 [Ap x] (by simp only [List.length_append,List.length_cons,List.length_nil]; omega)
    have l1:=L1 _ (show ((([Ap x]++R7 (Iw d) x h (AQ x) 0)++R8 (Iw d) h (Ae x))).length<=1000000000 by simp only [List.length_append,List.length_cons,List.length_nil]; omega)
    by_cases h5:B2 x=5
    ·exact A41 x h _ _ oM hv hq l0 l1 h5
    ·exact A42 x h _ _ oM hv hq l0 l1 h5
   ·rw [iN (fun hc=>hq hc.2)] at hl ⊢
    rw [List.nil_append]
    simp only [List.length_nil] at hl
    have l0:=L0 [] (by simp only [List.nil_append]; omega)
    rw [List.nil_append] at l0
    have l1:=L1 _ (show (R7 (Iw d) x h (AQ x) 0++R8 (Iw d) h (Ae x)).length<=1000000000 by simp only [List.length_append]; omega)
    by_cases h5:B2 x=5
    ·exact A43 x h _ _ oM hv hq l0 l1 h5
    ·exact A44 x h _ _ oM hv hq l0 l1 h5
  ·rw [iN (fun hc=>hv hc.1)] at hl ⊢
   rw [List.nil_append]
   simp only [List.length_nil] at hl
   have l0:=L0 [] (by simp only [List.nil_append]; omega)
   rw [List.nil_append] at l0
   have l1:=L1 _ (show (R7 (Iw d) x h (AQ x) 0++R8 (Iw d) h (Ae x)).length<=1000000000 by simp only [List.length_append]; omega)
   exact rfX x h _ _ oM (fun h3=>hv (.inl h3)) (fun h5=>hv (.inr h5)) l0 l1
theorem U3(s:BA):∀ (l:List BA) (i:Nat) (out:List BA),(AB s l i out).2<=i+l.length/\i<=(AB s l i out).2/\(AB s l i out).1.length+i=out.length+(AB s l i out).2
 | [],i,out=>by simp [AB]
 | x::r,i,out=>by
  rw [AB]
  split
  ·have:=U3 s r (i+1) (out++[x])
   simp only [List.length_append,List.length_cons,List.length_nil] at this ⊢
   omega
  ·simp
theorem uT(l:List BA)(s:BA)(hn:l.length<=500000000)(hp2:(AB s l 0 []).2<=l.length)(hp1:(AB s l 0 []).1.length<=500000000)(Ak:(↑(Prod.snd (AB s l 0 [])):Int)<(↑(List.length l):Int))(Au:List.getD l (Prod.snd (AB s l 0 [])) AI=s)(AW:List.length (A1 (Prod.fst (AB s l 0 []))++(fun x=>Prod.snd x) (0+1,[[PV.str s]])++(fun x=>Prod.snd x) (1,A1 (List.drop (Prod.snd (AB s l 0 [])+1) l))) * (15+1)<=140737488355328):Pu 66 [PV.sl 1 (A1 l),PV.str s] (Cd.own 9 1 (A1 (Prod.fst (AB s l 0 []))++[[PV.str s]]++A1 (List.drop (Prod.snd (AB s l 0 [])+1) l))):=
 Ob.Qj (An) 50 (fun e=>[Ca.loop (S.mk [(0,LV.v (PV.sl 1 (A1 l))),(1,LV.v (PV.str s)),(4,LV.v PV.Ab),(5,LV.uniq 9 1 []),(6,LV.v (PV.int IntKind.i64 0))] [] e) (A7.exit 0) (S.mk [(0,LV.v (PV.sl 1 (A1 l))),(1,LV.v (PV.str s)),(4,LV.v PV.Ab),(5,LV.uniq 9 1 (A1 (Prod.fst (AB s l 0 [])))),(6,LV.v (PV.int IntKind.i64 (↑(Prod.snd (AB s l 0 [])):Int)))] [] e),Ca.RL (LV.v (PV.int IntKind.i64 (↑(List.length l):Int))),Ca.bit true,Ca.bit true,Ca.bit true,Ca.RL (LV.v (PV.ro [PV.str (List.getD l (Prod.snd (AB s l 0 [])) AI)] 0)),Ca.bit true,Ca.bit true,Ca.bit true,Ca.bit true,Ca.bit true,Ca.RL (LV.v (PV.int IntKind.i64 ((↑(Prod.snd (AB s l 0 [])):Int)+1))),Ca.RL (LV.v (PV.sl 1 (A1 (List.drop (Prod.snd (AB s l 0 [])+1) l))))]) (C6:=fun _=>[]) (l:=fun e=>[Ob.le (S.mk [(0,LV.v (PV.sl 1 (A1 l))),(1,LV.v (PV.str s)),(4,LV.v PV.Ab),(5,LV.uniq 9 1 []),(6,LV.v (PV.int IntKind.i64 0))] [] e) (S.mk [(0,LV.v (PV.sl 1 (A1 l))),(1,LV.v (PV.str s)),(4,LV.v PV.Ab),(5,LV.v PV.Ab),(6,LV.v (PV.int IntKind.i64 0))] [] e),Ob.loop (Func.ntmps f66) (Am f66 0) (S.mk [(0,LV.v (PV.sl 1 (A1 l))),(1,LV.v (PV.str s)),(4,LV.v PV.Ab),(5,LV.uniq 9 1 []),(6,LV.v (PV.int IntKind.i64 0))] [] e) (A7.exit 0) (S.mk [(0,LV.v (PV.sl 1 (A1 l))),(1,LV.v (PV.str s)),(4,LV.v PV.Ab),(5,LV.uniq 9 1 (A1 (Prod.fst (AB s l 0 [])))),(6,LV.v (PV.int IntKind.i64 (↑(Prod.snd (AB s l 0 [])):Int)))] [] e),Ob.bit (decide (List.length (A1 (Prod.fst (AB s l 0 []))++(fun x=>Prod.snd x) (0+1,[[PV.str s]])) * (15+1)<=140737488355328)) true,Ob.eqv (LV.v (PV.int IntKind.i64 (↑((fun x=>List.length (Prod.snd x)) (1,A1 l)):Int))) (LV.v (PV.int IntKind.i64 (↑(List.length l):Int))),Ob.bit (decide ((↑(Prod.snd (AB s l 0 [])):Int)<(↑(List.length l):Int))) true,Ob.bit (decide ((↑(Prod.snd (AB s l 0 [])):Int)<(↑(List.length l):Int))) true,Ob.bit (decide ((↑(Prod.snd (AB s l 0 [])):Int)<(↑(List.length l):Int))) true,Ob.bit (decide ((0:Int)<=(↑(Prod.snd (AB s l 0 [])):Int)/\(↑(Prod.snd (AB s l 0 [])):Int)<(↑(List.length (A1 l)):Int))) true,Ob.eqv (LV.v (PV.ro (List.getD (A1 l) (Int.toNat (↑(Prod.snd (AB s l 0 [])):Int)) []) 0)) (LV.v (PV.ro [PV.str (List.getD l (Prod.snd (AB s l 0 [])) AI)] 0)),Ob.bit (decide ((↑(Prod.snd (AB s l 0 [])):Int)<(↑(List.length l):Int))) true,Ob.bit (decide ((↑(Prod.snd (AB s l 0 [])):Int)<(↑(List.length l):Int))) true,Ob.bit (decide ((↑(Prod.snd (AB s l 0 [])):Int)<(↑(List.length l):Int))) true,Ob.bit (decide ((↑(Prod.snd (AB s l 0 [])):Int)<(↑(List.length l):Int))) true,Ob.bit (ByteArray.toList (List.getD l (Prod.snd (AB s l 0 [])) AI)==ByteArray.toList s) true,Ob.eqv (LV.v (PV.int IntKind.i64 (IntKind.wrap IntKind.i64 ((↑(Prod.snd (AB s l 0 [])):Int)+1)))) (LV.v (PV.int IntKind.i64 ((↑(Prod.snd (AB s l 0 [])):Int)+1))),Ob.bit (decide ((0:Int)<=(↑(Prod.snd (AB s l 0 [])):Int)+1/\(↑(Prod.snd (AB s l 0 [])):Int)+1<=(↑(List.length (A1 l)):Int)/\(↑(List.length (A1 l)):Int)<=(↑(List.length (A1 l)):Int))) true,Ob.eqv (LV.v (PV.sl 1 (List.drop (Int.toNat ((↑(Prod.snd (AB s l 0 [])):Int)+1)) (List.take (Int.toNat (↑(List.length (A1 l)):Int)) (A1 l))))) (LV.v (PV.sl 1 (A1 (List.drop (Prod.snd (AB s l 0 [])+1) l)))),Ob.bit (decide (List.length (A1 (Prod.fst (AB s l 0 []))++(fun x=>Prod.snd x) (0+1,[[PV.str s]])++(fun x=>Prod.snd x) (1,A1 (List.drop (Prod.snd (AB s l 0 [])+1) l))) * (15+1)<=140737488355328)) true]) mixed func66 kR (fun e=>by kernel_rfl) (fun e=>⟨⟨⟨W,W,W,Wq,W,Ar⟩,trivial,rfl⟩,(@put (l) (s) ([]) (e) oM (by (simp only [List.length_nil]; omega))),(Bu (dT (by (simp only [List.length_append,List.length_cons,List.length_nil,A3]; omega)))),(HU (by (simp only [A3]; done))),(Bu (dT Ak)),(Bu (dT Ak)),(Bu (dT Ak)),(Bu (dT (by (simp only [List.length_nil,A3]; omega)))),(HU (by simp only [Int.toNat_natCast,Int.toNat_zero]; rw [@BN (l) (Prod.snd (AB s l 0 [])) oM]; try rfl)),(Bu (dT Ak)),(Bu (dT Ak)),(Bu (dT Ak)),(Bu (dT Ak)),(Bu (DZ Au)),(HU (wrap64 oM oM)),(Bu (dT (by (simp only [List.length_nil,A3]; omega)))),(HU (by (simp only [List.length_nil,A3,Int.toNat_natCast,Int.toNat_zero,Fg,Jf,Jg,List.take_length]; done))),(Bu (dT AW)),Ar⟩)
theorem uU(l:List BA)(s:BA)(hn:l.length<=500000000)(hp2:(AB s l 0 []).2<=l.length)(hp1:(AB s l 0 []).1.length<=500000000)(Ak:(↑(Prod.snd (AB s l 0 [])):Int)<(↑(List.length l):Int))(Au:¬List.getD l (Prod.snd (AB s l 0 [])) AI=s)(AW:List.length (A1 (Prod.fst (AB s l 0 []))++(fun x=>Prod.snd x) (0+1,[[PV.str s]])++(fun x=>Prod.snd x) (1,A1 (List.drop (Prod.snd (AB s l 0 [])) l))) * (15+1)<=140737488355328):Pu 66 [PV.sl 1 (A1 l),PV.str s] (Cd.own 9 1 (A1 (Prod.fst (AB s l 0 []))++[[PV.str s]]++A1 (List.drop (Prod.snd (AB s l 0 [])) l))):=
 Ob.Qj (An) 50 (fun e=>[Ca.loop (S.mk [(0,LV.v (PV.sl 1 (A1 l))),(1,LV.v (PV.str s)),(4,LV.v PV.Ab),(5,LV.uniq 9 1 []),(6,LV.v (PV.int IntKind.i64 0))] [] e) (A7.exit 0) (S.mk [(0,LV.v (PV.sl 1 (A1 l))),(1,LV.v (PV.str s)),(4,LV.v PV.Ab),(5,LV.uniq 9 1 (A1 (Prod.fst (AB s l 0 [])))),(6,LV.v (PV.int IntKind.i64 (↑(Prod.snd (AB s l 0 [])):Int)))] [] e),Ca.RL (LV.v (PV.int IntKind.i64 (↑(List.length l):Int))),Ca.bit true,Ca.bit true,Ca.bit true,Ca.RL (LV.v (PV.ro [PV.str (List.getD l (Prod.snd (AB s l 0 [])) AI)] 0)),Ca.bit true,Ca.bit true,Ca.bit true,Ca.bit true,Ca.bit false,Ca.RL (LV.v (PV.sl 1 (A1 (List.drop (Prod.snd (AB s l 0 [])) l))))]) (C6:=fun _=>[]) (l:=fun e=>[Ob.le (S.mk [(0,LV.v (PV.sl 1 (A1 l))),(1,LV.v (PV.str s)),(4,LV.v PV.Ab),(5,LV.uniq 9 1 []),(6,LV.v (PV.int IntKind.i64 0))] [] e) (S.mk [(0,LV.v (PV.sl 1 (A1 l))),(1,LV.v (PV.str s)),(4,LV.v PV.Ab),(5,LV.v PV.Ab),(6,LV.v (PV.int IntKind.i64 0))] [] e),Ob.loop (Func.ntmps f66) (Am f66 0) (S.mk [(0,LV.v (PV.sl 1 (A1 l))),(1,LV.v (PV.str s)),(4,LV.v PV.Ab),(5,LV.uniq 9 1 []),(6,LV.v (PV.int IntKind.i64 0))] [] e) (A7.exit 0) (S.mk [(0,LV.v (PV.sl 1 (A1 l))),(1,LV.v (PV.str s)),(4,LV.v PV.Ab),(5,LV.uniq 9 1 (A1 (Prod.fst (AB s l 0 [])))),(6,LV.v (PV.int IntKind.i64 (↑(Prod.snd (AB s l 0 [])):Int)))] [] e),Ob.bit (decide (List.length (A1 (Prod.fst (AB s l 0 []))++(fun x=>Prod.snd x) (0+1,[[PV.str s]])) * (15+1)<=140737488355328)) true,Ob.eqv (LV.v (PV.int IntKind.i64 (↑((fun x=>List.length (Prod.snd x)) (1,A1 l)):Int))) (LV.v (PV.int IntKind.i64 (↑(List.length l):Int))),Ob.bit (decide ((↑(Prod.snd (AB s l 0 [])):Int)<(↑(List.length l):Int))) true,Ob.bit (decide ((↑(Prod.snd (AB s l 0 [])):Int)<(↑(List.length l):Int))) true,Ob.bit (decide ((↑(Prod.snd (AB s l 0 [])):Int)<(↑(List.length l):Int))) true,Ob.bit (decide ((0:Int)<=(↑(Prod.snd (AB s l 0 [])):Int)/\(↑(Prod.snd (AB s l 0 [])):Int)<(↑(List.length (A1 l)):Int))) true,Ob.eqv (LV.v (PV.ro (List.getD (A1 l) (Int.toNat (↑(Prod.snd (AB s l 0 [])):Int)) []) 0)) (LV.v (PV.ro [PV.str (List.getD l (Prod.snd (AB s l 0 [])) AI)] 0)),Ob.bit (decide ((↑(Prod.snd (AB s l 0 [])):Int)<(↑(List.length l):Int))) true,Ob.bit (decide ((↑(Prod.snd (AB s l 0 [])):Int)<(↑(List.length l):Int))) true,Ob.bit (decide ((↑(Prod.snd (AB s l 0 [])):Int)<(↑(List.length l):Int))) true,Ob.bit (decide ((↑(Prod.snd (AB s l 0 [])):Int)<(↑(List.length l):Int))) true,Ob.bit (ByteArray.toList (List.getD l (Prod.snd (AB s l 0 [])) AI)==ByteArray.toList s) false,Ob.bit (decide ((0:Int)<=(↑(Prod.snd (AB s l 0 [])):Int)/\(↑(Prod.snd (AB s l 0 [])):Int)<=(↑(List.length (A1 l)):Int)/\(↑(List.length (A1 l)):Int)<=(↑(List.length (A1 l)):Int))) true,Ob.eqv (LV.v (PV.sl 1 (List.drop (Int.toNat (↑(Prod.snd (AB s l 0 [])):Int)) (List.take (Int.toNat (↑(List.length (A1 l)):Int)) (A1 l))))) (LV.v (PV.sl 1 (A1 (List.drop (Prod.snd (AB s l 0 [])) l)))),Ob.bit (decide (List.length (A1 (Prod.fst (AB s l 0 []))++(fun x=>Prod.snd x) (0+1,[[PV.str s]])++(fun x=>Prod.snd x) (1,A1 (List.drop (Prod.snd (AB s l 0 [])) l))) * (15+1)<=140737488355328)) true]) mixed func66 kR (fun e=>by kernel_rfl) (fun e=>⟨⟨⟨W,W,W,Wq,W,Ar⟩,trivial,rfl⟩,(@put (l) (s) ([]) (e) oM (by (simp only [List.length_nil]; omega))),(Bu (dT (by (simp only [List.length_append,List.length_cons,List.length_nil,A3]; omega)))),(HU (by (simp only [A3]; done))),(Bu (dT Ak)),(Bu (dT Ak)),(Bu (dT Ak)),(Bu (dT (by (simp only [List.length_nil,A3]; omega)))),(HU (by simp only [Int.toNat_natCast,Int.toNat_zero]; rw [@BN (l) (Prod.snd (AB s l 0 [])) oM]; try rfl)),(Bu (dT Ak)),(Bu (dT Ak)),(Bu (dT Ak)),(Bu (dT Ak)),(Bu (HT Au)),(Bu (dT (by (simp only [List.length_nil,A3]; omega)))),(HU (by (simp only [List.length_nil,A3,Int.toNat_natCast,Int.toNat_zero,Jf,Jg,List.take_length]; done))),(Bu (dT AW)),Ar⟩)
theorem uV(l:List BA)(s:BA)(hn:l.length<=500000000)(hp2:(AB s l 0 []).2<=l.length)(hp1:(AB s l 0 []).1.length<=500000000)(Ak:¬(↑(Prod.snd (AB s l 0 [])):Int)<(↑(List.length l):Int))(Au:List.length (A1 (Prod.fst (AB s l 0 []))++(fun x=>Prod.snd x) (0+1,[[PV.str s]])++(fun x=>Prod.snd x) (1,A1 (List.drop (Prod.snd (AB s l 0 [])) l))) * (15+1)<=140737488355328):Pu 66 [PV.sl 1 (A1 l),PV.str s] (Cd.own 9 1 (A1 (Prod.fst (AB s l 0 []))++[[PV.str s]]++A1 (List.drop (Prod.snd (AB s l 0 [])) l))):=
 Ob.Qj (An) 50 (fun e=>[Ca.loop (S.mk [(0,LV.v (PV.sl 1 (A1 l))),(1,LV.v (PV.str s)),(4,LV.v PV.Ab),(5,LV.uniq 9 1 []),(6,LV.v (PV.int IntKind.i64 0))] [] e) (A7.exit 0) (S.mk [(0,LV.v (PV.sl 1 (A1 l))),(1,LV.v (PV.str s)),(4,LV.v PV.Ab),(5,LV.uniq 9 1 (A1 (Prod.fst (AB s l 0 [])))),(6,LV.v (PV.int IntKind.i64 (↑(Prod.snd (AB s l 0 [])):Int)))] [] e),Ca.RL (LV.v (PV.int IntKind.i64 (↑(List.length l):Int))),Ca.bit false,Ca.bit false,Ca.bit false,Ca.bit false,Ca.bit false,Ca.bit false,Ca.bit false,Ca.bit false,Ca.RL (LV.v (PV.sl 1 (A1 (List.drop (Prod.snd (AB s l 0 [])) l))))]) (C6:=fun _=>[]) (l:=fun e=>[Ob.le (S.mk [(0,LV.v (PV.sl 1 (A1 l))),(1,LV.v (PV.str s)),(4,LV.v PV.Ab),(5,LV.uniq 9 1 []),(6,LV.v (PV.int IntKind.i64 0))] [] e) (S.mk [(0,LV.v (PV.sl 1 (A1 l))),(1,LV.v (PV.str s)),(4,LV.v PV.Ab),(5,LV.v PV.Ab),(6,LV.v (PV.int IntKind.i64 0))] [] e),Ob.loop (Func.ntmps f66) (Am f66 0) (S.mk [(0,LV.v (PV.sl 1 (A1 l))),(1,LV.v (PV.str s)),(4,LV.v PV.Ab),(5,LV.uniq 9 1 []),(6,LV.v (PV.int IntKind.i64 0))] [] e) (A7.exit 0) (S.mk [(0,LV.v (PV.sl 1 (A1 l))),(1,LV.v (PV.str s)),(4,LV.v PV.Ab),(5,LV.uniq 9 1 (A1 (Prod.fst (AB s l 0 [])))),(6,LV.v (PV.int IntKind.i64 (↑(Prod.snd (AB s l 0 [])):Int)))] [] e),Ob.bit (decide (List.length (A1 (Prod.fst (AB s l 0 []))++(fun x=>Prod.snd x) (0+1,[[PV.str s]])) * (15+1)<=140737488355328)) true,Ob.eqv (LV.v (PV.int IntKind.i64 (↑((fun x=>List.length (Prod.snd x)) (1,A1 l)):Int))) (LV.v (PV.int IntKind.i64 (↑(List.length l):Int))),Ob.bit (decide ((↑(Prod.snd (AB s l 0 [])):Int)<(↑(List.length l):Int))) false,Ob.bit (decide ((↑(Prod.snd (AB s l 0 [])):Int)<(↑(List.length l):Int))) false,Ob.bit (decide ((↑(Prod.snd (AB s l 0 [])):Int)<(↑(List.length l):Int))) false,Ob.bit (decide ((↑(Prod.snd (AB s l 0 [])):Int)<(↑(List.length l):Int))) false,Ob.bit (decide ((↑(Prod.snd (AB s l 0 [])):Int)<(↑(List.length l):Int))) false,Ob.bit (decide ((↑(Prod.snd (AB s l 0 [])):Int)<(↑(List.length l):Int))) false,Ob.bit (decide ((↑(Prod.snd (AB s l 0 [])):Int)<(↑(List.length l):Int))) false,Ob.bit false false,Ob.bit (decide ((0:Int)<=(↑(Prod.snd (AB s l 0 [])):Int)/\(↑(Prod.snd (AB s l 0 [])):Int)<=(↑(List.length (A1 l)):Int)/\(↑(List.length (A1 l)):Int)<=(↑(List.length (A1 l)):Int))) true,Ob.eqv (LV.v (PV.sl 1 (List.drop (Int.toNat (↑(Prod.snd (AB s l 0 [])):Int)) (List.take (Int.toNat (↑(List.length (A1 l)):Int)) (A1 l))))) (LV.v (PV.sl 1 (A1 (List.drop (Prod.snd (AB s l 0 [])) l)))),Ob.bit (decide (List.length (A1 (Prod.fst (AB s l 0 []))++(fun x=>Prod.snd x) (0+1,[[PV.str s]])++(fun x=>Prod.snd x) (1,A1 (List.drop (Prod.snd (AB s l 0 [])) l))) * (15+1)<=140737488355328)) true]) mixed func66 kR (fun e=>by kernel_rfl) (fun e=>⟨⟨⟨W,W,W,Wq,W,Ar⟩,trivial,rfl⟩,(@put (l) (s) ([]) (e) oM (by (simp only [List.length_nil]; omega))),(Bu (dT (by (simp only [List.length_append,List.length_cons,List.length_nil,A3]; omega)))),(HU (by (simp only [A3]; done))),(Bu (dF Ak)),(Bu (dF Ak)),(Bu (dF Ak)),(Bu (dF Ak)),(Bu (dF Ak)),(Bu (dF Ak)),(Bu (dF Ak)),rfl,(Bu (dT (by (simp only [List.length_nil,A3]; omega)))),(HU (by (simp only [List.length_nil,A3,Int.toNat_natCast,Int.toNat_zero,Jf,Jg,List.take_length]; done))),(Bu (dT Au)),Ar⟩)
def Ow(s:BA)(l:List BA):List BA:=(AB s l 0 []).1++[s]++l.drop (if (AB s l 0 []).2<l.length/\l.getD (AB s l 0 []).2 AI=s then (AB s l 0 []).2+1 else (AB s l 0 []).2)
theorem SD(s:BA)(l:List BA):(Ow s l).length<=l.length+1:=by
 have h:=U3 s l 0 []
 unfold Ow
 simp only [List.length_append,List.length_cons,List.length_nil,List.length_drop]
 simp only [List.length_nil] at h
 split <;> omega
theorem A45(l:List BA)(s:BA)(hn:l.length<=500000000):Pu 66 [.sl 1 (A1 l),.str s] (.ret (.sl 1 (A1 (Ow s l)))):=by
 have h:=U3 s l 0 []
 simp only [List.length_nil] at h
 refine Ob.Ge (te:=9) ?_
 unfold Ow
 rw [Av,Av]
 by_cases h1:(AB s l 0 []).2<l.length
 ·by_cases h2:l.getD (AB s l 0 []).2 AI=s
  ·rw [iP ⟨h1,h2⟩]
   exact uT l s hn oM oM oM h2 (by simp only [List.length_append,A3,List.length_drop,List.length_cons,List.length_nil]; omega)
  ·rw [iN (fun hc=>h2 hc.2)]
   exact uU l s hn oM oM oM h2 (by simp only [List.length_append,A3,List.length_drop,List.length_cons,List.length_nil]; omega)
 ·rw [iN (fun hc=>h1 hc.1)]
  exact uV l s hn oM oM oM (by simp only [List.length_append,A3,List.length_drop,List.length_cons,List.length_nil]; omega)
theorem cX{s:BA}{l:List BA}{i:Nat}(h:l.length<=i):(Ow s l).length<=i+1:=Nat.le_trans (SD s l) oM
abbrev oI(a:List BA)(j:Int)(out:List BA)(e:Ext):S:=S.mk [(0,vL 1 (A1 a)),(1,.v .Ab),(4,.v .Ab),(5,vL 1 (A1 out)),(9,A2 (a.length:Int)),(10,A2 j)] [] e
def F6  : List BA->(List BA)->(List BA)
 | [],out=>(out)
 | el::r,out=>F6  r (Ow el out)
def cY(a:List BA)(e:Ext)(p:(List BA)):A7 × S:=(.exit 0,S.mk [(0,vL 1 (A1 a)),(1,.v .Ab),(4,.v .Ab),(5,vL 1 (A1 p)),(9,A2 (a.length:Int))] [] e)
theorem uni(a:List BA)(ha:a.length<=400000000)(out:List BA)(e:Ext)(hN:a.length<=1000000000)(hv:List.length out<=0):(Ob.loop 33 (Am f33 0) (oI a 0 out e) (cY a e (F6  (a)  out)).1 (cY a e (F6  (a)  out)).2).ok prog:=by
 refine Ek a.length (fun j out=>oI a j out e) (fun i out=>F6  (List.drop i (a))  out) (cY a e) (fun i out=>(out.length<=i)) kR ?_ out (by first | exact hv | omega)
 rintro i out hi hv
 try simp only at hv
 rcases Nat.lt_or_ge i (a.length) with Ad | Dm
 ·have hd:=D9 Ad
  exact lN An [dt ((i:Int)<(a.length:Int)),am ((0:Int)<=(i:Int)/\(i:Int)<((A1 a).length:Int)) (by (simp only [A3]; omega)),ar (List.getD (A1 a) (Int.toNat (i:Int)) []) [.str (List.getD a i AI)] (by simp only [Int.toNat_natCast,Int.toNat_zero]; rw [@BN (a) (i) Ad]; try rfl),cl (@A45 (out) (List.getD a i AI) oM),wr ((i:Int)+1)] Ad (Ow (List.getD a i AI) out) (by first | assumption | omega | (apply cX <;> first | assumption | omega | decide) | (simp only [List.length_append,List.length_cons,List.length_nil] at *; omega) | simp_all) (by rw [hd,F6])
 ·have he:i=a.length:=by omega
  exact lX An [df ((i:Int)<(a.length:Int))] (out) (by rw [he,List.drop_length,F6])
theorem cZ(a:List BA)(ha:a.length<=400000000):Pu 33 [.sl 1 (A1 a),.Ab] (.ret (.sl 1 (A1 (F6 a [])))):=
 pu An (fun e=>[sl (A3 a),lp (S.mk [(0,vL 1 (A1 a)),(1,.v .Ab),(4,.v .Ab),(5,.v .Ab),(8,vL 1 (A1 a)),(9,A2 (a.length:Int)),(10,A2 0)] [] e) (@uni (a) ha ([]) (e) oM (by (simp only [List.length_nil]; omega))) ⟨⟨W,W,W,Wq,W,W,Ar⟩,trivial,rfl⟩,kp,ur,bf false]) func33
theorem uW(x:Ex)(ns:List BA)(hs:ns.length<=400000000)(hr:Pu 34 [.agg (AT x),.Ab,.bool false] (.ret (.sl 1 (A1 ns)))):Pu 20 [.agg (AT x)] (.ret (.sl 1 (A1 (F6 ns [])))):=
 pm An [cl hr,cl (@cZ (ns) hs)] func20
abbrev oJ(x:Ex)(j:Int)(out:List Ex)(e:Ext):S:=S.mk [(1,.lp 1 0),(2,.v .Ab),(3,.uniq 41 7 (Ex.cs out)),(4,A2 j)] [(1,CP x)] e
def JE  : List Al->(List Ex)->(List Ex)
 | [],out=>(out)
 | el::r,out=>JE  r (out++[D4 el])
def dA(x:Ex)(e:Ext)(p:(List Ex)):A7 × S:=(.exit 0,S.mk [(1,.lp 1 0),(2,.v .Ab),(3,.uniq 41 7 (Ex.cs p))] [(1,CP x)] e)
theorem bod(x:Ex)(hk:(AQ x).length<=100000000)(out:List Ex)(e:Ext)(hN:(Ae x).length<=1000000000)(hv:List.length out<=100000000+0):(Ob.loop 26 (Am f69 0) (oJ x 0 out e) (dA x e (JE  ((Ae x))  out)).1 (dA x e (JE  ((Ae x))  out)).2).ok prog:=by
 refine Ek ((Ae x).length) (fun j out=>oJ x j out e) (fun i out=>JE  (List.drop i ((Ae x)))  out) (dA x e) (fun i out=>(out.length<=100000000+i)) kR ?_ out (by first | exact hv | omega)
 rintro i out hi hv
 try simp only at hv
 rcases Nat.lt_or_ge i ((Ae x).length) with Ad | Dm
 ·have hd:=AN Ad
  exact lS An [sl (Al.A0 (Ae x)),dt ((i:Int)<((Ae x).length:Int)),am ((0:Int)<=(i:Int)/\(i:Int)<((Al.cs (Ae x)).length:Int)) (by (simp only [Al.A0]; omega)),ar (List.getD (Al.cs (Ae x)) (Int.toNat (i:Int)) []) (I4 (List.getD (Ae x) i default)) (by simp only [Int.toNat_natCast,Int.toNat_zero]; rw [@Al.B0 (Ae x) (i) Ad]; try rfl),am (List.length (Ex.cs out++(fun x=>Prod.snd x) (6+1,[List.take ((fun x=>TypeInfo.size x) (Tables.types (Program.toTables prog))[41]) (List.drop (0+Field.offset #[Field.mk "Con" 9 0 false "" "" 0,Field.mk "Names" 34 1 false "" "" 16,Field.mk "Body" 41 2 false "" "" 40][2]) (I4 (List.getD (Ae x) i default)))])) * (127+1)<=140737488355328) (by (simp only [List.length_append,List.length_cons,List.length_nil,A3,Tp.A0,Pm.A0,Ex.A0,Al.A0,Jf,Jg,List.take_length]; omega)),wr ((i:Int)+1)] [1,2,3,4] [1] Ad (out++[D4 (List.getD (Ae x) i default)]) (S.mk [(1,.lp 1 0),(2,.v .Ab),(3,.uniq 41 7 (Ex.cs out++[List.take (TypeInfo.size (Tables.types (Program.toTables prog))[41]) (List.drop (0+Field.offset #[Field.mk "Con" 9 0 false "" "" 0,Field.mk "Names" 34 1 false "" "" 16,Field.mk "Body" 41 2 false "" "" 40][2]) (I4 (List.getD (Ae x) i default)))])),(4,A2 ((i:Int)+1))] [(1,CP x)] e) ⟨⟨W,W,(.inl (by first | (simp only [List.nil_append,Av,Aw,Pr.A4,Tp.A4,Ex.A4,Vr.A4,Df.A4]; done) | (simp only [List.nil_append,Av,Aw,Pr.A4,Tp.A4,Ex.A4,Vr.A4,Df.A4]; rfl))),W,Ar⟩,⟨Ws,Ar⟩,rfl⟩ (by first | assumption | omega | (simp only [List.length_append,List.length_cons,List.length_nil] at *; omega) | simp_all) (by rw [hd,JE])
 ·have he:i=(Ae x).length:=by omega
  exact lX An [sl (Al.A0 (Ae x)),df ((i:Int)<((Ae x).length:Int))] (out) (by rw [he,List.drop_length,JE])
theorem A95(x:Ex)(hk:(AQ x).length<=100000000)(ha:(Ae x).length<=100000000):Pu 69 [.agg (AT x)] (.own 41 7 (Ex.cs (JE (Ae x) (AQ x)))):=
 pu An (fun e=>[am (List.length ([]++(fun x=>Prod.snd x) (7,Ex.cs (AQ x))) * (127+1)<=140737488355328) (by (simp only [List.length_append,List.length_nil,Ex.A0]; omega)),lp (S.mk [(0,.v (.agg (AT x))),(1,.lp 1 0),(2,.v .Ab),(5,LV.full 7 []),(6,.lp 1 3),(7,vL 7 (Ex.cs (AQ x))),(8,vL 7 ([]++Ex.cs (AQ x))),(3,.uniq 41 7 ([]++Ex.cs (AQ x))),(4,A2 0)] [(1,CP x)] e) (@bod (x) hk (AQ x) (e) oM hk) ⟨⟨W,W,(by first | exact .inl rfl | exact .inr ⟨rfl,rfl⟩ | exact .inr rfl | exact .inr trivial | exact .inl (by first | (simp only [List.nil_append,Av,Aw,Pr.A4,Tp.A4,Ex.A4,Vr.A4,Df.A4]; done) | (simp only [List.nil_append,Av,Aw,Pr.A4,Tp.A4,Ex.A4,Vr.A4,Df.A4]; rfl))),W,Ar⟩,⟨⟨W,W,W,W,W,W,W,Ar⟩,Ar⟩,rfl⟩]) func69
theorem dB:∀ (l:List Al) (out:List Ex),JE l out=out++l.map D4
 | [],out=>by simp [JE]
 | a::r,out=>by rw [JE,dB r]; simp
theorem oK(x:Ex)(hk:(AQ x).length<=100000000)(ha:(Ae x).length<=100000000):Pu 69 [.agg (AT x)] (.ret (.sl 7 (Ex.cs (AQ x++(Ae x).map D4)))):=by
 have:=A95 x hk ha
 rw [dB] at this
 exact Ob.Ge this
abbrev dG(x:Ex)(j:Int)(out:List BA)(e:Ext):S:=S.mk [(1,.lp 1 0),(2,.v .Ab),(3,.uniq 9 1 (A1 out)),(4,A2 j)] [(1,CP x)] e
def Fh  : List Al->(List BA)->(List BA)
 | [],out=>(out)
 | el::r,out=>Fh  r (out++[FT el])
def SE(x:Ex)(e:Ext)(p:(List BA)):A7 × S:=(.exit 0,S.mk [(1,.lp 1 0),(2,.v .Ab),(3,.uniq 9 1 (A1 p))] [(1,CP x)] e)
theorem cna(x:Ex)(out:List BA)(e:Ext)(hN:(Ae x).length<=1000000000)(hv:List.length out<=1+0):(Ob.loop 47 (Am f35 0) (dG x 0 out e) (SE x e (Fh  ((Ae x))  out)).1 (SE x e (Fh  ((Ae x))  out)).2).ok prog:=by
 refine Ek ((Ae x).length) (fun j out=>dG x j out e) (fun i out=>Fh  (List.drop i ((Ae x)))  out) (SE x e) (fun i out=>(out.length<=1+i)) kR ?_ out (by first | exact hv | omega)
 rintro i out hi hv
 try simp only at hv
 rcases Nat.lt_or_ge i ((Ae x).length) with Ad | Dm
 ·have hd:=AN Ad
  exact lS An [sl (Al.A0 (Ae x)),dt ((i:Int)<((Ae x).length:Int)),am ((0:Int)<=(i:Int)/\(i:Int)<((Al.cs (Ae x)).length:Int)) (by (simp only [Al.A0]; omega)),ar (List.getD (Al.cs (Ae x)) (Int.toNat (i:Int)) []) (I4 (List.getD (Ae x) i default)) (by simp only [Int.toNat_natCast,Int.toNat_zero]; rw [@Al.B0 (Ae x) (i) Ad]; try rfl),am (List.length (A1 out++(fun x=>Prod.snd x) (0+1,[[.str (FT (List.getD (Ae x) i default))]])) * (15+1)<=140737488355328) (by (simp only [List.length_append,List.length_cons,List.length_nil,A3]; omega)),wr ((i:Int)+1)] [1,2,3,4] [1] Ad (out++[FT (List.getD (Ae x) i default)]) (S.mk [(1,.lp 1 0),(2,.v .Ab),(3,.uniq 9 1 (A1 out++[[PV.str (FT (List.getD (Ae x) i default))]])),(4,A2 ((i:Int)+1))] [(1,CP x)] e) ⟨⟨W,W,(.inl (by first | (simp only [List.nil_append,Av,Aw,Pr.A4,Tp.A4,Ex.A4,Vr.A4,Df.A4]; done) | (simp only [List.nil_append,Av,Aw,Pr.A4,Tp.A4,Ex.A4,Vr.A4,Df.A4]; rfl))),W,Ar⟩,⟨Ws,Ar⟩,rfl⟩ (by first | assumption | omega | (simp only [List.length_append,List.length_cons,List.length_nil] at *; omega) | simp_all) (by rw [hd,Fh])
 ·have he:i=(Ae x).length:=by omega
  exact lX An [sl (Al.A0 (Ae x)),df ((i:Int)<((Ae x).length:Int))] (out) (by rw [he,List.drop_length,Fh])
theorem QJ:∀ (l:List Al) (out:List BA),Fh l out=out++l.map FT
 | [],out=>by simp [Fh]
 | a::r,out=>by rw [Fh,QJ r]; simp
theorem Vy(l:List Al)(out:List BA):(Fh l out).length=out.length+l.length:=by rw [QJ]; simp
theorem A96(x:Ex)(e:Ext)(hN:(Ae x).length<=1000000000):(Ob.loop 47 (Am f35 0) (dG x 0 [Ap x] e) (SE x e (Fh (Ae x) [Ap x])).1 (SE x e (Fh (Ae x) [Ap x])).2).ok prog:=cna x [Ap x] e hN sM
abbrev rcJ(l:List Ex)(out:List BA)(i:Int)(ext:Ext):S:=⟨[(3,.uniq 9 1 (A1 out)),(5,.v (.sl 7 (Ex.cs l))),(6,.v (.int .i64 i))],[],ext⟩
theorem rcA(l:List Ex)(out ns:List BA)(i:Nat)(ext:Ext)(hi:i<l.length)(hn:l.length<=1000000000)(ho:out.length<=1000000000)(hs:ns.length<=1000000000)(hr:Pu 35 [.agg (AT (l.getD i default))] (.ret (.sl 1 (A1 ns))))(cx:Cx)(AH:cx.n=47){Q:A7->S->Prop}(hq:Q (.normal) (S.mk [(3,.uniq 9 1 (A1 out++A1 ns)),(5,vL 7 (Ex.cs l)),(6,A2 ((i:Int)+1))] [] ext)):PW prog cx (Am f35 1) (rcJ l out (i:Int) ext) Q:=
 pw An 47 [sl (Ex.A0 l),dt ((i:Int)<(l.length:Int)),am ((0:Int)<=(i:Int)/\(i:Int)<((Ex.cs l).length:Int)) (by (simp only [Ex.A0]; omega)),ar (List.getD (Ex.cs l) (Int.toNat (i:Int)) []) (AT (List.getD l i default)) (by simp only [Int.toNat_natCast,Int.toNat_zero]; rw [@Ex.B0 (l) (i) hi]; try rfl),cl hr,am (List.length (A1 out++(fun x=>Prod.snd x) (1,A1 ns)) * (15+1)<=140737488355328) (by (simp only [List.length_append,A3]; omega)),wr ((i:Int)+1)] [3,5,6] [] AH hq
theorem rcZ(l:List Ex)(out:List BA)(ext:Ext)(cx:Cx)(AH:cx.n=47){Q:A7->S->Prop}(hq:Q (.exit 2) (S.mk [(3,.uniq 9 1 (A1 out)),(5,vL 7 (Ex.cs l)),(6,A2 (l.length:Int))] [] ext)):PW prog cx (Am f35 1) (rcJ l out (l.length:Int) ext) Q:=
 pw An 47 [sl (Ex.A0 l),df ((l.length:Int)<(l.length:Int))] [3,5,6] [] AH hq
abbrev rcL(l:List Ex)(out F5:List BA):Prop:=∀ext,(Ob.loop 47 (Am f35 1) (rcJ l out 0 ext) (.exit 2) ⟨[(3,.uniq 9 1 (A1 F5))],[],ext⟩).ok prog
section
variable (x:Ex) (F5:List BA) (hk:(AQ x).length<=100000000) (ha:(Ae x).length<=100000000)
include x F5 hk ha
theorem rcV(h4:B2 x=4)(l0:rcL (AQ x++(Ae x).map D4) (Fh (Ae x) [Ap x]) F5):Pu 35 [.agg (AT x)] (.own 9 1 (A1 F5)):=
 pu An (fun e=>[CT h4,ab true,lp (S.mk [(0,.v (.agg (AT x))),(1,.lp 1 0),(2,.v .Ab),(3,.uniq 9 1 [[.str (Ap x)]]),(7,.lp 1 0),(8,A2 (B2 x)),(9,.v (.bool (B2 x==4))),(10,.v .Ab),(11,.lp 1 1),(12,vS (Ap x)),(13,LV.full 1 [[.str (Ap x)]]),(14,vL 1 [[.str (Ap x)]]),(4,A2 0)] [(1,CP x)] e) (@A96 (x) (e) oM) xr,cl (@oK (x) hk ha),lp (S.mk [(1,.lp 1 0),(2,.v .Ab),(3,.uniq 9 1 (A1 (Fh (Ae x) [Ap x]))),(31,.v (.agg (AT x))),(32,vL 7 (Ex.cs (AQ x++List.map D4 (Ae x)))),(5,vL 7 (Ex.cs (AQ x++List.map D4 (Ae x)))),(6,A2 0)] [(1,CP x)] e) (@l0 (e)) xr]) func35
theorem rcW(h4:¬B2 x=4)(l0:rcL (AQ x++(Ae x).map D4) (Fh (Ae x) []) F5):Pu 35 [.agg (AT x)] (.own 9 1 (A1 F5)):=
 pu An (fun e=>[As h4,lp (S.mk [(0,.v (.agg (AT x))),(1,.lp 1 0),(2,.v .Ab),(3,.v .Ab),(7,.lp 1 0),(8,A2 (B2 x)),(9,.v (.bool (B2 x==4))),(4,A2 0)] [(1,CP x)] e) (@cna (x) ([]) (e) oM (by (simp only [List.length_nil]; omega))) ⟨⟨W,W,Wq,W,Ar⟩,⟨⟨W,W,W,W,W,W,W,Ar⟩,Ar⟩,rfl⟩,cl (@oK (x) hk ha),lp (S.mk [(1,.lp 1 0),(2,.v .Ab),(3,.uniq 9 1 (A1 (Fh (Ae x) []))),(31,.v (.agg (AT x))),(32,vL 7 (Ex.cs (AQ x++List.map D4 (Ae x)))),(5,vL 7 (Ex.cs (AQ x++List.map D4 (Ae x)))),(6,A2 0)] [(1,CP x)] e) (@l0 (e)) xr]) func35
end
theorem A46(x:Ex)(ns:List BA)(hs:ns.length<=400000000)(hr:Pu 35 [.agg (AT x)] (.ret (.sl 1 (A1 ns)))):Pu 21 [.agg (AT x)] (.ret (.sl 1 (A1 (F6 ns [])))):=
 pm An [cl hr,cl (@cZ (ns) hs)] func21
def Ox:Nat->Ex->List BA
 | 0,_=>[]
 | d+1,x=>(if B2 x=4 then [Ap x] else [])++(Ae x).map FT++(AQ x++(Ae x).map D4).flatMap (Ox d)
theorem Vz(f:Ex->List BA)(hf:∀w,(f w).length<=A5 (AT w)):∀l:List Ex,(l.flatMap f).length<=Af (Ex.cs l)
 | []=>Nat.zero_le _
 | w::r=>by
  have h1:=Vz f hf r
  have h2:=hf w
  have h3:Af (Ex.cs (w::r))=A5 (AT w)+Af (Ex.cs r):=by rw [Ex.Ay,Ex.Ay]; rfl
  simp only [List.flatMap_cons,List.length_append]; omega
theorem VA(f:Ex->List BA)(hf:∀w,(f w).length<=A5 (AT w)):∀l:List Al,l.length+((l.map D4).flatMap f).length<=Af (Al.cs l)
 | []=>Nat.zero_le _
 | a::r=>by
  have h1:=VA f hf r
  have h2:=hf (D4 a)
  have h4:=HV a
  have h3:Af (Al.cs (a::r))=A5 (I4 a)+Af (Al.cs r):=by rw [Al.Ay,Al.Ay]; rfl
  simp only [List.map_cons,List.flatMap_cons,List.length_append,List.length_cons]; omega
theorem KJ:∀ (d:Nat) (x:Ex),(Ox d x).length<=A5 (AT x)
 | 0,_=>Nat.zero_le _
 | d+1,x=>by
  have h1:=Vz (Ox d) (KJ d) (AQ x)
  have h2:=VA (Ox d) (KJ d) (Ae x)
  have h3:=CQ x
  simp only [Ox,List.length_append,List.flatMap_append,List.length_map]
  split <;> simp only [List.length_cons,List.length_nil] <;> omega
abbrev A47(x:Ex)(ns:List BA):Prop:=Pu 35 [.agg (AT x)] (.ret (.sl 1 (A1 ns)))
theorem jV(d:Nat)(l:List Ex)(hn:l.length<=1000000000)(out:List BA)(hT:(out++l.flatMap (Ox d)).length<=1000000000)
  (hr:∀i,i<l.length->A47 (l.getD i default) (Ox d (l.getD i default))):rcL l out (out++l.flatMap (Ox d)):=by
 intro ext
 have:=Ob.G9 (P:=prog) (n:=47) (c:=Am f35 1) (α:={ p:Nat × List BA // p.1<=l.length/\p.2++(l.drop p.1).flatMap (Ox d)=out++l.flatMap (Ox d) })
  (fun p=>rcJ l p.1.2 p.1.1 ext) (fun p=>l.length - p.1.1) (fun _=>(.exit 2,⟨[(3,.uniq 9 1 (A1 (out++l.flatMap (Ox d))))],[],ext⟩)) ?_ ⟨(0,out),by simp,by simp⟩
 ·exact this
 ·rintro ⟨⟨i,o1⟩,hi,he⟩ cx AH
  simp only at hi he ⊢
  rcases Nat.lt_or_ge i l.length with Ad | Dm
  ·rw [AN Ad,List.flatMap_cons,<-List.append_assoc] at he
   have hl:=congrArg List.length he
   simp only [List.length_append] at hl hT
   refine rcA l o1 _ i ext Ad hn oM oM (hr i Ad) cx AH (.inl ⟨rfl,⟨(i+1,_),Ad,he⟩,by simp only; omega,⟨⟨.inl ?_,W,W,Ar⟩,trivial,rfl⟩,Ar⟩)
   rw [Av]
  ·have hx:i=l.length:=by omega
   subst hx
   rw [List.drop_length] at he
   have Tk:o1=out++l.flatMap (Ox d):=by rw [<-he]; simp
   rw [<-Tk]
   exact rcZ l _ ext cx AH (.inr ⟨by simp,rfl,⟨W,Ar⟩,trivial,rfl⟩)
theorem NR:∀ (d:Nat) (x:Ex),A5 (AT x)<d->A5 (AT x)<=100000000->A47 x (Ox d x)
 | 0,x,hd,_=>by omega
 | d+1,x,hd,hb=>by
  have hx:=CQ x
  have hk:=Ex.BF (AQ x)
  have ha:=Al.BF (Ae x)
  have hl:=KJ (d+1) x
  unfold Ox at hl ⊢
  simp only [List.length_append,List.length_map] at hl
  have L:=fun out hT=>jV d (AQ x++(Ae x).map D4) (by rw [List.length_append,List.length_map]; omega) out hT fun i hi=>by
   have hm:=Bk hi
   generalize (AQ x++(Ae x).map D4).getD i default=w at hm ⊢
   rcases List.mem_append.1 hm with hm | hm
   ·have:=Ex.mem hm
    exact NR d w oM oM
   ·obtain ⟨a,hq,rfl⟩:=List.mem_map.1 hm
    have:=Al.mem hq
    have:=HV a
    exact NR d (D4 a) oM oM
  refine Ob.Ge (te:=9) ?_
  by_cases h4:B2 x=4
  ·rw [iP h4] at hl ⊢
   simp only [List.length_cons,List.length_nil] at hl
   have l0:=L (Fh (Ae x) [Ap x]) (by rw [List.length_append,Vy]; simp only [List.length_cons,List.length_nil]; omega)
   have:=rcV x _ oM oM h4 l0
   rw [QJ] at this
   exact this
  ·rw [iN h4] at hl ⊢
   simp only [List.length_nil] at hl
   have l0:=L (Fh (Ae x) []) (by rw [List.length_append,Vy]; simp only [List.length_nil]; omega)
   have:=rcW x _ oM oM h4 l0
   rw [QJ] at this
   exact this
def JF(x:Ex):List BA:=F6 (Iw (A5 (AT x)+1) x []) []
def KK(x:Ex):List BA:=F6 (Ox (A5 (AT x)+1) x) []
theorem A48(x:Ex)(hb:A5 (AT x)<=100000000):Pu 20 [.agg (AT x)] (.ret (.sl 1 (A1 (JF x)))):=
 uW x _ (by have:=KI (A5 (AT x)+1) x []; omega) (Ob.iG (.c (.r _) (.c (.n 1) (.c (.r _) (.r _)))) (NQ _ x oM [] (by simpa using hb)))
theorem A49(x:Ex)(hb:A5 (AT x)<=100000000):Pu 21 [.agg (AT x)] (.ret (.sl 1 (A1 (KK x)))):=
 A46 x _ (by have:=KJ (A5 (AT x)+1) x; omega) (NR _ x oM hb)
theorem QK:∀ (a out:List BA),(F6 a out).length<=out.length+a.length
 | [],out=>by simp [F6]
 | x::r,out=>by
  have h1:=QK r (Ow x out)
  have h2:=SD x out
  rw [F6]
  simp only [List.length_cons]
  omega
theorem VB(s t:BA):∀ (l:List BA) (i:Nat) (out:List BA),t∈(AB s l i out).1->t∈out∨t∈l
 | [],i,out,h => .inl (by simpa [AB] using h)
 | x::r,i,out,h=>by
  rw [AB] at h
  split at h
  ·rcases VB s t r _ _ h with h | h
   ·rcases List.mem_append.1 h with h | h
    ·exact .inl h
    ·exact .inr (by rw [List.mem_singleton.1 h]; exact List.mem_cons_self ..)
   ·exact .inr (List.mem_cons_of_mem _ h)
  ·exact .inl h
theorem dH{s t:BA}{l:List BA}(h:t∈Ow s l):t=s∨t∈l:=by
 unfold Ow at h
 rcases List.mem_append.1 h with h | h
 ·rcases List.mem_append.1 h with h | h
  ·rcases VB s t l 0 [] h with h | h
   ·exact absurd h sM
   ·exact .inr h
  ·exact .inl (List.mem_singleton.1 h)
 ·exact .inr (List.mem_of_mem_drop h)
theorem QL(t:BA):∀ (a out:List BA),t∈F6 a out->t∈out∨t∈a
 | [],out,h => .inl (by simpa [F6] using h)
 | x::r,out,h=>by
  rw [F6] at h
  rcases QL t r _ h with h | h
  ·rcases dH h with h | h
   ·exact .inr (by rw [h]; exact List.mem_cons_self ..)
   ·exact .inl h
  ·exact .inr (List.mem_cons_of_mem _ h)
theorem sz1{y:Ex}(hs:A5 (AT y)<=100000000):(Ao y).length<=100000000:=by have:=CQ y; have:=Pm.BF (Ao y); omega
theorem oL{y:Ex}(hs:A5 (AT y)<=100000000):(Ae y).length<=1000000000:=by have:=CQ y; have:=Al.BF (Ae y); omega
theorem sz3{y:Ex}(hs:A5 (AT y)<=100000000):D0 (Ae y)<=100000000:=by have:=CQ y; have:=Je (Ae y); omega
theorem jW(y:Ex):(I0 y).length<=1+(Ao y).length+D0 (Ae y):=by
 have:∀l:List Al,(l.flatMap Bl).length<=D0 l:=fun l=>by
  induction l with
  | nil=>simp
  | cons a r ih=>simp only [List.flatMap_cons,List.length_append,D0]; omega
 have:=this (Ae y)
 unfold I0
 simp only [List.length_append,List.length_map]
 split <;> simp only [List.length_cons,List.length_nil] <;> omega
theorem sz4{y:Ex}(hs:A5 (AT y)<=100000000):(I0 y).length<=1000000000:=by have:=CQ y; have:=Pm.BF (Ao y); have:=Je (Ae y); have:=jW y; omega
theorem sz5{y:Ex}(hs:A5 (AT y)<=100000000):∀w∈Cg y,A5 (BI w)<=100000000:=fun w hw=>by have:=CQ y; have:=Tp.mem hw; omega
theorem sz6{y:Ex}(hs:A5 (AT y)<=100000000):∀w∈Ao y,A5 (BI (Co w))<=100000000:=fun w hw=>by have:=CQ y; have:=Pm.mem hw; have:=Ja w; omega
theorem sz7{y:Ex}(hs:A5 (AT y)<=100000000):(Cg y).length<=1000000000:=by have:=CQ y; have:=Tp.BF (Cg y); omega
theorem sz8{y:Ex}(hs:A5 (AT y)<=100000000):(Ao y).length<=1000000000:=by have:=CQ y; have:=Pm.BF (Ao y); omega
section
variable (m:Mo) (vs bd:List BA) (y:Ex) (nf:Ex->List BA->Int) (hz:Sz m) (Dh:vs.length<=1000000000) (It:bd.length<=1000000000) (hs:A5 (AT y)<=100000000) (fK:∀ (k:Int) (w:Ex),w∈AQ y->Pu 155 [.agg (wL m),.agg (AT w),.sl 1 (A1 vs),.sl 1 (A1 (Mb y k bd))] (.ret (.int .i64 (nf w (Mb y k bd))))) (SW:∀ (a:Al),a∈Ae y->Pu 155 [.agg (wL m),.agg (AT (D4 a)),.sl 1 (A1 vs),.sl 1 (A1 (bd++Bl a))] (.ret (.int .i64 (nf (D4 a) (bd++Bl a)))))
include m vs bd y nf hz Dh It hs fK SW
theorem A4a(Ak:(HW (BP (fun s=>AU (Ac s)) (I0 y)) (K4 (Ea m) vs y) (IX (Fb m) bd y)==0&&B2 y==4)=true)(Au:¬Ds (Iv (Fq m) (Ap y) ((AQ y).length:Int)) (BP (fun a=>Iv (Fq m) (FT a) ((Bl a).length:Int)) (Ae y))=0):Pu 155 [.agg (wL m),.agg (AT y),.sl 1 (A1 vs),.sl 1 (A1 bd)] (rI (Ds (Iv (Fq m) (Ap y) ((AQ y).length:Int)) (BP (fun a=>Iv (Fq m) (FT a) ((Bl a).length:Int)) (Ae y)))):=
 pm CR [cl (@biT (y) (by (apply sz1 <;> first | assumption | omega | decide)) (by (apply oL <;> first | assumption | omega | decide)) (by (apply sz3 <;> first | assumption | omega | decide))),cl (@e1T (m) (I0 y) (by (apply sz4 <;> first | assumption | omega | decide))),cl (@tsT (m) (vs) (y) hz Dh (by (apply sz5 <;> first | assumption | omega | decide)) (by (apply sz6 <;> first | assumption | omega | decide)) (by (apply sz7 <;> first | assumption | omega | decide)) (by (apply sz8 <;> first | assumption | omega | decide))),cl (@vaT (m) (y) (bd) hz It),cl (@QA (BP (fun s=>AU (Ac s)) (I0 y)) (K4 (Ea m) vs y) (IX (Fb m) bd y)),mg,av (.v (.bool (bif HW (BP (fun s=>AU (Ac s)) (I0 y)) (K4 (Ea m) vs y) (IX (Fb m) bd y)==0 then B2 y==4 else false))) (.v (.bool (HW (BP (fun s=>AU (Ac s)) (I0 y)) (K4 (Ea m) vs y) (IX (Fb m) bd y)==0&&B2 y==4))) (by (simp only [Bool.cond_false_right]; done)),B7 Ak,sl (Ex.A0 (AQ y)),cl (@coT (m) (Ap y) (((AQ y).length:Int)) hz),cl (@e2T (m) (Ae y) hz (by (apply oL <;> first | assumption | omega | decide))),cl (@DI (Iv (Fq m) (Ap y) ((AQ y).length:Int)) (BP (fun a=>Iv (Fq m) (FT a) ((Bl a).length:Int)) (Ae y))),D3 Au] func155
theorem A4b(Ak:(HW (BP (fun s=>AU (Ac s)) (I0 y)) (K4 (Ea m) vs y) (IX (Fb m) bd y)==0&&B2 y==4)=true)(Au:Ds (Iv (Fq m) (Ap y) ((AQ y).length:Int)) (BP (fun a=>Iv (Fq m) (FT a) ((Bl a).length:Int)) (Ae y))=0):Pu 155 [.agg (wL m),.agg (AT y),.sl 1 (A1 vs),.sl 1 (A1 bd)] (rI (Ds (R5 (fun k w=>nf w (Mb y k bd)) (AQ y) 0) (BP (fun a=>nf (D4 a) (bd++Bl a)) (Ae y)))):=
 pm CR [cl (@biT (y) (by (apply sz1 <;> first | assumption | omega | decide)) (by (apply oL <;> first | assumption | omega | decide)) (by (apply sz3 <;> first | assumption | omega | decide))),cl (@e1T (m) (I0 y) (by (apply sz4 <;> first | assumption | omega | decide))),cl (@tsT (m) (vs) (y) hz Dh (by (apply sz5 <;> first | assumption | omega | decide)) (by (apply sz6 <;> first | assumption | omega | decide)) (by (apply sz7 <;> first | assumption | omega | decide)) (by (apply sz8 <;> first | assumption | omega | decide))),cl (@vaT (m) (y) (bd) hz It),cl (@QA (BP (fun s=>AU (Ac s)) (I0 y)) (K4 (Ea m) vs y) (IX (Fb m) bd y)),mg,av (.v (.bool (bif HW (BP (fun s=>AU (Ac s)) (I0 y)) (K4 (Ea m) vs y) (IX (Fb m) bd y)==0 then B2 y==4 else false))) (.v (.bool (HW (BP (fun s=>AU (Ac s)) (I0 y)) (K4 (Ea m) vs y) (IX (Fb m) bd y)==0&&B2 y==4))) (by (simp only [Bool.cond_false_right]; done)),B7 Ak,sl (Ex.A0 (AQ y)),cl (@coT (m) (Ap y) (((AQ y).length:Int)) hz),cl (@e2T (m) (Ae y) hz (by (apply oL <;> first | assumption | omega | decide))),cl (@DI (Iv (Fq m) (Ap y) ((AQ y).length:Int)) (BP (fun a=>Iv (Fq m) (FT a) ((Bl a).length:Int)) (Ae y))),Bp Au,cl (@e3T (m) (vs) (bd) (y) (nf) It hs fK),cl (@e4T (m) (vs) (bd) (y) (nf) It hs SW),cl (@DI (R5 (fun k w=>nf w (Mb y k bd)) (AQ y) 0) (BP (fun a=>nf (D4 a) (bd++Bl a)) (Ae y)))] func155
theorem A4c(Ak:(HW (BP (fun s=>AU (Ac s)) (I0 y)) (K4 (Ea m) vs y) (IX (Fb m) bd y)==0&&B2 y==4)=false)(Au:¬Ds (HW (BP (fun s=>AU (Ac s)) (I0 y)) (K4 (Ea m) vs y) (IX (Fb m) bd y)) (BP (fun a=>Iv (Fq m) (FT a) ((Bl a).length:Int)) (Ae y))=0):Pu 155 [.agg (wL m),.agg (AT y),.sl 1 (A1 vs),.sl 1 (A1 bd)] (rI (Ds (HW (BP (fun s=>AU (Ac s)) (I0 y)) (K4 (Ea m) vs y) (IX (Fb m) bd y)) (BP (fun a=>Iv (Fq m) (FT a) ((Bl a).length:Int)) (Ae y)))):=
 pm CR [cl (@biT (y) (by (apply sz1 <;> first | assumption | omega | decide)) (by (apply oL <;> first | assumption | omega | decide)) (by (apply sz3 <;> first | assumption | omega | decide))),cl (@e1T (m) (I0 y) (by (apply sz4 <;> first | assumption | omega | decide))),cl (@tsT (m) (vs) (y) hz Dh (by (apply sz5 <;> first | assumption | omega | decide)) (by (apply sz6 <;> first | assumption | omega | decide)) (by (apply sz7 <;> first | assumption | omega | decide)) (by (apply sz8 <;> first | assumption | omega | decide))),cl (@vaT (m) (y) (bd) hz It),cl (@QA (BP (fun s=>AU (Ac s)) (I0 y)) (K4 (Ea m) vs y) (IX (Fb m) bd y)),mg,av (.v (.bool (bif HW (BP (fun s=>AU (Ac s)) (I0 y)) (K4 (Ea m) vs y) (IX (Fb m) bd y)==0 then B2 y==4 else false))) (.v (.bool (HW (BP (fun s=>AU (Ac s)) (I0 y)) (K4 (Ea m) vs y) (IX (Fb m) bd y)==0&&B2 y==4))) (by (simp only [Bool.cond_false_right]; done)),B1 Ak,cl (@e2T (m) (Ae y) hz (by (apply oL <;> first | assumption | omega | decide))),cl (@DI (HW (BP (fun s=>AU (Ac s)) (I0 y)) (K4 (Ea m) vs y) (IX (Fb m) bd y)) (BP (fun a=>Iv (Fq m) (FT a) ((Bl a).length:Int)) (Ae y))),D3 Au] func155
theorem A4d(Ak:(HW (BP (fun s=>AU (Ac s)) (I0 y)) (K4 (Ea m) vs y) (IX (Fb m) bd y)==0&&B2 y==4)=false)(Au:Ds (HW (BP (fun s=>AU (Ac s)) (I0 y)) (K4 (Ea m) vs y) (IX (Fb m) bd y)) (BP (fun a=>Iv (Fq m) (FT a) ((Bl a).length:Int)) (Ae y))=0):Pu 155 [.agg (wL m),.agg (AT y),.sl 1 (A1 vs),.sl 1 (A1 bd)] (rI (Ds (R5 (fun k w=>nf w (Mb y k bd)) (AQ y) 0) (BP (fun a=>nf (D4 a) (bd++Bl a)) (Ae y)))):=
 pm CR [cl (@biT (y) (by (apply sz1 <;> first | assumption | omega | decide)) (by (apply oL <;> first | assumption | omega | decide)) (by (apply sz3 <;> first | assumption | omega | decide))),cl (@e1T (m) (I0 y) (by (apply sz4 <;> first | assumption | omega | decide))),cl (@tsT (m) (vs) (y) hz Dh (by (apply sz5 <;> first | assumption | omega | decide)) (by (apply sz6 <;> first | assumption | omega | decide)) (by (apply sz7 <;> first | assumption | omega | decide)) (by (apply sz8 <;> first | assumption | omega | decide))),cl (@vaT (m) (y) (bd) hz It),cl (@QA (BP (fun s=>AU (Ac s)) (I0 y)) (K4 (Ea m) vs y) (IX (Fb m) bd y)),mg,av (.v (.bool (bif HW (BP (fun s=>AU (Ac s)) (I0 y)) (K4 (Ea m) vs y) (IX (Fb m) bd y)==0 then B2 y==4 else false))) (.v (.bool (HW (BP (fun s=>AU (Ac s)) (I0 y)) (K4 (Ea m) vs y) (IX (Fb m) bd y)==0&&B2 y==4))) (by (simp only [Bool.cond_false_right]; done)),B1 Ak,cl (@e2T (m) (Ae y) hz (by (apply oL <;> first | assumption | omega | decide))),cl (@DI (HW (BP (fun s=>AU (Ac s)) (I0 y)) (K4 (Ea m) vs y) (IX (Fb m) bd y)) (BP (fun a=>Iv (Fq m) (FT a) ((Bl a).length:Int)) (Ae y))),Bp Au,cl (@e3T (m) (vs) (bd) (y) (nf) It hs fK),cl (@e4T (m) (vs) (bd) (y) (nf) It hs SW),cl (@DI (R5 (fun k w=>nf w (Mb y k bd)) (AQ y) 0) (BP (fun a=>nf (D4 a) (bd++Bl a)) (Ae y)))] func155
end
def J0(m:Mo)(vs:List BA)(bd:List BA)(y:Ex)(nf:Ex->List BA->Int):Int:=(if (HW (BP (fun s=>AU (Ac s)) (I0 y)) (K4 (Ea m) vs y) (IX (Fb m) bd y)==0&&B2 y==4)=true then (if Ds (Iv (Fq m) (Ap y) ((AQ y).length:Int)) (BP (fun a=>Iv (Fq m) (FT a) ((Bl a).length:Int)) (Ae y))=0 then (Ds (R5 (fun k w=>nf w (Mb y k bd)) (AQ y) 0) (BP (fun a=>nf (D4 a) (bd++Bl a)) (Ae y))) else (Ds (Iv (Fq m) (Ap y) ((AQ y).length:Int)) (BP (fun a=>Iv (Fq m) (FT a) ((Bl a).length:Int)) (Ae y)))) else (if Ds (HW (BP (fun s=>AU (Ac s)) (I0 y)) (K4 (Ea m) vs y) (IX (Fb m) bd y)) (BP (fun a=>Iv (Fq m) (FT a) ((Bl a).length:Int)) (Ae y))=0 then (Ds (R5 (fun k w=>nf w (Mb y k bd)) (AQ y) 0) (BP (fun a=>nf (D4 a) (bd++Bl a)) (Ae y))) else (Ds (HW (BP (fun s=>AU (Ac s)) (I0 y)) (K4 (Ea m) vs y) (IX (Fb m) bd y)) (BP (fun a=>Iv (Fq m) (FT a) ((Bl a).length:Int)) (Ae y)))))
theorem noS(m:Mo)(vs bd:List BA)(y:Ex)(nf:Ex->List BA->Int)(hz:Sz m)(Dh:vs.length<=1000000000)(It:bd.length<=1000000000)(hs:A5 (AT y)<=100000000)(fK:∀ (k:Int) (w:Ex),w∈AQ y->Pu 155 [.agg (wL m),.agg (AT w),.sl 1 (A1 vs),.sl 1 (A1 (Mb y k bd))] (.ret (.int .i64 (nf w (Mb y k bd)))))(SW:∀ (a:Al),a∈Ae y->Pu 155 [.agg (wL m),.agg (AT (D4 a)),.sl 1 (A1 vs),.sl 1 (A1 (bd++Bl a))] (.ret (.int .i64 (nf (D4 a) (bd++Bl a))))):Pu 155 [.agg (wL m),.agg (AT y),.sl 1 (A1 vs),.sl 1 (A1 bd)] (rI (J0 m vs bd y nf)):=by
 by_cases h0:(HW (BP (fun s=>AU (Ac s)) (I0 y)) (K4 (Ea m) vs y) (IX (Fb m) bd y)==0&&B2 y==4)=true
 ·by_cases h1:Ds (Iv (Fq m) (Ap y) ((AQ y).length:Int)) (BP (fun a=>Iv (Fq m) (FT a) ((Bl a).length:Int)) (Ae y))=0
  ·simp only [J0,iP h0,iP h1]; exact A4b m vs bd y nf hz Dh It hs fK SW h0 h1
  ·simp only [J0,iP h0,iN h1]; exact A4a m vs bd y nf hz Dh It hs fK SW h0 h1
 ·by_cases h1:Ds (HW (BP (fun s=>AU (Ac s)) (I0 y)) (K4 (Ea m) vs y) (IX (Fb m) bd y)) (BP (fun a=>Iv (Fq m) (FT a) ((Bl a).length:Int)) (Ae y))=0
  ·simp only [J0,iN h0,iP h1]; exact A4d m vs bd y nf hz Dh It hs fK SW (DC h0) h1
  ·simp only [J0,iN h0,iN h1]; exact A4c m vs bd y nf hz Dh It hs fK SW (DC h0) h1
theorem uX(m:Mo)(vs bd:List BA)(y:Ex)(nf:Ex->List BA->Int):J0 m vs bd y nf=y6 (O6 m) vs nf y bd:=by
 by_cases h:HW (BP (fun s=>AU (Ac s)) (I0 y)) (K4 (Ea m) vs y) (IX (Fb m) bd y)=0/\B2 y=4
 ·have e2:nq2 (O6 m) vs bd y=Iv (Fq m) (Ap y) (AQ y).length:=iP h
  have e3:fH (O6 m) vs bd y=Ds (Iv (Fq m) (Ap y) (AQ y).length) (BP (fun a=>Iv (Fq m) (FT a) (Bl a).length) (Ae y)):=by unfold fH; rw [e2]; rfl
  unfold J0 y6
  rw [iP (by simp [h.1,h.2]),e3]
 ·have e2:nq2 (O6 m) vs bd y=HW (BP (fun s=>AU (Ac s)) (I0 y)) (K4 (Ea m) vs y) (IX (Fb m) bd y):=iN h
  have e3:fH (O6 m) vs bd y=Ds (HW (BP (fun s=>AU (Ac s)) (I0 y)) (K4 (Ea m) vs y) (IX (Fb m) bd y)) (BP (fun a=>Iv (Fq m) (FT a) (Bl a).length) (Ae y)):=by unfold fH; rw [e2]; rfl
  unfold J0 y6
  rw [iN (by simpa using h),e3]
theorem jX(y:Ex)(k:Int)(bd:List BA):(Mb y k bd).length<=bd.length+1+(Ao y).length:=by
 unfold Mb
 simp only [List.length_append,List.length_map]
 split <;> simp only [List.length_cons,List.length_nil] <;> omega
theorem dI(m:Mo)(vs:List BA)(hz:Sz m)(Dh:vs.length<=1000000000):∀ (d:Nat) (y:Ex) (bd:List BA),A5 (AT y)<d->d<=100000001->bd.length+A5 (AT y)<=900000000->Pu 155 [.agg (wL m),.agg (AT y),.sl 1 (A1 vs),.sl 1 (A1 bd)] (.ret (.int .i64 (fI (O6 m) vs d y bd)))
 | 0,_,_,h,_,_=>by omega
 | d+1,y,bd,h,hs,hb=>by
  have h0:=CQ y
  have h1:=Pm.BF (Ao y)
  rw [fI,<-uX]
  exact noS m vs bd y (fI (O6 m) vs d) hz Dh oM oM
   (fun k w hw=>dI m vs hz Dh d w _ (by have:=Ex.mem hw; omega) oM (by have:=Ex.mem hw; have:=jX y k bd; omega))
   (fun a ha=>dI m vs hz Dh d (D4 a) _ (by have:=Al.mem ha; have:=Gw a; omega) oM (by have:=Al.mem ha; have:=Gw a; have:=Dc (Bl a); rw [List.length_append]; omega))
theorem nqT(m:Mo)(vs bd:List BA)(y:Ex)(hz:Sz m)(Dh:vs.length<=1000000000)(It:bd.length<=100000000)(hs:A5 (AT y)<=100000000):Pu 155 [.agg (wL m),.agg (AT y),.sl 1 (A1 vs),.sl 1 (A1 bd)] (.ret (.int .i64 (nqF (O6 m) vs y bd))):=dI m vs hz Dh _ y bd oM oM oM
def NS(m:Mo)(vs:List BA)(bd:List BA)(y:Ex):Int:=(if j0 (WW y)=0 then (nqF (O6 m) vs y bd) else (j0 (WW y)))
theorem xpS(m:Mo)(vs bd:List BA)(y:Ex)(hz:Sz m)(Dh:vs.length<=1000000000)(It:bd.length<=100000000)(hs:A5 (AT y)<=100000000):Pu 106 [.agg (wL m),.agg (AT y),.sl 1 (A1 vs),.sl 1 (A1 bd)] (rI (NS m vs bd y)):=by
 by_cases h0:j0 (WW y)=0
 ·simp only [NS,iP h0]; exact pm CR [cl (@syT (y) hs),cl (@A2k (WW y)),Bp h0,cl (@nqT (m) (vs) (bd) (y) hz Dh It hs)] func106
 ·simp only [NS,iN h0]; exact pm CR [cl (@syT (y) hs),cl (@A2k (WW y)),D3 h0] func106
def WZ(ε:En)(vs bd:List BA)(y:Ex):Int:=if j0 (WW y)=0 then nqF ε vs y bd else j0 (WW y)
theorem KL(s:BA):∀ks,CN s ks=true↔s∈ks
 | []=>by simp [CN]
 | k::r=>by
  simp only [CN,Bool.or_eq_true,decide_eq_true_eq,List.mem_cons,KL s r]
  exact ⟨Or.imp Eq.symm id,Or.imp Eq.symm id⟩
theorem VC(s t:BA):∀ks,t∈fD s ks↔t=s∨t∈ks
 | []=>by simp [fD]
 | k::r=>by
  unfold fD
  by_cases h:k=s
  ·rw [iP h]; subst h; simp
  ·rw [iN h,List.mem_cons,VC s t r,List.mem_cons]
   constructor
   ·rintro (h1 | h1 | h1)
    ·exact .inr (.inl h1)
    ·exact .inl h1
    ·exact .inr (.inr h1)
   ·rintro (h1 | h1 | h1)
    ·exact .inr (.inl h1)
    ·exact .inl h1
    ·exact .inr (.inr h1)
theorem KM(s t:BA)(ks:List BA):t∈Dx s ks↔t=s∨t∈ks:=by
 unfold Dx
 by_cases h:CN s ks=true
 ·rw [iP h]
  constructor
  ·exact .inr
  ·rintro (rfl | h1)
   ·exact (KL _ _).1 h
   ·exact h1
 ·rw [iN h]; exact VC s t ks
theorem J1(s:BA)(ks:List BA):Cp s ks=0↔¬s∈ks:=by
 unfold Cp
 by_cases h:CN s ks=true
 ·rw [iP h]; exact ⟨fun h'=>absurd h' dD,fun h'=>absurd ((KL _ _).1 h) h'⟩
 ·rw [iN h]; exact ⟨fun _ h'=>h ((KL _ _).2 h'),fun _=>rfl⟩
theorem NT{α:Type}(f:α->Int):∀l:List α,BP f l=0↔∀x∈l,f x=0
 | []=>by simp [BP]
 | x::r=>by
  unfold BP
  by_cases h:f x=0
  ·rw [iP h,NT f r]; simp [h]
  ·rw [iN h]; simp [h]
theorem SF{α:Type}(nm:α->BA)(pr:St->List BA)(ge:α->St->Int)(gs:α->St->St)(ok:α->Prop)
  (h0:∀x st,ge x st=0↔ok x/\¬nm x∈pr st) (h1:∀x st t,ge x st=0->(t∈pr (gs x st)↔t=nm x∨t∈pr st)) :
  ∀ (l:List α) (st:St),(E7 ge gs l st).1=0↔(∀x∈l,ok x)/\(l.map nm).Nodup/\∀x∈l,¬nm x∈pr st
 | [],st=>by simp [E7]
 | x::r,st=>by
  unfold E7
  by_cases h:ge x st=0
  ·rw [iP h,SF nm pr ge gs ok h0 h1 r (gs x st)]
   have hx:=(h0 x st).1 h
   constructor
   ·rintro ⟨a,b,c⟩
    refine ⟨fun y hy=>?_,?_,fun y hy=>?_⟩
    ·rcases List.mem_cons.1 hy with rfl | hy
     ·exact hx.1
     ·exact a y hy
    ·rw [List.map_cons,List.nodup_cons]
     refine ⟨fun hm=>?_,b⟩
     obtain ⟨y,hy,e⟩:=List.mem_map.1 hm
     exact c y hy ((h1 x st _ h).2 (.inl e))
    ·rcases List.mem_cons.1 hy with rfl | hy
     ·exact hx.2
     ·exact fun hm=>c y hy ((h1 x st _ h).2 (.inr hm))
   ·rintro ⟨a,b,c⟩
    rw [List.map_cons,List.nodup_cons] at b
    refine ⟨fun y hy=>a y (List.mem_cons_of_mem _ hy),b.2,fun y hy hm=>?_⟩
    rcases (h1 x st _ h).1 hm with e | hm
    ·exact b.1 (e ▸ List.mem_map.2 ⟨y,hy,rfl⟩)
    ·exact c y (List.mem_cons_of_mem _ hy) hm
  ·rw [iN h]
   refine ⟨fun h'=>absurd h' h,fun h'=>absurd ((h0 x st).2 ⟨h'.1 x (List.mem_cons_self ..),h'.2.2 x (List.mem_cons_self ..)⟩) h⟩
theorem Mu{α:Type}(f:α->BA)(s:BA):∀l:List α,ix f s l<l.length↔∃x∈l,f x=s
 | []=>by simp [ix]
 | c::r=>by
  unfold ix
  by_cases h:f c=s
  ·rw [iP h]; exact ⟨fun _=>⟨c,List.mem_cons_self ..,h⟩,fun _=>by simp⟩
  ·rw [iN h,List.length_cons,Nat.add_lt_add_iff_right,Mu f s r]
   constructor
   ·rintro ⟨x,hx,e⟩; exact ⟨x,List.mem_cons_of_mem _ hx,e⟩
   ·rintro ⟨x,hx,e⟩
    rcases List.mem_cons.1 hx with rfl | hx
    ·exact absurd e h
    ·exact ⟨x,hx,e⟩
end Go.Proofs.YtmllcplaohkjnaaGreatDoor
namespace Go.Pv
def isM:List LV->Bool
 | [.mm es]=>es.all fun x=>x.2.EN
 | _=>false
theorem Rc.names{g g':Gh}{w:World}{b:Nat}{es:List (BA × PV)}(hM:g'.M=g.M)(hn:(es.all fun x=>x.2.EN)=true)(h:Rc g w b es):Rc g' w b es:=by
 obtain ⟨h1,arr,clock,h2,h3,h5,h6⟩:=h
 exact ⟨(by rw [hM]; exact h1),arr,clock,h2,h3,h5,fun j hj Cj=>⟨(h6 j hj Cj).1,BO.names hM (List.all_eq_true.1 hn _ (List.getElem_mem hj)) (h6 j hj Cj).2⟩⟩
theorem BX.drop{P:Program}{f:FuncId}{args:List PV}{res:Cd}{e e1 e2:Ext}(hr:res.EN=true)(hc:El e2=El e)(hs:∀x cs,lk e2 x=some cs->lk e1 x=some cs/\isM cs=true)
  (h:BX P f args e fun r e'=>r=res/\e'=e1):BX P f args e fun r e'=>r=res/\e'=e2:=by
 intro vs g l w Hq E4
 refine (h vs g l w Hq E4).mono ?_
 rintro mY w' ⟨r,e0,g',l',⟨rfl,rfl⟩,AF,IG,II,Cb,Tq,MU,os,tape,output⟩
 let g3:Gh:=⟨g'.M,fun n=>if n<El e2 then g'.X n else none,fun n c=>if n<El e2 then g'.Y n c else none⟩
 let l3:LG:=⟨l'.L,fun _=>none,fun b=>match l'.O b with
  | some (.x n)=>if n<El e2 then some (.x n) else none
  | _=>none⟩
 have hO:∀b o,l3.O b=some o->l'.O b=some o/\∃n,o = .x n:=fun b o ho=>by
  simp only [l3] at ho
  split at ho
  ·rename_i n hn
   split at ho
   ·injection ho with ho; subst ho; exact ⟨hn,n,rfl⟩
   ·cases ho
  ·cases ho
 have Wl:Ch g w g3 w':=⟨fun n b hb=>by
   have Ad:n<El e2:=by
    rcases Nat.lt_or_ge n (El e2) with h1 | h1
    ·exact h1
    ·rw [E4.fresh.2.1 n oM] at hb; cases hb
   simp only [g3,iP Ad]; exact II.ext n b hb,fun b o v hc hf=>II.cell b o v hc hf,II.len,fun n c b hb=>by
   have Ad:n<El e2:=by
    rcases Nat.lt_or_ge n (El e2) with h1 | h1
    ·exact h1
    ·rw [E4.fresh.2.2 n c oM] at hb; cases hb
   simp only [g3,iP Ad]; exact II.row n c b hb⟩
 refine ⟨r,e2,g3,l3,⟨rfl,rfl⟩,?_,?_,Wl,Cb,Tq,fun b o ho=>MU b o (hO b o ho).1,os,tape,output⟩
 ·cases r with
  | ret p=>
   cases mY <;> first | exact AF.elim | skip
   exact BO.names (g:=g') rfl hr AF
  | own te z es=>
   cases mY <;> first | exact AF.elim | skip
   obtain ⟨K7,AF⟩:=AF
   refine ⟨K7,?_⟩
   rcases AF with (h | ⟨a,h,h'⟩) | ⟨b,cap,cur,k1,k2,k3,k4,k5,k6,k7,k8⟩
   ·exact .inl (.inl h)
   ·exact .inl (.inr ⟨a,h,BO.names (g:=g') rfl (by simpa [PV.EN,Cd.EN] using hr) h'⟩)
   ·refine .inr ⟨b,cap,cur,k1,k2,k3,?_,k5,k6,k7,BO.names (g:=g') rfl (by simpa [PV.EN,Cd.EN] using hr) k8⟩
    simp only [l3,k4]
  | panic p=>
   cases mY <;> first | exact AF.elim | skip
   obtain ⟨v,hv,fW⟩:=AF
   exact ⟨v,hv,BO.names (g:=g') rfl hr fW⟩
 ·refine ⟨fun x cs hx=>?_,fun b o ho=>IG.OK b o (hO b o ho).1,fun p b hb=>(by cases hb),⟨IG.fresh.1,fun n hn=>?_,fun n c hn=>?_⟩,fun n b hb=>?_,fun b o ho => .inl (hO b o ho).2,IG.Jj.names rfl⟩
  ·obtain ⟨h1,h2⟩:=hs x cs hx
   obtain ⟨b,k1,k2,hE⟩:=IG.ex x cs h1
   have Ad:x<El e2:=L4 hx
   unfold isM at h2
   split at h2
   ·rename_i es
    have kx:g'.X x=some b:=k1
    refine ⟨b,?_,?_,?_⟩
    ·show g3.X x=some b
     simp only [g3,iP Ad]; exact kx
    ·simp only [l3,k2,iP Ad]
    ·rcases hE with hE | hE
     ·obtain ⟨-,cur,te,-,-,h6⟩:=hE
      exact ((h6 0 sM).2.2).elim
     ·rcases hE with ⟨es',h7,h8⟩ | ⟨n,c,ps,-,h7,-⟩
      ·exact .inr (.inl ⟨es',h7,Rc.names (g:=g') (g':=g3) rfl (by cases h7; exact h2) h8⟩)
      ·cases h7
   ·cases h2
  ·simp only [g3,iN (Nat.not_lt.2 hn)]
  ·simp only [g3,iN (Nat.not_lt.2 hn)]
  ·simp only [g3] at hb
   split at hb
   ·exact IG.Gg n b hb
   ·cases hb
theorem Ob.dJ{P:Program}{f:FuncId}{args:List PV}{r:Cd}{e e1 e2:Ext}(hr:r.EN=true)(hc:El e2=El e)(hs:∀x cs,lk e2 x=some cs->lk e1 x=some cs/\isM cs=true)(h:(Ob.DT f args e r e1).ok P):(Ob.DT f args e r e2).ok P:=⟨h.1,BX.drop hr hc hs h.2⟩
end Go.Pv
