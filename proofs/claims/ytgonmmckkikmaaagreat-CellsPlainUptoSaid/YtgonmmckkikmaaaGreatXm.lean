/- Values of Go as plain data, an evaluator over them, and what the functions of the program return; part m. -/
import Derived.Test.YtgonmmckkikmaaaGreatXf
import Derived.Test.YtgonmmckkikmaaaGreatXi
import Derived.Test.YtgonmmckkikmaaaGreatXl
set_option linter.unusedSectionVars false
set_option linter.unusedSimpArgs false
set_option linter.unusedVariables false
namespace Go.Proofs.YtgonmmckkikmaaaGreat
open Go.Pv Tryz
set_option maxRecDepth 100000
theorem nmsC_take(l:List BA)(k:Nat):(nmsC l).take k=nmsC (l.take k):=by simp [nmsC_eq]
theorem nmsC_drop(l:List BA)(k:Nat):(nmsC l).drop k=nmsC (l.drop k):=by simp [nmsC_eq]
abbrev fnd_I(l:List BA)(s:BA)(j:Int)(e:Ext):S:=S.mk [(0,vL 1 (nmsC l)),(1,vS s),(7,vI6 (l.length:Int)),(8,vI6 j)] [] e
section
variable (l:List BA) (s:BA) (i:Nat) (e:Ext)
include l s i e
theorem fnd_b1(hi:i<l.length)(hN:l.length<=1000000000)(hx0:List.getD l i nm0=s)(cx:Cx)(hcx:cx.n=19){Q:PExit->S->Prop}(hq:Q (.ret) (S.mk [(0,vL 1 (nmsC l)),(1,vS s),(7,vI6 (l.length:Int)),(8,vI6 (i:Int)),(4,vI6 (i:Int))] [] e)):PW prog cx (loopF f164 0) (fnd_I l s (i:Int) e) Q:=
 pw mdL 19 [dt ((i:Int)<(l.length:Int)),am ((0:Int)<=(i:Int)/\(i:Int)<((nmsC l).length:Int)) qZ,xNm l i hi,bt (ByteArray.toList (List.getD l i nm0)==ByteArray.toList s) (bsT hx0)] [0,1,7,8,4] [] hcx hq
theorem fnd_b2(hi:i<l.length)(hN:l.length<=1000000000)(hx0:¬List.getD l i nm0=s)(cx:Cx)(hcx:cx.n=19){Q:PExit->S->Prop}(hq:Q (.normal) (S.mk [(0,vL 1 (nmsC l)),(1,vS s),(7,vI6 (l.length:Int)),(8,vI6 ((i:Int)+1))] [] e)):PW prog cx (loopF f164 0) (fnd_I l s (i:Int) e) Q:=
 pw mdL 19 [dt ((i:Int)<(l.length:Int)),am ((0:Int)<=(i:Int)/\(i:Int)<((nmsC l).length:Int)) qZ,xNm l i hi,bf (ByteArray.toList (List.getD l i nm0)==ByteArray.toList s) (bsF hx0),wr ((i:Int)+1)] [0,1,7,8,4] [] hcx hq
theorem fnd_z1(hi:i=l.length)(hN:l.length<=1000000000)(cx:Cx)(hcx:cx.n=19){Q:PExit->S->Prop}(hq:Q (.exit 0) (S.mk [(0,vL 1 (nmsC l)),(1,vS s),(7,vI6 (l.length:Int)),(8,vI6 (i:Int))] [] e)):PW prog cx (loopF f164 0) (fnd_I l s (i:Int) e) Q:=
 pw mdL 19 [df ((i:Int)<(l.length:Int))] [0,1,7,8,4] [] hcx hq
end
inductive fnd_R where
 | e0 (i:Nat)
 | e1
def fnd_f(s:BA):List BA->Nat->fnd_R
 | [],i=>(fnd_R.e1)
 | el::r,i=>(if el=s then (fnd_R.e0 i) else fnd_f s r (i+1))
def fnd_q(l:List BA)(s:BA)(e:Ext):fnd_R->PExit × S
 | .e0 i=>(.ret,S.mk [(0,vL 1 (nmsC l)),(1,vS s),(7,vI6 (l.length:Int)),(4,vI6 (i:Int))] [] e)
 | .e1=>(.exit 0,S.mk [(0,vL 1 (nmsC l)),(1,vS s),(7,vI6 (l.length:Int))] [] e)
theorem fnd_lp(l:List BA)(s:BA)(e:Ext)(hN:l.length<=1000000000)(i:Nat)(hi0:i<=l.length)  : (Ob.loop 19 (loopF f164 0) (fnd_I l s (i:Int)  e) (fnd_q l s e (fnd_f s (List.drop i (l)) i)).1 (fnd_q l s e (fnd_f s (List.drop i (l)) i)).2).ok prog:=by
 refine Ob.loop_of (P:=prog) (α:={ zz:Nat × Unit // zz.1<=l.length }) (fun zz=>fnd_I l s (zz.1.1:Int)  e) (fun zz=>l.length - zz.1.1) (fun zz=>(fnd_q l s e (fnd_f s (List.drop zz.1.1 (l)) zz.1.1))) ?_ ⟨(i,()),hi0⟩
 clear hi0
 clear  i
 rintro ⟨⟨i,u⟩,hi⟩ cx hcx
 simp only at hi  ⊢
 rcases Nat.lt_or_ge i (l.length) with hlt | hge
 ·have hd:=drop_at0 hlt
  by_cases h0:List.getD l i nm0=s
  ·have hr:(fnd_f s (List.drop i (l)) i)=(fnd_R.e0 i):=by rw [hd,fnd_f,iP h0]
   refine fnd_b1 l s i  e hlt hN  h0 cx hcx (.inr ?_)
   rw [hr]
   exact ⟨by simp,rfl,xr⟩
  ·have hr:(fnd_f s (List.drop i (l)) i)=(fnd_f s (List.drop (i+1) (l)) (i+1)):=by rw [hd,fnd_f,iN h0]
   exact fnd_b2 l s i  e hlt hN  h0 cx hcx (.inl ⟨rfl,⟨((i+1),()),by simp only; omega⟩,by simp only; omega,xr,by simp only; rw [hr]⟩)
 ·have he:i=l.length:=by omega
  subst he
  have hr:(fnd_f s (List.drop (l.length) (l)) (l.length))=(fnd_R.e1):=by rw [List.drop_length,fnd_f]
  refine fnd_z1 l s (l.length)  e rfl hN   cx hcx (.inr ?_)
  rw [hr]
  exact ⟨by simp,rfl,xr⟩
theorem fnd_0(l:List BA)(s:BA)(e:Ext)(hN:l.length<=1000000000)(p0:Nat)(hres:(fnd_f s (l) 0)=(fnd_R.e0 p0)):(Ob.loop 19 (loopF f164 0) (fnd_I l s 0  e) (fnd_q l s e (fnd_R.e0 p0)).1 (fnd_q l s e (fnd_R.e0 p0)).2).ok prog:=by
 have:=fnd_lp l s e hN 0  (Nat.zero_le _)
 rw [List.drop_zero] at this
 rw [hres] at this
 exact this
theorem fnd_1(l:List BA)(s:BA)(e:Ext)(hN:l.length<=1000000000)(hres:(fnd_f s (l) 0)=(fnd_R.e1)):(Ob.loop 19 (loopF f164 0) (fnd_I l s 0  e) (fnd_q l s e (fnd_R.e1)).1 (fnd_q l s e (fnd_R.e1)).2).ok prog:=by
 have:=fnd_lp l s e hN 0  (Nat.zero_le _)
 rw [List.drop_zero] at this
 rw [hres] at this
 exact this
def plR(s:BA)(l:List BA):Int:=match fnd_f s l 0 with
 | .e0 i=>i
 | .e1=>-1
theorem rFindT(l:List BA)(s:BA)(hn:l.length<=1000000000):Pu 164 [.sl 1 (nmsC l),.str s] (.ret (.int .i64 (plR s l))):=by
 unfold plR
 cases h:fnd_f s l 0 with
 | e0 i=>exact pu mdL (fun e=>[sl (nmsC_len l),lp (S.mk [(0,vL 1 (nmsC l)),(1,vS s),(4,vI6 0),(6,vL 1 (nmsC l)),(7,vI6 (l.length:Int)),(8,vI6 0)] [] e) (@fnd_0 (l) (s) (e) hn i h) xr]) func164
 | e1=>exact pu mdL (fun e=>[sl (nmsC_len l),lp (S.mk [(0,vL 1 (nmsC l)),(1,vS s),(4,vI6 0),(6,vL 1 (nmsC l)),(7,vI6 (l.length:Int)),(8,vI6 0)] [] e) (@fnd_1 (l) (s) (e) hn h) xr]) func164
theorem fnd_idx(s:BA):∀ (l:List BA) (i:Nat),(match fnd_f s l i with | .e0 k=>(k:Int) | .e1=>-1)=(match idx_f s l i with | .e0 k=>(k:Int) | .e1=>-1)
 | [],i=>rfl
 | x::r,i=>by
  rw [fnd_f,idx_f]
  by_cases h:x=s
  ·rw [iP h,iP h.symm]
  ·rw [iN h,iN (fun e=>h e.symm)]
   exact fnd_idx s r (i+1)
theorem plR_eq(s:BA)(l:List BA):plR s l=plc s l:=fnd_idx s l 0
theorem rHas(l:List BA)(s:BA)(hn:l.length<=1000000000):Pu 150 [.sl 1 (nmsC l),.str s] (rB (decide (plR s l>=0))):=
 pm mdL [cl (@rFindT (l) (s) hn)] func150
abbrev unr_I(x:Ex)(k:Int)(h:List BA)(j:Int)(out:List BA)(e:Ext):S:=S.mk [(3,.lp 3 0),(6,.v .nilsl),(7,.uniq 9 1 (nmsC out)),(8,vI6 j)] [(3,exV x)] e
section
variable (x:Ex) (k:Int) (h:List BA) (hb:h.length<=1000000000) (i:Nat) (out:List BA) (e:Ext)
include x k h hb i out e
theorem unr_b1(hi:i<(exP x).length)(hN:(exP x).length<=1000000000)(hv:(out.length<=1000000001+i))(hx0:exO x=6)(cx:Cx)(hcx:cx.n=46){Q:PExit->S->Prop}(hq:Q (.normal) (S.mk [(3,.lp 3 0),(6,.v .nilsl),(7,.uniq 9 1 (nmsC out++[[.str (pmNm (List.getD (exP x) i default))]])),(8,vI6 ((i:Int)+1))] [(3,exV x)] e)):PW prog cx (loopF f151 0) (unr_I x k h (i:Int) out e) Q:=
 pw mdL 46 [sl (pmsC_len (exP x)),rp 4 (dt ((i:Int)<((exP x).length:Int))),et1 hx0,am ((0:Int)<=(i:Int)/\(i:Int)<((pmsC (exP x)).length:Int)) qZ,xPm (exP x) i hi,am (List.length (nmsC out++(fun x=>Prod.snd x) (0+1,[[.str (pmNm (List.getD (exP x) i default))]])) * (15+1)<=140737488355328) qZ,wr ((i:Int)+1)] [3,6,7,8] [3] hcx hq
theorem unr_b2(hi:i<(exP x).length)(hN:(exP x).length<=1000000000)(hv:(out.length<=1000000001+i))(hx0:¬exO x=6)(cx:Cx)(hcx:cx.n=46){Q:PExit->S->Prop}(hq:Q (.exit 0) (S.mk [(3,.lp 3 0),(6,.v .nilsl),(7,.uniq 9 1 (nmsC out)),(8,vI6 (i:Int))] [(3,exV x)] e)):PW prog cx (loopF f151 0) (unr_I x k h (i:Int) out e) Q:=
 pw mdL 46 [sl (pmsC_len (exP x)),rp 4 (dt ((i:Int)<((exP x).length:Int))),en1 hx0] [3,6,7,8] [3] hcx hq
theorem unr_z1(hi:i=(exP x).length)(hN:(exP x).length<=1000000000)(hv:(out.length<=1000000001+i))(cx:Cx)(hcx:cx.n=46){Q:PExit->S->Prop}(hq:Q (.exit 0) (S.mk [(3,.lp 3 0),(6,.v .nilsl),(7,.uniq 9 1 (nmsC out)),(8,vI6 (i:Int))] [(3,exV x)] e)):PW prog cx (loopF f151 0) (unr_I x k h (i:Int) out e) Q:=
 pw mdL 46 [sl (pmsC_len (exP x)),rp 4 (df ((i:Int)<((exP x).length:Int))),bf false] [3,6,7,8] [3] hcx hq
end
def unr_f(x:Ex):List Pm->(List BA)->(List BA)
 | [],out=>(out)
 | el::r,out=>(if exO x=6 then unr_f x r (out++[pmNm el]) else (out))
def unr_q(x:Ex)(k:Int)(h:List BA)(e:Ext)(p:(List BA)):PExit × S:=(.exit 0,S.mk [(3,.lp 3 0),(6,.v .nilsl),(7,.uniq 9 1 (nmsC p))] [(3,exV x)] e)
theorem unr_lp(x:Ex)(k:Int)(h:List BA)(hb:h.length<=1000000000)(e:Ext)(hN:(exP x).length<=1000000000)(i:Nat)(out:List BA)(hi0:i<=(exP x).length)(hv:(out.length<=1000000001+i)):(Ob.loop 46 (loopF f151 0) (unr_I x k h (i:Int) out e) (unr_q x k h e (unr_f x (List.drop i ((exP x)))  out)).1 (unr_q x k h e (unr_f x (List.drop i ((exP x)))  out)).2).ok prog:=by
 refine Ob.loop_of (P:=prog) (α:={ zz:Nat × (List BA) // zz.1<=(exP x).length/\(fun (i:Nat) (out:List BA)=>(out.length<=1000000001+i)) zz.1 zz.2 }) (fun zz=>unr_I x k h (zz.1.1:Int) zz.1.2 e) (fun zz=>(exP x).length - zz.1.1) (fun zz=>(unr_q x k h e (unr_f x (List.drop zz.1.1 ((exP x)))  zz.1.2))) ?_ ⟨(i,out),hi0,hv⟩
 clear hi0 hv
 clear out i
 rintro ⟨⟨i,out⟩,hi,hv⟩ cx hcx
 simp only at hi hv ⊢
 rcases Nat.lt_or_ge i ((exP x).length) with hlt | hge
 ·have hd:=drop_at hlt
  by_cases h0:exO x=6
  ·have hr:(unr_f x (List.drop i ((exP x)))  out)=(unr_f x (List.drop (i+1) ((exP x)))  (out++[pmNm (List.getD (exP x) i default)])):=by rw [hd,unr_f,iP h0]
   exact unr_b1 x k h hb i out e hlt hN hv h0 cx hcx (.inl ⟨rfl,⟨((i+1),(out++[pmNm (List.getD (exP x) i default)])),by simp only; omega,(by first | assumption | omega | (simp only [List.length_append,List.length_cons,List.length_nil] at *; omega) | simp_all)⟩,by simp only; omega,⟨⟨W,W,(.inl (by first | (simp only [List.nil_append,nmsC_app,nmsC_snoc,Ex.cs_snoc,Vl.cs_snoc,Bd.cs_snoc,Bd.cs_snoc2]; done) | (simp only [List.nil_append,nmsC_app,nmsC_snoc,Ex.cs_snoc,Vl.cs_snoc,Bd.cs_snoc,Bd.cs_snoc2]; rfl))),W,tV⟩,⟨Ws,tV⟩,rfl⟩,by simp only; rw [hr]⟩)
  ·have hr:(unr_f x (List.drop i ((exP x)))  out)=(out):=by rw [hd,unr_f,iN h0]
   refine unr_b2 x k h hb i out e hlt hN hv h0 cx hcx (.inr ?_)
   rw [hr]
   exact ⟨by simp,rfl,xr⟩
 ·have he:i=(exP x).length:=by omega
  subst he
  have hr:(unr_f x (List.drop ((exP x).length) ((exP x)))  out)=(out):=by rw [List.drop_length,unr_f]
  refine unr_z1 x k h hb ((exP x).length) out e rfl hN hv  cx hcx (.inr ?_)
  rw [hr]
  exact ⟨by simp,rfl,xr⟩
theorem unr(x:Ex)(k:Int)(h:List BA)(hb:h.length<=1000000000)(out:List BA)(e:Ext)(hN:(exP x).length<=1000000000)(hv:List.length out<=1000000001+0):(Ob.loop 46 (loopF f151 0) (unr_I x k h 0 out e) (unr_q x k h e (unr_f x ((exP x))  out)).1 (unr_q x k h e (unr_f x ((exP x))  out)).2).ok prog:=by
 have:=unr_lp x k h hb e hN 0 out (Nat.zero_le _) hv
 rw [List.drop_zero] at this
 exact this
section
variable (x:Ex) (k:Int) (h:List BA) (hb:h.length<=1000000000) (hp:(exP x).length<=1000000000)
include x k h hb hp
theorem rUnder_1(hx0:exO x=7)(hx1:k>0):Pu 151 [.agg (exL x),pI k,.sl 1 (nmsC h)] (.ret (.sl 1 (nmsC (unr_f x (exP x) (h++[exNm x]))))):=
 pu mdL (fun e=>[am (List.length ([]++(fun x=>Prod.snd x) (1,nmsC h)) * (15+1)<=140737488355328) qZ,rp 3 (et1 hx0),dt1 hx1,am (List.length ([]++(fun x=>Prod.snd x) (1,nmsC h)++(fun x=>Prod.snd x) (0+1,[[.str (exNm x)]])) * (15+1)<=140737488355328) qZ,lp (S.mk [(0,.v (.agg (exL x))),(1,vI6 k),(2,vL 1 (nmsC h)),(3,.lp 3 0),(6,.v .nilsl),(9,LV.full 1 []),(10,vL 1 (nmsC h)),(11,vL 1 ([]++nmsC h)),(7,.uniq 9 1 ([]++nmsC h++[[.str (exNm x)]])),(12,.lp 3 0),(13,vI6 (exO x)),(14,.v (.bool (exO x==7))),(15,.v (.bool (exO x==7))),(16,vI6 k),(17,.v (.bool (decide (k>0)))),(18,.v (.bool (decide (k>0)))),(19,vL 1 ([]++nmsC h)),(20,.lp 3 1),(21,vS (exNm x)),(22,LV.full 1 [[.str (exNm x)]]),(23,vL 1 ([]++nmsC h++[[.str (exNm x)]])),(8,vI6 0)] [(3,exV x)] e) (@unr (x) default (h) hb (h++[exNm x]) (e) hp qZ) ⟨⟨W,W,(by first | exact .inl rfl | exact .inr ⟨rfl,rfl⟩ | exact .inr rfl | exact .inr trivial | exact .inl (by first | (simp only [List.nil_append,nmsC_app,nmsC_snoc,Ex.cs_snoc,Vl.cs_snoc,Bd.cs_snoc,Bd.cs_snoc2]; done) | (simp only [List.nil_append,nmsC_app,nmsC_snoc,Ex.cs_snoc,Vl.cs_snoc,Bd.cs_snoc,Bd.cs_snoc2]; rfl))),W,tV⟩,⟨⟨W,W,W,W,W,W,W,tV⟩,tV⟩,rfl⟩]) func151
theorem rUnder_2(hx0:exO x=7)(hx1:¬k>0):Pu 151 [.agg (exL x),pI k,.sl 1 (nmsC h)] (.ret (.sl 1 (nmsC (unr_f x (exP x) h)))):=
 pu mdL (fun e=>[am (List.length ([]++(fun x=>Prod.snd x) (1,nmsC h)) * (15+1)<=140737488355328) qZ,rp 3 (et1 hx0),df1 hx1,lp (S.mk [(0,.v (.agg (exL x))),(1,vI6 k),(2,vL 1 (nmsC h)),(3,.lp 3 0),(6,.v .nilsl),(9,LV.full 1 []),(10,vL 1 (nmsC h)),(11,vL 1 ([]++nmsC h)),(7,.uniq 9 1 ([]++nmsC h)),(12,.lp 3 0),(13,vI6 (exO x)),(14,.v (.bool (exO x==7))),(15,.v (.bool (exO x==7))),(16,vI6 k),(17,.v (.bool (decide (k>0)))),(18,.v (.bool (decide (k>0)))),(8,vI6 0)] [(3,exV x)] e) (@unr (x) default (h) hb (h) (e) hp oM) ⟨⟨W,W,(by first | exact .inl rfl | exact .inr ⟨rfl,rfl⟩ | exact .inr rfl | exact .inr trivial | exact .inl (by first | (simp only [List.nil_append,nmsC_app,nmsC_snoc,Ex.cs_snoc,Vl.cs_snoc,Bd.cs_snoc,Bd.cs_snoc2]; done) | (simp only [List.nil_append,nmsC_app,nmsC_snoc,Ex.cs_snoc,Vl.cs_snoc,Bd.cs_snoc,Bd.cs_snoc2]; rfl))),W,tV⟩,⟨⟨W,W,W,W,W,W,W,tV⟩,tV⟩,rfl⟩]) func151
theorem rUnder_3(hx0:¬exO x=7):Pu 151 [.agg (exL x),pI k,.sl 1 (nmsC h)] (.ret (.sl 1 (nmsC (unr_f x (exP x) h)))):=
 pu mdL (fun e=>[am (List.length ([]++(fun x=>Prod.snd x) (1,nmsC h)) * (15+1)<=140737488355328) qZ,rp 3 (en1 hx0),bf false,lp (S.mk [(0,.v (.agg (exL x))),(1,vI6 k),(2,vL 1 (nmsC h)),(3,.lp 3 0),(6,.v .nilsl),(9,LV.full 1 []),(10,vL 1 (nmsC h)),(11,vL 1 ([]++nmsC h)),(7,.uniq 9 1 ([]++nmsC h)),(12,.lp 3 0),(13,vI6 (exO x)),(14,.v (.bool (exO x==7))),(15,.v (.bool (exO x==7))),(16,.v (.tup [])),(17,.v (.tup [])),(18,.v (.bool false)),(8,vI6 0)] [(3,exV x)] e) (@unr (x) default (h) hb (h) (e) hp oM) ⟨⟨W,W,(by first | exact .inl rfl | exact .inr ⟨rfl,rfl⟩ | exact .inr rfl | exact .inr trivial | exact .inl (by first | (simp only [List.nil_append,nmsC_app,nmsC_snoc,Ex.cs_snoc,Vl.cs_snoc,Bd.cs_snoc,Bd.cs_snoc2]; done) | (simp only [List.nil_append,nmsC_app,nmsC_snoc,Ex.cs_snoc,Vl.cs_snoc,Bd.cs_snoc,Bd.cs_snoc2]; rfl))),W,tV⟩,⟨⟨W,W,W,W,W,W,W,tV⟩,tV⟩,rfl⟩]) func151
end
theorem unr_eq(x:Ex):∀ (ps:List Pm) (out:List BA),unr_f x ps out=out++(if exO x=6 then ps.map pmNm else [])
 | [],out=>by simp [unr_f]
 | p::r,out=>by
  rw [unr_f]
  by_cases h:exO x=6
  ·rw [iP h,unr_eq x r,iP h,iP h]; simp
  ·rw [iN h,iN h]; simp
abbrev rfI(x:Ex)(h out:List BA)(i:Int)(ext:Ext):S:=⟨[(1,.v (.sl 1 (nmsC h))),(2,.v (.bool false)),(3,.lp 3 0),(7,.uniq 9 1 (nmsC out)),(8,.v (.int .i64 i))],[(3,exV x)],ext⟩
abbrev rfJ(x:Ex)(h out:List BA)(i:Int)(ext:Ext):S:=⟨[(1,.v (.sl 1 (nmsC h))),(2,.v (.bool false)),(3,.lp 3 0),(7,.uniq 9 1 (nmsC out)),(9,.v (.int .i64 i))],[(3,exV x)],ext⟩
theorem rUnderT(x:Ex)(k:Int)(h:List BA)(hb:h.length<=1000000000)(hp:(exP x).length<=1000000000):Pu 151 [.agg (exL x),.int .i64 k,.sl 1 (nmsC h)] (.ret (.sl 1 (nmsC h++nmsC (insN x k)))):=by
 rw [<-nmsC_app]
 unfold insN
 by_cases h7:exO x=7
 ·by_cases hk:k>0
  ·have:=rUnder_1 x k h hb hp h7 hk
   rw [unr_eq] at this
   simp only [h7,hk,if_true] at this ⊢
   simpa using this
  ·have:=rUnder_2 x k h hb hp h7 hk
   rw [unr_eq] at this
   simp only [h7,hk,if_true,if_false] at this ⊢
   simpa using this
 ·have:=rUnder_3 x k h hb hp h7
  rw [unr_eq] at this
  simp only [h7,if_false]
  exact this
theorem rfA(x:Ex)(h out ns:List BA)(i:Nat)(ext:Ext)(hi:i<(exK x).length)(hn:(exK x).length<=1000000000)(hp:(exP x).length<=1000000000)(hb:h.length<=1000000000)(ho:out.length<=1000000000)(hs:ns.length<=1000000000)(hr:Pu 130 [.agg (exL ((exK x).getD i default)),.sl 1 (nmsC h++nmsC (insN x i)),.bool false] (.ret (.sl 1 (nmsC ns))))(cx:Cx)(hcx:cx.n=84){Q:PExit->S->Prop}(hq:Q (.normal) (S.mk [(1,vL 1 (nmsC h)),(2,.v (.bool false)),(3,.lp 3 0),(7,.uniq 9 1 (nmsC out++nmsC ns)),(8,vI6 ((i:Int)+1))] [(3,exV x)] ext)):PW prog cx (loopF f130 0) (rfI x h out (i:Int) ext) Q:=
 pw mdL 84 [sl (Ex.cs_len (exK x)),dt ((i:Int)<((exK x).length:Int)),am ((0:Int)<=(i:Int)/\(i:Int)<((Ex.cs (exK x)).length:Int)) qZ,xEx (exK x) i hi,cl (@rUnderT (x) ((i:Int)) (h) hb hp),cl hr,am (List.length (nmsC out++(fun x=>Prod.snd x) (1,nmsC ns)) * (15+1)<=140737488355328) qZ,wr ((i:Int)+1)] [1,2,3,7,8] [3] hcx hq
theorem rfZ(x:Ex)(h out:List BA)(ext:Ext)(cx:Cx)(hcx:cx.n=84){Q:PExit->S->Prop}(hq:Q (.exit 0) (S.mk [(1,vL 1 (nmsC h)),(2,.v (.bool false)),(3,.lp 3 0),(7,.uniq 9 1 (nmsC out)),(8,vI6 ((exK x).length:Int))] [(3,exV x)] ext)):PW prog cx (loopF f130 0) (rfI x h out ((exK x).length:Int) ext) Q:=
 pw mdL 84 [sl (Ex.cs_len (exK x)),df (((exK x).length:Int)<((exK x).length:Int))] [1,2,3,7,8] [3] hcx hq
theorem rfB(x:Ex)(h out ns:List BA)(i:Nat)(ext:Ext)(hi:i<(exA x).length)(hn:(exA x).length<=1000000000)(hb:h.length+(alNs ((exA x).getD i default)).length<=1000000000)(ho:out.length<=1000000000)(hs:ns.length<=1000000000)(hr:Pu 130 [.agg (exL (alB ((exA x).getD i default))),.sl 1 (nmsC h++nmsC (alNs ((exA x).getD i default))),.bool false] (.ret (.sl 1 (nmsC ns))))(cx:Cx)(hcx:cx.n=84){Q:PExit->S->Prop}(hq:Q (.normal) (S.mk [(1,vL 1 (nmsC h)),(2,.v (.bool false)),(3,.lp 3 0),(7,.uniq 9 1 (nmsC out++nmsC ns)),(9,vI6 ((i:Int)+1))] [(3,exV x)] ext)):PW prog cx (loopF f130 1) (rfJ x h out (i:Int) ext) Q:=
 pw mdL 84 [sl (Al.cs_len (exA x)),dt ((i:Int)<((exA x).length:Int)),am (List.length ([]++(fun x=>Prod.snd x) (1,nmsC h)) * (15+1)<=140737488355328) qZ,am ((0:Int)<=(i:Int)/\(i:Int)<((Al.cs (exA x)).length:Int)) qZ,xAl (exA x) i hi,am (List.length ([]++(fun x=>Prod.snd x) (1,nmsC h)++(fun x=>Prod.snd x) (1,nmsC (alNs (List.getD (exA x) i default)))) * (15+1)<=140737488355328) qZ,am ((0:Int)<=(i:Int)/\(i:Int)<((Al.cs (exA x)).length:Int)) qZ,xAl (exA x) i hi,cl hr,am (List.length (nmsC out++(fun x=>Prod.snd x) (1,nmsC ns)) * (15+1)<=140737488355328) qZ,wr ((i:Int)+1)] [1,2,3,7,9] [3] hcx hq
theorem rfY(x:Ex)(h out:List BA)(ext:Ext)(cx:Cx)(hcx:cx.n=84){Q:PExit->S->Prop}(hq:Q (.exit 2) (S.mk [(1,vL 1 (nmsC h)),(2,.v (.bool false)),(3,.lp 3 0),(7,.uniq 9 1 (nmsC out)),(9,vI6 ((exA x).length:Int))] [(3,exV x)] ext)):PW prog cx (loopF f130 1) (rfJ x h out ((exA x).length:Int) ext) Q:=
 pw mdL 84 [sl (Al.cs_len (exA x)),df (((exA x).length:Int)<((exA x).length:Int))] [1,2,3,7,9] [3] hcx hq
abbrev rfL0(x:Ex)(h out out1:List BA):Prop:=∀ext,(Ob.loop 84 (loopF f130 0) (rfI x h out 0 ext) (.exit 0) ⟨[(1,.v (.sl 1 (nmsC h))),(2,.v (.bool false)),(3,.lp 3 0),(7,.uniq 9 1 (nmsC out1))],[(3,exV x)],ext⟩).ok prog
abbrev rfL1(x:Ex)(h out out1:List BA):Prop:=∀ext,(Ob.loop 84 (loopF f130 1) (rfJ x h out 0 ext) (.exit 2) ⟨[(7,.uniq 9 1 (nmsC out1))],[],ext⟩).ok prog
section
variable (x:Ex) (h out1 out2:List BA) (hh:h.length<=1000000000) (hv:exO x=3∨exO x=5)
include x h out1 out2 hh hv
theorem rfV_1(hp:plR (exNm x) h<0)(l0:rfL0 x h [exNm x] out1)(l1:rfL1 x h out1 out2)(hx0:exO x=5):Pu 130 [.agg (exL x),.sl 1 (nmsC h),.bool false] (.ret (.sl 1 (nmsC out2))):=
 pu mdL (fun e=>[rp 6 (et1 hx0),rp 4 (bt true),cl (@rHas (h) (exNm x) hh),rp 2 (bt true),bt (!decide (plR (exNm x) h>=0)) (bnT (dF oM)),ab true,lp (S.mk [(0,.v (.agg (exL x))),(1,vL 1 (nmsC h)),(2,.v (.bool false)),(3,.lp 3 0),(6,.v .nilsl),(7,.uniq 9 1 [[.str (exNm x)]]),(11,.lp 3 0),(12,vI6 (exO x)),(13,.v (.bool (exO x==5))),(14,.v (.bool (exO x==5))),(15,.v (.tup [])),(16,.v (.tup [])),(17,.v (.tup [])),(18,.v (.tup [])),(19,.v (.tup [])),(20,.v (.tup [])),(21,.v (.tup [])),(22,.v (.bool true)),(23,.v (.bool true)),(24,vL 1 (nmsC h)),(25,.lp 3 1),(26,vS (exNm x)),(27,.v (.bool (decide (plR (exNm x) h>=0)))),(28,.v (.bool !decide (plR (exNm x) h>=0))),(29,.v (.bool !decide (plR (exNm x) h>=0))),(30,.v .nilsl),(31,.lp 3 1),(32,vS (exNm x)),(33,LV.full 1 [[.str (exNm x)]]),(34,vL 1 [[.str (exNm x)]]),(8,vI6 0)] [(3,exV x)] e) (@l0 (e)) xr,lp (S.mk [(1,vL 1 (nmsC h)),(2,.v (.bool false)),(3,.lp 3 0),(7,.uniq 9 1 (nmsC out1)),(9,vI6 0)] [(3,exV x)] e) (@l1 (e)) xr]) func130
theorem rfV_2(hp:plR (exNm x) h<0)(l0:rfL0 x h [exNm x] out1)(l1:rfL1 x h out1 out2)(hx0:¬exO x=5):Pu 130 [.agg (exL x),.sl 1 (nmsC h),.bool false] (.ret (.sl 1 (nmsC out2))):=
 pu mdL (fun e=>[rp 4 (en1 hx0),rp 2 (et (exO x) 3),en1 hx0,et (exO x) 3,en1 hx0,rp 4 (bt true),cl (@rHas (h) (exNm x) hh),rp 2 (bt true),bt (!decide (plR (exNm x) h>=0)) (bnT (dF oM)),ab true,lp (S.mk [(0,.v (.agg (exL x))),(1,vL 1 (nmsC h)),(2,.v (.bool false)),(3,.lp 3 0),(6,.v .nilsl),(7,.uniq 9 1 [[.str (exNm x)]]),(11,.lp 3 0),(12,vI6 (exO x)),(13,.v (.bool (exO x==5))),(14,.v (.bool (exO x==5))),(15,.lp 3 0),(16,vI6 (exO x)),(17,.v (.bool (exO x==3))),(18,.v (.bool (exO x==3))),(19,.v (.bool false)),(20,.v (.bool true)),(21,.v (.bool true)),(22,.v (.bool true)),(23,.v (.bool true)),(24,vL 1 (nmsC h)),(25,.lp 3 1),(26,vS (exNm x)),(27,.v (.bool (decide (plR (exNm x) h>=0)))),(28,.v (.bool !decide (plR (exNm x) h>=0))),(29,.v (.bool !decide (plR (exNm x) h>=0))),(30,.v .nilsl),(31,.lp 3 1),(32,vS (exNm x)),(33,LV.full 1 [[.str (exNm x)]]),(34,vL 1 [[.str (exNm x)]]),(8,vI6 0)] [(3,exV x)] e) (@l0 (e)) xr,lp (S.mk [(1,vL 1 (nmsC h)),(2,.v (.bool false)),(3,.lp 3 0),(7,.uniq 9 1 (nmsC out1)),(9,vI6 0)] [(3,exV x)] e) (@l1 (e)) xr]) func130
theorem rfW_1(hp:¬plR (exNm x) h<0)(l0:rfL0 x h [] out1)(l1:rfL1 x h out1 out2)(hx0:exO x=5):Pu 130 [.agg (exL x),.sl 1 (nmsC h),.bool false] (.ret (.sl 1 (nmsC out2))):=
 pu mdL (fun e=>[rp 6 (et1 hx0),rp 4 (bt true),cl (@rHas (h) (exNm x) hh),rp 2 (bt true),bf (!decide (plR (exNm x) h>=0)) (bnF (dT oM)),lp (S.mk [(0,.v (.agg (exL x))),(1,vL 1 (nmsC h)),(2,.v (.bool false)),(3,.lp 3 0),(6,.v .nilsl),(7,.v .nilsl),(11,.lp 3 0),(12,vI6 (exO x)),(13,.v (.bool (exO x==5))),(14,.v (.bool (exO x==5))),(15,.v (.tup [])),(16,.v (.tup [])),(17,.v (.tup [])),(18,.v (.tup [])),(19,.v (.tup [])),(20,.v (.tup [])),(21,.v (.tup [])),(22,.v (.bool true)),(23,.v (.bool true)),(24,vL 1 (nmsC h)),(25,.lp 3 1),(26,vS (exNm x)),(27,.v (.bool (decide (plR (exNm x) h>=0)))),(28,.v (.bool !decide (plR (exNm x) h>=0))),(29,.v (.bool !decide (plR (exNm x) h>=0))),(8,vI6 0)] [(3,exV x)] e) (@l0 (e)) ⟨⟨W,W,W,Wq,W,tV⟩,⟨⟨W,W,W,W,W,W,W,tV⟩,tV⟩,rfl⟩,lp (S.mk [(1,vL 1 (nmsC h)),(2,.v (.bool false)),(3,.lp 3 0),(7,.uniq 9 1 (nmsC out1)),(9,vI6 0)] [(3,exV x)] e) (@l1 (e)) xr]) func130
theorem rfW_2(hp:¬plR (exNm x) h<0)(l0:rfL0 x h [] out1)(l1:rfL1 x h out1 out2)(hx0:¬exO x=5):Pu 130 [.agg (exL x),.sl 1 (nmsC h),.bool false] (.ret (.sl 1 (nmsC out2))):=
 pu mdL (fun e=>[rp 4 (en1 hx0),rp 2 (et (exO x) 3),en1 hx0,et (exO x) 3,en1 hx0,rp 4 (bt true),cl (@rHas (h) (exNm x) hh),rp 2 (bt true),bf (!decide (plR (exNm x) h>=0)) (bnF (dT oM)),lp (S.mk [(0,.v (.agg (exL x))),(1,vL 1 (nmsC h)),(2,.v (.bool false)),(3,.lp 3 0),(6,.v .nilsl),(7,.v .nilsl),(11,.lp 3 0),(12,vI6 (exO x)),(13,.v (.bool (exO x==5))),(14,.v (.bool (exO x==5))),(15,.lp 3 0),(16,vI6 (exO x)),(17,.v (.bool (exO x==3))),(18,.v (.bool (exO x==3))),(19,.v (.bool false)),(20,.v (.bool true)),(21,.v (.bool true)),(22,.v (.bool true)),(23,.v (.bool true)),(24,vL 1 (nmsC h)),(25,.lp 3 1),(26,vS (exNm x)),(27,.v (.bool (decide (plR (exNm x) h>=0)))),(28,.v (.bool !decide (plR (exNm x) h>=0))),(29,.v (.bool !decide (plR (exNm x) h>=0))),(8,vI6 0)] [(3,exV x)] e) (@l0 (e)) ⟨⟨W,W,W,Wq,W,tV⟩,⟨⟨W,W,W,W,W,W,W,tV⟩,tV⟩,rfl⟩,lp (S.mk [(1,vL 1 (nmsC h)),(2,.v (.bool false)),(3,.lp 3 0),(7,.uniq 9 1 (nmsC out1)),(9,vI6 0)] [(3,exV x)] e) (@l1 (e)) xr]) func130
end
theorem rfX(x:Ex)(h out1 out2:List BA)(hh:h.length<=1000000000)(hv:¬exO x=3)(hw:¬exO x=5)(l0:rfL0 x h [] out1)(l1:rfL1 x h out1 out2):Pu 130 [.agg (exL x),.sl 1 (nmsC h),.bool false] (.ret (.sl 1 (nmsC out2))):=
 pu mdL (fun e=>[rp 4 (en (exO x) 5 hw),rp 2 (en (exO x) 3 hv),en (exO x) 5 hw,en (exO x) 3 hv,en (exO x) 5 hw,rp 7 (bf false),lp (S.mk [(0,.v (.agg (exL x))),(1,vL 1 (nmsC h)),(2,.v (.bool false)),(3,.lp 3 0),(6,.v .nilsl),(7,.v .nilsl),(11,.lp 3 0),(12,vI6 (exO x)),(13,.v (.bool (exO x==5))),(14,.v (.bool (exO x==5))),(15,.lp 3 0),(16,vI6 (exO x)),(17,.v (.bool (exO x==3))),(18,.v (.bool (exO x==3))),(19,.v (.tup [])),(20,.v (.tup [])),(21,.v (.bool false)),(22,.v (.bool false)),(23,.v (.bool false)),(24,.v (.tup [])),(25,.v (.tup [])),(26,.v (.tup [])),(27,.v (.tup [])),(28,.v (.tup [])),(29,.v (.bool false)),(8,vI6 0)] [(3,exV x)] e) (@l0 (e)) ⟨⟨W,W,W,Wq,W,tV⟩,⟨⟨W,W,W,W,W,W,W,tV⟩,tV⟩,rfl⟩,lp (S.mk [(1,vL 1 (nmsC h)),(2,.v (.bool false)),(3,.lp 3 0),(7,.uniq 9 1 (nmsC out1)),(9,vI6 0)] [(3,exV x)] e) (@l1 (e)) xr]) func130
abbrev put_I(l:List BA)(s:BA)(j:Int)(out:List BA)(e:Ext):S:=S.mk [(0,vL 1 (nmsC l)),(1,vS s),(4,.v .nilsl),(5,.uniq 9 1 (nmsC out)),(6,vI6 j)] [] e
section
variable (l:List BA) (s:BA) (i:Nat) (out:List BA) (e:Ext)
include l s i out e
theorem put_b1(hi:i<l.length)(hN:l.length<=1000000000)(hv:(out.length<=i))(hx0:Op.bytesLess (ByteArray.toList (List.getD l i nm0)) (ByteArray.toList s)=true)(cx:Cx)(hcx:cx.n=52){Q:PExit->S->Prop}(hq:Q (.normal) (S.mk [(0,vL 1 (nmsC l)),(1,vS s),(4,.v .nilsl),(5,.uniq 9 1 (nmsC out++[[.str (List.getD l i nm0)]])),(6,vI6 ((i:Int)+1))] [] e)):PW prog cx (loopF f149 0) (put_I l s (i:Int) out e) Q:=
 pw mdL 52 [sl (nmsC_len l),rp 3 (dt ((i:Int)<(l.length:Int))),am ((0:Int)<=(i:Int)/\(i:Int)<((nmsC l).length:Int)) qZ,xNm l i hi,rp 4 (dt ((i:Int)<(l.length:Int))),bt1 hx0,am ((0:Int)<=(i:Int)/\(i:Int)<((nmsC l).length:Int)) qZ,xNm l i hi,am (List.length (nmsC out++(fun x=>Prod.snd x) (0+1,[[.str (List.getD l i nm0)]])) * (15+1)<=140737488355328) qZ,wr ((i:Int)+1)] [0,1,4,5,6] [] hcx hq
theorem put_b2(hi:i<l.length)(hN:l.length<=1000000000)(hv:(out.length<=i))(hx0:Op.bytesLess (ByteArray.toList (List.getD l i nm0)) (ByteArray.toList s)=false)(cx:Cx)(hcx:cx.n=52){Q:PExit->S->Prop}(hq:Q (.exit 0) (S.mk [(0,vL 1 (nmsC l)),(1,vS s),(4,.v .nilsl),(5,.uniq 9 1 (nmsC out)),(6,vI6 (i:Int))] [] e)):PW prog cx (loopF f149 0) (put_I l s (i:Int) out e) Q:=
 pw mdL 52 [sl (nmsC_len l),rp 3 (dt ((i:Int)<(l.length:Int))),am ((0:Int)<=(i:Int)/\(i:Int)<((nmsC l).length:Int)) qZ,xNm l i hi,rp 4 (dt ((i:Int)<(l.length:Int))),bf1 hx0] [0,1,4,5,6] [] hcx hq
theorem put_z1(hi:i=l.length)(hN:l.length<=1000000000)(hv:(out.length<=i))(cx:Cx)(hcx:cx.n=52){Q:PExit->S->Prop}(hq:Q (.exit 0) (S.mk [(0,vL 1 (nmsC l)),(1,vS s),(4,.v .nilsl),(5,.uniq 9 1 (nmsC out)),(6,vI6 (i:Int))] [] e)):PW prog cx (loopF f149 0) (put_I l s (i:Int) out e) Q:=
 pw mdL 52 [sl (nmsC_len l),rp 7 (df ((i:Int)<(l.length:Int))),bf false] [0,1,4,5,6] [] hcx hq
end
def put_f(s:BA):List BA->Nat->(List BA)->(List BA) × (Nat)
 | [],i,out=>(out,i)
 | el::r,i,out=>(if Op.bytesLess (ByteArray.toList el) (ByteArray.toList s)=true then put_f s r (i+1) (out++[el]) else (out,i))
def put_q(l:List BA)(s:BA)(e:Ext)(p:(List BA) × (Nat)):PExit × S:=(.exit 0,S.mk [(0,vL 1 (nmsC l)),(1,vS s),(4,.v .nilsl),(5,.uniq 9 1 (nmsC (Prod.fst p))),(6,vI6 (↑(Prod.snd p):Int))] [] e)
theorem put_lp(l:List BA)(s:BA)(e:Ext)(hN:l.length<=1000000000)(i:Nat)(out:List BA)(hi0:i<=l.length)(hv:(out.length<=i)):(Ob.loop 52 (loopF f149 0) (put_I l s (i:Int) out e) (put_q l s e (put_f s (List.drop i (l)) i out)).1 (put_q l s e (put_f s (List.drop i (l)) i out)).2).ok prog:=by
 refine Ob.loop_of (P:=prog) (α:={ zz:Nat × (List BA) // zz.1<=l.length/\(fun (i:Nat) (out:List BA)=>(out.length<=i)) zz.1 zz.2 }) (fun zz=>put_I l s (zz.1.1:Int) zz.1.2 e) (fun zz=>l.length - zz.1.1) (fun zz=>(put_q l s e (put_f s (List.drop zz.1.1 (l)) zz.1.1 zz.1.2))) ?_ ⟨(i,out),hi0,hv⟩
 clear hi0 hv
 clear out i
 rintro ⟨⟨i,out⟩,hi,hv⟩ cx hcx
 simp only at hi hv ⊢
 rcases Nat.lt_or_ge i (l.length) with hlt | hge
 ·have hd:=drop_at0 hlt
  by_cases h0:Op.bytesLess (ByteArray.toList (List.getD l i nm0)) (ByteArray.toList s)=true
  ·have hr:(put_f s (List.drop i (l)) i out)=(put_f s (List.drop (i+1) (l)) (i+1) (out++[List.getD l i nm0])):=by rw [hd,put_f,iP h0]
   exact put_b1 l s i out e hlt hN hv h0 cx hcx (.inl ⟨rfl,⟨((i+1),(out++[List.getD l i nm0])),by simp only; omega,(by first | assumption | omega | (simp only [List.length_append,List.length_cons,List.length_nil] at *; omega) | simp_all)⟩,by simp only; omega,⟨⟨W,W,W,(.inl (by first | (simp only [List.nil_append,nmsC_app,nmsC_snoc,Ex.cs_snoc,Vl.cs_snoc,Bd.cs_snoc,Bd.cs_snoc2]; done) | (simp only [List.nil_append,nmsC_app,nmsC_snoc,Ex.cs_snoc,Vl.cs_snoc,Bd.cs_snoc,Bd.cs_snoc2]; rfl))),W,tV⟩,trivial,rfl⟩,by simp only; rw [hr]⟩)
  ·have hr:(put_f s (List.drop i (l)) i out)=(out,i):=by rw [hd,put_f,iN h0]
   refine put_b2 l s i out e hlt hN hv (bFT h0) cx hcx (.inr ?_)
   rw [hr]
   exact ⟨by simp,rfl,xr⟩
 ·have he:i=l.length:=by omega
  subst he
  have hr:(put_f s (List.drop (l.length) (l)) (l.length) out)=(out,(l.length)):=by rw [List.drop_length,put_f]
  refine put_z1 l s (l.length) out e rfl hN hv  cx hcx (.inr ?_)
  rw [hr]
  exact ⟨by simp,rfl,xr⟩
theorem put(l:List BA)(s:BA)(out:List BA)(e:Ext)(hN:l.length<=1000000000)(hv:List.length out<=0):(Ob.loop 52 (loopF f149 0) (put_I l s 0 out e) (put_q l s e (put_f s (l) 0 out)).1 (put_q l s e (put_f s (l) 0 out)).2).ok prog:=by
 have:=put_lp l s e hN 0 out (Nat.zero_le _) hv
 rw [List.drop_zero] at this
 exact this
theorem put_le(s:BA):∀ (l:List BA) (i:Nat) (out:List BA),(put_f s l i out).2<=i+l.length/\i<=(put_f s l i out).2/\(put_f s l i out).1.length+i=out.length+(put_f s l i out).2
 | [],i,out=>by simp [put_f]
 | x::r,i,out=>by
  rw [put_f]
  split
  ·have:=put_le s r (i+1) (out++[x])
   simp only [List.length_append,List.length_cons,List.length_nil] at this ⊢
   omega
  ·simp
theorem rPut_1(l:List BA)(s:BA)(hn:l.length<=500000000)(hp2:(put_f s l 0 []).2<=l.length)(hp1:(put_f s l 0 []).1.length<=500000000)(hx0:(↑(Prod.snd (put_f s l 0 [])):Int)<(↑(List.length l):Int))(hx1:List.getD l (Prod.snd (put_f s l 0 [])) nm0=s)(hx2:List.length (nmsC (Prod.fst (put_f s l 0 []))++(fun x=>Prod.snd x) (0+1,[[PV.str s]])++(fun x=>Prod.snd x) (1,nmsC (List.drop (Int.toNat ((↑(Prod.snd (put_f s l 0 [])):Int)+1)) l))) * (15+1)<=140737488355328):Pu 149 [PV.sl 1 (nmsC l),PV.str s] (CRes.ret (PV.sl 1 (nmsC (Prod.fst (put_f s l 0 []))++[[PV.str s]]++nmsC (List.drop (Int.toNat ((↑(Prod.snd (put_f s l 0 [])):Int)+1)) l)))):=
 Ob.pur_of (mdL) 50 (fun e=>[Ans.loop (S.mk [(0,LV.v (PV.sl 1 (nmsC l))),(1,LV.v (PV.str s)),(4,LV.v PV.nilsl),(5,LV.uniq 9 1 []),(6,LV.v (PV.int IntKind.i64 0))] [] e) (PExit.exit 0) (S.mk [(0,LV.v (PV.sl 1 (nmsC l))),(1,LV.v (PV.str s)),(4,LV.v PV.nilsl),(5,LV.uniq 9 1 (nmsC (Prod.fst (put_f s l 0 [])))),(6,LV.v (PV.int IntKind.i64 (↑(Prod.snd (put_f s l 0 [])):Int)))] [] e),Ans.as_ (LV.v (PV.int IntKind.i64 (↑(List.length l):Int))),Ans.bit true,Ans.bit true,Ans.bit true,Ans.as_ (LV.v (PV.ro [PV.str (List.getD l (Prod.snd (put_f s l 0 [])) nm0)] 0)),Ans.bit true,Ans.bit true,Ans.bit true,Ans.bit true,Ans.bit true,Ans.as_ (LV.v (PV.int IntKind.i64 ((↑(Prod.snd (put_f s l 0 [])):Int)+1))),Ans.as_ (LV.v (PV.sl 1 (nmsC (List.drop (Int.toNat ((↑(Prod.snd (put_f s l 0 [])):Int)+1)) l))))]) (sc':=fun _=>[]) (l:=fun e=>[Ob.le (S.mk [(0,LV.v (PV.sl 1 (nmsC l))),(1,LV.v (PV.str s)),(4,LV.v PV.nilsl),(5,LV.uniq 9 1 []),(6,LV.v (PV.int IntKind.i64 0))] [] e) (S.mk [(0,LV.v (PV.sl 1 (nmsC l))),(1,LV.v (PV.str s)),(4,LV.v PV.nilsl),(5,LV.v PV.nilsl),(6,LV.v (PV.int IntKind.i64 0))] [] e),Ob.loop (Func.ntmps f149) (loopF f149 0) (S.mk [(0,LV.v (PV.sl 1 (nmsC l))),(1,LV.v (PV.str s)),(4,LV.v PV.nilsl),(5,LV.uniq 9 1 []),(6,LV.v (PV.int IntKind.i64 0))] [] e) (PExit.exit 0) (S.mk [(0,LV.v (PV.sl 1 (nmsC l))),(1,LV.v (PV.str s)),(4,LV.v PV.nilsl),(5,LV.uniq 9 1 (nmsC (Prod.fst (put_f s l 0 [])))),(6,LV.v (PV.int IntKind.i64 (↑(Prod.snd (put_f s l 0 [])):Int)))] [] e),Ob.bit (decide (List.length (nmsC (Prod.fst (put_f s l 0 []))++(fun x=>Prod.snd x) (0+1,[[PV.str s]])) * (15+1)<=140737488355328)) true,Ob.eqv (LV.v (PV.int IntKind.i64 (↑((fun x=>List.length (Prod.snd x)) (1,nmsC l)):Int))) (LV.v (PV.int IntKind.i64 (↑(List.length l):Int))),Ob.bit (decide ((↑(Prod.snd (put_f s l 0 [])):Int)<(↑(List.length l):Int))) true,Ob.bit (decide ((↑(Prod.snd (put_f s l 0 [])):Int)<(↑(List.length l):Int))) true,Ob.bit (decide ((↑(Prod.snd (put_f s l 0 [])):Int)<(↑(List.length l):Int))) true,Ob.bit (decide ((0:Int)<=(↑(Prod.snd (put_f s l 0 [])):Int)/\(↑(Prod.snd (put_f s l 0 [])):Int)<(↑(List.length (nmsC l)):Int))) true,Ob.eqv (LV.v (PV.ro (List.getD (nmsC l) (Int.toNat (↑(Prod.snd (put_f s l 0 [])):Int)) []) 0)) (LV.v (PV.ro [PV.str (List.getD l (Prod.snd (put_f s l 0 [])) nm0)] 0)),Ob.bit (decide ((↑(Prod.snd (put_f s l 0 [])):Int)<(↑(List.length l):Int))) true,Ob.bit (decide ((↑(Prod.snd (put_f s l 0 [])):Int)<(↑(List.length l):Int))) true,Ob.bit (decide ((↑(Prod.snd (put_f s l 0 [])):Int)<(↑(List.length l):Int))) true,Ob.bit (decide ((↑(Prod.snd (put_f s l 0 [])):Int)<(↑(List.length l):Int))) true,Ob.bit (ByteArray.toList (List.getD l (Prod.snd (put_f s l 0 [])) nm0)==ByteArray.toList s) true,Ob.eqv (LV.v (PV.int IntKind.i64 (IntKind.wrap IntKind.i64 ((↑(Prod.snd (put_f s l 0 [])):Int)+1)))) (LV.v (PV.int IntKind.i64 ((↑(Prod.snd (put_f s l 0 [])):Int)+1))),Ob.bit (decide ((0:Int)<=(↑(Prod.snd (put_f s l 0 [])):Int)+1/\(↑(Prod.snd (put_f s l 0 [])):Int)+1<=(↑(List.length (nmsC l)):Int)/\(↑(List.length (nmsC l)):Int)<=(↑(List.length (nmsC l)):Int))) true,Ob.eqv (LV.v (PV.sl 1 (List.drop (Int.toNat ((↑(Prod.snd (put_f s l 0 [])):Int)+1)) (List.take (Int.toNat (↑(List.length (nmsC l)):Int)) (nmsC l))))) (LV.v (PV.sl 1 (nmsC (List.drop (Int.toNat ((↑(Prod.snd (put_f s l 0 [])):Int)+1)) l)))),Ob.bit (decide (List.length (nmsC (Prod.fst (put_f s l 0 []))++(fun x=>Prod.snd x) (0+1,[[PV.str s]])++(fun x=>Prod.snd x) (1,nmsC (List.drop (Int.toNat ((↑(Prod.snd (put_f s l 0 [])):Int)+1)) l))) * (15+1)<=140737488355328)) true]) mixed func149 kR (fun e=>by kernel_rfl) (fun e=>⟨⟨⟨W,W,W,Wq,W,tV⟩,trivial,rfl⟩,(@put (l) (s) ([]) (e) oM qZ),(ob_bit (dT qZ)),(ob_eqv (by (simp only [nmsC_len]; done))),(ob_bit (dT hx0)),(ob_bit (dT hx0)),(ob_bit (dT hx0)),(ob_bit (dT qZ)),(ob_eqv (by simp only [Int.toNat_natCast]; rw [@nmsC_at (l) (Prod.snd (put_f s l 0 [])) oM]; try rfl)),(ob_bit (dT hx0)),(ob_bit (dT hx0)),(ob_bit (dT hx0)),(ob_bit (dT hx0)),(ob_bit (bsT hx1)),(ob_eqv (wrap64 oM oM)),(ob_bit (dT qZ)),(ob_eqv (by (simp only [List.length_nil,nmsC_len,Int.toNat_natCast,nmsC_take,nmsC_drop,List.take_length]; done))),(ob_bit (dT hx2)),tV⟩)
theorem rPut_2(l:List BA)(s:BA)(hn:l.length<=500000000)(hp2:(put_f s l 0 []).2<=l.length)(hp1:(put_f s l 0 []).1.length<=500000000)(hx0:(↑(Prod.snd (put_f s l 0 [])):Int)<(↑(List.length l):Int))(hx1:¬List.getD l (Prod.snd (put_f s l 0 [])) nm0=s)(hx2:List.length (nmsC (Prod.fst (put_f s l 0 []))++(fun x=>Prod.snd x) (0+1,[[PV.str s]])++(fun x=>Prod.snd x) (1,nmsC (List.drop (Prod.snd (put_f s l 0 [])) l))) * (15+1)<=140737488355328):Pu 149 [PV.sl 1 (nmsC l),PV.str s] (CRes.ret (PV.sl 1 (nmsC (Prod.fst (put_f s l 0 []))++[[PV.str s]]++nmsC (List.drop (Prod.snd (put_f s l 0 [])) l)))):=
 Ob.pur_of (mdL) 50 (fun e=>[Ans.loop (S.mk [(0,LV.v (PV.sl 1 (nmsC l))),(1,LV.v (PV.str s)),(4,LV.v PV.nilsl),(5,LV.uniq 9 1 []),(6,LV.v (PV.int IntKind.i64 0))] [] e) (PExit.exit 0) (S.mk [(0,LV.v (PV.sl 1 (nmsC l))),(1,LV.v (PV.str s)),(4,LV.v PV.nilsl),(5,LV.uniq 9 1 (nmsC (Prod.fst (put_f s l 0 [])))),(6,LV.v (PV.int IntKind.i64 (↑(Prod.snd (put_f s l 0 [])):Int)))] [] e),Ans.as_ (LV.v (PV.int IntKind.i64 (↑(List.length l):Int))),Ans.bit true,Ans.bit true,Ans.bit true,Ans.as_ (LV.v (PV.ro [PV.str (List.getD l (Prod.snd (put_f s l 0 [])) nm0)] 0)),Ans.bit true,Ans.bit true,Ans.bit true,Ans.bit true,Ans.bit false,Ans.as_ (LV.v (PV.sl 1 (nmsC (List.drop (Prod.snd (put_f s l 0 [])) l))))]) (sc':=fun _=>[]) (l:=fun e=>[Ob.le (S.mk [(0,LV.v (PV.sl 1 (nmsC l))),(1,LV.v (PV.str s)),(4,LV.v PV.nilsl),(5,LV.uniq 9 1 []),(6,LV.v (PV.int IntKind.i64 0))] [] e) (S.mk [(0,LV.v (PV.sl 1 (nmsC l))),(1,LV.v (PV.str s)),(4,LV.v PV.nilsl),(5,LV.v PV.nilsl),(6,LV.v (PV.int IntKind.i64 0))] [] e),Ob.loop (Func.ntmps f149) (loopF f149 0) (S.mk [(0,LV.v (PV.sl 1 (nmsC l))),(1,LV.v (PV.str s)),(4,LV.v PV.nilsl),(5,LV.uniq 9 1 []),(6,LV.v (PV.int IntKind.i64 0))] [] e) (PExit.exit 0) (S.mk [(0,LV.v (PV.sl 1 (nmsC l))),(1,LV.v (PV.str s)),(4,LV.v PV.nilsl),(5,LV.uniq 9 1 (nmsC (Prod.fst (put_f s l 0 [])))),(6,LV.v (PV.int IntKind.i64 (↑(Prod.snd (put_f s l 0 [])):Int)))] [] e),Ob.bit (decide (List.length (nmsC (Prod.fst (put_f s l 0 []))++(fun x=>Prod.snd x) (0+1,[[PV.str s]])) * (15+1)<=140737488355328)) true,Ob.eqv (LV.v (PV.int IntKind.i64 (↑((fun x=>List.length (Prod.snd x)) (1,nmsC l)):Int))) (LV.v (PV.int IntKind.i64 (↑(List.length l):Int))),Ob.bit (decide ((↑(Prod.snd (put_f s l 0 [])):Int)<(↑(List.length l):Int))) true,Ob.bit (decide ((↑(Prod.snd (put_f s l 0 [])):Int)<(↑(List.length l):Int))) true,Ob.bit (decide ((↑(Prod.snd (put_f s l 0 [])):Int)<(↑(List.length l):Int))) true,Ob.bit (decide ((0:Int)<=(↑(Prod.snd (put_f s l 0 [])):Int)/\(↑(Prod.snd (put_f s l 0 [])):Int)<(↑(List.length (nmsC l)):Int))) true,Ob.eqv (LV.v (PV.ro (List.getD (nmsC l) (Int.toNat (↑(Prod.snd (put_f s l 0 [])):Int)) []) 0)) (LV.v (PV.ro [PV.str (List.getD l (Prod.snd (put_f s l 0 [])) nm0)] 0)),Ob.bit (decide ((↑(Prod.snd (put_f s l 0 [])):Int)<(↑(List.length l):Int))) true,Ob.bit (decide ((↑(Prod.snd (put_f s l 0 [])):Int)<(↑(List.length l):Int))) true,Ob.bit (decide ((↑(Prod.snd (put_f s l 0 [])):Int)<(↑(List.length l):Int))) true,Ob.bit (decide ((↑(Prod.snd (put_f s l 0 [])):Int)<(↑(List.length l):Int))) true,Ob.bit (ByteArray.toList (List.getD l (Prod.snd (put_f s l 0 [])) nm0)==ByteArray.toList s) false,Ob.bit (decide ((0:Int)<=(↑(Prod.snd (put_f s l 0 [])):Int)/\(↑(Prod.snd (put_f s l 0 [])):Int)<=(↑(List.length (nmsC l)):Int)/\(↑(List.length (nmsC l)):Int)<=(↑(List.length (nmsC l)):Int))) true,Ob.eqv (LV.v (PV.sl 1 (List.drop (Int.toNat (↑(Prod.snd (put_f s l 0 [])):Int)) (List.take (Int.toNat (↑(List.length (nmsC l)):Int)) (nmsC l))))) (LV.v (PV.sl 1 (nmsC (List.drop (Prod.snd (put_f s l 0 [])) l)))),Ob.bit (decide (List.length (nmsC (Prod.fst (put_f s l 0 []))++(fun x=>Prod.snd x) (0+1,[[PV.str s]])++(fun x=>Prod.snd x) (1,nmsC (List.drop (Prod.snd (put_f s l 0 [])) l))) * (15+1)<=140737488355328)) true]) mixed func149 kR (fun e=>by kernel_rfl) (fun e=>⟨⟨⟨W,W,W,Wq,W,tV⟩,trivial,rfl⟩,(@put (l) (s) ([]) (e) oM qZ),(ob_bit (dT qZ)),(ob_eqv (by (simp only [nmsC_len]; done))),(ob_bit (dT hx0)),(ob_bit (dT hx0)),(ob_bit (dT hx0)),(ob_bit (dT qZ)),(ob_eqv (by simp only [Int.toNat_natCast]; rw [@nmsC_at (l) (Prod.snd (put_f s l 0 [])) oM]; try rfl)),(ob_bit (dT hx0)),(ob_bit (dT hx0)),(ob_bit (dT hx0)),(ob_bit (dT hx0)),(ob_bit (bsF hx1)),(ob_bit (dT qZ)),(ob_eqv (by (simp only [List.length_nil,nmsC_len,Int.toNat_natCast,nmsC_take,nmsC_drop,List.take_length]; done))),(ob_bit (dT hx2)),tV⟩)
theorem rPut_3(l:List BA)(s:BA)(hn:l.length<=500000000)(hp2:(put_f s l 0 []).2<=l.length)(hp1:(put_f s l 0 []).1.length<=500000000)(hx0:¬(↑(Prod.snd (put_f s l 0 [])):Int)<(↑(List.length l):Int))(hx1:List.length (nmsC (Prod.fst (put_f s l 0 []))++(fun x=>Prod.snd x) (0+1,[[PV.str s]])++(fun x=>Prod.snd x) (1,nmsC (List.drop (Prod.snd (put_f s l 0 [])) l))) * (15+1)<=140737488355328):Pu 149 [PV.sl 1 (nmsC l),PV.str s] (CRes.ret (PV.sl 1 (nmsC (Prod.fst (put_f s l 0 []))++[[PV.str s]]++nmsC (List.drop (Prod.snd (put_f s l 0 [])) l)))):=
 Ob.pur_of (mdL) 50 (fun e=>[Ans.loop (S.mk [(0,LV.v (PV.sl 1 (nmsC l))),(1,LV.v (PV.str s)),(4,LV.v PV.nilsl),(5,LV.uniq 9 1 []),(6,LV.v (PV.int IntKind.i64 0))] [] e) (PExit.exit 0) (S.mk [(0,LV.v (PV.sl 1 (nmsC l))),(1,LV.v (PV.str s)),(4,LV.v PV.nilsl),(5,LV.uniq 9 1 (nmsC (Prod.fst (put_f s l 0 [])))),(6,LV.v (PV.int IntKind.i64 (↑(Prod.snd (put_f s l 0 [])):Int)))] [] e),Ans.as_ (LV.v (PV.int IntKind.i64 (↑(List.length l):Int))),Ans.bit false,Ans.bit false,Ans.bit false,Ans.bit false,Ans.bit false,Ans.bit false,Ans.bit false,Ans.bit false,Ans.as_ (LV.v (PV.sl 1 (nmsC (List.drop (Prod.snd (put_f s l 0 [])) l))))]) (sc':=fun _=>[]) (l:=fun e=>[Ob.le (S.mk [(0,LV.v (PV.sl 1 (nmsC l))),(1,LV.v (PV.str s)),(4,LV.v PV.nilsl),(5,LV.uniq 9 1 []),(6,LV.v (PV.int IntKind.i64 0))] [] e) (S.mk [(0,LV.v (PV.sl 1 (nmsC l))),(1,LV.v (PV.str s)),(4,LV.v PV.nilsl),(5,LV.v PV.nilsl),(6,LV.v (PV.int IntKind.i64 0))] [] e),Ob.loop (Func.ntmps f149) (loopF f149 0) (S.mk [(0,LV.v (PV.sl 1 (nmsC l))),(1,LV.v (PV.str s)),(4,LV.v PV.nilsl),(5,LV.uniq 9 1 []),(6,LV.v (PV.int IntKind.i64 0))] [] e) (PExit.exit 0) (S.mk [(0,LV.v (PV.sl 1 (nmsC l))),(1,LV.v (PV.str s)),(4,LV.v PV.nilsl),(5,LV.uniq 9 1 (nmsC (Prod.fst (put_f s l 0 [])))),(6,LV.v (PV.int IntKind.i64 (↑(Prod.snd (put_f s l 0 [])):Int)))] [] e),Ob.bit (decide (List.length (nmsC (Prod.fst (put_f s l 0 []))++(fun x=>Prod.snd x) (0+1,[[PV.str s]])) * (15+1)<=140737488355328)) true,Ob.eqv (LV.v (PV.int IntKind.i64 (↑((fun x=>List.length (Prod.snd x)) (1,nmsC l)):Int))) (LV.v (PV.int IntKind.i64 (↑(List.length l):Int))),Ob.bit (decide ((↑(Prod.snd (put_f s l 0 [])):Int)<(↑(List.length l):Int))) false,Ob.bit (decide ((↑(Prod.snd (put_f s l 0 [])):Int)<(↑(List.length l):Int))) false,Ob.bit (decide ((↑(Prod.snd (put_f s l 0 [])):Int)<(↑(List.length l):Int))) false,Ob.bit (decide ((↑(Prod.snd (put_f s l 0 [])):Int)<(↑(List.length l):Int))) false,Ob.bit (decide ((↑(Prod.snd (put_f s l 0 [])):Int)<(↑(List.length l):Int))) false,Ob.bit (decide ((↑(Prod.snd (put_f s l 0 [])):Int)<(↑(List.length l):Int))) false,Ob.bit (decide ((↑(Prod.snd (put_f s l 0 [])):Int)<(↑(List.length l):Int))) false,Ob.bit false false,Ob.bit (decide ((0:Int)<=(↑(Prod.snd (put_f s l 0 [])):Int)/\(↑(Prod.snd (put_f s l 0 [])):Int)<=(↑(List.length (nmsC l)):Int)/\(↑(List.length (nmsC l)):Int)<=(↑(List.length (nmsC l)):Int))) true,Ob.eqv (LV.v (PV.sl 1 (List.drop (Int.toNat (↑(Prod.snd (put_f s l 0 [])):Int)) (List.take (Int.toNat (↑(List.length (nmsC l)):Int)) (nmsC l))))) (LV.v (PV.sl 1 (nmsC (List.drop (Prod.snd (put_f s l 0 [])) l)))),Ob.bit (decide (List.length (nmsC (Prod.fst (put_f s l 0 []))++(fun x=>Prod.snd x) (0+1,[[PV.str s]])++(fun x=>Prod.snd x) (1,nmsC (List.drop (Prod.snd (put_f s l 0 [])) l))) * (15+1)<=140737488355328)) true]) mixed func149 kR (fun e=>by kernel_rfl) (fun e=>⟨⟨⟨W,W,W,Wq,W,tV⟩,trivial,rfl⟩,(@put (l) (s) ([]) (e) oM qZ),(ob_bit (dT qZ)),(ob_eqv (by (simp only [nmsC_len]; done))),(ob_bit (dF hx0)),(ob_bit (dF hx0)),(ob_bit (dF hx0)),(ob_bit (dF hx0)),(ob_bit (dF hx0)),(ob_bit (dF hx0)),(ob_bit (dF hx0)),rfl,(ob_bit (dT qZ)),(ob_eqv (by (simp only [List.length_nil,nmsC_len,Int.toNat_natCast,nmsC_take,nmsC_drop,List.take_length]; done))),(ob_bit (dT hx1)),tV⟩)
def putN(s:BA)(l:List BA):List BA:=(put_f s l 0 []).1++[s]++l.drop (if (put_f s l 0 []).2<l.length/\l.getD (put_f s l 0 []).2 nm0=s then (put_f s l 0 []).2+1 else (put_f s l 0 []).2)
theorem putN_len(s:BA)(l:List BA):(putN s l).length<=l.length+1:=by
 have h:=put_le s l 0 []
 unfold putN
 simp only [List.length_append,List.length_cons,List.length_nil,List.length_drop]
 simp only [List.length_nil] at h
 split <;> omega
theorem rPutT(l:List BA)(s:BA)(hn:l.length<=500000000):Pu 149 [.sl 1 (nmsC l),.str s] (.ret (.sl 1 (nmsC (putN s l)))):=by
 have h:=put_le s l 0 []
 simp only [List.length_nil] at h
 unfold putN
 rw [nmsC_app,nmsC_app]
 by_cases h1:(put_f s l 0 []).2<l.length
 ·by_cases h2:l.getD (put_f s l 0 []).2 nm0=s
  ·rw [iP ⟨h1,h2⟩]
   exact rPut_1 l s hn oM oM oM h2 (by simp only [List.length_append,nmsC_len,List.length_drop,List.length_cons,List.length_nil]; omega)
  ·rw [iN (fun hc=>h2 hc.2)]
   exact rPut_2 l s hn oM oM oM h2 (by simp only [List.length_append,nmsC_len,List.length_drop,List.length_cons,List.length_nil]; omega)
 ·rw [iN (fun hc=>h1 hc.1)]
  exact rPut_3 l s hn oM oM oM (by simp only [List.length_append,nmsC_len,List.length_drop,List.length_cons,List.length_nil]; omega)
theorem putN_inv{s:BA}{l:List BA}{i:Nat}(h:l.length<=i):(putN s l).length<=i+1:=Nat.le_trans (putN_len s l) oM
abbrev uni_I(a:List BA)(j:Int)(out:List BA)(e:Ext):S:=S.mk [(0,vL 1 (nmsC a)),(1,.v .nilsl),(4,.v .nilsl),(5,vL 1 (nmsC out)),(9,vI6 (a.length:Int)),(10,vI6 j)] [] e
section
variable (a:List BA) (ha:a.length<=400000000) (i:Nat) (out:List BA) (e:Ext)
include a ha i out e
theorem uni_b1(hi:i<a.length)(hN:a.length<=1000000000)(hv:(out.length<=i))(cx:Cx)(hcx:cx.n=33){Q:PExit->S->Prop}(hq:Q (.normal) (S.mk [(0,vL 1 (nmsC a)),(1,.v .nilsl),(4,.v .nilsl),(5,vL 1 (nmsC (putN (List.getD a i nm0) out))),(9,vI6 (a.length:Int)),(10,vI6 ((i:Int)+1))] [] e)):PW prog cx (loopF f129 0) (uni_I a (i:Int) out e) Q:=
 pw mdL 33 [dt ((i:Int)<(a.length:Int)),am ((0:Int)<=(i:Int)/\(i:Int)<((nmsC a).length:Int)) qZ,xNm a i hi,cl (@rPutT (out) (List.getD a i nm0) oM),wr ((i:Int)+1)] [0,1,4,5,9,10] [] hcx hq
theorem uni_z1(hi:i=a.length)(hN:a.length<=1000000000)(hv:(out.length<=i))(cx:Cx)(hcx:cx.n=33){Q:PExit->S->Prop}(hq:Q (.exit 0) (S.mk [(0,vL 1 (nmsC a)),(1,.v .nilsl),(4,.v .nilsl),(5,vL 1 (nmsC out)),(9,vI6 (a.length:Int)),(10,vI6 (i:Int))] [] e)):PW prog cx (loopF f129 0) (uni_I a (i:Int) out e) Q:=
 pw mdL 33 [df ((i:Int)<(a.length:Int))] [0,1,4,5,9,10] [] hcx hq
end
def uni_f  : List BA->(List BA)->(List BA)
 | [],out=>(out)
 | el::r,out=>uni_f  r (putN el out)
def uni_q(a:List BA)(e:Ext)(p:(List BA)):PExit × S:=(.exit 0,S.mk [(0,vL 1 (nmsC a)),(1,.v .nilsl),(4,.v .nilsl),(5,vL 1 (nmsC p)),(9,vI6 (a.length:Int))] [] e)
theorem uni_lp(a:List BA)(ha:a.length<=400000000)(e:Ext)(hN:a.length<=1000000000)(i:Nat)(out:List BA)(hi0:i<=a.length)(hv:(out.length<=i)):(Ob.loop 33 (loopF f129 0) (uni_I a (i:Int) out e) (uni_q a e (uni_f  (List.drop i (a))  out)).1 (uni_q a e (uni_f  (List.drop i (a))  out)).2).ok prog:=by
 refine Ob.loop_of (P:=prog) (α:={ zz:Nat × (List BA) // zz.1<=a.length/\(fun (i:Nat) (out:List BA)=>(out.length<=i)) zz.1 zz.2 }) (fun zz=>uni_I a (zz.1.1:Int) zz.1.2 e) (fun zz=>a.length - zz.1.1) (fun zz=>(uni_q a e (uni_f  (List.drop zz.1.1 (a))  zz.1.2))) ?_ ⟨(i,out),hi0,hv⟩
 clear hi0 hv
 clear out i
 rintro ⟨⟨i,out⟩,hi,hv⟩ cx hcx
 simp only at hi hv ⊢
 rcases Nat.lt_or_ge i (a.length) with hlt | hge
 ·have hd:=drop_at0 hlt
  have hr:(uni_f  (List.drop i (a))  out)=(uni_f  (List.drop (i+1) (a))  (putN (List.getD a i nm0) out)):=by rw [hd,uni_f]
  exact uni_b1 a ha i out e hlt hN hv  cx hcx (.inl ⟨rfl,⟨((i+1),(putN (List.getD a i nm0) out)),by simp only; omega,(by first | assumption | omega | (apply putN_inv <;> first | assumption | omega | decide) | (simp only [List.length_append,List.length_cons,List.length_nil] at *; omega) | simp_all)⟩,by simp only; omega,xr,by simp only; rw [hr]⟩)
 ·have he:i=a.length:=by omega
  subst he
  have hr:(uni_f  (List.drop (a.length) (a))  out)=(out):=by rw [List.drop_length,uni_f]
  refine uni_z1 a ha (a.length) out e rfl hN hv  cx hcx (.inr ?_)
  rw [hr]
  exact ⟨by simp,rfl,xr⟩
theorem uni(a:List BA)(ha:a.length<=400000000)(out:List BA)(e:Ext)(hN:a.length<=1000000000)(hv:List.length out<=0):(Ob.loop 33 (loopF f129 0) (uni_I a 0 out e) (uni_q a e (uni_f  (a)  out)).1 (uni_q a e (uni_f  (a)  out)).2).ok prog:=by
 have:=uni_lp a ha e hN 0 out (Nat.zero_le _) hv
 rw [List.drop_zero] at this
 exact this
theorem rUnion(a:List BA)(ha:a.length<=400000000):Pu 129 [.sl 1 (nmsC a),.nilsl] (.ret (.sl 1 (nmsC (uni_f a [])))):=
 pu mdL (fun e=>[sl (nmsC_len a),lp (S.mk [(0,vL 1 (nmsC a)),(1,.v .nilsl),(4,.v .nilsl),(5,.v .nilsl),(8,vL 1 (nmsC a)),(9,vI6 (a.length:Int)),(10,vI6 0)] [] e) (@uni (a) ha ([]) (e) oM qZ) ⟨⟨W,W,W,Wq,W,W,tV⟩,trivial,rfl⟩,kp,ur,bf false]) func129
abbrev rfOk(x:Ex)(h ns:List BA):Prop:=Pu 130 [.agg (exL x),.sl 1 (nmsC h),.bool false] (.ret (.sl 1 (nmsC ns)))
theorem rf_loop0(x:Ex)(h:List BA)(hn:(exK x).length<=1000000000)(hp:(exP x).length<=1000000000)(hh:h.length<=1000000000)(out:List BA)(hT:(out++occX' x (exK x) 0 h).length<=1000000000)
  (hr:∀i,i<(exK x).length->rfOk ((exK x).getD i default) (h++insN x i) (occN ((exK x).getD i default) (h++insN x i))):rfL0 x h out (out++occX' x (exK x) 0 h):=by
 intro ext
 have:=Ob.loop_of (P:=prog) (n:=84) (c:=loopF f130 0) (α:={ p:Nat × List BA // p.1<=(exK x).length/\p.2++occX' x ((exK x).drop p.1) p.1 h=out++occX' x (exK x) 0 h })
  (fun p=>rfI x h p.1.2 p.1.1 ext) (fun p=>(exK x).length - p.1.1) (fun _=>(.exit 0,⟨[(1,.v (.sl 1 (nmsC h))),(2,.v (.bool false)),(3,.lp 3 0),(7,.uniq 9 1 (nmsC (out++occX' x (exK x) 0 h)))],[(3,exV x)],ext⟩)) ?_ ⟨(0,out),by simp,by simp⟩
 ·exact this
 ·rintro ⟨⟨i,o1⟩,hi,he⟩ cx hcx
  simp only at hi he ⊢
  rcases Nat.lt_or_ge i (exK x).length with hlt | hge
  ·rw [drop_at hlt,occK_cons,<-List.append_assoc] at he
   have hl:=congrArg List.length he
   simp only [List.length_append] at hl hT
   have h1:=hr i hlt
   unfold rfOk at h1
   rw [nmsC_app] at h1
   refine rfA x h o1 _ i ext hlt hn hp hh oM oM h1 cx hcx (.inl ⟨rfl,⟨(i+1,_),hlt,he⟩,by simp only; omega,⟨⟨W,W,W,.inl ?_,W,tV⟩,⟨WLs.refl _,tV⟩,rfl⟩,tV⟩)
   rw [nmsC_app]
  ·have hx:i=(exK x).length:=by omega
   subst hx
   rw [List.drop_length] at he
   have he':o1=out++occX' x (exK x) 0 h:=by rw [<-he]; simp [occK]
   rw [<-he']
   exact rfZ x h _ ext cx hcx (.inr ⟨by simp,rfl,⟨W,W,W,W,tV⟩,⟨WLs.refl _,tV⟩,rfl⟩)
theorem rf_loop1(x:Ex)(h:List BA)(hn:(exA x).length<=1000000000)(hb:∀i,i<(exA x).length->h.length+(alNs ((exA x).getD i default)).length<=1000000000)(out:List BA)(hT:(out++occA (exA x) h).length<=1000000000)
  (hr:∀i,i<(exA x).length->rfOk (alB ((exA x).getD i default)) (h++alNs ((exA x).getD i default)) (occN (alB ((exA x).getD i default)) (h++alNs ((exA x).getD i default)))):rfL1 x h out (out++occA (exA x) h):=by
 intro ext
 have:=Ob.loop_of (P:=prog) (n:=84) (c:=loopF f130 1) (α:={ p:Nat × List BA // p.1<=(exA x).length/\p.2++occA ((exA x).drop p.1) h=out++occA (exA x) h })
  (fun p=>rfJ x h p.1.2 p.1.1 ext) (fun p=>(exA x).length - p.1.1) (fun _=>(.exit 2,⟨[(7,.uniq 9 1 (nmsC (out++occA (exA x) h)))],[],ext⟩)) ?_ ⟨(0,out),by simp,by simp⟩
 ·exact this
 ·rintro ⟨⟨i,o1⟩,hi,he⟩ cx hcx
  simp only at hi he ⊢
  rcases Nat.lt_or_ge i (exA x).length with hlt | hge
  ·rw [drop_at hlt,occA_cons,<-List.append_assoc] at he
   have hl:=congrArg List.length he
   simp only [List.length_append] at hl hT
   have h1:=hr i hlt
   unfold rfOk at h1
   rw [nmsC_app] at h1
   refine rfB x h o1 _ i ext hlt hn (hb i hlt) oM oM h1 cx hcx (.inl ⟨rfl,⟨(i+1,_),hlt,he⟩,by simp only; omega,⟨⟨W,W,W,.inl ?_,W,tV⟩,⟨WLs.refl _,tV⟩,rfl⟩,tV⟩)
   rw [nmsC_app]
  ·have hx:i=(exA x).length:=by omega
   subst hx
   rw [List.drop_length] at he
   have he':o1=out++occA (exA x) h:=by rw [<-he]; simp [occA]
   rw [<-he']
   exact rfY x h _ ext cx hcx (.inr ⟨by simp,rfl,⟨W,tV⟩,trivial,rfl⟩)
theorem rfree_ok:∀ (n:Nat) (x:Ex),SizeOf.sizeOf x<n->∀h:List BA,h.length+szE x<=100000000->rfOk x h (occN x h)
 | 0,x,hn,_,_=>by omega
 | n+1,x,hn,h,hb=>by
  have hsz:=szE_eq x
  have hk:=kids_bulk (exK x)
  have hp:=pms_bulk (exP x)
  have ha:=alts_bulk (exA x)
  have hl:=occN_len x h
  rw [occN_eq] at hl ⊢
  simp only [List.length_append] at hl
  have L0:=fun out hT=>rf_loop0 x h oM oM oM out hT fun i hi=>rfree_ok n _ (by have:=kid_lt hi; unfold kid at this; omega) _ (by have:=insN_bulk (kid_mem hi) i; rw [List.length_append]; omega)
  have L1:=fun out hT=>rf_loop1 x h oM (fun i hi=>by have:=alt_bulk (alt_mem hi); omega) out hT fun i hi=>rfree_ok n _ (by have:=alt_lt (alt_mem hi); omega) _ (by have:=alt_bulk (alt_mem hi); rw [List.length_append]; omega)
  by_cases hv:exO x=3∨exO x=5
  ·have hv':isV x=true:=by unfold isV; rcases hv with h | h <;> simp [h]
   by_cases hq:plc (exNm x) h<0
   ·have hq':plR (exNm x) h<0:=by rw [plR_eq]; exact hq
    rw [iP ⟨hv',hq⟩] at hl ⊢
    rw [<-List.append_assoc]
    simp only [List.length_cons,List.length_nil] at hl
    have l0:=L0 [exNm x] (by simp only [List.length_append,List.length_cons,List.length_nil]; omega)
    have l1:=L1 _ (show ((([exNm x]++occX' x (exK x) 0 h)++occA (exA x) h)).length<=1000000000 by simp only [List.length_append,List.length_cons,List.length_nil]; omega)
    by_cases h5:exO x=5
    ·exact rfV_1 x h _ _ oM hv hq' l0 l1 h5
    ·exact rfV_2 x h _ _ oM hv hq' l0 l1 h5
   ·have hq':¬plR (exNm x) h<0:=by rw [plR_eq]; exact hq
    rw [iN (fun hc=>hq hc.2)] at hl ⊢
    rw [List.nil_append]
    simp only [List.length_nil] at hl
    have l0:=L0 [] (by simp only [List.nil_append]; omega)
    rw [List.nil_append] at l0
    have l1:=L1 _ (show (occX' x (exK x) 0 h++occA (exA x) h).length<=1000000000 by simp only [List.length_append]; omega)
    by_cases h5:exO x=5
    ·exact rfW_1 x h _ _ oM hv hq' l0 l1 h5
    ·exact rfW_2 x h _ _ oM hv hq' l0 l1 h5
  ·have hv':¬isV x=true:=by unfold isV; simp; omega
   rw [iN (fun hc=>hv' hc.1)] at hl ⊢
   rw [List.nil_append]
   simp only [List.length_nil] at hl
   have l0:=L0 [] (by simp only [List.nil_append]; omega)
   rw [List.nil_append] at l0
   have l1:=L1 _ (show (occX' x (exK x) 0 h++occA (exA x) h).length<=1000000000 by simp only [List.length_append]; omega)
   exact rfX x h _ _ oM (fun h3=>hv (.inl h3)) (fun h5=>hv (.inr h5)) l0 l1
def freeR(x:Ex):List BA:=uni_f (occN x []) []
theorem rFreeL(x:Ex)(ns:List BA)(hs:ns.length<=400000000)(hr:Pu 130 [.agg (exL x),.nilsl,.bool false] (.ret (.sl 1 (nmsC ns)))):Pu 103 [.agg (exL x)] (.ret (.sl 1 (nmsC (uni_f ns [])))):=
 pm mdL [cl hr,cl (@rUnion (ns) hs)] func103
theorem rFree(x:Ex)(hb:szE x<=100000000):Pu 103 [.agg (exL x)] (.ret (.sl 1 (nmsC (freeR x)))):=
 rFreeL x (occN x []) (by have:=occN_len x []; omega) (Ob.pur_arg (.c (.r _) (.c (.n 1) (.c (.r _) (.r _)))) (rfree_ok (SizeOf.sizeOf x+1) x oM [] (by simpa using hb)))
theorem uni_len:∀ (a out:List BA),(uni_f a out).length<=out.length+a.length
 | [],out=>by simp [uni_f]
 | x::r,out=>by
  have h1:=uni_len r (putN x out)
  have h2:=putN_len x out
  rw [uni_f]
  simp only [List.length_cons]
  omega
theorem freeR_len(x:Ex):(freeR x).length<=szE x:=by
 have h1:=uni_len (occN x []) []
 have h2:=occN_len x []
 unfold freeR
 simp only [List.length_nil] at h1
 omega
end Go.Proofs.YtgonmmckkikmaaaGreat
