/- Values of Go as plain data, an evaluator over them, and what the functions of the program return; part l. -/
import Derived.Test.YtgonmmckkikmaaaGreatXf
import Derived.Test.YtgonmmckkikmaaaGreatXi
import Derived.Test.YtgonmmckkikmaaaGreatXk
import Derived.Test.YtgonmmckkikmaaaGreatXg
set_option linter.unusedSectionVars false
set_option linter.unusedSimpArgs false
set_option linter.unusedVariables false
namespace Go.Proofs.YtgonmmckkikmaaaGreat
open Go.Pv Tryz
theorem nms_nx:∀l:List BA,noXss (nmsC l)=true
 | []=>rfl
 | x::r=>by simp [nmsC,noXss,noXs,PV.noX,nms_nx r]
mutual
theorem pr_nx:∀x:Pr,noXs (Pr.c x)=true
 | .mk op name n kids=>by simp [Pr.c,noXs,PV.noX,prs_nx kids]
theorem prs_nx:∀l:List Pr,noXss (Pr.cs l)=true
 | []=>rfl
 | x::r=>by simp [Pr.cs,noXss,pr_nx x,prs_nx r]
end
mutual
theorem tp_nx:∀x:Tp,noXs (Tp.c x)=true
 | .mk op name args names pred preds=>by simp [Tp.c,noXs,PV.noX,tps_nx args,nms_nx,prs_nx]
theorem tps_nx:∀l:List Tp,noXss (Tp.cs l)=true
 | []=>rfl
 | x::r=>by simp [Tp.cs,noXss,tp_nx x,tps_nx r]
end
theorem pms_nx:∀l:List Pm,noXss (pmsC l)=true
 | []=>rfl
 | x::r=>by
  have:=tp_nx (pmT x)
  rw [Tp.c_eq] at this
  simp [pmsC,noXss,pms_nx r]
  rw [noXs]
  simp [PV.noX,this]
mutual
theorem ex_nx:∀x:Ex,noXs (Ex.c x)=true
 | .mk op name n kids params alts types=>by simp [Ex.c,noXs,PV.noX,exs_nx kids,pms_nx,als_nx alts,tps_nx]
theorem exs_nx:∀l:List Ex,noXss (Ex.cs l)=true
 | []=>rfl
 | x::r=>by simp [Ex.cs,noXss,ex_nx x,exs_nx r]
theorem al_nx:∀x:Al,noXs (Al.c x)=true
 | .mk con names body=>by simp [Al.c,noXs,PV.noX,nms_nx,ex_nx body]
theorem als_nx:∀l:List Al,noXss (Al.cs l)=true
 | []=>rfl
 | x::r=>by simp [Al.cs,noXss,al_nx x,als_nx r]
end
mutual
theorem vl_nx:∀x:Vl,noXs (Vl.c x)=true
 | .mk op n name kids params body binds=>by simp [Vl.c,noXs,PV.noX,vls_nx kids,nms_nx,exs_nx,bds_nx binds]
theorem vls_nx:∀l:List Vl,noXss (Vl.cs l)=true
 | []=>rfl
 | x::r=>by simp [Vl.cs,noXss,vl_nx x,vls_nx r]
theorem bd_nx:∀x:Bd,noXs (Bd.c x)=true
 | .mk name value=>by simp [Bd.c,noXs,PV.noX,vl_nx value]
theorem bds_nx:∀l:List Bd,noXss (Bd.cs l)=true
 | []=>rfl
 | x::r=>by simp [Bd.cs,noXss,bd_nx x,bds_nx r]
end
theorem exL_nx(x:Ex):noXs (exL x)=true:=by rw [<-Ex.c_eq]; exact ex_nx x
theorem vlL_nx(x:Vl):noXs (vlL x)=true:=by rw [<-Vl.c_eq]; exact vl_nx x
set_option maxRecDepth 100000
def mdF:Md:=⟨fun t=>if t=207∨t=237 then none else some false,fun _=>false⟩
theorem sAdd0(ext:Ext):Ef 155 [.xp 1 0,.nilsl] (ext) (.ret (.tup [])) (ext):=
 ef mdL [kp,ur,bf false] func155
theorem sNewSet  : Ef 152 [.nilsl] ([]) (.ret (.xp 1 0)) ([(0,[LV.mm []]),(1,[.v (PV.mp 0)])]):=
 ef mdF [ce (@sAdd0 ([(0,[LV.mm []]),(1,[.v (PV.mp 0)])]))] func152
theorem sFreeL(x:Ex)(es:List (BA × PV))(ns:List BA)(ho:Ef 153 [.agg (exL x),.nilsl,fnO] (OX []) (.ret (.tup [])) (OX es))(hs:Ef 156 [.xp 1 0] (OX es) (.ret (.sl 1 (nmsC ns))) (OX es)):Ef 137 [.agg (exL x)] ([]) (.ret (.sl 1 (nmsC ns))) (OX es):=
 ef mdF [ce sNewSet,ce ho,ce hs] func137
theorem mupd_mem{k:BA}{v:PV}:∀ {es:List (BA × PV)} {x:BA × PV},x∈mupd k v es->x=(k,v)∨x∈es
 | [],x,h=>by simp only [mupd,List.mem_singleton] at h; exact .inl h
 | y::r,x,h=>by
  simp only [mupd] at h
  split at h
  ·rcases List.mem_cons.1 h with h | h
   ·exact .inl h
   ·exact .inr (List.mem_cons_of_mem _ h)
  ·rcases List.mem_cons.1 h with h | h
   ·exact .inr (by rw [h]; exact List.mem_cons_self)
   ·rcases mupd_mem h with h | h
    ·exact .inl h
    ·exact .inr (List.mem_cons_of_mem _ h)
theorem mupd_len{k:BA}{v:PV}:∀ {es:List (BA × PV)},(mupd k v es).length<=es.length+1
 | []=>by simp [mupd]
 | y::r=>by
  simp only [mupd]
  split
  ·simp
  ·have:=mupd_len (k:=k) (v:=v) (es:=r); simp only [List.length_cons]; omega
theorem addL_mem:∀ {l:List BA} {es:List (BA × PV)} {x:BA × PV},x∈addL es l->(x.2 = .bool true/\x.1∈l)∨x∈es
 | [],es,x,h => .inr h
 | n::l,es,x,h=>by
  have h':x∈addL (addN es n) l:=h
  rcases addL_mem h' with ⟨h1,h2⟩ | h1
  ·exact .inl ⟨h1,List.mem_cons_of_mem _ h2⟩
  ·rcases mupd_mem h1 with rfl | h2
   ·exact .inl ⟨rfl,List.mem_cons_self⟩
   ·exact .inr h2
theorem addL_len:∀ {l:List BA} {es:List (BA × PV)},(addL es l).length<=es.length+l.length
 | [],es=>by simp [addL]
 | n::l,es=>by
  have h1:=addL_len (l:=l) (es:=addN es n)
  have h2:=mupd_len (k:=n) (v := .bool true) (es:=es)
  have h3:addL es (n::l)=addL (addN es n) l:=rfl
  rw [h3]
  simp only [List.length_cons]
  unfold addN at h1 ⊢
  omega
mutual
theorem occN_len:∀ (x:Ex) (h:List BA),(occN x h).length<=szE x
 | .mk op name n kids params alts types,h=>by
  have h1:=occK_len op name params kids 0 h
  have h2:=occA_len alts h
  have h3:=szE_eq (.mk op name n kids params alts types)
  simp only [exNm,exK,exA,exP,exT] at h3
  rw [occN]
  simp only [List.length_append]
  split <;> simp <;> omega
theorem occK_len(op:Int)(name:BA)(params:List Pm):∀ (l:List Ex) (i:Nat) (h:List BA),(occK op name params l i h).length<=bulkPss (Ex.cs l)
 | [],i,h=>by simp [occK]
 | k::r,i,h=>by
  have h1:=occN_len k (h++insF op name params i)
  have h2:=occK_len op name params r (i+1) h
  have h3:szE k=bulkPs (Ex.c k):=by rw [Ex.c_eq]; rfl
  rw [occK]
  simp only [List.length_append,Ex.cs,bulkPss]
  omega
theorem occA_len:∀ (l:List Al) (h:List BA),(occA l h).length<=bulkPss (Al.cs l)
 | [],h=>by simp [occA]
 | .mk con ns b::r,h=>by
  have h1:=occN_len b (h++ns)
  have h2:=occA_len r h
  have h3:szE b=bulkPs (Ex.c b):=by rw [Ex.c_eq]; rfl
  rw [occA]
  simp only [List.length_append,Al.cs,Al.c,bulkPss,bulkPs]
  omega
end
mutual
theorem occN_sz:∀ (x:Ex) (h:List BA),∀n∈occN x h,n.size<=szE x
 | .mk op name n kids params alts types,h,m,hm=>by
  have h3:=szE_eq (.mk op name n kids params alts types)
  simp only [exNm,exK,exA,exP,exT] at h3
  rw [occN] at hm
  rcases List.mem_append.1 hm with hm | hm
  ·split at hm
   ·rw [List.mem_singleton] at hm; subst hm; omega
   ·simp at hm
  ·rcases List.mem_append.1 hm with hm | hm
   ·have:=occK_sz op name params kids 0 h m hm; omega
   ·have:=occA_sz alts h m hm; omega
theorem occK_sz(op:Int)(name:BA)(params:List Pm):∀ (l:List Ex) (i:Nat) (h:List BA),∀n∈occK op name params l i h,n.size<=bulkPss (Ex.cs l)
 | [],i,h,m,hm=>by simp [occK] at hm
 | k::r,i,h,m,hm=>by
  have h3:szE k=bulkPs (Ex.c k):=by rw [Ex.c_eq]; rfl
  rw [occK] at hm
  simp only [Ex.cs,bulkPss]
  rcases List.mem_append.1 hm with hm | hm
  ·have:=occN_sz k _ m hm; omega
  ·have:=occK_sz op name params r (i+1) h m hm; omega
theorem occA_sz:∀ (l:List Al) (h:List BA),∀n∈occA l h,n.size<=bulkPss (Al.cs l)
 | [],h,m,hm=>by simp [occA] at hm
 | .mk con ns b::r,h,m,hm=>by
  have h3:szE b=bulkPs (Ex.c b):=by rw [Ex.c_eq]; rfl
  rw [occA] at hm
  simp only [Al.cs,Al.c,bulkPss,bulkPs]
  rcases List.mem_append.1 hm with hm | hm
  ·have:=occN_sz b _ m hm; omega
  ·have:=occA_sz r h m hm; omega
end
def freeS(x:Ex):List BA:=sortB ((addL [] (occN x [])).map (·.1))
theorem freeS_len(x:Ex):(freeS x).length<=szE x:=by
 have h1:=addL_len (l:=occN x []) (es:=[])
 have h2:=occN_len x []
 simp only [freeS,sortB,List.length_map,List.length_mergeSort]
 simp only [List.length_nil] at h1
 omega
theorem sFree(x:Ex)(hb:szE x<=100000000):Pu 137 [.agg (exL x)] (.ret (.sl 1 (nmsC (freeS x)))):=by
 have h1:=addL_len (l:=occN x []) (es:=[])
 have h2:=occN_len x []
 simp only [List.length_nil] at h1
 have ho:=occ_ok (SizeOf.sizeOf x+1) x oM [] (by simpa using hb) []
 have hs:=sorted_ok 1 0 (OX (addL [] (occN x []))) (addL [] (occN x [])) rfl rfl (fun y hy=>by
  rcases addL_mem hy with ⟨h,-⟩ | h
  ·exact ⟨_,h⟩
  ·simp at h) (fun y hy=>by
  rcases addL_mem hy with ⟨-,h⟩ | h
  ·have:=occN_sz x [] _ h; unfold maxLen; omega
  ·simp at h) oM
 rw [<-nmsC_eq] at hs
 exact Ob.pur_of_eff (by rw [noXs,PV.noX,exL_nx]; rfl) (by simp only [CRes.noX,PV.noX,nms_nx]) (sFreeL x _ _ (Ob.eff_arg (.c (.r _) (.c (.n 1) (.c (.r _) (.r _)))) ho) hs)
def fbV(n:BA)(s:List Bd):Vl:=(findB n s).getD default
def fbO(n:BA)(s:List Bd):Bool:=(findB n s).isSome
theorem eFindT(s:List Bd)(name:BA):Pu 113 [scP s,.str name] (.ret (.tup [.agg (vlL (fbV name s)),.bool (fbO name s)])):=by
 unfold fbV fbO
 cases h:findB name s with
 | some v=>exact eFind_1 s name v h
 | none=>exact eFind_2 s name h
abbrev lm1_I(x:Ex)(s:List Bd)(j:Int)(out:List BA)(e:Ext):S:=S.mk [(0,.v (.agg (exL x))),(1,.v (scP s)),(2,.lp 2 0),(4,.lp 4 0),(13,.lp 2 3),(14,vL 7 (Ex.cs (exK x))),(15,.v (.ro (exL (kid x 0)) 0)),(16,.v (.agg (exL (kid x 0)))),(5,.lp 5 0),(17,.v (.agg (exL (kid x 0)))),(18,LV.full 7 [exL (kid x 0)]),(19,.v (.agg [pI 5,pI 0,.str nm0,.nilsl,.nilsl,.sl 7 [exL (kid x 0)],.nilsl])),(6,.lp 6 0),(20,.lp 2 4),(21,vL 10 (pmsC (exP x))),(22,vI6 ((exP x).length:Int)),(23,vI6 j)] [(2,exV x),(4,vZ),(5,exV (kid x 0)),(6,[vI6 5,vI6 0,vS nm0,.v .nilsl,.uniq 9 1 (nmsC out),vL 7 [exL (kid x 0)],.v .nilsl])] e
section
variable (x:Ex) (s:List Bd) (h1:(exK x).length=1) (i:Nat) (out:List BA) (e:Ext)
include x s h1 i out e
theorem lm1_b1(hi:i<(exP x).length)(hN:(exP x).length<=1000000000)(hv:(out.length<=i))(cx:Cx)(hcx:cx.n=59){Q:PExit->S->Prop}(hq:Q (.normal) (S.mk [(0,.v (.agg (exL x))),(1,.v (scP s)),(2,.lp 2 0),(4,.lp 4 0),(13,.lp 2 3),(14,vL 7 (Ex.cs (exK x))),(15,.v (.ro (exL (kid x 0)) 0)),(16,.v (.agg (exL (kid x 0)))),(5,.lp 5 0),(17,.v (.agg (exL (kid x 0)))),(18,LV.full 7 [exL (kid x 0)]),(19,.v (.agg [pI 5,pI 0,.str nm0,.nilsl,.nilsl,.sl 7 [exL (kid x 0)],.nilsl])),(6,.lp 6 0),(20,.lp 2 4),(21,vL 10 (pmsC (exP x))),(22,vI6 ((exP x).length:Int)),(23,vI6 ((i:Int)+1))] [(2,exV x),(4,vZ),(5,exV (kid x 0)),(6,[vI6 5,vI6 0,vS nm0,.v .nilsl,.uniq 9 1 (nmsC out++[[.str (pmNm (List.getD (exP x) i default))]]),vL 7 [exL (kid x 0)],.v .nilsl])] e)):PW prog cx (loopF f115 0) (lm1_I x s (i:Int) out e) Q:=
 pw mdE 59 [dt ((i:Int)<((exP x).length:Int)),am ((0:Int)<=(i:Int)/\(i:Int)<((pmsC (exP x)).length:Int)) qZ,xPm (exP x) i hi,am (List.length (nmsC out++(fun x=>Prod.snd x) (0+1,[[.str (pmNm (List.getD (exP x) i default))]])) * (15+1)<=140737488355328) qZ,wr ((i:Int)+1)] [0,1,2,4,13,14,15,16,5,17,18,19,6,20,21,22,23] [2,4,5,6] hcx hq
theorem lm1_z1(hi:i=(exP x).length)(hN:(exP x).length<=1000000000)(hv:(out.length<=i))(cx:Cx)(hcx:cx.n=59){Q:PExit->S->Prop}(hq:Q (.exit 0) (S.mk [(0,.v (.agg (exL x))),(1,.v (scP s)),(2,.lp 2 0),(4,.lp 4 0),(13,.lp 2 3),(14,vL 7 (Ex.cs (exK x))),(15,.v (.ro (exL (kid x 0)) 0)),(16,.v (.agg (exL (kid x 0)))),(5,.lp 5 0),(17,.v (.agg (exL (kid x 0)))),(18,LV.full 7 [exL (kid x 0)]),(19,.v (.agg [pI 5,pI 0,.str nm0,.nilsl,.nilsl,.sl 7 [exL (kid x 0)],.nilsl])),(6,.lp 6 0),(20,.lp 2 4),(21,vL 10 (pmsC (exP x))),(22,vI6 ((exP x).length:Int)),(23,vI6 (i:Int))] [(2,exV x),(4,vZ),(5,exV (kid x 0)),(6,[vI6 5,vI6 0,vS nm0,.v .nilsl,.uniq 9 1 (nmsC out),vL 7 [exL (kid x 0)],.v .nilsl])] e)):PW prog cx (loopF f115 0) (lm1_I x s (i:Int) out e) Q:=
 pw mdE 59 [df ((i:Int)<((exP x).length:Int))] [0,1,2,4,13,14,15,16,5,17,18,19,6,20,21,22,23] [2,4,5,6] hcx hq
end
def lm1_f  : List Pm->(List BA)->(List BA)
 | [],out=>(out)
 | el::r,out=>lm1_f  r (out++[pmNm el])
def lm1_q(x:Ex)(s:List Bd)(e:Ext)(p:(List BA)):PExit × S:=(.exit 0,S.mk [(0,.v (.agg (exL x))),(1,.v (scP s)),(2,.lp 2 0),(4,.lp 4 0),(13,.lp 2 3),(14,vL 7 (Ex.cs (exK x))),(15,.v (.ro (exL (kid x 0)) 0)),(16,.v (.agg (exL (kid x 0)))),(5,.lp 5 0),(17,.v (.agg (exL (kid x 0)))),(18,LV.full 7 [exL (kid x 0)]),(19,.v (.agg [pI 5,pI 0,.str nm0,.nilsl,.nilsl,.sl 7 [exL (kid x 0)],.nilsl])),(6,.lp 6 0),(20,.lp 2 4),(21,vL 10 (pmsC (exP x))),(22,vI6 ((exP x).length:Int))] [(2,exV x),(4,vZ),(5,exV (kid x 0)),(6,[vI6 5,vI6 0,vS nm0,.v .nilsl,.uniq 9 1 (nmsC p),vL 7 [exL (kid x 0)],.v .nilsl])] e)
theorem lm1_lp(x:Ex)(s:List Bd)(h1:(exK x).length=1)(e:Ext)(hN:(exP x).length<=1000000000)(i:Nat)(out:List BA)(hi0:i<=(exP x).length)(hv:(out.length<=i)):(Ob.loop 59 (loopF f115 0) (lm1_I x s (i:Int) out e) (lm1_q x s e (lm1_f  (List.drop i ((exP x)))  out)).1 (lm1_q x s e (lm1_f  (List.drop i ((exP x)))  out)).2).ok prog:=by
 refine Ob.loop_of (P:=prog) (α:={ zz:Nat × (List BA) // zz.1<=(exP x).length/\(fun (i:Nat) (out:List BA)=>(out.length<=i)) zz.1 zz.2 }) (fun zz=>lm1_I x s (zz.1.1:Int) zz.1.2 e) (fun zz=>(exP x).length - zz.1.1) (fun zz=>(lm1_q x s e (lm1_f  (List.drop zz.1.1 ((exP x)))  zz.1.2))) ?_ ⟨(i,out),hi0,hv⟩
 clear hi0 hv
 clear out i
 rintro ⟨⟨i,out⟩,hi,hv⟩ cx hcx
 simp only at hi hv ⊢
 rcases Nat.lt_or_ge i ((exP x).length) with hlt | hge
 ·have hd:=drop_at hlt
  have hr:(lm1_f  (List.drop i ((exP x)))  out)=(lm1_f  (List.drop (i+1) ((exP x)))  (out++[pmNm (List.getD (exP x) i default)])):=by rw [hd,lm1_f]
  exact lm1_b1 x s h1 i out e hlt hN hv  cx hcx (.inl ⟨rfl,⟨((i+1),(out++[pmNm (List.getD (exP x) i default)])),by simp only; omega,(by first | assumption | omega | (simp only [List.length_append,List.length_cons,List.length_nil] at *; omega) | simp_all)⟩,by simp only; omega,⟨⟨W,W,W,W,W,W,W,W,W,W,W,W,W,W,W,W,W,tV⟩,⟨Ws,Ws,Ws,⟨W,W,W,W,(.inl (by first | (simp only [nmsC_snoc,Ex.cs_snoc,Vl.cs_snoc,Bd.cs_snoc,Bd.cs_snoc2]; done) | (simp only [nmsC_snoc,Ex.cs_snoc,Vl.cs_snoc,Bd.cs_snoc,Bd.cs_snoc2]; rfl))),W,W,tV⟩,tV⟩,rfl⟩,by simp only; rw [hr]⟩)
 ·have he:i=(exP x).length:=by omega
  subst he
  have hr:(lm1_f  (List.drop ((exP x).length) ((exP x)))  out)=(out):=by rw [List.drop_length,lm1_f]
  refine lm1_z1 x s h1 ((exP x).length) out e rfl hN hv  cx hcx (.inr ?_)
  rw [hr]
  exact ⟨by simp,rfl,xr⟩
theorem lm1(x:Ex)(s:List Bd)(h1:(exK x).length=1)(out:List BA)(e:Ext)(hN:(exP x).length<=1000000000)(hv:List.length out<=0):(Ob.loop 59 (loopF f115 0) (lm1_I x s 0 out e) (lm1_q x s e (lm1_f  ((exP x))  out)).1 (lm1_q x s e (lm1_f  ((exP x))  out)).2).ok prog:=by
 have:=lm1_lp x s h1 e hN 0 out (Nat.zero_le _) hv
 rw [List.drop_zero] at this
 exact this
abbrev lm2_I(x:Ex)(s:List Bd)(j:Int)(out:List Bd)(e:Ext):S:=S.mk [(0,.v (.agg (exL x))),(1,.v (scP s)),(2,.lp 2 0),(4,.lp 4 0),(13,.lp 2 3),(14,vL 7 (Ex.cs (exK x))),(15,.v (.ro (exL (kid x 0)) 0)),(16,.v (.agg (exL (kid x 0)))),(5,.lp 5 0),(17,.v (.agg (exL (kid x 0)))),(18,LV.full 7 [exL (kid x 0)]),(19,.v (.agg [pI 5,pI 0,.str nm0,.nilsl,.nilsl,.sl 7 [exL (kid x 0)],.nilsl])),(6,.lp 6 0),(20,.lp 2 4),(21,vL 10 (pmsC (exP x))),(22,vI6 ((exP x).length:Int)),(35,.v (.agg (exL x))),(36,vL 1 (nmsC (freeS x))),(37,vI6 ((freeS x).length:Int)),(38,vI6 j)] [(2,exV x),(4,vZ),(5,exV (kid x 0)),(6,[vI6 5,vI6 0,vS nm0,.v .nilsl,.uniq 9 1 (nmsC (lm1_f (exP x) [])),vL 7 [exL (kid x 0)],.uniq 66 8 (Bd.cs out)])] e
section
variable (x:Ex) (s:List Bd) (h1:(exK x).length=1) (hp:(exP x).length<=1000000000) (hb:szE x<=100000000) (i:Nat) (out:List Bd) (e:Ext)
include x s h1 hp hb i out e
theorem lm2_b1 (hi:i<(freeS x).length) (hN:(freeS x).length<=1000000000) (hv:(out.length<=i)) (hx0:fbO (List.getD (freeS x) i nm0) s=true) (cx:Cx) (hcx:cx.n=59) {Q:PExit->S->Prop} (hq:Q (.normal) (S.mk [(0,.v (.agg (exL x))),(1,.v (scP s)),(2,.lp 2 0),(4,.lp 4 0),(13,.lp 2 3),(14,vL 7 (Ex.cs (exK x))),(15,.v (.ro (exL (kid x 0)) 0)),(16,.v (.agg (exL (kid x 0)))),(5,.lp 5 0),(17,.v (.agg (exL (kid x 0)))),(18,LV.full 7 [exL (kid x 0)]),(19,.v (.agg [pI 5,pI 0,.str nm0,.nilsl,.nilsl,.sl 7 [exL (kid x 0)],.nilsl])),(6,.lp 6 0),(20,.lp 2 4),(21,vL 10 (pmsC (exP x))),(22,vI6 ((exP x).length:Int)),(35,.v (.agg (exL x))),(36,vL 1 (nmsC (freeS x))),(37,vI6 ((freeS x).length:Int)),(38,vI6 ((i:Int)+1))] [(2,exV x),(4,vZ),(5,exV (kid x 0)),(6,[vI6 5,vI6 0,vS nm0,.v .nilsl,.uniq 9 1 (nmsC (lm1_f (exP x) [])),vL 7 [exL (kid x 0)],.uniq 66 8 (Bd.cs out++[splice (splice [.str nm0,pI 0,pI 0,.str nm0,.nilsl,.nilsl,.nilsl,.nilsl] (Field.offset (Field.mk "Name" 9 0 false "" "" 0)) [.str (List.getD (freeS x) i nm0)]) (Field.offset (Field.mk "Value" 52 1 false "" "" 16)) (vlL (fbV (List.getD (freeS x) i nm0) s))])])] e)):PW prog cx (loopF f115 1) (lm2_I x s (i:Int) out e) Q:=
 pw mdE 59 [dt ((i:Int)<((freeS x).length:Int)),am ((0:Int)<=(i:Int)/\(i:Int)<((nmsC (freeS x)).length:Int)) qZ,xNm (freeS x) i hi,cl (@eFindT (s) (List.getD (freeS x) i nm0)),bt1 hx0,am (List.length (Bd.cs out++(fun x=>Prod.snd x) (7+1,[splice (splice [.str nm0,pI 0,pI 0,.str nm0,.nilsl,.nilsl,.nilsl,.nilsl] (Field.offset (Field.mk "Name" 9 0 false "" "" 0)) [.str (List.getD (freeS x) i nm0)]) (Field.offset (Field.mk "Value" 52 1 false "" "" 16)) (vlL (fbV (List.getD (freeS x) i nm0) s))])) * (143+1)<=140737488355328) qZ,wr ((i:Int)+1)] [0,1,2,4,13,14,15,16,5,17,18,19,6,20,21,22,35,36,37,38] [2,4,5,6] hcx hq
theorem lm2_b2(hi:i<(freeS x).length)(hN:(freeS x).length<=1000000000)(hv:(out.length<=i))(hx0:fbO (List.getD (freeS x) i nm0) s=false)(cx:Cx)(hcx:cx.n=59){Q:PExit->S->Prop}(hq:Q (.normal) (S.mk [(0,.v (.agg (exL x))),(1,.v (scP s)),(2,.lp 2 0),(4,.lp 4 0),(13,.lp 2 3),(14,vL 7 (Ex.cs (exK x))),(15,.v (.ro (exL (kid x 0)) 0)),(16,.v (.agg (exL (kid x 0)))),(5,.lp 5 0),(17,.v (.agg (exL (kid x 0)))),(18,LV.full 7 [exL (kid x 0)]),(19,.v (.agg [pI 5,pI 0,.str nm0,.nilsl,.nilsl,.sl 7 [exL (kid x 0)],.nilsl])),(6,.lp 6 0),(20,.lp 2 4),(21,vL 10 (pmsC (exP x))),(22,vI6 ((exP x).length:Int)),(35,.v (.agg (exL x))),(36,vL 1 (nmsC (freeS x))),(37,vI6 ((freeS x).length:Int)),(38,vI6 ((i:Int)+1))] [(2,exV x),(4,vZ),(5,exV (kid x 0)),(6,[vI6 5,vI6 0,vS nm0,.v .nilsl,.uniq 9 1 (nmsC (lm1_f (exP x) [])),vL 7 [exL (kid x 0)],.uniq 66 8 (Bd.cs out)])] e)):PW prog cx (loopF f115 1) (lm2_I x s (i:Int) out e) Q:=
 pw mdE 59 [dt ((i:Int)<((freeS x).length:Int)),am ((0:Int)<=(i:Int)/\(i:Int)<((nmsC (freeS x)).length:Int)) qZ,xNm (freeS x) i hi,cl (@eFindT (s) (List.getD (freeS x) i nm0)),bf1 hx0,wr ((i:Int)+1)] [0,1,2,4,13,14,15,16,5,17,18,19,6,20,21,22,35,36,37,38] [2,4,5,6] hcx hq
theorem lm2_z1(hi:i=(freeS x).length)(hN:(freeS x).length<=1000000000)(hv:(out.length<=i))(cx:Cx)(hcx:cx.n=59){Q:PExit->S->Prop}(hq:Q (.exit 2) (S.mk [(0,.v (.agg (exL x))),(1,.v (scP s)),(2,.lp 2 0),(4,.lp 4 0),(13,.lp 2 3),(14,vL 7 (Ex.cs (exK x))),(15,.v (.ro (exL (kid x 0)) 0)),(16,.v (.agg (exL (kid x 0)))),(5,.lp 5 0),(17,.v (.agg (exL (kid x 0)))),(18,LV.full 7 [exL (kid x 0)]),(19,.v (.agg [pI 5,pI 0,.str nm0,.nilsl,.nilsl,.sl 7 [exL (kid x 0)],.nilsl])),(6,.lp 6 0),(20,.lp 2 4),(21,vL 10 (pmsC (exP x))),(22,vI6 ((exP x).length:Int)),(35,.v (.agg (exL x))),(36,vL 1 (nmsC (freeS x))),(37,vI6 ((freeS x).length:Int)),(38,vI6 (i:Int))] [(2,exV x),(4,vZ),(5,exV (kid x 0)),(6,[vI6 5,vI6 0,vS nm0,.v .nilsl,.uniq 9 1 (nmsC (lm1_f (exP x) [])),vL 7 [exL (kid x 0)],.uniq 66 8 (Bd.cs out)])] e)):PW prog cx (loopF f115 1) (lm2_I x s (i:Int) out e) Q:=
 pw mdE 59 [df ((i:Int)<((freeS x).length:Int))] [0,1,2,4,13,14,15,16,5,17,18,19,6,20,21,22,35,36,37,38] [2,4,5,6] hcx hq
end
def lm2_f(s:List Bd):List BA->(List Bd)->(List Bd)
 | [],out=>(out)
 | el::r,out=>(if fbO el s=true then lm2_f s r (out++[Bd.mk el (fbV el s)]) else lm2_f s r (out))
def lm2_q(x:Ex)(s:List Bd)(e:Ext)(p:(List Bd)):PExit × S:=(.exit 2,S.mk [(0,.v (.agg (exL x))),(1,.v (scP s)),(2,.lp 2 0),(4,.lp 4 0),(13,.lp 2 3),(14,vL 7 (Ex.cs (exK x))),(15,.v (.ro (exL (kid x 0)) 0)),(16,.v (.agg (exL (kid x 0)))),(5,.lp 5 0),(17,.v (.agg (exL (kid x 0)))),(18,LV.full 7 [exL (kid x 0)]),(19,.v (.agg [pI 5,pI 0,.str nm0,.nilsl,.nilsl,.sl 7 [exL (kid x 0)],.nilsl])),(6,.lp 6 0),(20,.lp 2 4),(21,vL 10 (pmsC (exP x))),(22,vI6 ((exP x).length:Int)),(35,.v (.agg (exL x))),(36,vL 1 (nmsC (freeS x))),(37,vI6 ((freeS x).length:Int))] [(2,exV x),(4,vZ),(5,exV (kid x 0)),(6,[vI6 5,vI6 0,vS nm0,.v .nilsl,.uniq 9 1 (nmsC (lm1_f (exP x) [])),vL 7 [exL (kid x 0)],.uniq 66 8 (Bd.cs p)])] e)
theorem lm2_lp(x:Ex)(s:List Bd)(h1:(exK x).length=1)(hp:(exP x).length<=1000000000)(hb:szE x<=100000000)(e:Ext)(hN:(freeS x).length<=1000000000)(i:Nat)(out:List Bd)(hi0:i<=(freeS x).length)(hv:(out.length<=i)):(Ob.loop 59 (loopF f115 1) (lm2_I x s (i:Int) out e) (lm2_q x s e (lm2_f s (List.drop i ((freeS x)))  out)).1 (lm2_q x s e (lm2_f s (List.drop i ((freeS x)))  out)).2).ok prog:=by
 refine Ob.loop_of (P:=prog) (α:={ zz:Nat × (List Bd) // zz.1<=(freeS x).length/\(fun (i:Nat) (out:List Bd)=>(out.length<=i)) zz.1 zz.2 }) (fun zz=>lm2_I x s (zz.1.1:Int) zz.1.2 e) (fun zz=>(freeS x).length - zz.1.1) (fun zz=>(lm2_q x s e (lm2_f s (List.drop zz.1.1 ((freeS x)))  zz.1.2))) ?_ ⟨(i,out),hi0,hv⟩
 clear hi0 hv
 clear out i
 rintro ⟨⟨i,out⟩,hi,hv⟩ cx hcx
 simp only at hi hv ⊢
 rcases Nat.lt_or_ge i ((freeS x).length) with hlt | hge
 ·have hd:=drop_at0 hlt
  by_cases h0:fbO (List.getD (freeS x) i nm0) s=true
  ·have hr:(lm2_f s (List.drop i ((freeS x)))  out)=(lm2_f s (List.drop (i+1) ((freeS x)))  (out++[Bd.mk (List.getD (freeS x) i nm0) (fbV (List.getD (freeS x) i nm0) s)])):=by rw [hd,lm2_f,iP h0]
   exact lm2_b1 x s h1 hp hb i out e hlt hN hv h0 cx hcx (.inl ⟨rfl,⟨((i+1),(out++[Bd.mk (List.getD (freeS x) i nm0) (fbV (List.getD (freeS x) i nm0) s)])),by simp only; omega,(by first | assumption | omega | (simp only [List.length_append,List.length_cons,List.length_nil] at *; omega) | simp_all)⟩,by simp only; omega,⟨⟨W,W,W,W,W,W,W,W,W,W,W,W,W,W,W,W,W,W,W,W,tV⟩,⟨Ws,Ws,Ws,⟨W,W,W,W,W,W,(.inl (by first | (simp only [nmsC_snoc,Ex.cs_snoc,Vl.cs_snoc,Bd.cs_snoc,Bd.cs_snoc2]; done) | (simp only [nmsC_snoc,Ex.cs_snoc,Vl.cs_snoc,Bd.cs_snoc,Bd.cs_snoc2]; rfl))),tV⟩,tV⟩,rfl⟩,by simp only; rw [hr]⟩)
  ·have hr:(lm2_f s (List.drop i ((freeS x)))  out)=(lm2_f s (List.drop (i+1) ((freeS x)))  (out)):=by rw [hd,lm2_f,iN h0]
   exact lm2_b2 x s h1 hp hb i out e hlt hN hv (bFT h0) cx hcx (.inl ⟨rfl,⟨((i+1),(out)),by simp only; omega,(by first | assumption | omega | (simp only [List.length_append,List.length_cons,List.length_nil] at *; omega) | simp_all)⟩,by simp only; omega,xr,by simp only; rw [hr]⟩)
 ·have he:i=(freeS x).length:=by omega
  subst he
  have hr:(lm2_f s (List.drop ((freeS x).length) ((freeS x)))  out)=(out):=by rw [List.drop_length,lm2_f]
  refine lm2_z1 x s h1 hp hb ((freeS x).length) out e rfl hN hv  cx hcx (.inr ?_)
  rw [hr]
  exact ⟨by simp,rfl,xr⟩
theorem lm2(x:Ex)(s:List Bd)(h1:(exK x).length=1)(hp:(exP x).length<=1000000000)(hb:szE x<=100000000)(out:List Bd)(e:Ext)(hN:(freeS x).length<=1000000000)(hv:List.length out<=0):(Ob.loop 59 (loopF f115 1) (lm2_I x s 0 out e) (lm2_q x s e (lm2_f s ((freeS x))  out)).1 (lm2_q x s e (lm2_f s ((freeS x))  out)).2).ok prog:=by
 have:=lm2_lp x s h1 hp hb e hN 0 out (Nat.zero_le _) hv
 rw [List.drop_zero] at this
 exact this
theorem eLam(x:Ex)(s:List Bd)(h1:(exK x).length=1)(hp:(exP x).length<=1000000000)(hb:szE x<=100000000)(hf:(freeS x).length<=1000000000):Pu 115 [.agg (exL x),scP s] (rA [pI 5,pI 0,.str nm0,.sl 7 [],.sl 1 (nmsC (lm1_f (exP x) [])),.sl 7 [exL (kid x 0)],.sl 8 (Bd.cs (lm2_f s (freeS x) []))]):=
 Ob.pur_wk (Wk.a (kr (kr (kr (kn 7 (WkL.r _)))))) (pu mdE (fun e=>[am ((0:Int)<=0/\0<((Ex.cs (exK x)).length:Int)) qZ,xEx (exK x) 0,sl (pmsC_len (exP x)),lp (S.mk [(0,.v (.agg (exL x))),(1,.v (scP s)),(2,.lp 2 0),(4,.lp 4 0),(13,.lp 2 3),(14,vL 7 (Ex.cs (exK x))),(15,.v (.ro (exL (kid x 0)) 0)),(16,.v (.agg (exL (kid x 0)))),(5,.lp 5 0),(17,.v (.agg (exL (kid x 0)))),(18,LV.full 7 [exL (kid x 0)]),(19,.v (.agg [pI 5,pI 0,.str nm0,.nilsl,.nilsl,.sl 7 [exL (kid x 0)],.nilsl])),(6,.lp 6 0),(20,.lp 2 4),(21,vL 10 (pmsC (exP x))),(22,vI6 ((exP x).length:Int)),(23,vI6 0)] [(2,exV x),(4,vZ),(5,exV (kid x 0)),(6,[vI6 5,vI6 0,vS nm0,.v .nilsl,.v .nilsl,vL 7 [exL (kid x 0)],.v .nilsl])] e) (@lm1 (x) (s) h1 ([]) (e) hp qZ) ⟨⟨W,W,W,W,W,W,W,W,W,W,W,W,W,W,W,W,W,tV⟩,⟨⟨W,W,W,W,W,W,W,tV⟩,⟨W,W,W,W,W,W,W,tV⟩,⟨W,W,W,W,W,W,W,tV⟩,⟨W,W,Wq,W,Wq,W,W,tV⟩,tV⟩,rfl⟩,cl (@sFree (x) hb),sl (nmsC_len (freeS x)),lp (S.mk [(0,.v (.agg (exL x))),(1,.v (scP s)),(2,.lp 2 0),(4,.lp 4 0),(13,.lp 2 3),(14,vL 7 (Ex.cs (exK x))),(15,.v (.ro (exL (kid x 0)) 0)),(16,.v (.agg (exL (kid x 0)))),(5,.lp 5 0),(17,.v (.agg (exL (kid x 0)))),(18,LV.full 7 [exL (kid x 0)]),(19,.v (.agg [pI 5,pI 0,.str nm0,.nilsl,.nilsl,.sl 7 [exL (kid x 0)],.nilsl])),(6,.lp 6 0),(20,.lp 2 4),(21,vL 10 (pmsC (exP x))),(22,vI6 ((exP x).length:Int)),(35,.v (.agg (exL x))),(36,vL 1 (nmsC (freeS x))),(37,vI6 ((freeS x).length:Int)),(38,vI6 0)] [(2,exV x),(4,vZ),(5,exV (kid x 0)),(6,[vI6 5,vI6 0,vS nm0,.v .nilsl,.uniq 9 1 (nmsC (lm1_f (exP x) [])),vL 7 [exL (kid x 0)],.v .nilsl])] e) (@lm2 (x) (s) h1 hp hb ([]) (e) hf qZ) ⟨⟨W,W,W,W,W,W,W,W,W,W,W,W,W,W,W,W,W,W,W,W,tV⟩,⟨⟨W,W,W,W,W,W,W,tV⟩,⟨W,W,W,W,W,W,W,tV⟩,⟨W,W,W,W,W,W,W,tV⟩,⟨W,W,W,W,W,W,Wq,tV⟩,tV⟩,rfl⟩]) func115)
theorem lm1_eq:∀ (ps:List Pm) (out:List BA),lm1_f ps out=out++ps.map pmNm
 | [],out=>by simp [lm1_f]
 | p::r,out=>by simp [lm1_f,lm1_eq r]
theorem lm2_eq(s:List Bd):∀ (fs:List BA) (out:List Bd),lm2_f s fs out=out++lamB s fs
 | [],out=>by simp [lm2_f,lamB]
 | n::r,out=>by
  rw [lm2_f,lamB]
  unfold fbO fbV
  cases h:findB n s with
  | some v=>simp [lm2_eq s r]
  | none=>simp [lm2_eq s r]
theorem eLamT(x:Ex)(s:List Bd)(h1:(exK x).length=1)(hb:szE x<=100000000):Pu 115 [.agg (exL x),scP s] (.ret (.agg (vlL (lamV freeS s x)))):=by
 have h2:=szE_eq x
 have h3:=pms_bulk (exP x)
 have h4:=freeS_len x
 have:=eLam x s h1 oM hb oM
 rw [lm1_eq,lm2_eq] at this
 simp only [List.nil_append] at this
 have e1:Ex.cs [(exK x).getD 0 default]=[exL ((exK x).getD 0 default)]:=by simp [Ex.cs_eq]
 simp only [vlL,lamV,vlO,vlN,vlNm,vlK,vlP,vlB,vlBd,e1]
 exact this
section
variable (cK:C5) (l:List Df) (fu st:Int) (wh:BA) (name:BA) (s:List Bd)
include cK l fu st wh name s
theorem eVarB(v:Vl)(h:findB name s=some v):Ef 112 [.xp 1 0,.str name,scP s] (EE cK l fu st wh) (rA (vlL v)) (EE cK l fu st wh):=
 ef mdE [cl (@eFind_1 (s) (name) (v) h),bt true] func112
theorem eVarU(h0:l.length<=1000000000)(h:findB name s=none)(h2:findD name l=none):Ef 112 [.xp 1 0,.str name,scP s] (EE cK l fu st wh) (.panic (stopP 19)) (EE cK l fu st wh):=
 ef mdE [cl (@eFind_2 (s) (name) h),bf false,ce (@eDefn_2 cK (l) (fu) (st) (wh) (name) h0 h2)] func112
end
theorem eVarF(cK:C5)(l:List Df)(fu st:Int)(wh:BA)(name:BA)(s:List Bd)(h0:l.length<=1000000000)(h:findB name s=none)(d:Df)(h2:findD name l=some d)(h3:((dfP d).length:Int)>0):Ef 112 [.xp 1 0,.str name,scP s] (EE cK l fu st wh) (rA (v4 5 0 (dfNm d) [])) (EE cK l fu st wh):=
 Ob.eff_wk (Wk.a (kr (kr (kr (kn 7 (kn 1 (kn 7 (kn 8 (WkL.r _))))))))) (ef mdE [cl (@eFind_2 (s) (name) h),bf false,ce (@eDefn_1 cK (l) (fu) (st) (wh) (name) h0 (d) h2),sl (nmsC_len (dfP d)),dt1 h3] func112)
section
variable (cK:C5) (l:List Df) (fu st:Int) (wh:BA) (name:BA) (s:List Bd) (h0:l.length<=1000000000) (h:findB name s=none) (d:Df) (h2:findD name l=some d) (h3:¬((dfP d).length:Int)>0)
include cK l fu st wh name s h0 h d h2 h3
theorem eVarT(v:Vl)(st':Int)(hv:fOk cK l fu 47 [.xp 1 0,.agg (dfL d)] st wh v st'):Ef 112 [.xp 1 0,.str name,scP s] (EE cK l fu st wh) (rA (vlL v)) (EE cK l fu st' wh):=
 ef mdE [cl (@eFind_2 (s) (name) h),bf false,ce (@eDefn_1 cK (l) (fu) (st) (wh) (name) h0 (d) h2),sl (nmsC_len (dfP d)),df1 h3,ce hv] func112
theorem eVarE(k st':Int)(wh':BA)(hv:fEr cK l fu 47 [.xp 1 0,.agg (dfL d)] st wh k st' wh'):Ef 112 [.xp 1 0,.str name,scP s] (EE cK l fu st wh) (.panic (stopP k)) (EE cK l fu st' wh'):=
 ef mdE [cl (@eFind_2 (s) (name) h),bf false,ce (@eDefn_1 cK (l) (fu) (st) (wh) (name) h0 (d) h2),sl (nmsC_len (dfP d)),df1 h3,ce hv] func112
end
section
variable (cK:C5) (l:List Df) (fu st:Int) (wh:BA) (f:Vl) (args:List Vl) (h0:l.length<=1000000000) (h:vlO f=5) (h1:¬vlNm f=nm0) (d:Df) (h2:findD (vlNm f) l=some d)
include cK l fu st wh f args h0 h h1 d h2
theorem eAppT2(v:Vl)(st':Int)(hv:fOk cK l fu 53 [.xp 1 0,.agg (dfL d),.sl 7 (Vl.cs args)] st wh v st'):Ef 114 [.xp 1 0,.agg (vlL f),.sl 7 (Vl.cs args)] (EE cK l fu st wh) (rA (vlL v)) (EE cK l fu st' wh):=
 ef mdE [cl (@eNeed_2 (vlO f==5) sA),bt (!ByteArray.toList (vlNm f)==ByteArray.toList nm0) (bnT (bsF h1)),ce (@eDefn_1 cK (l) (fu) (st) (wh) (vlNm f) h0 (d) h2),ce hv] func114
theorem eAppE2(k st':Int)(wh':BA)(hv:fEr cK l fu 53 [.xp 1 0,.agg (dfL d),.sl 7 (Vl.cs args)] st wh k st' wh'):Ef 114 [.xp 1 0,.agg (vlL f),.sl 7 (Vl.cs args)] (EE cK l fu st wh) (.panic (stopP k)) (EE cK l fu st' wh'):=
 ef mdE [cl (@eNeed_2 (vlO f==5) sA),bt (!ByteArray.toList (vlNm f)==ByteArray.toList nm0) (bnT (bsF h1)),ce (@eDefn_1 cK (l) (fu) (st) (wh) (vlNm f) h0 (d) h2),ce hv] func114
end
section
variable (cK:C5) (l:List Df) (fu st:Int) (wh:BA) (x:Ex) (s:List Bd)
include cK l fu st wh x s
theorem xR(hr:eRight_r0 (exO x) (exK x)=false):Ef 108 [.agg (exL x),scP s,.ro [.xp 1 0] 0,.xp 3 0] (EE cK l fu st wh) (.panic (stopP 19)) (EE cK l fu st wh):=
 ef mdE [cl (eX @eRight x),cl (@eNeed_1 (eRight_r0 (exO x) (exK x)) hr)] func108
theorem xIo(hr:eRight_r0 (exO x) (exK x)=true)(h1:exO x=1)(h2:eInteger_s (exN x) true=true):Ef 108 [.agg (exL x),scP s,.ro [.xp 1 0] 0,.xp 3 0] (EE cK l fu st wh) (rA (v4 1 (exN x) nm0 [])) (EE cK l fu st wh):=
 ef mdE [cl (eX @eRight x),cl (@eNeed_2 (eRight_r0 (exO x) (exK x)) hr),et1 h1,cl (@eInteger_t (exN x) (true) h2)] func108
theorem xIe(hr:eRight_r0 (exO x) (exK x)=true)(h1:exO x=1)(h2:eInteger_s (exN x) true=false):Ef 108 [.agg (exL x),scP s,.ro [.xp 1 0] 0,.xp 3 0] (EE cK l fu st wh) (.panic (stopP 25)) (EE cK l fu st wh):=
 ef mdE [cl (eX @eRight x),cl (@eNeed_2 (eRight_r0 (exO x) (exK x)) hr),et1 h1,cl (@eInteger_f (exN x) (true) h2)] func108
theorem xB(hr:eRight_r0 (exO x) (exK x)=true)(h1:exO x=2):Ef 108 [.agg (exL x),scP s,.ro [.xp 1 0] 0,.xp 3 0] (EE cK l fu st wh) (rA (v4 2 (eTruth_r0 (exN x != 0)) nm0 [])) (EE cK l fu st wh):=
 ef mdE [cl (eX @eRight x),cl (@eNeed_2 (eRight_r0 (exO x) (exK x)) hr),en (exO x) 1,et1 h1,cl (@eTruth (exN x != 0))] func108
theorem xVo(hr:eRight_r0 (exO x) (exK x)=true)(h1:exO x=3)(u:Vl)(st2:Int)(hv:fOk cK l fu 112 [.xp 1 0,.str (exNm x),scP s] st wh u st2):Ef 108 [.agg (exL x),scP s,.ro [.xp 1 0] 0,.xp 3 0] (EE cK l fu st wh) (rA (vlL u)) (EE cK l fu st2 wh):=
 ef mdE [cl (eX @eRight x),cl (@eNeed_2 (eRight_r0 (exO x) (exK x)) hr),en (exO x) 1,en (exO x) 2,et1 h1,ce hv] func108
theorem xVe(hr:eRight_r0 (exO x) (exK x)=true)(h1:exO x=3)(k st2:Int)(wh2:BA)(hv:fEr cK l fu 112 [.xp 1 0,.str (exNm x),scP s] st wh k st2 wh2):Ef 108 [.agg (exL x),scP s,.ro [.xp 1 0] 0,.xp 3 0] (EE cK l fu st wh) (.panic (stopP k)) (EE cK l fu st2 wh2):=
 ef mdE [cl (eX @eRight x),cl (@eNeed_2 (eRight_r0 (exO x) (exK x)) hr),en (exO x) 1,en (exO x) 2,et1 h1,ce hv] func108
theorem xCe(hr:eRight_r0 (exO x) (exK x)=true)(h1:exO x=4)(hk:(exK x).length<=1000000000)(k st2:Int)(wh2:BA)(hl:LiEr cK l fu s wh (exK x) st k st2 wh2):Ef 108 [.agg (exL x),scP s,.ro [.xp 1 0] 0,.xp 3 0] (EE cK l fu st wh) (.panic (stopP k)) (EE cK l fu st2 wh2):=
 ef mdE [cl (eX @eRight x),cl (@eNeed_2 (eRight_r0 (exO x) (exK x)) hr),en (exO x) 1,en (exO x) 2,en (exO x) 3,et1 h1,ce (@eListE cK (l) (fu) (st) (wh) (exK x) (s) hk (k) (st2) (wh2) hl)] func108
end
theorem xCo(cK:C5)(l:List Df)(fu st:Int)(wh:BA)(x:Ex)(s:List Bd)(hr:eRight_r0 (exO x) (exK x)=true)(h1:exO x=4)(hk:(exK x).length<=1000000000)(vs:List Vl)(st1:Int)(hl:LiOk cK l fu s wh (exK x) st vs st1):Ef 108 [.agg (exL x),scP s,.ro [.xp 1 0] 0,.xp 3 0] (EE cK l fu st wh) (rA (v4 3 0 (exNm x) (Vl.cs vs))) (EE cK l fu st1 wh):=
 Ob.eff_wk (Wk.a (kr (kr (kr (kr (kn 1 (kn 7 (kn 8 (WkL.r _))))))))) (ef mdE [cl (eX @eRight x),cl (@eNeed_2 (eRight_r0 (exO x) (exK x)) hr),en (exO x) 1,en (exO x) 2,en (exO x) 3,et1 h1,ce (@eListT cK (l) (fu) (st) (wh) (exK x) (s) hk (vs) (st1) hl)] func108)
section
variable (cK:C5) (l:List Df) (fu st:Int) (wh:BA) (x:Ex) (s:List Bd) (hr:eRight_r0 (exO x) (exK x)=true) (h1:exO x=5) (hk:(exK x).length<=1000000000)
include cK l fu st wh x s hr h1 hk
theorem xKe(k st2:Int)(wh2:BA)(hl:LiEr cK l fu s wh (exK x) st k st2 wh2):Ef 108 [.agg (exL x),scP s,.ro [.xp 1 0] 0,.xp 3 0] (EE cK l fu st wh) (.panic (stopP k)) (EE cK l fu st2 wh2):=
 ef mdE [cl (eX @eRight x),cl (@eNeed_2 (eRight_r0 (exO x) (exK x)) hr),en (exO x) 1,en (exO x) 2,en (exO x) 3,en (exO x) 4,et1 h1,ce (@eListE cK (l) (fu) (st) (wh) (exK x) (s) hk (k) (st2) (wh2) hl)] func108
theorem xKao(vs:List Vl)(st1:Int)(hl:LiOk cK l fu s wh (exK x) st vs st1)(f:Vl)(h2:findB (exNm x) s=some f)(u:Vl)(st2:Int)(hv:fOk cK l fu 114 [.xp 1 0,.agg (vlL f),.sl 7 (Vl.cs vs)] st1 wh u st2):Ef 108 [.agg (exL x),scP s,.ro [.xp 1 0] 0,.xp 3 0] (EE cK l fu st wh) (rA (vlL u)) (EE cK l fu st2 wh):=
 ef mdE [cl (eX @eRight x),cl (@eNeed_2 (eRight_r0 (exO x) (exK x)) hr),en (exO x) 1,en (exO x) 2,en (exO x) 3,en (exO x) 4,et1 h1,ce (@eListT cK (l) (fu) (st) (wh) (exK x) (s) hk (vs) (st1) hl),cl (@eFind_1 (s) (exNm x) (f) h2),bt true,ce hv] func108
theorem xKae(vs:List Vl)(st1:Int)(hl:LiOk cK l fu s wh (exK x) st vs st1)(f:Vl)(h2:findB (exNm x) s=some f)(k st2:Int)(wh2:BA)(hv:fEr cK l fu 114 [.xp 1 0,.agg (vlL f),.sl 7 (Vl.cs vs)] st1 wh k st2 wh2):Ef 108 [.agg (exL x),scP s,.ro [.xp 1 0] 0,.xp 3 0] (EE cK l fu st wh) (.panic (stopP k)) (EE cK l fu st2 wh2):=
 ef mdE [cl (eX @eRight x),cl (@eNeed_2 (eRight_r0 (exO x) (exK x)) hr),en (exO x) 1,en (exO x) 2,en (exO x) 3,en (exO x) 4,et1 h1,ce (@eListT cK (l) (fu) (st) (wh) (exK x) (s) hk (vs) (st1) hl),cl (@eFind_1 (s) (exNm x) (f) h2),bt true,ce hv] func108
theorem xKu(h0:l.length<=1000000000)(vs:List Vl)(st1:Int)(hl:LiOk cK l fu s wh (exK x) st vs st1)(h2:findB (exNm x) s=none)(h3:findD (exNm x) l=none):Ef 108 [.agg (exL x),scP s,.ro [.xp 1 0] 0,.xp 3 0] (EE cK l fu st wh) (.panic (stopP 19)) (EE cK l fu st1 wh):=
 ef mdE [cl (eX @eRight x),cl (@eNeed_2 (eRight_r0 (exO x) (exK x)) hr),en (exO x) 1,en (exO x) 2,en (exO x) 3,en (exO x) 4,et1 h1,ce (@eListT cK (l) (fu) (st) (wh) (exK x) (s) hk (vs) (st1) hl),cl (@eFind_2 (s) (exNm x) h2),bf false,ce (@eDefn_2 cK (l) (fu) (st1) (wh) (exNm x) h0 h3)] func108
theorem xKco(h0:l.length<=1000000000)(vs:List Vl)(st1:Int)(hl:LiOk cK l fu s wh (exK x) st vs st1)(h2:findB (exNm x) s=none)(d:Df)(h3:findD (exNm x) l=some d)(u:Vl)(st2:Int)(hv:fOk cK l fu 53 [.xp 1 0,.agg (dfL d),.sl 7 (Vl.cs vs)] st1 wh u st2):Ef 108 [.agg (exL x),scP s,.ro [.xp 1 0] 0,.xp 3 0] (EE cK l fu st wh) (rA (vlL u)) (EE cK l fu st2 wh):=
 ef mdE [cl (eX @eRight x),cl (@eNeed_2 (eRight_r0 (exO x) (exK x)) hr),en (exO x) 1,en (exO x) 2,en (exO x) 3,en (exO x) 4,et1 h1,ce (@eListT cK (l) (fu) (st) (wh) (exK x) (s) hk (vs) (st1) hl),cl (@eFind_2 (s) (exNm x) h2),bf false,ce (@eDefn_1 cK (l) (fu) (st1) (wh) (exNm x) h0 (d) h3),ce hv] func108
theorem xKce(h0:l.length<=1000000000)(vs:List Vl)(st1:Int)(hl:LiOk cK l fu s wh (exK x) st vs st1)(h2:findB (exNm x) s=none)(d:Df)(h3:findD (exNm x) l=some d)(k st2:Int)(wh2:BA)(hv:fEr cK l fu 53 [.xp 1 0,.agg (dfL d),.sl 7 (Vl.cs vs)] st1 wh k st2 wh2):Ef 108 [.agg (exL x),scP s,.ro [.xp 1 0] 0,.xp 3 0] (EE cK l fu st wh) (.panic (stopP k)) (EE cK l fu st2 wh2):=
 ef mdE [cl (eX @eRight x),cl (@eNeed_2 (eRight_r0 (exO x) (exK x)) hr),en (exO x) 1,en (exO x) 2,en (exO x) 3,en (exO x) 4,et1 h1,ce (@eListT cK (l) (fu) (st) (wh) (exK x) (s) hk (vs) (st1) hl),cl (@eFind_2 (s) (exNm x) h2),bf false,ce (@eDefn_1 cK (l) (fu) (st1) (wh) (exNm x) h0 (d) h3),ce hv] func108
end
theorem xL(cK:C5)(l:List Df)(fu st:Int)(wh:BA)(x:Ex)(s:List Bd)(hr:eRight_r0 (exO x) (exK x)=true)(h1:exO x=6)(hk:(exK x).length=1)(hb:szE x<=100000000):Ef 108 [.agg (exL x),scP s,.ro [.xp 1 0] 0,.xp 3 0] (EE cK l fu st wh) (rA [pI 5,pI 0,.str (vlNm (lamV freeS s x)),.sl 7 [],.sl 1 (nmsC (vlP (lamV freeS s x))),.sl 7 [Ex.c (kid x 0)],.sl 8 (Bd.cs (vlBd (lamV freeS s x)))]) (EE cK l fu st wh):=
 ef mdE [cl (eX @eRight x),cl (@eNeed_2 (eRight_r0 (exO x) (exK x)) hr),en (exO x) 1,en (exO x) 2,en (exO x) 3,en (exO x) 4,en (exO x) 5,et1 h1,cl (@eLamT (x) (s) hk hb)] func108
theorem xTe(cK:C5)(l:List Df)(fu st:Int)(wh:BA)(x:Ex)(s:List Bd)(hr:eRight_r0 (exO x) (exK x)=true)(h1:exO x=7)(hk:(exK x).length=2)(k st2:Int)(wh2:BA)(hv:evEr cK l fu s ((exK x).getD 0 default) st wh k st2 wh2):Ef 108 [.agg (exL x),scP s,.ro [.xp 1 0] 0,.xp 3 0] (EE cK l fu st wh) (.panic (stopP k)) (EE cK l fu st2 wh2):=
 Ob.eff_of (mdE) 50 [Ans.pur (rB (eRight_r0 (exO x) (exK x))),Ans.pur (.ret (.tup [])),Ans.bit false,Ans.bit false,Ans.bit false,Ans.bit false,Ans.bit false,Ans.bit false,Ans.bit true,Ans.as_ (.v (.ro (exL (kid x 1)) 0)),Ans.as_ (.v (.ro (exL (kid x 0)) 0)),Ans.eff (.panic (stopP k)) (EE cK l fu st2 wh2)] (sc':=[]) (l:=[Ob.pur 109 [.agg (exL x)] (rB (eRight_r0 (exO x) (exK x))),Ob.pur 46 [.bool (eRight_r0 (exO x) (exK x))] (.ret (.tup [])),Ob.bit (exO x==1) false,Ob.bit (exO x==2) false,Ob.bit (exO x==3) false,Ob.bit (exO x==4) false,Ob.bit (exO x==5) false,Ob.bit (exO x==6) false,Ob.bit (exO x==7) true,Ob.bit (decide ((0:Int)<=1/\1<((Ex.cs (exK x)).length:Int))) true,Ob.eqv (.v (.ro (List.getD (Ex.cs (exK x)) 1 []) 0)) (.v (.ro (exL (kid x 1)) 0)),Ob.bit (decide ((0:Int)<=0/\0<((Ex.cs (exK x)).length:Int))) true,Ob.eqv (.v (.ro (List.getD (Ex.cs (exK x)) 0 []) 0)) (.v (.ro (exL (kid x 0)) 0)),Ob.eff 108 [.agg (exL (kid x 0)),scP s,.ro [.xp 1 0] 0,.xp 3 0] (EE cK l fu st wh) (.panic (stopP k)) (EE cK l fu st2 wh2),Ob.eqv (.v fnE) (.v fnE),Ob.eqv (.v fnE) (.v fnE)]) mixed func108 kR kR ⟨(eX @eRight x),(@eNeed_2 (eRight_r0 (exO x) (exK x)) hr),(ob_bit (beF oM)),(ob_bit (beF oM)),(ob_bit (beF oM)),(ob_bit (beF oM)),(ob_bit (beF oM)),(ob_bit (beF oM)),(ob_bit (beT h1)),(ob_bit (dT qZ)),(ob_eqv (by rw [@Ex.cs_at (exK x) (1) oM]; try rfl)),(ob_bit (dT qZ)),(ob_eqv (by rw [@Ex.cs_at (exK x) (0) oM]; try rfl)),(@hv),(ob_eqv rF),(ob_eqv rF),tV⟩
theorem xTo0(cK:C5)(l:List Df)(fu st:Int)(wh:BA)(x:Ex)(hr:eRight_r0 (exO x) (exK x)=true)(h1:exO x=7)(hk:(exK x).length=2)(v:Vl)(st1:Int)(hv:evOk cK l fu [] ((exK x).getD 0 default) st wh v st1)(u:Vl)(st2:Int)(hw:evOk cK l fu (.mk (exNm x) v::[]) ((exK x).getD 1 default) st1 wh u st2):Ef 108 [.agg (exL x),scP [],.ro [.xp 1 0] 0,.xp 3 0] (EE cK l fu st wh) (rA (vlL u)) (EE cK l fu st2 wh):=
 Ob.eff_of (mdE) 50 [Ans.pur (rB (eRight_r0 (exO x) (exK x))),Ans.pur (.ret (.tup [])),Ans.bit false,Ans.bit false,Ans.bit false,Ans.bit false,Ans.bit false,Ans.bit false,Ans.bit true,Ans.as_ (.v (.ro (exL (kid x 1)) 0)),Ans.as_ (.v (.ro (exL (kid x 0)) 0)),Ans.eff (rA (vlL v)) (EE cK l fu st1 wh),Ans.eff (rA (vlL u)) (EE cK l fu st2 wh)] (sc':=[]) (l:=[Ob.pur 109 [.agg (exL x)] (rB (eRight_r0 (exO x) (exK x))),Ob.pur 46 [.bool (eRight_r0 (exO x) (exK x))] (.ret (.tup [])),Ob.bit (exO x==1) false,Ob.bit (exO x==2) false,Ob.bit (exO x==3) false,Ob.bit (exO x==4) false,Ob.bit (exO x==5) false,Ob.bit (exO x==6) false,Ob.bit (exO x==7) true,Ob.bit (decide ((0:Int)<=1/\1<((Ex.cs (exK x)).length:Int))) true,Ob.eqv (.v (.ro (List.getD (Ex.cs (exK x)) 1 []) 0)) (.v (.ro (exL (kid x 1)) 0)),Ob.bit (decide ((0:Int)<=0/\0<((Ex.cs (exK x)).length:Int))) true,Ob.eqv (.v (.ro (List.getD (Ex.cs (exK x)) 0 []) 0)) (.v (.ro (exL (kid x 0)) 0)),Ob.eff 108 [.agg (exL (kid x 0)),.nilp,.ro [.xp 1 0] 0,.xp 3 0] (EE cK l fu st wh) (rA (vlL v)) (EE cK l fu st1 wh),Ob.eff 108 [.agg (exL (kid x 1)),.ro [.str (exNm x),pI (vlO v),pI (vlN v),.str (vlNm v),.sl 7 (Vl.cs (vlK v)),.sl 1 (nmsC (vlP v)),.sl 7 (Ex.cs (vlB v)),.sl 8 (Bd.cs (vlBd v)),.nilp] 0,.ro [.xp 1 0] 0,.xp 3 0] (EE cK l fu st1 wh) (rA (vlL u)) (EE cK l fu st2 wh),Ob.eqv (.v fnE) (.v fnE),Ob.eqv (.v fnE) (.v fnE),Ob.eqv (.v fnE) (.v fnE),Ob.eqv (.v fnE) (.v fnE),Ob.eqv (.v fnE) (.v fnE),Ob.eqv (.v fnE) (.v fnE)]) mixed func108 kR kR ⟨(eX @eRight x),(@eNeed_2 (eRight_r0 (exO x) (exK x)) hr),(ob_bit (beF oM)),(ob_bit (beF oM)),(ob_bit (beF oM)),(ob_bit (beF oM)),(ob_bit (beF oM)),(ob_bit (beF oM)),(ob_bit (beT h1)),(ob_bit (dT qZ)),(ob_eqv (by rw [@Ex.cs_at (exK x) (1) oM]; try rfl)),(ob_bit (dT qZ)),(ob_eqv (by rw [@Ex.cs_at (exK x) (0) oM]; try rfl)),(@hv),(@hw),(ob_eqv rF),(ob_eqv rF),(ob_eqv rF),(ob_eqv rF),(ob_eqv rF),(ob_eqv rF),tV⟩
theorem xTf0(cK:C5)(l:List Df)(fu st:Int)(wh:BA)(x:Ex)(hr:eRight_r0 (exO x) (exK x)=true)(h1:exO x=7)(hk:(exK x).length=2)(v:Vl)(st1:Int)(hv:evOk cK l fu [] ((exK x).getD 0 default) st wh v st1)(k st2:Int)(wh2:BA)(hw:evEr cK l fu (.mk (exNm x) v::[]) ((exK x).getD 1 default) st1 wh k st2 wh2):Ef 108 [.agg (exL x),scP [],.ro [.xp 1 0] 0,.xp 3 0] (EE cK l fu st wh) (.panic (stopP k)) (EE cK l fu st2 wh2):=
 Ob.eff_of (mdE) 50 [Ans.pur (rB (eRight_r0 (exO x) (exK x))),Ans.pur (.ret (.tup [])),Ans.bit false,Ans.bit false,Ans.bit false,Ans.bit false,Ans.bit false,Ans.bit false,Ans.bit true,Ans.as_ (.v (.ro (exL (kid x 1)) 0)),Ans.as_ (.v (.ro (exL (kid x 0)) 0)),Ans.eff (rA (vlL v)) (EE cK l fu st1 wh),Ans.eff (.panic (stopP k)) (EE cK l fu st2 wh2)] (sc':=[]) (l:=[Ob.pur 109 [.agg (exL x)] (rB (eRight_r0 (exO x) (exK x))),Ob.pur 46 [.bool (eRight_r0 (exO x) (exK x))] (.ret (.tup [])),Ob.bit (exO x==1) false,Ob.bit (exO x==2) false,Ob.bit (exO x==3) false,Ob.bit (exO x==4) false,Ob.bit (exO x==5) false,Ob.bit (exO x==6) false,Ob.bit (exO x==7) true,Ob.bit (decide ((0:Int)<=1/\1<((Ex.cs (exK x)).length:Int))) true,Ob.eqv (.v (.ro (List.getD (Ex.cs (exK x)) 1 []) 0)) (.v (.ro (exL (kid x 1)) 0)),Ob.bit (decide ((0:Int)<=0/\0<((Ex.cs (exK x)).length:Int))) true,Ob.eqv (.v (.ro (List.getD (Ex.cs (exK x)) 0 []) 0)) (.v (.ro (exL (kid x 0)) 0)),Ob.eff 108 [.agg (exL (kid x 0)),.nilp,.ro [.xp 1 0] 0,.xp 3 0] (EE cK l fu st wh) (rA (vlL v)) (EE cK l fu st1 wh),Ob.eff 108 [.agg (exL (kid x 1)),.ro [.str (exNm x),pI (vlO v),pI (vlN v),.str (vlNm v),.sl 7 (Vl.cs (vlK v)),.sl 1 (nmsC (vlP v)),.sl 7 (Ex.cs (vlB v)),.sl 8 (Bd.cs (vlBd v)),.nilp] 0,.ro [.xp 1 0] 0,.xp 3 0] (EE cK l fu st1 wh) (.panic (stopP k)) (EE cK l fu st2 wh2),Ob.eqv (.v fnE) (.v fnE),Ob.eqv (.v fnE) (.v fnE),Ob.eqv (.v fnE) (.v fnE),Ob.eqv (.v fnE) (.v fnE)]) mixed func108 kR kR ⟨(eX @eRight x),(@eNeed_2 (eRight_r0 (exO x) (exK x)) hr),(ob_bit (beF oM)),(ob_bit (beF oM)),(ob_bit (beF oM)),(ob_bit (beF oM)),(ob_bit (beF oM)),(ob_bit (beF oM)),(ob_bit (beT h1)),(ob_bit (dT qZ)),(ob_eqv (by rw [@Ex.cs_at (exK x) (1) oM]; try rfl)),(ob_bit (dT qZ)),(ob_eqv (by rw [@Ex.cs_at (exK x) (0) oM]; try rfl)),(@hv),(@hw),(ob_eqv rF),(ob_eqv rF),(ob_eqv rF),(ob_eqv rF),tV⟩
theorem xTo1(cK:C5)(l:List Df)(fu st:Int)(wh:BA)(x:Ex)(y:Bd)(r:List Bd)(hr:eRight_r0 (exO x) (exK x)=true)(h1:exO x=7)(hk:(exK x).length=2)(v:Vl)(st1:Int)(hv:evOk cK l fu (y::r) ((exK x).getD 0 default) st wh v st1)(u:Vl)(st2:Int)(hw:evOk cK l fu (.mk (exNm x) v::(y::r)) ((exK x).getD 1 default) st1 wh u st2):Ef 108 [.agg (exL x),scP (y::r),.ro [.xp 1 0] 0,.xp 3 0] (EE cK l fu st wh) (rA (vlL u)) (EE cK l fu st2 wh):=
 Ob.eff_of (mdE) 50 [Ans.pur (rB (eRight_r0 (exO x) (exK x))),Ans.pur (.ret (.tup [])),Ans.bit false,Ans.bit false,Ans.bit false,Ans.bit false,Ans.bit false,Ans.bit false,Ans.bit true,Ans.as_ (.v (.ro (exL (kid x 1)) 0)),Ans.as_ (.v (.ro (exL (kid x 0)) 0)),Ans.eff (rA (vlL v)) (EE cK l fu st1 wh),Ans.eff (rA (vlL u)) (EE cK l fu st2 wh)] (sc':=[]) (l:=[Ob.pur 109 [.agg (exL x)] (rB (eRight_r0 (exO x) (exK x))),Ob.pur 46 [.bool (eRight_r0 (exO x) (exK x))] (.ret (.tup [])),Ob.bit (exO x==1) false,Ob.bit (exO x==2) false,Ob.bit (exO x==3) false,Ob.bit (exO x==4) false,Ob.bit (exO x==5) false,Ob.bit (exO x==6) false,Ob.bit (exO x==7) true,Ob.bit (decide ((0:Int)<=1/\1<((Ex.cs (exK x)).length:Int))) true,Ob.eqv (.v (.ro (List.getD (Ex.cs (exK x)) 1 []) 0)) (.v (.ro (exL (kid x 1)) 0)),Ob.bit (decide ((0:Int)<=0/\0<((Ex.cs (exK x)).length:Int))) true,Ob.eqv (.v (.ro (List.getD (Ex.cs (exK x)) 0 []) 0)) (.v (.ro (exL (kid x 0)) 0)),Ob.eff 108 [.agg (exL (kid x 0)),.ro [.str (bdNm y),pI (vlO (bdV y)),pI (vlN (bdV y)),.str (vlNm (bdV y)),.sl 7 (Vl.cs (vlK (bdV y))),.sl 1 (nmsC (vlP (bdV y))),.sl 7 (Ex.cs (vlB (bdV y))),.sl 8 (Bd.cs (vlBd (bdV y))),scP r] 0,.ro [.xp 1 0] 0,.xp 3 0] (EE cK l fu st wh) (rA (vlL v)) (EE cK l fu st1 wh),Ob.eff 108 [.agg (exL (kid x 1)),.ro [.str (exNm x),pI (vlO v),pI (vlN v),.str (vlNm v),.sl 7 (Vl.cs (vlK v)),.sl 1 (nmsC (vlP v)),.sl 7 (Ex.cs (vlB v)),.sl 8 (Bd.cs (vlBd v)),.ro [.str (bdNm y),pI (vlO (bdV y)),pI (vlN (bdV y)),.str (vlNm (bdV y)),.sl 7 (Vl.cs (vlK (bdV y))),.sl 1 (nmsC (vlP (bdV y))),.sl 7 (Ex.cs (vlB (bdV y))),.sl 8 (Bd.cs (vlBd (bdV y))),scP r] 0] 0,.ro [.xp 1 0] 0,.xp 3 0] (EE cK l fu st1 wh) (rA (vlL u)) (EE cK l fu st2 wh),Ob.eqv (.v fnE) (.v fnE),Ob.eqv (.v fnE) (.v fnE),Ob.eqv (.v fnE) (.v fnE),Ob.eqv (.v fnE) (.v fnE),Ob.eqv (.v fnE) (.v fnE),Ob.eqv (.v fnE) (.v fnE)]) mixed func108 kR kR ⟨(eX @eRight x),(@eNeed_2 (eRight_r0 (exO x) (exK x)) hr),(ob_bit (beF oM)),(ob_bit (beF oM)),(ob_bit (beF oM)),(ob_bit (beF oM)),(ob_bit (beF oM)),(ob_bit (beF oM)),(ob_bit (beT h1)),(ob_bit (dT qZ)),(ob_eqv (by rw [@Ex.cs_at (exK x) (1) oM]; try rfl)),(ob_bit (dT qZ)),(ob_eqv (by rw [@Ex.cs_at (exK x) (0) oM]; try rfl)),(@hv),(@hw),(ob_eqv rF),(ob_eqv rF),(ob_eqv rF),(ob_eqv rF),(ob_eqv rF),(ob_eqv rF),tV⟩
theorem xTf1(cK:C5)(l:List Df)(fu st:Int)(wh:BA)(x:Ex)(y:Bd)(r:List Bd)(hr:eRight_r0 (exO x) (exK x)=true)(h1:exO x=7)(hk:(exK x).length=2)(v:Vl)(st1:Int)(hv:evOk cK l fu (y::r) ((exK x).getD 0 default) st wh v st1)(k st2:Int)(wh2:BA)(hw:evEr cK l fu (.mk (exNm x) v::(y::r)) ((exK x).getD 1 default) st1 wh k st2 wh2):Ef 108 [.agg (exL x),scP (y::r),.ro [.xp 1 0] 0,.xp 3 0] (EE cK l fu st wh) (.panic (stopP k)) (EE cK l fu st2 wh2):=
 Ob.eff_of (mdE) 50 [Ans.pur (rB (eRight_r0 (exO x) (exK x))),Ans.pur (.ret (.tup [])),Ans.bit false,Ans.bit false,Ans.bit false,Ans.bit false,Ans.bit false,Ans.bit false,Ans.bit true,Ans.as_ (.v (.ro (exL (kid x 1)) 0)),Ans.as_ (.v (.ro (exL (kid x 0)) 0)),Ans.eff (rA (vlL v)) (EE cK l fu st1 wh),Ans.eff (.panic (stopP k)) (EE cK l fu st2 wh2)] (sc':=[]) (l:=[Ob.pur 109 [.agg (exL x)] (rB (eRight_r0 (exO x) (exK x))),Ob.pur 46 [.bool (eRight_r0 (exO x) (exK x))] (.ret (.tup [])),Ob.bit (exO x==1) false,Ob.bit (exO x==2) false,Ob.bit (exO x==3) false,Ob.bit (exO x==4) false,Ob.bit (exO x==5) false,Ob.bit (exO x==6) false,Ob.bit (exO x==7) true,Ob.bit (decide ((0:Int)<=1/\1<((Ex.cs (exK x)).length:Int))) true,Ob.eqv (.v (.ro (List.getD (Ex.cs (exK x)) 1 []) 0)) (.v (.ro (exL (kid x 1)) 0)),Ob.bit (decide ((0:Int)<=0/\0<((Ex.cs (exK x)).length:Int))) true,Ob.eqv (.v (.ro (List.getD (Ex.cs (exK x)) 0 []) 0)) (.v (.ro (exL (kid x 0)) 0)),Ob.eff 108 [.agg (exL (kid x 0)),.ro [.str (bdNm y),pI (vlO (bdV y)),pI (vlN (bdV y)),.str (vlNm (bdV y)),.sl 7 (Vl.cs (vlK (bdV y))),.sl 1 (nmsC (vlP (bdV y))),.sl 7 (Ex.cs (vlB (bdV y))),.sl 8 (Bd.cs (vlBd (bdV y))),scP r] 0,.ro [.xp 1 0] 0,.xp 3 0] (EE cK l fu st wh) (rA (vlL v)) (EE cK l fu st1 wh),Ob.eff 108 [.agg (exL (kid x 1)),.ro [.str (exNm x),pI (vlO v),pI (vlN v),.str (vlNm v),.sl 7 (Vl.cs (vlK v)),.sl 1 (nmsC (vlP v)),.sl 7 (Ex.cs (vlB v)),.sl 8 (Bd.cs (vlBd v)),.ro [.str (bdNm y),pI (vlO (bdV y)),pI (vlN (bdV y)),.str (vlNm (bdV y)),.sl 7 (Vl.cs (vlK (bdV y))),.sl 1 (nmsC (vlP (bdV y))),.sl 7 (Ex.cs (vlB (bdV y))),.sl 8 (Bd.cs (vlBd (bdV y))),scP r] 0] 0,.ro [.xp 1 0] 0,.xp 3 0] (EE cK l fu st1 wh) (.panic (stopP k)) (EE cK l fu st2 wh2),Ob.eqv (.v fnE) (.v fnE),Ob.eqv (.v fnE) (.v fnE),Ob.eqv (.v fnE) (.v fnE),Ob.eqv (.v fnE) (.v fnE)]) mixed func108 kR kR ⟨(eX @eRight x),(@eNeed_2 (eRight_r0 (exO x) (exK x)) hr),(ob_bit (beF oM)),(ob_bit (beF oM)),(ob_bit (beF oM)),(ob_bit (beF oM)),(ob_bit (beF oM)),(ob_bit (beF oM)),(ob_bit (beT h1)),(ob_bit (dT qZ)),(ob_eqv (by rw [@Ex.cs_at (exK x) (1) oM]; try rfl)),(ob_bit (dT qZ)),(ob_eqv (by rw [@Ex.cs_at (exK x) (0) oM]; try rfl)),(@hv),(@hw),(ob_eqv rF),(ob_eqv rF),(ob_eqv rF),(ob_eqv rF),tV⟩
section
variable (cK:C5) (l:List Df) (fu st:Int) (wh:BA) (x:Ex) (s:List Bd) (hr:eRight_r0 (exO x) (exK x)=true)
include cK l fu st wh x s hr
theorem xFe(h1:exO x=8)(hk:(exK x).length=3)(k st2:Int)(wh2:BA)(hv:evEr cK l fu s ((exK x).getD 0 default) st wh k st2 wh2):Ef 108 [.agg (exL x),scP s,.ro [.xp 1 0] 0,.xp 3 0] (EE cK l fu st wh) (.panic (stopP k)) (EE cK l fu st2 wh2):=
 ef mdE [cl (eX @eRight x),cl (@eNeed_2 (eRight_r0 (exO x) (exK x)) hr),en (exO x) 1,en (exO x) 2,en (exO x) 3,en (exO x) 4,en (exO x) 5,en (exO x) 6,en (exO x) 7,et1 h1,am ((0:Int)<=0/\0<((Ex.cs (exK x)).length:Int)) qZ,xEx (exK x) 0,ce hv] func108
theorem xFs(h1:exO x=8)(hk:(exK x).length=3)(v:Vl)(st1:Int)(hv:evOk cK l fu s ((exK x).getD 0 default) st wh v st1)(h2:¬vlO v=2):Ef 108 [.agg (exL x),scP s,.ro [.xp 1 0] 0,.xp 3 0] (EE cK l fu st wh) (.panic (stopP 19)) (EE cK l fu st1 wh):=
 ef mdE [cl (eX @eRight x),cl (@eNeed_2 (eRight_r0 (exO x) (exK x)) hr),en (exO x) 1,en (exO x) 2,en (exO x) 3,en (exO x) 4,en (exO x) 5,en (exO x) 6,en (exO x) 7,et1 h1,am ((0:Int)<=0/\0<((Ex.cs (exK x)).length:Int)) qZ,xEx (exK x) 0,ce hv,cl (@eNeed_1 (vlO v==2) sA)] func108
theorem xFto(h1:exO x=8)(hk:(exK x).length=3)(v:Vl)(st1:Int)(hv:evOk cK l fu s ((exK x).getD 0 default) st wh v st1)(h2:vlO v=2)(h3:¬vlN v=0)(u:Vl)(st2:Int)(hw:evOk cK l fu s ((exK x).getD 1 default) st1 wh u st2):Ef 108 [.agg (exL x),scP s,.ro [.xp 1 0] 0,.xp 3 0] (EE cK l fu st wh) (rA (vlL u)) (EE cK l fu st2 wh):=
 ef mdE [cl (eX @eRight x),cl (@eNeed_2 (eRight_r0 (exO x) (exK x)) hr),en (exO x) 1,en (exO x) 2,en (exO x) 3,en (exO x) 4,en (exO x) 5,en (exO x) 6,en (exO x) 7,et1 h1,am ((0:Int)<=0/\0<((Ex.cs (exK x)).length:Int)) qZ,xEx (exK x) 0,ce hv,cl (@eNeed_2 (vlO v==2) sA),nt1 h3,am ((0:Int)<=1/\1<((Ex.cs (exK x)).length:Int)) qZ,xEx (exK x) 1,ce hw] func108
theorem xFte(h1:exO x=8)(hk:(exK x).length=3)(v:Vl)(st1:Int)(hv:evOk cK l fu s ((exK x).getD 0 default) st wh v st1)(h2:vlO v=2)(h3:¬vlN v=0)(k st2:Int)(wh2:BA)(hw:evEr cK l fu s ((exK x).getD 1 default) st1 wh k st2 wh2):Ef 108 [.agg (exL x),scP s,.ro [.xp 1 0] 0,.xp 3 0] (EE cK l fu st wh) (.panic (stopP k)) (EE cK l fu st2 wh2):=
 ef mdE [cl (eX @eRight x),cl (@eNeed_2 (eRight_r0 (exO x) (exK x)) hr),en (exO x) 1,en (exO x) 2,en (exO x) 3,en (exO x) 4,en (exO x) 5,en (exO x) 6,en (exO x) 7,et1 h1,am ((0:Int)<=0/\0<((Ex.cs (exK x)).length:Int)) qZ,xEx (exK x) 0,ce hv,cl (@eNeed_2 (vlO v==2) sA),nt1 h3,am ((0:Int)<=1/\1<((Ex.cs (exK x)).length:Int)) qZ,xEx (exK x) 1,ce hw] func108
theorem xFfo(h1:exO x=8)(hk:(exK x).length=3)(v:Vl)(st1:Int)(hv:evOk cK l fu s ((exK x).getD 0 default) st wh v st1)(h2:vlO v=2)(h3:vlN v=0)(u:Vl)(st2:Int)(hw:evOk cK l fu s ((exK x).getD 2 default) st1 wh u st2):Ef 108 [.agg (exL x),scP s,.ro [.xp 1 0] 0,.xp 3 0] (EE cK l fu st wh) (rA (vlL u)) (EE cK l fu st2 wh):=
 ef mdE [cl (eX @eRight x),cl (@eNeed_2 (eRight_r0 (exO x) (exK x)) hr),en (exO x) 1,en (exO x) 2,en (exO x) 3,en (exO x) 4,en (exO x) 5,en (exO x) 6,en (exO x) 7,et1 h1,am ((0:Int)<=0/\0<((Ex.cs (exK x)).length:Int)) qZ,xEx (exK x) 0,ce hv,cl (@eNeed_2 (vlO v==2) sA),nn1 h3,am ((0:Int)<=2/\2<((Ex.cs (exK x)).length:Int)) qZ,xEx (exK x) 2,ce hw] func108
theorem xFfe(h1:exO x=8)(hk:(exK x).length=3)(v:Vl)(st1:Int)(hv:evOk cK l fu s ((exK x).getD 0 default) st wh v st1)(h2:vlO v=2)(h3:vlN v=0)(k st2:Int)(wh2:BA)(hw:evEr cK l fu s ((exK x).getD 2 default) st1 wh k st2 wh2):Ef 108 [.agg (exL x),scP s,.ro [.xp 1 0] 0,.xp 3 0] (EE cK l fu st wh) (.panic (stopP k)) (EE cK l fu st2 wh2):=
 ef mdE [cl (eX @eRight x),cl (@eNeed_2 (eRight_r0 (exO x) (exK x)) hr),en (exO x) 1,en (exO x) 2,en (exO x) 3,en (exO x) 4,en (exO x) 5,en (exO x) 6,en (exO x) 7,et1 h1,am ((0:Int)<=0/\0<((Ex.cs (exK x)).length:Int)) qZ,xEx (exK x) 0,ce hv,cl (@eNeed_2 (vlO v==2) sA),nn1 h3,am ((0:Int)<=2/\2<((Ex.cs (exK x)).length:Int)) qZ,xEx (exK x) 2,ce hw] func108
theorem xMe(h1:exO x=9)(hk:(exK x).length=1)(k st2:Int)(wh2:BA)(hv:evEr cK l fu s ((exK x).getD 0 default) st wh k st2 wh2):Ef 108 [.agg (exL x),scP s,.ro [.xp 1 0] 0,.xp 3 0] (EE cK l fu st wh) (.panic (stopP k)) (EE cK l fu st2 wh2):=
 ef mdE [cl (eX @eRight x),cl (@eNeed_2 (eRight_r0 (exO x) (exK x)) hr),en (exO x) 1,en (exO x) 2,en (exO x) 3,en (exO x) 4,en (exO x) 5,en (exO x) 6,en (exO x) 7,en (exO x) 8,et1 h1,am ((0:Int)<=0/\0<((Ex.cs (exK x)).length:Int)) qZ,xEx (exK x) 0,ce hv] func108
theorem xMo(h1:exO x=9)(hk:(exK x).length=1)(v:Vl)(st1:Int)(hv:evOk cK l fu s ((exK x).getD 0 default) st wh v st1)(u:Vl)(st2:Int)(hw:fOk cK l fu 116 [.xp 1 0,.sl 9 (Al.cs (exA x)),.agg (vlL v),scP s] st1 wh u st2):Ef 108 [.agg (exL x),scP s,.ro [.xp 1 0] 0,.xp 3 0] (EE cK l fu st wh) (rA (vlL u)) (EE cK l fu st2 wh):=
 ef mdE [cl (eX @eRight x),cl (@eNeed_2 (eRight_r0 (exO x) (exK x)) hr),en (exO x) 1,en (exO x) 2,en (exO x) 3,en (exO x) 4,en (exO x) 5,en (exO x) 6,en (exO x) 7,en (exO x) 8,et1 h1,am ((0:Int)<=0/\0<((Ex.cs (exK x)).length:Int)) qZ,xEx (exK x) 0,ce hv,ce hw] func108
theorem xMf(h1:exO x=9)(hk:(exK x).length=1)(v:Vl)(st1:Int)(hv:evOk cK l fu s ((exK x).getD 0 default) st wh v st1)(k st2:Int)(wh2:BA)(hw:fEr cK l fu 116 [.xp 1 0,.sl 9 (Al.cs (exA x)),.agg (vlL v),scP s] st1 wh k st2 wh2):Ef 108 [.agg (exL x),scP s,.ro [.xp 1 0] 0,.xp 3 0] (EE cK l fu st wh) (.panic (stopP k)) (EE cK l fu st2 wh2):=
 ef mdE [cl (eX @eRight x),cl (@eNeed_2 (eRight_r0 (exO x) (exK x)) hr),en (exO x) 1,en (exO x) 2,en (exO x) 3,en (exO x) 4,en (exO x) 5,en (exO x) 6,en (exO x) 7,en (exO x) 8,et1 h1,am ((0:Int)<=0/\0<((Ex.cs (exK x)).length:Int)) qZ,xEx (exK x) 0,ce hv,ce hw] func108
theorem xA19o(h1:exO x=19)(u:Vl)(st2:Int)(hw:fOk cK l fu 117 [.xp 1 0,.agg (exL x),scP s] st wh u st2):Ef 108 [.agg (exL x),scP s,.ro [.xp 1 0] 0,.xp 3 0] (EE cK l fu st wh) (rA (vlL u)) (EE cK l fu st2 wh):=
 ef mdE [cl (eX @eRight x),cl (@eNeed_2 (eRight_r0 (exO x) (exK x)) hr),en (exO x) 1,en (exO x) 2,en (exO x) 3,en (exO x) 4,en (exO x) 5,en (exO x) 6,en (exO x) 7,en (exO x) 8,en (exO x) 9,rp 2 (et1 h1),ce hw] func108
theorem xA19e(h1:exO x=19)(k st2:Int)(wh2:BA)(hw:fEr cK l fu 117 [.xp 1 0,.agg (exL x),scP s] st wh k st2 wh2):Ef 108 [.agg (exL x),scP s,.ro [.xp 1 0] 0,.xp 3 0] (EE cK l fu st wh) (.panic (stopP k)) (EE cK l fu st2 wh2):=
 ef mdE [cl (eX @eRight x),cl (@eNeed_2 (eRight_r0 (exO x) (exK x)) hr),en (exO x) 1,en (exO x) 2,en (exO x) 3,en (exO x) 4,en (exO x) 5,en (exO x) 6,en (exO x) 7,en (exO x) 8,en (exO x) 9,rp 2 (et1 h1),ce hw] func108
theorem xA20o(h1:exO x=20)(u:Vl)(st2:Int)(hw:fOk cK l fu 117 [.xp 1 0,.agg (exL x),scP s] st wh u st2):Ef 108 [.agg (exL x),scP s,.ro [.xp 1 0] 0,.xp 3 0] (EE cK l fu st wh) (rA (vlL u)) (EE cK l fu st2 wh):=
 ef mdE [cl (eX @eRight x),cl (@eNeed_2 (eRight_r0 (exO x) (exK x)) hr),en (exO x) 1,en (exO x) 2,en (exO x) 3,en (exO x) 4,en (exO x) 5,en (exO x) 6,en (exO x) 7,en (exO x) 8,en (exO x) 9,en (exO x) 19,et1 h1,ce hw] func108
theorem xA20e(h1:exO x=20)(k st2:Int)(wh2:BA)(hw:fEr cK l fu 117 [.xp 1 0,.agg (exL x),scP s] st wh k st2 wh2):Ef 108 [.agg (exL x),scP s,.ro [.xp 1 0] 0,.xp 3 0] (EE cK l fu st wh) (.panic (stopP k)) (EE cK l fu st2 wh2):=
 ef mdE [cl (eX @eRight x),cl (@eNeed_2 (eRight_r0 (exO x) (exK x)) hr),en (exO x) 1,en (exO x) 2,en (exO x) 3,en (exO x) 4,en (exO x) 5,en (exO x) 6,en (exO x) 7,en (exO x) 8,en (exO x) 9,en (exO x) 19,et1 h1,ce hw] func108
theorem xU25o(h1:exO x=25)(hk:0<(exK x).length)(hn:(exK x).length<=1000000000)(u:Vl)(st2:Int)(hw:evOk cK l fu s ((exK x).getD (((exK x).length:Int) - 1).toNat default) st wh u st2):Ef 108 [.agg (exL x),scP s,.ro [.xp 1 0] 0,.xp 3 0] (EE cK l fu st wh) (rA (vlL u)) (EE cK l fu st2 wh):=
 ef mdE [cl (eX @eRight x),cl (@eNeed_2 (eRight_r0 (exO x) (exK x)) hr),en (exO x) 1,en (exO x) 2,en (exO x) 3,en (exO x) 4,en (exO x) 5,en (exO x) 6,en (exO x) 7,en (exO x) 8,en (exO x) 9,en (exO x) 19,en (exO x) 20,rp 2 (et1 h1),sl (Ex.cs_len (exK x)),wr (((exK x).length:Int) - 1),am ((0:Int)<=((exK x).length:Int) - 1/\((exK x).length:Int) - 1<((Ex.cs (exK x)).length:Int)) qZ,xEx (exK x) (Int.toNat (((exK x).length:Int) - 1)),ce hw] func108
theorem xU25e(h1:exO x=25)(hk:0<(exK x).length)(hn:(exK x).length<=1000000000)(k st2:Int)(wh2:BA)(hw:evEr cK l fu s ((exK x).getD (((exK x).length:Int) - 1).toNat default) st wh k st2 wh2):Ef 108 [.agg (exL x),scP s,.ro [.xp 1 0] 0,.xp 3 0] (EE cK l fu st wh) (.panic (stopP k)) (EE cK l fu st2 wh2):=
 ef mdE [cl (eX @eRight x),cl (@eNeed_2 (eRight_r0 (exO x) (exK x)) hr),en (exO x) 1,en (exO x) 2,en (exO x) 3,en (exO x) 4,en (exO x) 5,en (exO x) 6,en (exO x) 7,en (exO x) 8,en (exO x) 9,en (exO x) 19,en (exO x) 20,rp 2 (et1 h1),sl (Ex.cs_len (exK x)),wr (((exK x).length:Int) - 1),am ((0:Int)<=((exK x).length:Int) - 1/\((exK x).length:Int) - 1<((Ex.cs (exK x)).length:Int)) qZ,xEx (exK x) (Int.toNat (((exK x).length:Int) - 1)),ce hw] func108
theorem xU26o(h1:exO x=26)(hk:0<(exK x).length)(hn:(exK x).length<=1000000000)(u:Vl)(st2:Int)(hw:evOk cK l fu s ((exK x).getD (((exK x).length:Int) - 1).toNat default) st wh u st2):Ef 108 [.agg (exL x),scP s,.ro [.xp 1 0] 0,.xp 3 0] (EE cK l fu st wh) (rA (vlL u)) (EE cK l fu st2 wh):=
 ef mdE [cl (eX @eRight x),cl (@eNeed_2 (eRight_r0 (exO x) (exK x)) hr),en (exO x) 1,en (exO x) 2,en (exO x) 3,en (exO x) 4,en (exO x) 5,en (exO x) 6,en (exO x) 7,en (exO x) 8,en (exO x) 9,en (exO x) 19,en (exO x) 20,en (exO x) 25,et1 h1,sl (Ex.cs_len (exK x)),wr (((exK x).length:Int) - 1),am ((0:Int)<=((exK x).length:Int) - 1/\((exK x).length:Int) - 1<((Ex.cs (exK x)).length:Int)) qZ,xEx (exK x) (Int.toNat (((exK x).length:Int) - 1)),ce hw] func108
theorem xU26e(h1:exO x=26)(hk:0<(exK x).length)(hn:(exK x).length<=1000000000)(k st2:Int)(wh2:BA)(hw:evEr cK l fu s ((exK x).getD (((exK x).length:Int) - 1).toNat default) st wh k st2 wh2):Ef 108 [.agg (exL x),scP s,.ro [.xp 1 0] 0,.xp 3 0] (EE cK l fu st wh) (.panic (stopP k)) (EE cK l fu st2 wh2):=
 ef mdE [cl (eX @eRight x),cl (@eNeed_2 (eRight_r0 (exO x) (exK x)) hr),en (exO x) 1,en (exO x) 2,en (exO x) 3,en (exO x) 4,en (exO x) 5,en (exO x) 6,en (exO x) 7,en (exO x) 8,en (exO x) 9,en (exO x) 19,en (exO x) 20,en (exO x) 25,et1 h1,sl (Ex.cs_len (exK x)),wr (((exK x).length:Int) - 1),am ((0:Int)<=((exK x).length:Int) - 1/\((exK x).length:Int) - 1<((Ex.cs (exK x)).length:Int)) qZ,xEx (exK x) (Int.toNat (((exK x).length:Int) - 1)),ce hw] func108
end
theorem eListT2(cK:C5)(l:List Df)(fu st:Int)(wh:BA)(es:List Ex)(s:List Bd)(hn:es.length<=1000000000)(v w:Vl)(st':Int)(hl:LiOk cK l fu s wh es st [v,w] st'):Ef 107 [.sl 7 (Ex.cs es),scP s,.ro [.xp 1 0] 0] (EE cK l fu st wh) (.ret (.sl 7 [vlL v,vlL w])) (EE cK l fu st' wh):=by
 have:=eListT cK l fu st wh es s hn [v,w] st' hl
 rw [Vl.cs_eq] at this
 exact this
section
variable (cK:C5) (l:List Df) (fu st:Int) (wh:BA) (x:Ex) (s:List Bd) (hr:eRight_r0 (exO x) (exK x)=true)
include cK l fu st wh x s hr
theorem xO15e(h1:exO x=15)(hk:(exK x).length=1)(k st2:Int)(wh2:BA)(hv:evEr cK l fu s ((exK x).getD 0 default) st wh k st2 wh2):Ef 108 [.agg (exL x),scP s,.ro [.xp 1 0] 0,.xp 3 0] (EE cK l fu st wh) (.panic (stopP k)) (EE cK l fu st2 wh2):=
 ef mdE [cl (eX @eRight x),cl (@eNeed_2 (eRight_r0 (exO x) (exK x)) hr),en (exO x) 1,en (exO x) 2,en (exO x) 3,en (exO x) 4,en (exO x) 5,en (exO x) 6,en (exO x) 7,en (exO x) 8,en (exO x) 9,en (exO x) 19,en (exO x) 20,en (exO x) 25,en (exO x) 26,rp 2 (et1 h1),am ((0:Int)<=0/\0<((Ex.cs (exK x)).length:Int)) qZ,xEx (exK x) 0,ce hv] func108
theorem xO15t(h1:exO x=15)(hk:(exK x).length=1)(v:Vl)(st1:Int)(hv:evOk cK l fu s ((exK x).getD 0 default) st wh v st1)(h2:eOne_s 15 (vlO v) (vlN v)=true):Ef 108 [.agg (exL x),scP s,.ro [.xp 1 0] 0,.xp 3 0] (EE cK l fu st wh) (rA (v4 (eOne_t_r0 (exO x) (vlO v) (vlN v)) (eOne_t_r1 (exO x) (vlO v) (vlN v)) nm0 [])) (EE cK l fu st1 wh):=
 ef mdE [cl (eX @eRight x),cl (@eNeed_2 (eRight_r0 (exO x) (exK x)) hr),en (exO x) 1,en (exO x) 2,en (exO x) 3,en (exO x) 4,en (exO x) 5,en (exO x) 6,en (exO x) 7,en (exO x) 8,en (exO x) 9,en (exO x) 19,en (exO x) 20,en (exO x) 25,en (exO x) 26,rp 2 (et1 h1),am ((0:Int)<=0/\0<((Ex.cs (exK x)).length:Int)) qZ,xEx (exK x) 0,ce hv,cl (@eOne_t (exO x) (vlO v) (vlN v) (.str (vlNm v)) (.sl 7 (Vl.cs (vlK v))) (.sl 1 (nmsC (vlP v))) (.sl 7 (Ex.cs (vlB v))) (.sl 8 (Bd.cs (vlBd v))) (by (simp only [List.length_map,List.length_append,List.length_cons,List.length_nil,Ex.cs_len,Vl.cs_len,Al.cs_len,Bd.cs_len,nmsC_len,pmsC_len,Tp.cs_len,dfsC_len,Pr.cs_len,Int.toNat_natCast, *]; done)))] func108
theorem xO15f(h1:exO x=15)(hk:(exK x).length=1)(v:Vl)(st1:Int)(hv:evOk cK l fu s ((exK x).getD 0 default) st wh v st1)(h2:eOne_s 15 (vlO v) (vlN v)=false):Ef 108 [.agg (exL x),scP s,.ro [.xp 1 0] 0,.xp 3 0] (EE cK l fu st wh) (.panic (stopP (eOne_f_r0 (exO x) (vlO v) (vlN v)))) (EE cK l fu st1 wh):=
 ef mdE [cl (eX @eRight x),cl (@eNeed_2 (eRight_r0 (exO x) (exK x)) hr),en (exO x) 1,en (exO x) 2,en (exO x) 3,en (exO x) 4,en (exO x) 5,en (exO x) 6,en (exO x) 7,en (exO x) 8,en (exO x) 9,en (exO x) 19,en (exO x) 20,en (exO x) 25,en (exO x) 26,rp 2 (et1 h1),am ((0:Int)<=0/\0<((Ex.cs (exK x)).length:Int)) qZ,xEx (exK x) 0,ce hv,cl (@eOne_f (exO x) (vlO v) (vlN v) (.str (vlNm v)) (.sl 7 (Vl.cs (vlK v))) (.sl 1 (nmsC (vlP v))) (.sl 7 (Ex.cs (vlB v))) (.sl 8 (Bd.cs (vlBd v))) (by (simp only [List.length_map,List.length_append,List.length_cons,List.length_nil,Ex.cs_len,Vl.cs_len,Al.cs_len,Bd.cs_len,nmsC_len,pmsC_len,Tp.cs_len,dfsC_len,Pr.cs_len,Int.toNat_natCast, *]; done)))] func108
theorem xO21e(h1:exO x=21)(hk:(exK x).length=1)(k st2:Int)(wh2:BA)(hv:evEr cK l fu s ((exK x).getD 0 default) st wh k st2 wh2):Ef 108 [.agg (exL x),scP s,.ro [.xp 1 0] 0,.xp 3 0] (EE cK l fu st wh) (.panic (stopP k)) (EE cK l fu st2 wh2):=
 ef mdE [cl (eX @eRight x),cl (@eNeed_2 (eRight_r0 (exO x) (exK x)) hr),en (exO x) 1,en (exO x) 2,en (exO x) 3,en (exO x) 4,en (exO x) 5,en (exO x) 6,en (exO x) 7,en (exO x) 8,en (exO x) 9,en (exO x) 19,en (exO x) 20,en (exO x) 25,en (exO x) 26,en (exO x) 15,rp 2 (et1 h1),am ((0:Int)<=0/\0<((Ex.cs (exK x)).length:Int)) qZ,xEx (exK x) 0,ce hv] func108
theorem xO21t(h1:exO x=21)(hk:(exK x).length=1)(v:Vl)(st1:Int)(hv:evOk cK l fu s ((exK x).getD 0 default) st wh v st1)(h2:eOne_s 21 (vlO v) (vlN v)=true):Ef 108 [.agg (exL x),scP s,.ro [.xp 1 0] 0,.xp 3 0] (EE cK l fu st wh) (rA (v4 (eOne_t_r0 (exO x) (vlO v) (vlN v)) (eOne_t_r1 (exO x) (vlO v) (vlN v)) nm0 [])) (EE cK l fu st1 wh):=
 ef mdE [cl (eX @eRight x),cl (@eNeed_2 (eRight_r0 (exO x) (exK x)) hr),en (exO x) 1,en (exO x) 2,en (exO x) 3,en (exO x) 4,en (exO x) 5,en (exO x) 6,en (exO x) 7,en (exO x) 8,en (exO x) 9,en (exO x) 19,en (exO x) 20,en (exO x) 25,en (exO x) 26,en (exO x) 15,rp 2 (et1 h1),am ((0:Int)<=0/\0<((Ex.cs (exK x)).length:Int)) qZ,xEx (exK x) 0,ce hv,cl (@eOne_t (exO x) (vlO v) (vlN v) (.str (vlNm v)) (.sl 7 (Vl.cs (vlK v))) (.sl 1 (nmsC (vlP v))) (.sl 7 (Ex.cs (vlB v))) (.sl 8 (Bd.cs (vlBd v))) (by (simp only [List.length_map,List.length_append,List.length_cons,List.length_nil,Ex.cs_len,Vl.cs_len,Al.cs_len,Bd.cs_len,nmsC_len,pmsC_len,Tp.cs_len,dfsC_len,Pr.cs_len,Int.toNat_natCast, *]; done)))] func108
theorem xO21f(h1:exO x=21)(hk:(exK x).length=1)(v:Vl)(st1:Int)(hv:evOk cK l fu s ((exK x).getD 0 default) st wh v st1)(h2:eOne_s 21 (vlO v) (vlN v)=false):Ef 108 [.agg (exL x),scP s,.ro [.xp 1 0] 0,.xp 3 0] (EE cK l fu st wh) (.panic (stopP (eOne_f_r0 (exO x) (vlO v) (vlN v)))) (EE cK l fu st1 wh):=
 ef mdE [cl (eX @eRight x),cl (@eNeed_2 (eRight_r0 (exO x) (exK x)) hr),en (exO x) 1,en (exO x) 2,en (exO x) 3,en (exO x) 4,en (exO x) 5,en (exO x) 6,en (exO x) 7,en (exO x) 8,en (exO x) 9,en (exO x) 19,en (exO x) 20,en (exO x) 25,en (exO x) 26,en (exO x) 15,rp 2 (et1 h1),am ((0:Int)<=0/\0<((Ex.cs (exK x)).length:Int)) qZ,xEx (exK x) 0,ce hv,cl (@eOne_f (exO x) (vlO v) (vlN v) (.str (vlNm v)) (.sl 7 (Vl.cs (vlK v))) (.sl 1 (nmsC (vlP v))) (.sl 7 (Ex.cs (vlB v))) (.sl 8 (Bd.cs (vlBd v))) (by (simp only [List.length_map,List.length_append,List.length_cons,List.length_nil,Ex.cs_len,Vl.cs_len,Al.cs_len,Bd.cs_len,nmsC_len,pmsC_len,Tp.cs_len,dfsC_len,Pr.cs_len,Int.toNat_natCast, *]; done)))] func108
theorem xO22e(h1:exO x=22)(hk:(exK x).length=1)(k st2:Int)(wh2:BA)(hv:evEr cK l fu s ((exK x).getD 0 default) st wh k st2 wh2):Ef 108 [.agg (exL x),scP s,.ro [.xp 1 0] 0,.xp 3 0] (EE cK l fu st wh) (.panic (stopP k)) (EE cK l fu st2 wh2):=
 ef mdE [cl (eX @eRight x),cl (@eNeed_2 (eRight_r0 (exO x) (exK x)) hr),en (exO x) 1,en (exO x) 2,en (exO x) 3,en (exO x) 4,en (exO x) 5,en (exO x) 6,en (exO x) 7,en (exO x) 8,en (exO x) 9,en (exO x) 19,en (exO x) 20,en (exO x) 25,en (exO x) 26,en (exO x) 15,en (exO x) 21,rp 2 (et1 h1),am ((0:Int)<=0/\0<((Ex.cs (exK x)).length:Int)) qZ,xEx (exK x) 0,ce hv] func108
theorem xO22t(h1:exO x=22)(hk:(exK x).length=1)(v:Vl)(st1:Int)(hv:evOk cK l fu s ((exK x).getD 0 default) st wh v st1)(h2:eOne_s 22 (vlO v) (vlN v)=true):Ef 108 [.agg (exL x),scP s,.ro [.xp 1 0] 0,.xp 3 0] (EE cK l fu st wh) (rA (v4 (eOne_t_r0 (exO x) (vlO v) (vlN v)) (eOne_t_r1 (exO x) (vlO v) (vlN v)) nm0 [])) (EE cK l fu st1 wh):=
 ef mdE [cl (eX @eRight x),cl (@eNeed_2 (eRight_r0 (exO x) (exK x)) hr),en (exO x) 1,en (exO x) 2,en (exO x) 3,en (exO x) 4,en (exO x) 5,en (exO x) 6,en (exO x) 7,en (exO x) 8,en (exO x) 9,en (exO x) 19,en (exO x) 20,en (exO x) 25,en (exO x) 26,en (exO x) 15,en (exO x) 21,rp 2 (et1 h1),am ((0:Int)<=0/\0<((Ex.cs (exK x)).length:Int)) qZ,xEx (exK x) 0,ce hv,cl (@eOne_t (exO x) (vlO v) (vlN v) (.str (vlNm v)) (.sl 7 (Vl.cs (vlK v))) (.sl 1 (nmsC (vlP v))) (.sl 7 (Ex.cs (vlB v))) (.sl 8 (Bd.cs (vlBd v))) (by (simp only [List.length_map,List.length_append,List.length_cons,List.length_nil,Ex.cs_len,Vl.cs_len,Al.cs_len,Bd.cs_len,nmsC_len,pmsC_len,Tp.cs_len,dfsC_len,Pr.cs_len,Int.toNat_natCast, *]; done)))] func108
theorem xO22f(h1:exO x=22)(hk:(exK x).length=1)(v:Vl)(st1:Int)(hv:evOk cK l fu s ((exK x).getD 0 default) st wh v st1)(h2:eOne_s 22 (vlO v) (vlN v)=false):Ef 108 [.agg (exL x),scP s,.ro [.xp 1 0] 0,.xp 3 0] (EE cK l fu st wh) (.panic (stopP (eOne_f_r0 (exO x) (vlO v) (vlN v)))) (EE cK l fu st1 wh):=
 ef mdE [cl (eX @eRight x),cl (@eNeed_2 (eRight_r0 (exO x) (exK x)) hr),en (exO x) 1,en (exO x) 2,en (exO x) 3,en (exO x) 4,en (exO x) 5,en (exO x) 6,en (exO x) 7,en (exO x) 8,en (exO x) 9,en (exO x) 19,en (exO x) 20,en (exO x) 25,en (exO x) 26,en (exO x) 15,en (exO x) 21,rp 2 (et1 h1),am ((0:Int)<=0/\0<((Ex.cs (exK x)).length:Int)) qZ,xEx (exK x) 0,ce hv,cl (@eOne_f (exO x) (vlO v) (vlN v) (.str (vlNm v)) (.sl 7 (Vl.cs (vlK v))) (.sl 1 (nmsC (vlP v))) (.sl 7 (Ex.cs (vlB v))) (.sl 8 (Bd.cs (vlBd v))) (by (simp only [List.length_map,List.length_append,List.length_cons,List.length_nil,Ex.cs_len,Vl.cs_len,Al.cs_len,Bd.cs_len,nmsC_len,pmsC_len,Tp.cs_len,dfsC_len,Pr.cs_len,Int.toNat_natCast, *]; done)))] func108
theorem xO23e(h1:exO x=23)(hk:(exK x).length=1)(k st2:Int)(wh2:BA)(hv:evEr cK l fu s ((exK x).getD 0 default) st wh k st2 wh2):Ef 108 [.agg (exL x),scP s,.ro [.xp 1 0] 0,.xp 3 0] (EE cK l fu st wh) (.panic (stopP k)) (EE cK l fu st2 wh2):=
 ef mdE [cl (eX @eRight x),cl (@eNeed_2 (eRight_r0 (exO x) (exK x)) hr),en (exO x) 1,en (exO x) 2,en (exO x) 3,en (exO x) 4,en (exO x) 5,en (exO x) 6,en (exO x) 7,en (exO x) 8,en (exO x) 9,en (exO x) 19,en (exO x) 20,en (exO x) 25,en (exO x) 26,en (exO x) 15,en (exO x) 21,en (exO x) 22,et1 h1,am ((0:Int)<=0/\0<((Ex.cs (exK x)).length:Int)) qZ,xEx (exK x) 0,ce hv] func108
theorem xO23t(h1:exO x=23)(hk:(exK x).length=1)(v:Vl)(st1:Int)(hv:evOk cK l fu s ((exK x).getD 0 default) st wh v st1)(h2:eOne_s 23 (vlO v) (vlN v)=true):Ef 108 [.agg (exL x),scP s,.ro [.xp 1 0] 0,.xp 3 0] (EE cK l fu st wh) (rA (v4 (eOne_t_r0 (exO x) (vlO v) (vlN v)) (eOne_t_r1 (exO x) (vlO v) (vlN v)) nm0 [])) (EE cK l fu st1 wh):=
 ef mdE [cl (eX @eRight x),cl (@eNeed_2 (eRight_r0 (exO x) (exK x)) hr),en (exO x) 1,en (exO x) 2,en (exO x) 3,en (exO x) 4,en (exO x) 5,en (exO x) 6,en (exO x) 7,en (exO x) 8,en (exO x) 9,en (exO x) 19,en (exO x) 20,en (exO x) 25,en (exO x) 26,en (exO x) 15,en (exO x) 21,en (exO x) 22,et1 h1,am ((0:Int)<=0/\0<((Ex.cs (exK x)).length:Int)) qZ,xEx (exK x) 0,ce hv,cl (@eOne_t (exO x) (vlO v) (vlN v) (.str (vlNm v)) (.sl 7 (Vl.cs (vlK v))) (.sl 1 (nmsC (vlP v))) (.sl 7 (Ex.cs (vlB v))) (.sl 8 (Bd.cs (vlBd v))) (by (simp only [List.length_map,List.length_append,List.length_cons,List.length_nil,Ex.cs_len,Vl.cs_len,Al.cs_len,Bd.cs_len,nmsC_len,pmsC_len,Tp.cs_len,dfsC_len,Pr.cs_len,Int.toNat_natCast, *]; done)))] func108
theorem xO23f(h1:exO x=23)(hk:(exK x).length=1)(v:Vl)(st1:Int)(hv:evOk cK l fu s ((exK x).getD 0 default) st wh v st1)(h2:eOne_s 23 (vlO v) (vlN v)=false):Ef 108 [.agg (exL x),scP s,.ro [.xp 1 0] 0,.xp 3 0] (EE cK l fu st wh) (.panic (stopP (eOne_f_r0 (exO x) (vlO v) (vlN v)))) (EE cK l fu st1 wh):=
 ef mdE [cl (eX @eRight x),cl (@eNeed_2 (eRight_r0 (exO x) (exK x)) hr),en (exO x) 1,en (exO x) 2,en (exO x) 3,en (exO x) 4,en (exO x) 5,en (exO x) 6,en (exO x) 7,en (exO x) 8,en (exO x) 9,en (exO x) 19,en (exO x) 20,en (exO x) 25,en (exO x) 26,en (exO x) 15,en (exO x) 21,en (exO x) 22,et1 h1,am ((0:Int)<=0/\0<((Ex.cs (exK x)).length:Int)) qZ,xEx (exK x) 0,ce hv,cl (@eOne_f (exO x) (vlO v) (vlN v) (.str (vlNm v)) (.sl 7 (Vl.cs (vlK v))) (.sl 1 (nmsC (vlP v))) (.sl 7 (Ex.cs (vlB v))) (.sl 8 (Bd.cs (vlBd v))) (by (simp only [List.length_map,List.length_append,List.length_cons,List.length_nil,Ex.cs_len,Vl.cs_len,Al.cs_len,Bd.cs_len,nmsC_len,pmsC_len,Tp.cs_len,dfsC_len,Pr.cs_len,Int.toNat_natCast, *]; done)))] func108
theorem xWe(n1:¬exO x=1)(n2:¬exO x=2)(n3:¬exO x=3)(n4:¬exO x=4)(n5:¬exO x=5)(n6:¬exO x=6)(n7:¬exO x=7)(n8:¬exO x=8)(n9:¬exO x=9)(n15:¬exO x=15)(n19:¬exO x=19)(n20:¬exO x=20)(n21:¬exO x=21)(n22:¬exO x=22)(n23:¬exO x=23)(n25:¬exO x=25)(n26:¬exO x=26)(hk:(exK x).length<=1000000000)(k st2:Int)(wh2:BA)(hl:LiEr cK l fu s wh (exK x) st k st2 wh2):Ef 108 [.agg (exL x),scP s,.ro [.xp 1 0] 0,.xp 3 0] (EE cK l fu st wh) (.panic (stopP k)) (EE cK l fu st2 wh2):=
 ef mdE [cl (eX @eRight x),cl (@eNeed_2 (eRight_r0 (exO x) (exK x)) hr),en (exO x) 1 n1,en (exO x) 2 n2,en (exO x) 3 n3,en (exO x) 4 n4,en (exO x) 5 n5,en (exO x) 6 n6,en (exO x) 7 n7,en (exO x) 8 n8,en (exO x) 9 n9,en (exO x) 19 n19,en (exO x) 20 n20,en (exO x) 25 n25,en (exO x) 26 n26,en (exO x) 15 n15,en (exO x) 21 n21,en (exO x) 22 n22,en (exO x) 23 n23,ce (@eListE cK (l) (fu) (st) (wh) (exK x) (s) hk (k) (st2) (wh2) hl)] func108
theorem xWt(n1:¬exO x=1)(n2:¬exO x=2)(n3:¬exO x=3)(n4:¬exO x=4)(n5:¬exO x=5)(n6:¬exO x=6)(n7:¬exO x=7)(n8:¬exO x=8)(n9:¬exO x=9)(n15:¬exO x=15)(n19:¬exO x=19)(n20:¬exO x=20)(n21:¬exO x=21)(n22:¬exO x=22)(n23:¬exO x=23)(n25:¬exO x=25)(n26:¬exO x=26)(hk:(exK x).length<=1000000000)(v w:Vl)(st1:Int)(hl:LiOk cK l fu s wh (exK x) st [v,w] st1)(h2:eCompute_s (exO x) (vlO v) (vlN v) (vlO w) (vlN w)=true):Ef 108 [.agg (exL x),scP s,.ro [.xp 1 0] 0,.xp 3 0] (EE cK l fu st wh) (rA (v4 (eCompute_t_r0 (exO x) (vlO v) (vlN v) (vlO w) (vlN w)) (eCompute_t_r1 (exO x) (vlO v) (vlN v) (vlO w) (vlN w)) nm0 [])) (EE cK l fu st1 wh):=
 ef mdE [cl (eX @eRight x),cl (@eNeed_2 (eRight_r0 (exO x) (exK x)) hr),en (exO x) 1 n1,en (exO x) 2 n2,en (exO x) 3 n3,en (exO x) 4 n4,en (exO x) 5 n5,en (exO x) 6 n6,en (exO x) 7 n7,en (exO x) 8 n8,en (exO x) 9 n9,en (exO x) 19 n19,en (exO x) 20 n20,en (exO x) 25 n25,en (exO x) 26 n26,en (exO x) 15 n15,en (exO x) 21 n21,en (exO x) 22 n22,en (exO x) 23 n23,ce (@eListT2 cK (l) (fu) (st) (wh) (exK x) (s) hk (v) (w) (st1) hl),rp 2 (kp),rp 2 (ab true),cl (@eCompute_t (exO x) (vlO v) (vlN v) (vlO w) (vlN w) (.str (vlNm v)) (.sl 7 (Vl.cs (vlK v))) (.sl 1 (nmsC (vlP v))) (.sl 7 (Ex.cs (vlB v))) (.sl 8 (Bd.cs (vlBd v))) (.str (vlNm w)) (.sl 7 (Vl.cs (vlK w))) (.sl 1 (nmsC (vlP w))) (.sl 7 (Ex.cs (vlB w))) (.sl 8 (Bd.cs (vlBd w))) h2)] func108
theorem xWf(n1:¬exO x=1)(n2:¬exO x=2)(n3:¬exO x=3)(n4:¬exO x=4)(n5:¬exO x=5)(n6:¬exO x=6)(n7:¬exO x=7)(n8:¬exO x=8)(n9:¬exO x=9)(n15:¬exO x=15)(n19:¬exO x=19)(n20:¬exO x=20)(n21:¬exO x=21)(n22:¬exO x=22)(n23:¬exO x=23)(n25:¬exO x=25)(n26:¬exO x=26)(hk:(exK x).length<=1000000000)(v w:Vl)(st1:Int)(hl:LiOk cK l fu s wh (exK x) st [v,w] st1)(h2:eCompute_s (exO x) (vlO v) (vlN v) (vlO w) (vlN w)=false):Ef 108 [.agg (exL x),scP s,.ro [.xp 1 0] 0,.xp 3 0] (EE cK l fu st wh) (.panic (stopP (eCompute_f_r0 (exO x) (vlO v) (vlN v) (vlO w) (vlN w)))) (EE cK l fu st1 wh):=
 ef mdE [cl (eX @eRight x),cl (@eNeed_2 (eRight_r0 (exO x) (exK x)) hr),en (exO x) 1 n1,en (exO x) 2 n2,en (exO x) 3 n3,en (exO x) 4 n4,en (exO x) 5 n5,en (exO x) 6 n6,en (exO x) 7 n7,en (exO x) 8 n8,en (exO x) 9 n9,en (exO x) 19 n19,en (exO x) 20 n20,en (exO x) 25 n25,en (exO x) 26 n26,en (exO x) 15 n15,en (exO x) 21 n21,en (exO x) 22 n22,en (exO x) 23 n23,ce (@eListT2 cK (l) (fu) (st) (wh) (exK x) (s) hk (v) (w) (st1) hl),rp 2 (kp),rp 2 (ab true),cl (@eCompute_f (exO x) (vlO v) (vlN v) (vlO w) (vlN w) (.str (vlNm v)) (.sl 7 (Vl.cs (vlK v))) (.sl 1 (nmsC (vlP v))) (.sl 7 (Ex.cs (vlB v))) (.sl 8 (Bd.cs (vlBd v))) (.str (vlNm w)) (.sl 7 (Vl.cs (vlK w))) (.sl 1 (nmsC (vlP w))) (.sl 7 (Ex.cs (vlB w))) (.sl 8 (Bd.cs (vlBd w))) h2)] func108
end
section
variable (cK:C5) (l:List Df) (fu st:Int) (wh:BA) (name:BA) (args:List Vl) (h0:l.length<=1000000000)
include cK l fu st wh name args h0
theorem xcaU(h:findD name l=none):Ef 52 [.xp 1 0,.ro [.str name] 0,.ro [.sl 7 (Vl.cs args)] 0] (EE cK l fu st wh) (.panic (stopP 19)) (EE cK l fu st wh):=
 ef mdE [ce (@eDefn_2 cK (l) (fu) (st) (wh) (name) h0 h)] func52
theorem xcaT(d:Df)(h:findD name l=some d)(u:Vl)(st2:Int)(hv:fOk cK l fu 53 [.xp 1 0,.agg (dfL d),.sl 7 (Vl.cs args)] st wh u st2):Ef 52 [.xp 1 0,.ro [.str name] 0,.ro [.sl 7 (Vl.cs args)] 0] (EE cK l fu st wh) (rA (vlL u)) (EE cK l fu st2 wh):=
 ef mdE [ce (@eDefn_1 cK (l) (fu) (st) (wh) (name) h0 (d) h),ce hv] func52
theorem xcaE(d:Df)(h:findD name l=some d)(k st2:Int)(wh2:BA)(hv:fEr cK l fu 53 [.xp 1 0,.agg (dfL d),.sl 7 (Vl.cs args)] st wh k st2 wh2):Ef 52 [.xp 1 0,.ro [.str name] 0,.ro [.sl 7 (Vl.cs args)] 0] (EE cK l fu st wh) (.panic (stopP k)) (EE cK l fu st2 wh2):=
 ef mdE [ce (@eDefn_1 cK (l) (fu) (st) (wh) (name) h0 (d) h),ce hv] func52
end
def mdV:Md:=⟨fun t=>if t=103 then some true else if t=178 then none else some false,fun _=>false⟩
def mdX:Md:=⟨fun t=>if t=55∨t=109∨t=103 then none else some false,fun _=>false⟩
def mdR:Md:=⟨fun t=>if t=30∨t=37∨t=9∨t=43 then some true else some false,fun _=>false⟩
abbrev flX(fu:Int):Int:=if true=true then if 0>fu then 0 else fu else if 0<fu then 0 else fu
abbrev fl'(fu:Int):Int:=if false=true then if 100000>flX fu then 100000 else flX fu else if 100000<flX fu then 100000 else flX fu
abbrev otL(v:Vl)(err:Int)(wh:BA)(st:Int):List PV:=vlL v++[.int .i64 err,.str wh,.int .i64 st]
abbrev E3(cK:C5)(l:List Df)(fu:Int):Ext:=[(0,zO),(1,[.v cK.a,.v cK.b,.v cK.c,.v cK.d,.v cK.e,.v (.sl 25 (dfsC l)),.v (.int .i64 fu),.v (.int .i64 0),.v (.str nm0),.v .nilfn]),(2,[.v (.xp 1 0)])]
theorem xEva(cK:C5)(l:List Df)(fu:Int):Ef 75 [.xp 1 0] (E3 cK l fu) (.ret fnE) ([(0,zO),(1,[.v cK.a,.v cK.b,.v cK.c,.v cK.d,.v cK.e,vL 25 (dfsC l),vI6 fu,vI6 0,vS nm0,.v PV.nilfn]),(2,[.v (.xp 1 0)]),(3,[.v fnL])]):=
 ef mdV [] func75
theorem xDfT(ext:Ext):(Ob.dfr 76 ([.xp 2 0,.xp 0 0]) (ext) (PM.ret) (PM.ret) (ext)).ok prog:=
 Ob.dfr_of (mdX) 50 [Ans.bit false] (sc':=[]) (l:=[Ob.bit false false]) mixed func76 kR kR ⟨rfl,tV⟩
theorem xDfE(cK:C5)(l:List Df)(fu st:Int)(wh:BA)(k:Int):(Ob.dfr 76 ([.xp 2 0,.xp 0 0]) (EE cK l fu st wh) (PM.pan (stopP k)) (PM.rcv) ([(0,[vI6 0,vI6 0,vS nm0,.v .nilsl,.v .nilsl,.v .nilsl,.v .nilsl,vI6 k,vS wh,vI6 st]),(1,mch cK l fu st wh),(2,[.v (.xp 1 0)]),(3,[.v fnL])])).ok prog:=
 Ob.dfr_of (mdX) 50 [Ans.bit true,Ans.bit false] (sc':=[]) (l:=[Ob.bit true true,Ob.bit false false]) mixed func76 kR kR ⟨rfl,rfl,tV⟩
theorem exeT(cK:C5)(l:List Df)(fu:Int)(g:Nat)(caps:List PV)(u:Vl)(st2:Int)(hv:Ef g (.xp 1 0::caps) (EE cK l (fl' fu) 0 nm0) (.ret (.agg (vlL u))) (EE cK l (fl' fu) st2 nm0)):Ef 41 [mdM cK l,pI fu,.fn (.func g) [] caps] ([]) (rA [pI (vlO u),pI (vlN u),.str (vlNm u),.sl 7 (Vl.cs (vlK u)),.sl 1 (nmsC (vlP u)),.sl 7 (Ex.cs (vlB u)),.sl 8 (Bd.cs (vlBd u)),pI 0,.str nm0,pI st2]) ([(0,[vI6 (vlO u),vI6 (vlN u),vS (vlNm u),vL 7 (Vl.cs (vlK u)),vL 1 (nmsC (vlP u)),vL 7 (Ex.cs (vlB u)),vL 8 (Bd.cs (vlBd u)),vI6 0,vS nm0,vI6 st2]),(1,mch cK l (fl' fu) st2 nm0),(2,[.v (.xp 1 0)]),(3,[.v fnL])]):=
 Ob.eff_of (mdX) 50 [Ans.eff (.ret fnE) [(0,zO),(1,[.v cK.a,.v cK.b,.v cK.c,.v cK.d,.v cK.e,vL 25 (dfsC l),vI6 (if false=true then if 100000>if true=true then if 0>fu then 0 else fu else if 0<fu then 0 else fu then 100000 else if true=true then if 0>fu then 0 else fu else if 0<fu then 0 else fu else if 100000<if true=true then if 0>fu then 0 else fu else if 0<fu then 0 else fu then 100000 else if true=true then if 0>fu then 0 else fu else if 0<fu then 0 else fu),vI6 0,vS nm0,.v PV.nilfn]),(2,[.v (.xp 1 0)]),(3,[.v fnL])],Ans.eff (rA (vlL u)) (EE cK l (fl' fu) st2 nm0),Ans.dfr PM.ret [(0,[vI6 (vlO u),vI6 (vlN u),vS (vlNm u),vL 7 (Vl.cs (vlK u)),vL 1 (nmsC (vlP u)),vL 7 (Ex.cs (vlB u)),vL 8 (Bd.cs (vlBd u)),vI6 0,vS nm0,vI6 st2]),(1,mch cK l (fl' fu) st2 nm0),(2,[.v (.xp 1 0)]),(3,[.v fnL])]] (sc':=[]) (l:=[Ob.eff 75 [.xp 1 0] [(0,zO),(1,[.v cK.a,.v cK.b,.v cK.c,.v cK.d,.v cK.e,vL 25 (dfsC l),vI6 (if false=true then if 100000>if true=true then if 0>fu then 0 else fu else if 0<fu then 0 else fu then 100000 else if true=true then if 0>fu then 0 else fu else if 0<fu then 0 else fu else if 100000<if true=true then if 0>fu then 0 else fu else if 0<fu then 0 else fu then 100000 else if true=true then if 0>fu then 0 else fu else if 0<fu then 0 else fu),vI6 0,vS nm0,.v PV.nilfn]),(2,[.v (.xp 1 0)])] (.ret fnE) [(0,zO),(1,[.v cK.a,.v cK.b,.v cK.c,.v cK.d,.v cK.e,vL 25 (dfsC l),vI6 (if false=true then if 100000>if true=true then if 0>fu then 0 else fu else if 0<fu then 0 else fu then 100000 else if true=true then if 0>fu then 0 else fu else if 0<fu then 0 else fu else if 100000<if true=true then if 0>fu then 0 else fu else if 0<fu then 0 else fu then 100000 else if true=true then if 0>fu then 0 else fu else if 0<fu then 0 else fu),vI6 0,vS nm0,.v PV.nilfn]),(2,[.v (.xp 1 0)]),(3,[.v fnL])],Ob.eqv (.v (.xp 1 0)) (.v (.xp 1 0)),Ob.eqv (.v (.xp 1 0)) (.v (.xp 1 0)),Ob.eqv (.v (.xp 1 0)) (.v (.xp 1 0)),Ob.eqv (.v (.xp 1 0)) (.v (.xp 1 0)),Ob.eqv (.v (.xp 1 0)) (.v (.xp 1 0)),Ob.eqv (.v (.xp 1 0)) (.v (.xp 1 0)),Ob.eff (Prod.fst (g,[]++[.xp 1 0]++caps)) (.xp 1 0::caps) (EE cK l (if false=true then if 100000>if true=true then if 0>fu then 0 else fu else if 0<fu then 0 else fu then 100000 else if true=true then if 0>fu then 0 else fu else if 0<fu then 0 else fu else if 100000<if true=true then if 0>fu then 0 else fu else if 0<fu then 0 else fu then 100000 else if true=true then if 0>fu then 0 else fu else if 0<fu then 0 else fu) 0 nm0) (rA (vlL u)) (EE cK l (fl' fu) st2 nm0),Ob.dfr 76 [.xp 2 0,.xp 0 0] [(0,[vI6 (vlO u),vI6 (vlN u),vS (vlNm u),vL 7 (Vl.cs (vlK u)),vL 1 (nmsC (vlP u)),vL 7 (Ex.cs (vlB u)),vL 8 (Bd.cs (vlBd u)),vI6 0,vS nm0,vI6 st2]),(1,mch cK l (fl' fu) st2 nm0),(2,[.v (.xp 1 0)]),(3,[.v fnL])] PM.ret PM.ret [(0,[vI6 (vlO u),vI6 (vlN u),vS (vlNm u),vL 7 (Vl.cs (vlK u)),vL 1 (nmsC (vlP u)),vL 7 (Ex.cs (vlB u)),vL 8 (Bd.cs (vlBd u)),vI6 0,vS nm0,vI6 st2]),(1,mch cK l (fl' fu) st2 nm0),(2,[.v (.xp 1 0)]),(3,[.v fnL])]]) mixed func41 kR kR ⟨(@xEva cK (l) (if false=true then if 100000>if true=true then if 0>fu then 0 else fu else if 0<fu then 0 else fu then 100000 else if true=true then if 0>fu then 0 else fu else if 0<fu then 0 else fu else if 100000<if true=true then if 0>fu then 0 else fu else if 0<fu then 0 else fu then 100000 else if true=true then if 0>fu then 0 else fu else if 0<fu then 0 else fu)),(ob_eqv rF),(ob_eqv rF),(ob_eqv rF),(ob_eqv rF),(ob_eqv rF),(ob_eqv rF),(@hv),(@xDfT ([(0,[vI6 (vlO u),vI6 (vlN u),vS (vlNm u),vL 7 (Vl.cs (vlK u)),vL 1 (nmsC (vlP u)),vL 7 (Ex.cs (vlB u)),vL 8 (Bd.cs (vlBd u)),vI6 0,vS nm0,vI6 st2]),(1,mch cK l (fl' fu) st2 nm0),(2,[.v (.xp 1 0)]),(3,[.v fnL])])),tV⟩
theorem exeE(cK:C5)(l:List Df)(fu:Int)(g:Nat)(caps:List PV)(k st2:Int)(wh2:BA)(hv:Ef g (.xp 1 0::caps) (EE cK l (fl' fu) 0 nm0) (.panic (stopP k)) (EE cK l (fl' fu) st2 wh2)):Ef 41 [mdM cK l,pI fu,.fn (.func g) [] caps] ([]) (rA [pI 0,pI 0,.str nm0,.sl 7 [],.sl 1 [],.sl 7 [],.sl 8 [],pI k,.str wh2,pI st2]) ([(0,[vI6 0,vI6 0,vS nm0,.v .nilsl,.v .nilsl,.v .nilsl,.v .nilsl,vI6 k,vS wh2,vI6 st2]),(1,mch cK l (fl' fu) st2 wh2),(2,[.v (.xp 1 0)]),(3,[.v fnL])]):=
 Ob.eff_wk (Wk.a (kr (kr (kr (kn 7 (kn 1 (kn 7 (kn 8 (WkL.r _))))))))) (Ob.eff_of (mdX) 50 [Ans.eff (.ret fnE) [(0,zO),(1,[.v cK.a,.v cK.b,.v cK.c,.v cK.d,.v cK.e,vL 25 (dfsC l),vI6 (if false=true then if 100000>if true=true then if 0>fu then 0 else fu else if 0<fu then 0 else fu then 100000 else if true=true then if 0>fu then 0 else fu else if 0<fu then 0 else fu else if 100000<if true=true then if 0>fu then 0 else fu else if 0<fu then 0 else fu then 100000 else if true=true then if 0>fu then 0 else fu else if 0<fu then 0 else fu),vI6 0,vS nm0,.v PV.nilfn]),(2,[.v (.xp 1 0)]),(3,[.v fnL])],Ans.eff (.panic (stopP k)) (EE cK l (fl' fu) st2 wh2),Ans.dfr PM.rcv [(0,[vI6 0,vI6 0,vS nm0,.v .nilsl,.v .nilsl,.v .nilsl,.v .nilsl,vI6 k,vS wh2,vI6 st2]),(1,mch cK l (fl' fu) st2 wh2),(2,[.v (.xp 1 0)]),(3,[.v fnL])]] (sc':=[]) (l:=[Ob.eff 75 [.xp 1 0] [(0,zO),(1,[.v cK.a,.v cK.b,.v cK.c,.v cK.d,.v cK.e,vL 25 (dfsC l),vI6 (if false=true then if 100000>if true=true then if 0>fu then 0 else fu else if 0<fu then 0 else fu then 100000 else if true=true then if 0>fu then 0 else fu else if 0<fu then 0 else fu else if 100000<if true=true then if 0>fu then 0 else fu else if 0<fu then 0 else fu then 100000 else if true=true then if 0>fu then 0 else fu else if 0<fu then 0 else fu),vI6 0,vS nm0,.v PV.nilfn]),(2,[.v (.xp 1 0)])] (.ret fnE) [(0,zO),(1,[.v cK.a,.v cK.b,.v cK.c,.v cK.d,.v cK.e,vL 25 (dfsC l),vI6 (if false=true then if 100000>if true=true then if 0>fu then 0 else fu else if 0<fu then 0 else fu then 100000 else if true=true then if 0>fu then 0 else fu else if 0<fu then 0 else fu else if 100000<if true=true then if 0>fu then 0 else fu else if 0<fu then 0 else fu then 100000 else if true=true then if 0>fu then 0 else fu else if 0<fu then 0 else fu),vI6 0,vS nm0,.v PV.nilfn]),(2,[.v (.xp 1 0)]),(3,[.v fnL])],Ob.eqv (.v (.xp 1 0)) (.v (.xp 1 0)),Ob.eqv (.v (.xp 1 0)) (.v (.xp 1 0)),Ob.eqv (.v (.xp 1 0)) (.v (.xp 1 0)),Ob.eqv (.v (.xp 1 0)) (.v (.xp 1 0)),Ob.eqv (.v (.xp 1 0)) (.v (.xp 1 0)),Ob.eqv (.v (.xp 1 0)) (.v (.xp 1 0)),Ob.eff (Prod.fst (g,[]++[.xp 1 0]++caps)) (.xp 1 0::caps) (EE cK l (if false=true then if 100000>if true=true then if 0>fu then 0 else fu else if 0<fu then 0 else fu then 100000 else if true=true then if 0>fu then 0 else fu else if 0<fu then 0 else fu else if 100000<if true=true then if 0>fu then 0 else fu else if 0<fu then 0 else fu then 100000 else if true=true then if 0>fu then 0 else fu else if 0<fu then 0 else fu) 0 nm0) (.panic (stopP k)) (EE cK l (fl' fu) st2 wh2),Ob.dfr 76 [.xp 2 0,.xp 0 0] (EE cK l (fl' fu) st2 wh2) (PM.pan (stopP k)) PM.rcv [(0,[vI6 0,vI6 0,vS nm0,.v .nilsl,.v .nilsl,.v .nilsl,.v .nilsl,vI6 k,vS wh2,vI6 st2]),(1,mch cK l (fl' fu) st2 wh2),(2,[.v (.xp 1 0)]),(3,[.v fnL])]]) mixed func41 kR kR ⟨(@xEva cK (l) (if false=true then if 100000>if true=true then if 0>fu then 0 else fu else if 0<fu then 0 else fu then 100000 else if true=true then if 0>fu then 0 else fu else if 0<fu then 0 else fu else if 100000<if true=true then if 0>fu then 0 else fu else if 0<fu then 0 else fu then 100000 else if true=true then if 0>fu then 0 else fu else if 0<fu then 0 else fu)),(ob_eqv rF),(ob_eqv rF),(ob_eqv rF),(ob_eqv rF),(ob_eqv rF),(ob_eqv rF),(@hv),(@xDfE cK (l) (fl' fu) (st2) (wh2) (k)),tV⟩)
mutual
def SmV:Vl->Prop
 | .mk _ _ _ kids params body binds=>kids.length+body.length<=1000000000/\params.length<=400000000/\binds.length<=400000000/\(∀x∈body,szE x<=100000000)/\SmVs kids/\SmBs binds
def SmVs:List Vl->Prop
 | []=>True
 | v::r=>SmV v/\SmVs r
def SmBs:List Bd->Prop
 | []=>True
 | .mk _ v::r=>SmV v/\SmBs r
end
theorem SmVs_at:∀ {l:List Vl},SmVs l->∀v∈l,SmV v
 | v::r,h,w,hw=>by
  rw [SmVs] at h
  rcases List.mem_cons.1 hw with rfl | hw
  ·exact h.1
  ·exact SmVs_at h.2 w hw
theorem SmBs_cons{b:Bd}{r:List Bd}:SmBs (b::r)↔SmV (bdV b)/\SmBs r:=by cases b; rw [SmBs]; rfl
theorem SmBs_app:∀ {a b:List Bd},SmBs (a++b)↔SmBs a/\SmBs b
 | [],b=>by simp [SmBs]
 | x::a,b=>by rw [List.cons_append,SmBs_cons,SmBs_cons,SmBs_app]; exact and_assoc.symm
theorem SmBs_rev:∀ {l:List Bd},SmBs l.reverse↔SmBs l
 | []=>by simp
 | x::r=>by
  rw [List.reverse_cons,SmBs_app,SmBs_rev,SmBs_cons,SmBs_cons]
  constructor
  ·rintro ⟨h1,h2,-⟩; exact ⟨h2,h1⟩
  ·rintro ⟨h1,h2⟩; exact ⟨h2,h1,by rw [SmBs]; trivial⟩
theorem findB_sm{n:BA}:∀ {l:List Bd} {v:Vl},SmBs l->findB n l=some v->SmV v
 | b::r,v,h,hf=>by
  rw [SmBs_cons] at h
  rw [findB] at hf
  split at hf
  ·injection hf with hf; subst hf; exact h.1
  ·exact findB_sm h.2 hf
theorem bnds_sm:∀ {ps:List BA} {vs:List Vl} {acc:List Bd},SmVs vs->SmBs acc->SmBs (bnds ps vs acc)
 | [],_,acc,_,h=>by rw [bnds]; exact h; simp
 | _::_,[],acc,_,h=>by rw [bnds]; exact h; simp
 | p::ps,v::vs,acc,hv,h=>by
  rw [SmVs] at hv
  rw [bnds]
  exact bnds_sm hv.2 (by rw [SmBs_cons]; exact ⟨hv.1,h⟩)
theorem lamB_sm{env:List Bd}(h:SmBs env):∀ (fs:List BA),SmBs (lamB env fs)/\(lamB env fs).length<=fs.length
 | []=>⟨by rw [lamB,SmBs]; trivial,by simp [lamB]⟩
 | n::r=>by
  obtain ⟨h1,h2⟩:=lamB_sm h r
  rw [lamB]
  split
  ·rename_i v hv
   exact ⟨by rw [SmBs_cons]; exact ⟨findB_sm h hv,h1⟩,by simp only [List.length_cons]; omega⟩
  ·exact ⟨h1,by simp only [List.length_cons]; omega⟩
def SmD(d:Df):Prop:=szE (dfB d)<=100000000/\(dfP d).length<=400000000
def SmL(l:List Df):Prop:=l.length<=1000000000/\∀d∈l,SmD d
theorem findD_mem{n:BA}:∀ {l:List Df} {d:Df},findD n l=some d->d∈l
 | b::r,d,h=>by
  rw [findD] at h
  split at h
  ·injection h with h; subst h; exact List.mem_cons_self
  ·exact List.mem_cons_of_mem _ (findD_mem h)
theorem SmV_vX(op n:Int):SmV (vX op n):=by simp [SmV,SmVs,SmBs]
theorem SmV_vF(n:BA):SmV (vF n):=by simp [SmV,SmVs,SmBs]
theorem szE_kid{x:Ex}{i:Nat}(hx:szE x<=100000000)(h:i<(exK x).length):szE (kid x i)<=100000000:=by
 have h1:=szE_eq x
 have h2:=kid_bulk (kid_mem h)
 unfold kid
 omega
theorem szE_alt{x:Ex}{a:Al}(hx:szE x<=100000000)(h:a∈exA x):szE (alB a)<=100000000/\(alNs a).length<=1000000000:=by
 have h1:=szE_eq x
 have h2:=alt_bulk h
 omega
theorem szE_lens{x:Ex}(hx:szE x<=100000000):(exK x).length<=1000000000/\(exP x).length<=1000000000/\(exA x).length<=1000000000:=by
 have h1:=szE_eq x
 have h2:=kids_bulk (exK x)
 have h3:=pms_bulk (exP x)
 have h4:=alts_bulk (exA x)
 omega
theorem SmV_lam{fr:Ex->List BA}(hfr:∀x,(fr x).length<=szE x){env:List Bd}{x:Ex}(hx:szE x<=100000000)(he:SmBs env)(h1:(exK x).length=1):SmV (lamV fr env x):=by
 obtain ⟨h2,h3⟩:=lamB_sm he (fr x)
 have h4:=hfr x
 have h5:=szE_eq x
 have h6:=pms_bulk (exP x)
 rw [SmV]
 refine ⟨by simp,by rw [List.length_map]; omega,by omega,fun y hy=>?_,by rw [SmVs]; trivial,h2⟩
 rw [List.mem_singleton] at hy
 subst hy
 exact szE_kid hx oM
def SmT:Tk->Prop
 | .ex env x=>SmBs env/\szE x<=100000000
 | .li env xs=>SmBs env/\∀x∈xs,szE x<=100000000
 | .app f args=>SmV f/\SmVs args
 | .call d args=>SmD d/\SmVs args
 | .con d=>SmD d
 | .run d env=>SmD d/\SmBs env
def SmO:Oc->Prop
 | .ok vs _=>SmVs vs
 | .er _ _ _=>True
theorem SmV_parts{v:Vl}(h:SmV v):(vlK v).length<=1000000000/\(vlP v).length<=1000000000/\(vlBd v).length<=1000000000/\(∀x∈vlB v,szE x<=100000000)/\SmVs (vlK v)/\SmBs (vlBd v):=by
 cases v
 rw [SmV] at h
 simp only [vlK,vlP,vlBd,vlB]
 exact ⟨by omega,by omega,by omega,h.2.2.2⟩
theorem SmV_body{v:Vl}(h:SmV v):(vlB v).length<=1000000000:=by
 cases v
 rw [SmV] at h
 simp only [vlB]
 omega
theorem SmV_lens{v:Vl}(h:SmV v):(vlP v).length<=400000000/\(vlBd v).length<=400000000:=by
 cases v
 rw [SmV] at h
 exact ⟨h.2.1,h.2.2.1⟩
theorem SmBs_nil:SmBs []:=by rw [SmBs]; trivial
theorem SmVs_nil:SmVs []:=by rw [SmVs]; trivial
theorem SmVs_one{v:Vl}:SmVs [v]↔SmV v:=by rw [SmVs,SmVs]; simp
theorem kids_sm{x:Ex}(hx:szE x<=100000000):∀y∈exK x,szE y<=100000000:=fun y hy=>by
 have h1:=szE_eq x
 have h2:=kid_bulk hy
 omega
structure SmSem (m:Sem):Prop where
 fr:∀x,(m.fr x).length<=szE x
 o1:∀op a v,m.o1 op a = .ok v->SmV v
 o2:∀op a b v,m.o2 op a b = .ok v->SmV v
theorem exc_small{r:Except Int Vl}(h:∀v,r = .ok v->SmV v)(st:Int)(wh:BA):SmO (exc r st wh):=by
 cases r with
 | ok v=>exact SmVs_one.2 (h v rfl)
 | error k=>trivial
theorem Ev.small{m:Sem}{l:List Df}{fu:Int}{t:Tk}{st:Int}{wh:BA}{o:Oc}(hm:SmSem m)(hl:SmL l)(h:Ev m l fu t st wh o):SmT t->SmO o:=by
 induction h with
 | runG h g ih=>intro s; exact ih ⟨s.2,s.1.1⟩
 | callG h h1 h2 g ih=>intro s; exact ih ⟨s.1,bnds_sm s.2 SmBs_nil⟩
 | conG h g ih=>intro s; exact ih ⟨s,SmBs_nil⟩
 | appN h h1 h2 g ih=>intro s; exact ih ⟨hl.2 _ (findD_mem h2),s.2⟩
 | appG h h1 h2 h3 h4 g ih=>
  intro s
  obtain ⟨-,-,-,hb,-,hbs⟩:=SmV_parts s.1
  refine ih ⟨bnds_sm s.2 (SmBs_rev.2 hbs),hb _ ?_⟩
  simp [List.getD,h2]
 | liN=>intro _; exact SmVs_nil
 | liC g g2 ih ih2=>
  intro s
  have a:=ih ⟨s.1,s.2 _ List.mem_cons_self⟩
  have b:=ih2 ⟨s.1,fun y hy=>s.2 y (List.mem_cons_of_mem _ hy)⟩
  show SmVs (_::_)
  rw [SmVs]
  exact ⟨SmVs_one.1 a,b⟩
 | exIo=>intro _; exact SmVs_one.2 (SmV_vX _ _)
 | exB=>intro _; exact SmVs_one.2 (SmV_vX _ _)
 | exVb h h1 h2=>intro s; exact SmVs_one.2 (findB_sm s.1 h2)
 | exVf=>intro _; exact SmVs_one.2 (SmV_vF _)
 | exVc h h1 h2 h3 h4 g ih=>intro s; exact ih (hl.2 _ (findD_mem h3))
 | @exCo env x st wh vs st1 h h1 g ih=>
  intro s
  have a:SmVs vs:=ih ⟨s.1,kids_sm s.2⟩
  have b:vs.length=(exK x).length:=g.shape
  have c:=szE_lens s.2
  refine SmVs_one.2 ?_
  rw [SmV]
  exact ⟨by simp only [List.length_nil]; omega,by simp,by simp,fun y hy=>by simp at hy,a,SmBs_nil⟩
 | exKa h h1 g h2 g2 ih ih2=>intro s; exact ih2 ⟨findB_sm s.1 h2,ih ⟨s.1,kids_sm s.2⟩⟩
 | exKc h h1 g h2 h3 g2 ih ih2=>intro s; exact ih2 ⟨hl.2 _ (findD_mem h3),ih ⟨s.1,kids_sm s.2⟩⟩
 | exL h h1=>intro s; exact SmVs_one.2 (SmV_lam hm.fr s.2 s.1 (rt_len1 h (.inl h1)))
 | exTo h h1 g g2 ih ih2=>
  intro s
  have hk:=rt_len2 h (.inl h1)
  have a:=ih ⟨s.1,szE_kid s.2 oM⟩
  exact ih2 ⟨by rw [SmBs_cons]; exact ⟨SmVs_one.1 a,s.1⟩,szE_kid s.2 oM⟩
 | exFt h h1 g h2 h3 g2 ih ih2=>intro s; have hk:=rt_len3 h h1; exact ih2 ⟨s.1,szE_kid s.2 oM⟩
 | exFf h h1 g h2 h3 g2 ih ih2=>intro s; have hk:=rt_len3 h h1; exact ih2 ⟨s.1,szE_kid s.2 oM⟩
 | exMo h h1 g h2 h3 h4 g2 ih ih2=>
  intro s
  have hk:=rt_len1 h (.inr (.inl h1))
  have a:=ih ⟨s.1,szE_kid s.2 oM⟩
  obtain ⟨-,-,-,-,hvs,-⟩:=SmV_parts (SmVs_one.1 a)
  exact ih2 ⟨bnds_sm hvs s.1,(szE_alt s.2 (findA_mem h3)).1⟩
 | exAq=>intro _; exact SmVs_one.2 (SmV_vX _ _)
 | exAo=>intro _; exact SmVs_one.2 (SmV_vX _ _)
 | exU h h1 g ih=>intro s; have hk:=rt_pos h h1; exact ih ⟨s.1,szE_kid s.2 oM⟩
 | exOo=>intro _; exact exc_small (hm.o1 _ _) _ _
 | exWo=>intro _; exact exc_small (hm.o2 _ _ _) _ _
 | _=>intro _; trivial
end Go.Proofs.YtgonmmckkikmaaaGreat
