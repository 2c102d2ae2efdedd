/- Values of Go as plain data, an evaluator over them, and what the functions of the program return; part Yb. -/
import Derived.Test.YthchpmnkecoafaaGreatDoorYa
set_option linter.unusedSectionVars false
set_option linter.unusedSimpArgs false
set_option linter.unusedVariables false
namespace Go.Proofs.YthchpmnkecoafaaGreatDoor
open Go.Proofs.Tryz
open Go.Pv Go.Proofs.Tryz
set_option maxRecDepth 100000
theorem gSy{v:Nv}{i:Nat}(hS:∀w∈nvS v,(syA w).length<=1000000000)(h:i<(nvS v).length):(syA ((nvS v).getD i default)).length<=1000000000:=hS _ (getD_mem h)
theorem gHo{v:Nv}{i:Nat}(hH:∀w∈nvH v,(hoP w).length<=1000000000)(h:i<(nvH v).length):(hoP ((nvH v).getD i default)).length<=1000000000:=hH _ (getD_mem h)
abbrev vaq_I(v:Nv)(name:BA)(j:Int)(e:Ext):S:=S.mk [(1,vS name),(2,.lp 2 0),(6,vI6 j)] [(2,nvV v)] e
section
variable (v:Nv) (name:BA) (i:Nat) (e:Ext) (hi:i<(nvW v).length) (hN:(nvW v).length<=1000000000)
include v name i e hi hN
theorem vaq_b1(hx0:vrNm (List.getD (nvW v) i default)=name)(cx:Cx)(hcx:cx.n=29){Q:PExit->S->Prop}(hq:Q (.ret) (S.mk [(1,vS name),(2,.lp 2 0),(6,vI6 (i:Int)),(4,vS (vrS (List.getD (nvW v) i default))),(5,.v (.bool true))] [(2,nvV v)] e)):PW prog cx (loopF f227 0) (vaq_I v name (i:Int) e) Q:=
 pw mdL 29 [bt true,am ((0:Int)<=(i:Int)/\(i:Int)<((Vr.cs (nvW v)).length:Int)) (by (simp only [Vr.cs_len]; omega)),ar (List.getD (Vr.cs (nvW v)) (Int.toNat (i:Int)) []) (vrL (List.getD (nvW v) i default)) (by simp only [Int.toNat_natCast,Int.toNat_zero]; rw [@Vr.cs_at (nvW v) (i) hi]; try rfl),bt (ByteArray.toList (vrNm (List.getD (nvW v) i default))==ByteArray.toList name) (bsT hx0),am ((0:Int)<=(i:Int)/\(i:Int)<((Vr.cs (nvW v)).length:Int)) (by (simp only [Vr.cs_len]; omega)),ar (List.getD (Vr.cs (nvW v)) (Int.toNat (i:Int)) []) (vrL (List.getD (nvW v) i default)) (by simp only [Int.toNat_natCast,Int.toNat_zero]; rw [@Vr.cs_at (nvW v) (i) hi]; try rfl)] [1,2,6,4,5] [2] hcx hq
theorem vaq_b2(hx0:¬vrNm (List.getD (nvW v) i default)=name)(cx:Cx)(hcx:cx.n=29){Q:PExit->S->Prop}(hq:Q (.normal) (S.mk [(1,vS name),(2,.lp 2 0),(6,vI6 ((i:Int) - 1))] [(2,nvV v)] e)):PW prog cx (loopF f227 0) (vaq_I v name (i:Int) e) Q:=
 pw mdL 29 [bt true,am ((0:Int)<=(i:Int)/\(i:Int)<((Vr.cs (nvW v)).length:Int)) (by (simp only [Vr.cs_len]; omega)),ar (List.getD (Vr.cs (nvW v)) (Int.toNat (i:Int)) []) (vrL (List.getD (nvW v) i default)) (by simp only [Int.toNat_natCast,Int.toNat_zero]; rw [@Vr.cs_at (nvW v) (i) hi]; try rfl),bf (ByteArray.toList (vrNm (List.getD (nvW v) i default))==ByteArray.toList name) (bsF hx0),wr ((i:Int) - 1)] [1,2,6,4,5] [2] hcx hq
end
theorem vaq_z1(v:Nv)(name:BA)(i:Nat)(e:Ext)(hi:i=0)(hN:(nvW v).length<=1000000000)(cx:Cx)(hcx:cx.n=29){Q:PExit->S->Prop}(hq:Q (.exit 0) (S.mk [(1,vS name),(2,.lp 2 0),(6,vI6 (-1))] [(2,nvV v)] e)):PW prog cx (loopF f227 0) (vaq_I v name (-1) e) Q:=
 pw mdL 29 [bf false] [1,2,6,4,5] [2] hcx hq
inductive vaq_R where
 | e0 (el:Vr)
 | e1
def vaq_f(name:BA):List Vr->vaq_R
 | []=>(vaq_R.e1)
 | el::r=>(if vrNm el=name then (vaq_R.e0 el) else vaq_f name r)
def vaq_q(v:Nv)(name:BA)(e:Ext):vaq_R->PExit × S
 | .e0 el=>(.ret,S.mk [(1,vS name),(2,.lp 2 0),(4,vS (vrS el)),(5,.v (.bool true))] [(2,nvV v)] e)
 | .e1=>(.exit 0,S.mk [(1,vS name),(2,.lp 2 0)] [(2,nvV v)] e)
theorem vaq_lp(v:Nv)(name:BA)(e:Ext)(hN:(nvW v).length<=1000000000)(i:Nat)(hi0:i<=(nvW v).length)  : (Ob.loop 29 (loopF f227 0) (vaq_I v name ((i:Int) - 1)  e) (vaq_q v name e (vaq_f name (List.reverse (List.take i ((nvW v)))))).1 (vaq_q v name e (vaq_f name (List.reverse (List.take i ((nvW v)))))).2).ok prog:=by
 refine Ob.loop_of (P:=prog) (α:={ zz:Nat × Unit // zz.1<=(nvW v).length }) (fun zz=>vaq_I v name ((zz.1.1:Int) - 1)  e) (fun zz=>zz.1.1) (fun zz=>(vaq_q v name e (vaq_f name (List.reverse (List.take zz.1.1 ((nvW v))))))) ?_ ⟨(i,()),hi0⟩
 clear hi0
 clear  i
 rintro ⟨⟨i,u⟩,hi⟩ cx hcx
 simp only at hi  ⊢
 rcases i with _ | i
 ·rw [show (((0:Nat):Int) - 1) = -1 from rfl]
  have hr:(vaq_f name (List.reverse (List.take 0 ((nvW v)))))=(vaq_R.e1):=by rw [List.take_zero,List.reverse_nil,vaq_f]
  refine vaq_z1 v name 0  e rfl hN   cx hcx (.inr ?_)
  rw [hr]
  exact ⟨by simp,rfl,xr⟩
 ·have hlt:i<(nvW v).length:=by omega
  have hd:=take_rev_at hlt
  rw [show (((i+1:Nat):Int) - 1)=(i:Int) by omega]
  by_cases h0:vrNm (List.getD (nvW v) i default)=name
  ·have hr:(vaq_f name (List.reverse (List.take (i+1) ((nvW v)))))=(vaq_R.e0 (List.getD ((nvW v)) i default)):=by rw [hd,vaq_f,iP h0]
   refine vaq_b1 v name i  e hlt hN  h0 cx hcx (.inr ?_)
   rw [hr]
   exact ⟨by simp,rfl,xr⟩
  ·have hr:(vaq_f name (List.reverse (List.take (i+1) ((nvW v)))))=(vaq_f name (List.reverse (List.take i ((nvW v))))):=by rw [hd,vaq_f,iN h0]
   exact vaq_b2 v name i  e hlt hN  h0 cx hcx (.inl ⟨rfl,⟨(i,()),by simp only; omega⟩,by simp only; omega,xr,by simp only; rw [hr]⟩)
theorem vaq_0(v:Nv)(name:BA)(e:Ext)(hN:(nvW v).length<=1000000000)(p0:Vr)(hres:(vaq_f name (List.reverse ((nvW v))))=(vaq_R.e0 p0)):(Ob.loop 29 (loopF f227 0) (vaq_I v name (((nvW v).length:Int) - 1)  e) (vaq_q v name e (vaq_R.e0 p0)).1 (vaq_q v name e (vaq_R.e0 p0)).2).ok prog:=by
 have:=vaq_lp v name e hN ((nvW v).length)  (Nat.le_refl _)
 rw [List.take_length] at this
 rw [hres] at this
 exact this
theorem vaq_1(v:Nv)(name:BA)(e:Ext)(hN:(nvW v).length<=1000000000)(hres:(vaq_f name (List.reverse ((nvW v))))=(vaq_R.e1)):(Ob.loop 29 (loopF f227 0) (vaq_I v name (((nvW v).length:Int) - 1)  e) (vaq_q v name e (vaq_R.e1)).1 (vaq_q v name e (vaq_R.e1)).2).ok prog:=by
 have:=vaq_lp v name e hN ((nvW v).length)  (Nat.le_refl _)
 rw [List.take_length] at this
 rw [hres] at this
 exact this
theorem vaq_e(name:BA):∀l:List Vr,vaq_f name l=if ix vrNm name l<l.length then .e0 (l.getD (ix vrNm name l) default) else .e1
 | []=>by simp [vaq_f,ix]
 | c::r=>by
  by_cases h:vrNm c=name
  ·simp [vaq_f,ix,h]
  ·simp only [vaq_f,ix,h,if_false,vaq_e name r,List.length_cons,Nat.add_lt_add_iff_right,List.getD_cons_succ]
section
variable (v:Nv) (name:BA) (hN:(nvW v).length<=1000000000)
include v name hN
theorem vaL_1(hy0:Vr)(hx1:vaq_f name (List.reverse (nvW v))=vaq_R.e0 hy0):Pu 227 [.agg (nvL v),.str name] (.ret (.tup [.str (vrS hy0),.bool true])):=
 pu mdL (fun e=>[sl (Vr.cs_len (nvW v)),wr (((nvW v).length:Int) - 1),lp (S.mk [(0,.v (.agg (nvL v))),(1,vS name),(2,.lp 2 0),(4,vS nm0),(5,.v (.bool false)),(7,.lp 2 0),(8,vL 2 (Vr.cs (nvW v))),(9,vI6 ((nvW v).length:Int)),(10,vI6 (((nvW v).length:Int) - 1)),(6,vI6 (((nvW v).length:Int) - 1))] [(2,nvV v)] e) (@vaq_0 (v) (name) (e) hN hy0 hx1) xr]) func227
theorem vaL_2(hx0:vaq_f name (List.reverse (nvW v))=vaq_R.e1):Pu 227 [.agg (nvL v),.str name] (.ret (.tup [.str nm0,.bool false])):=
 pu mdL (fun e=>[sl (Vr.cs_len (nvW v)),wr (((nvW v).length:Int) - 1),lp (S.mk [(0,.v (.agg (nvL v))),(1,vS name),(2,.lp 2 0),(4,vS nm0),(5,.v (.bool false)),(7,.lp 2 0),(8,vL 2 (Vr.cs (nvW v))),(9,vI6 ((nvW v).length:Int)),(10,vI6 (((nvW v).length:Int) - 1)),(6,vI6 (((nvW v).length:Int) - 1))] [(2,nvV v)] e) (@vaq_1 (v) (name) (e) hN hx0) xr]) func227
end
abbrev fdq_I(v:Nv)(name:BA)(j:Int)(e:Ext):S:=S.mk [(1,vS name),(4,.lp 4 0),(17,vL 3 (Sy.cs (nvS v))),(18,vI6 ((nvS v).length:Int)),(19,vI6 j)] [(4,[vS nm0,.v .nilsl,vS nm0])] e
inductive fdq_R where
 | e0 (el:Sy)
 | e1
def fdq_f(name:BA):List Sy->fdq_R
 | []=>(fdq_R.e1)
 | el::r=>(if syNm el=name then (fdq_R.e0 el) else fdq_f name r)
def fdq_q(v:Nv)(name:BA)(e:Ext):fdq_R->PExit × S
 | .e0 el=>(.ret,S.mk [(1,vS name),(4,.lp 4 0),(17,vL 3 (Sy.cs (nvS v))),(18,vI6 ((nvS v).length:Int)),(5,.v (.bool true))] [(4,syV el)] e)
 | .e1=>(.exit 1,S.mk [(1,vS name),(4,.lp 4 0),(17,vL 3 (Sy.cs (nvS v))),(18,vI6 ((nvS v).length:Int))] [(4,[vS nm0,.v .nilsl,vS nm0])] e)
theorem fdq_lp(v:Nv)(name:BA)(hq1:¬name=ByteArray.mk #[116,97,103])(hq2:¬name=ByteArray.mk #[118,97,108])(hS:∀w∈nvS v,(syA w).length<=1000000000)(e:Ext)(hN:(nvS v).length<=1000000000):(Ob.loop 34 (loopF f272 0) (fdq_I v name 0  e) (fdq_q v name e (fdq_f name (List.drop 0 ((nvS v))))).1 (fdq_q v name e (fdq_f name (List.drop 0 ((nvS v))))).2).ok prog:=by
 refine rng ((nvS v).length) (fun j _=>fdq_I v name j  e) (fun i _=>fdq_f name (List.drop i ((nvS v)))) (fdq_q v name e) (fun i _=>True) kR ?_ () trivial
 rintro i u hi -
 rcases Nat.lt_or_ge i ((nvS v).length) with hlt | hge
 ·have hd:=drop_at hlt
  by_cases h0:syNm (List.getD (nvS v) i default)=name
  ·exact lX mdL [dt ((i:Int)<((nvS v).length:Int)),am ((0:Int)<=(i:Int)/\(i:Int)<((Sy.cs (nvS v)).length:Int)) (by (simp only [Sy.cs_len]; omega)),ar (List.getD (Sy.cs (nvS v)) (Int.toNat (i:Int)) []) (syL (List.getD (nvS v) i default)) (by simp only [Int.toNat_natCast,Int.toNat_zero]; rw [@Sy.cs_at (nvS v) (i) hlt]; try rfl),bt (ByteArray.toList (syNm (List.getD (nvS v) i default))==ByteArray.toList name) (bsT h0),cl (@cloS (syA (List.getD (nvS v) i default)) (by (apply gSy <;> first | assumption | omega | decide)))] (fdq_R.e0 (List.getD ((nvS v)) i default)) (by rw [hd,fdq_f,iP h0])
  ·exact lN mdL [dt ((i:Int)<((nvS v).length:Int)),am ((0:Int)<=(i:Int)/\(i:Int)<((Sy.cs (nvS v)).length:Int)) (by (simp only [Sy.cs_len]; omega)),ar (List.getD (Sy.cs (nvS v)) (Int.toNat (i:Int)) []) (syL (List.getD (nvS v) i default)) (by simp only [Int.toNat_natCast,Int.toNat_zero]; rw [@Sy.cs_at (nvS v) (i) hlt]; try rfl),bf (ByteArray.toList (syNm (List.getD (nvS v) i default))==ByteArray.toList name) (bsF h0),wr ((i:Int)+1)] hlt () trivial (by rw [hd,fdq_f,iN h0])
 ·have he:i=(nvS v).length:=by omega
  exact lX mdL [df ((i:Int)<((nvS v).length:Int))] (fdq_R.e1) (by rw [he,List.drop_length,fdq_f])
theorem fdq_0(v:Nv)(name:BA)(hq1:¬name=ByteArray.mk #[116,97,103])(hq2:¬name=ByteArray.mk #[118,97,108])(hS:∀w∈nvS v,(syA w).length<=1000000000)(e:Ext)(hN:(nvS v).length<=1000000000)(p0:Sy)(hres:(fdq_f name ((nvS v)))=(fdq_R.e0 p0)):(Ob.loop 34 (loopF f272 0) (fdq_I v name 0  e) (fdq_q v name e (fdq_R.e0 p0)).1 (fdq_q v name e (fdq_R.e0 p0)).2).ok prog:=
 rz (fdq_lp v name hq1 hq2 hS e hN) hres
theorem fdq_1(v:Nv)(name:BA)(hq1:¬name=ByteArray.mk #[116,97,103])(hq2:¬name=ByteArray.mk #[118,97,108])(hS:∀w∈nvS v,(syA w).length<=1000000000)(e:Ext)(hN:(nvS v).length<=1000000000)(hres:(fdq_f name ((nvS v)))=(fdq_R.e1)):(Ob.loop 34 (loopF f272 0) (fdq_I v name 0  e) (fdq_q v name e (fdq_R.e1)).1 (fdq_q v name e (fdq_R.e1)).2).ok prog:=
 rz (fdq_lp v name hq1 hq2 hS e hN) hres
theorem fdq_e(name:BA):∀l:List Sy,fdq_f name l=if ix syNm name l<l.length then .e0 (l.getD (ix syNm name l) default) else .e1
 | []=>by simp [fdq_f,ix]
 | c::r=>by
  by_cases h:syNm c=name
  ·simp [fdq_f,ix,h]
  ·simp only [fdq_f,ix,h,if_false,fdq_e name r,List.length_cons,Nat.add_lt_add_iff_right,List.getD_cons_succ]
theorem fdL_1(v:Nv)(name:BA)(hS:∀w∈nvS v,(syA w).length<=1000000000)(hN:(nvS v).length<=1000000000)(hx0:name=ByteArray.mk #[116,97,103]):Pu 272 [.agg (nvL v),.str name] (.ret (.tup [.agg [.str (ByteArray.mk #[116,97,103]),.sl 1 [],.str (ByteArray.mk #[73,110,116])],.bool true])):=
 Ob.pur_wk (Wk.t (WkL.c (Wk.a (kr (kn 1 (WkL.r _)))) (WkL.r _))) (pm mdL [bt (ByteArray.toList name==ByteArray.toList (ByteArray.mk #[116,97,103])) (bsT hx0)] func272)
section
variable (v:Nv) (name:BA) (hS:∀w∈nvS v,(syA w).length<=1000000000) (hN:(nvS v).length<=1000000000) (hx0:¬name=ByteArray.mk #[116,97,103])
include v name hS hN hx0
theorem fdL_2(hx1:name=ByteArray.mk #[118,97,108]):Pu 272 [.agg (nvL v),.str name] (.ret (.tup [.agg [.str (ByteArray.mk #[118,97,108]),.sl 1 [[.str (ByteArray.mk #[67,101,108,108])]],.str (ByteArray.mk #[73,110,116])],.bool true])):=
 pm mdL [bf (ByteArray.toList name==ByteArray.toList (ByteArray.mk #[116,97,103])) (bsF hx0),bt (ByteArray.toList name==ByteArray.toList (ByteArray.mk #[118,97,108])) (bsT hx1)] func272
theorem fdL_3(hx1:¬name=ByteArray.mk #[118,97,108])(hy2:Sy)(hx3:fdq_f name (nvS v)=fdq_R.e0 hy2):Pu 272 [.agg (nvL v),.str name] (.ret (.tup [.agg (syL hy2),.bool true])):=
 pu mdL (fun e=>[bf (ByteArray.toList name==ByteArray.toList (ByteArray.mk #[116,97,103])) (bsF hx0),bf (ByteArray.toList name==ByteArray.toList (ByteArray.mk #[118,97,108])) (bsF hx1),sl (Sy.cs_len (nvS v)),lp (S.mk [(0,.v (.agg (nvL v))),(1,vS name),(2,.lp 2 0),(4,.lp 4 0),(5,.v (.bool false)),(8,vS name),(10,.v (.bool (ByteArray.toList name==ByteArray.toList (ByteArray.mk #[116,97,103])))),(9,.v (.bool (ByteArray.toList name==ByteArray.toList (ByteArray.mk #[116,97,103])))),(13,.v (.bool (ByteArray.toList name==ByteArray.toList (ByteArray.mk #[118,97,108])))),(12,.v (.bool (ByteArray.toList name==ByteArray.toList (ByteArray.mk #[118,97,108])))),(16,.lp 2 1),(17,vL 3 (Sy.cs (nvS v))),(18,vI6 ((nvS v).length:Int)),(19,vI6 0)] [(2,nvV v),(4,[vS nm0,.v .nilsl,vS nm0])] e) (@fdq_0 (v) (name) hx0 hx1 hS (e) hN hy2 hx3) xr]) func272
end
theorem fdL_4(v:Nv)(name:BA)(hS:∀w∈nvS v,(syA w).length<=1000000000)(hN:(nvS v).length<=1000000000)(hx0:¬name=ByteArray.mk #[116,97,103])(hx1:¬name=ByteArray.mk #[118,97,108])(hx2:fdq_f name (nvS v)=fdq_R.e1):Pu 272 [.agg (nvL v),.str name] (.ret (.tup [.agg [.str nm0,.sl 1 [],.str nm0],.bool false])):=
 Ob.pur_wk (Wk.t (WkL.c (Wk.a (kr (kn 1 (WkL.r _)))) (WkL.r _))) (pu mdL (fun e=>[bf (ByteArray.toList name==ByteArray.toList (ByteArray.mk #[116,97,103])) (bsF hx0),bf (ByteArray.toList name==ByteArray.toList (ByteArray.mk #[118,97,108])) (bsF hx1),sl (Sy.cs_len (nvS v)),lp (S.mk [(0,.v (.agg (nvL v))),(1,vS name),(2,.lp 2 0),(4,.lp 4 0),(5,.v (.bool false)),(8,vS name),(10,.v (.bool (ByteArray.toList name==ByteArray.toList (ByteArray.mk #[116,97,103])))),(9,.v (.bool (ByteArray.toList name==ByteArray.toList (ByteArray.mk #[116,97,103])))),(13,.v (.bool (ByteArray.toList name==ByteArray.toList (ByteArray.mk #[118,97,108])))),(12,.v (.bool (ByteArray.toList name==ByteArray.toList (ByteArray.mk #[118,97,108])))),(16,.lp 2 1),(17,vL 3 (Sy.cs (nvS v))),(18,vI6 ((nvS v).length:Int)),(19,vI6 0)] [(2,nvV v),(4,[vS nm0,.v .nilsl,vS nm0])] e) (@fdq_1 (v) (name) hx0 hx1 hS (e) hN hx2) xr]) func272)
abbrev hoq_I(v:Nv)(name:BA)(j:Int)(e:Ext):S:=S.mk [(1,vS name),(4,.lp 4 0),(9,vL 2 (Ho.cs (nvH v))),(10,vI6 ((nvH v).length:Int)),(11,vI6 j)] [(4,[vS nm0,.v .nilsl])] e
inductive hoq_R where
 | e0 (el:Ho)
 | e1
def hoq_f(name:BA):List Ho->hoq_R
 | []=>(hoq_R.e1)
 | el::r=>(if hoNm el=name then (hoq_R.e0 el) else hoq_f name r)
def hoq_q(v:Nv)(name:BA)(e:Ext):hoq_R->PExit × S
 | .e0 el=>(.ret,S.mk [(1,vS name),(4,.lp 4 0),(9,vL 2 (Ho.cs (nvH v))),(10,vI6 ((nvH v).length:Int)),(5,.v (.bool true))] [(4,hoV el)] e)
 | .e1=>(.exit 0,S.mk [(1,vS name),(4,.lp 4 0),(9,vL 2 (Ho.cs (nvH v))),(10,vI6 ((nvH v).length:Int))] [(4,[vS nm0,.v .nilsl])] e)
theorem hoq_lp(v:Nv)(name:BA)(hH:∀w∈nvH v,(hoP w).length<=1000000000)(e:Ext)(hN:(nvH v).length<=1000000000):(Ob.loop 26 (loopF f274 0) (hoq_I v name 0  e) (hoq_q v name e (hoq_f name (List.drop 0 ((nvH v))))).1 (hoq_q v name e (hoq_f name (List.drop 0 ((nvH v))))).2).ok prog:=by
 refine rng ((nvH v).length) (fun j _=>hoq_I v name j  e) (fun i _=>hoq_f name (List.drop i ((nvH v)))) (hoq_q v name e) (fun i _=>True) kR ?_ () trivial
 rintro i u hi -
 rcases Nat.lt_or_ge i ((nvH v).length) with hlt | hge
 ·have hd:=drop_at hlt
  by_cases h0:hoNm (List.getD (nvH v) i default)=name
  ·exact lX mdL [dt ((i:Int)<((nvH v).length:Int)),am ((0:Int)<=(i:Int)/\(i:Int)<((Ho.cs (nvH v)).length:Int)) (by (simp only [Ho.cs_len]; omega)),ar (List.getD (Ho.cs (nvH v)) (Int.toNat (i:Int)) []) (hoL (List.getD (nvH v) i default)) (by simp only [Int.toNat_natCast,Int.toNat_zero]; rw [@Ho.cs_at (nvH v) (i) hlt]; try rfl),bt (ByteArray.toList (hoNm (List.getD (nvH v) i default))==ByteArray.toList name) (bsT h0),cl (@cloV (hoP (List.getD (nvH v) i default)) (by (apply gHo <;> first | assumption | omega | decide)))] (hoq_R.e0 (List.getD ((nvH v)) i default)) (by rw [hd,hoq_f,iP h0])
  ·exact lN mdL [dt ((i:Int)<((nvH v).length:Int)),am ((0:Int)<=(i:Int)/\(i:Int)<((Ho.cs (nvH v)).length:Int)) (by (simp only [Ho.cs_len]; omega)),ar (List.getD (Ho.cs (nvH v)) (Int.toNat (i:Int)) []) (hoL (List.getD (nvH v) i default)) (by simp only [Int.toNat_natCast,Int.toNat_zero]; rw [@Ho.cs_at (nvH v) (i) hlt]; try rfl),bf (ByteArray.toList (hoNm (List.getD (nvH v) i default))==ByteArray.toList name) (bsF h0),wr ((i:Int)+1)] hlt () trivial (by rw [hd,hoq_f,iN h0])
 ·have he:i=(nvH v).length:=by omega
  exact lX mdL [df ((i:Int)<((nvH v).length:Int))] (hoq_R.e1) (by rw [he,List.drop_length,hoq_f])
theorem hoq_0(v:Nv)(name:BA)(hH:∀w∈nvH v,(hoP w).length<=1000000000)(e:Ext)(hN:(nvH v).length<=1000000000)(p0:Ho)(hres:(hoq_f name ((nvH v)))=(hoq_R.e0 p0)):(Ob.loop 26 (loopF f274 0) (hoq_I v name 0  e) (hoq_q v name e (hoq_R.e0 p0)).1 (hoq_q v name e (hoq_R.e0 p0)).2).ok prog:=
 rz (hoq_lp v name hH e hN) hres
theorem hoq_1(v:Nv)(name:BA)(hH:∀w∈nvH v,(hoP w).length<=1000000000)(e:Ext)(hN:(nvH v).length<=1000000000)(hres:(hoq_f name ((nvH v)))=(hoq_R.e1)):(Ob.loop 26 (loopF f274 0) (hoq_I v name 0  e) (hoq_q v name e (hoq_R.e1)).1 (hoq_q v name e (hoq_R.e1)).2).ok prog:=
 rz (hoq_lp v name hH e hN) hres
theorem hoq_e(name:BA):∀l:List Ho,hoq_f name l=if ix hoNm name l<l.length then .e0 (l.getD (ix hoNm name l) default) else .e1
 | []=>by simp [hoq_f,ix]
 | c::r=>by
  by_cases h:hoNm c=name
  ·simp [hoq_f,ix,h]
  ·simp only [hoq_f,ix,h,if_false,hoq_e name r,List.length_cons,Nat.add_lt_add_iff_right,List.getD_cons_succ]
theorem hoqL_1(v:Nv)(name:BA)(hH:∀w∈nvH v,(hoP w).length<=1000000000)(hN:(nvH v).length<=1000000000)(hy0:Ho)(hx1:hoq_f name (nvH v)=hoq_R.e0 hy0):Pu 274 [.agg (nvL v),.str name] (.ret (.tup [.agg (hoL hy0),.bool true])):=
 pu mdL (fun e=>[sl (Ho.cs_len (nvH v)),lp (S.mk [(0,.v (.agg (nvL v))),(1,vS name),(2,.lp 2 0),(4,.lp 4 0),(5,.v (.bool false)),(8,.lp 2 2),(9,vL 2 (Ho.cs (nvH v))),(10,vI6 ((nvH v).length:Int)),(11,vI6 0)] [(2,nvV v),(4,[vS nm0,.v .nilsl])] e) (@hoq_0 (v) (name) hH (e) hN hy0 hx1) xr]) func274
theorem hoqL_2(v:Nv)(name:BA)(hH:∀w∈nvH v,(hoP w).length<=1000000000)(hN:(nvH v).length<=1000000000)(hx0:hoq_f name (nvH v)=hoq_R.e1):Pu 274 [.agg (nvL v),.str name] (.ret (.tup [.agg [.str nm0,.sl 2 []],.bool false])):=
 Ob.pur_wk (Wk.t (WkL.c (Wk.a (kr (kn 2 (WkL.r _)))) (WkL.r _))) (pu mdL (fun e=>[sl (Ho.cs_len (nvH v)),lp (S.mk [(0,.v (.agg (nvL v))),(1,vS name),(2,.lp 2 0),(4,.lp 4 0),(5,.v (.bool false)),(8,.lp 2 2),(9,vL 2 (Ho.cs (nvH v))),(10,vI6 ((nvH v).length:Int)),(11,vI6 0)] [(2,nvV v),(4,[vS nm0,.v .nilsl])] e) (@hoq_1 (v) (name) hH (e) hN hx0) xr]) func274)
abbrev kpq_I(v:Nv)(u:Vr)(j:Int)(es:List (Int × PV))  : S:=S.mk [(2,.lp 2 0),(3,.lp 3 0),(4,.lp 4 0),(5,.v (PV.mp 0)),(18,vL 2 (Vr.cs (nvW v))),(19,vI6 ((nvW v).length:Int)),(20,vI6 j)] [(2,nvV v),(3,vrV u),(4,[.v .nilsl,.v .nilsl,.v .nilsl])] [(0,[LV.mm (MM.i es)])]
def kpq_f(u:Vr):List Vr->Nat->(List (Int × PV))->(List (Int × PV))
 | [],i,es=>(es)
 | el::r,i,es=>(if vrNm el=vrNm u then kpq_f u r (i+1) (mdel (i:Int) (mupd (i:Int) (.agg (vrL el)) es)) else kpq_f u r (i+1) (mupd (i:Int) (.agg (vrL el)) es))
noncomputable def kpq_q (v:Nv) (u:Vr)  (p:(List (Int × PV))):PExit × S:=(.exit 0,S.mk [(2,.lp 2 0),(3,.lp 3 0),(4,.lp 4 0),(5,.v (PV.mp 0)),(18,vL 2 (Vr.cs (nvW v))),(19,vI6 ((nvW v).length:Int))] [(2,nvV v),(3,vrV u),(4,[.v .nilsl,.v .nilsl,.v .nilsl])] [(0,[LV.mm (MM.i p)])])
theorem kpq(v:Nv)(u:Vr)(es:List (Int × PV))(hN:(nvW v).length<=1000000000)  : (Ob.loop 99 (loopF f75 0) (kpq_I v u 0 es) (kpq_q v u  (kpq_f u ((nvW v)) 0 es)).1 (kpq_q v u  (kpq_f u ((nvW v)) 0 es)).2).ok prog:=by
 refine rng ((nvW v).length) (fun j es=>kpq_I v u j es) (fun i es=>kpq_f u (List.drop i ((nvW v))) i es) (kpq_q v u) (fun i es=>True) kR ?_ es trivial
 rintro i es hi -
 rcases Nat.lt_or_ge i ((nvW v).length) with hlt | hge
 ·have hd:=drop_at hlt
  by_cases h0:vrNm (List.getD (nvW v) i default)=vrNm u
  ·exact lS mdL [dt ((i:Int)<((nvW v).length:Int)),am ((0:Int)<=(i:Int)/\(i:Int)<((Vr.cs (nvW v)).length:Int)) (by (simp only [Vr.cs_len]; omega)),ar (List.getD (Vr.cs (nvW v)) (Int.toNat (i:Int)) []) (vrL (List.getD (nvW v) i default)) (by simp only [Int.toNat_natCast,Int.toNat_zero]; rw [@Vr.cs_at (nvW v) (i) hlt]; try rfl),bt (ByteArray.toList (vrNm (List.getD (nvW v) i default))==ByteArray.toList (vrNm u)) (bsT h0),wr ((i:Int)+1)] [2,3,4,5,18,19,20] [2,3,4] hlt (mdel (i:Int) (mupd (i:Int) (.agg (vrL (List.getD (nvW v) i default))) es)) (S.mk [(2,.lp 2 0),(3,.lp 3 0),(4,.lp 4 0),(5,.v (PV.mp 0)),(18,vL 2 (Vr.cs (nvW v))),(19,vI6 ((nvW v).length:Int)),(20,vI6 ((i:Int)+1))] [(2,nvV v),(3,vrV u),(4,[.v .nilsl,.v .nilsl,.v .nilsl])] [(0,[LV.mm (MM.i (mdel (i:Int) (mupd (i:Int) (.agg (vrL (List.getD (nvW v) i default))) es)))])]) ⟨⟨W,W,W,W,W,W,W,tVv⟩,⟨Ws,Ws,Ws,tVv⟩,(by first | rfl | (simp only [List.nil_append,nmsC_app,nmsC_snoc,Pr.cs_snoc,Tp.cs_snoc,Ex.cs_snoc,Vr.cs_snoc,Df.cs_snoc,Sy.cs_snoc,Ho.cs_snoc]; done) | (simp only [List.nil_append,nmsC_app,nmsC_snoc,Pr.cs_snoc,Tp.cs_snoc,Ex.cs_snoc,Vr.cs_snoc,Df.cs_snoc,Sy.cs_snoc,Ho.cs_snoc]; rfl))⟩ trivial (by rw [hd,kpq_f,iP h0])
  ·exact lS mdL [dt ((i:Int)<((nvW v).length:Int)),am ((0:Int)<=(i:Int)/\(i:Int)<((Vr.cs (nvW v)).length:Int)) (by (simp only [Vr.cs_len]; omega)),ar (List.getD (Vr.cs (nvW v)) (Int.toNat (i:Int)) []) (vrL (List.getD (nvW v) i default)) (by simp only [Int.toNat_natCast,Int.toNat_zero]; rw [@Vr.cs_at (nvW v) (i) hlt]; try rfl),bf (ByteArray.toList (vrNm (List.getD (nvW v) i default))==ByteArray.toList (vrNm u)) (bsF h0),wr ((i:Int)+1)] [2,3,4,5,18,19,20] [2,3,4] hlt (mupd (i:Int) (.agg (vrL (List.getD (nvW v) i default))) es) (S.mk [(2,.lp 2 0),(3,.lp 3 0),(4,.lp 4 0),(5,.v (PV.mp 0)),(18,vL 2 (Vr.cs (nvW v))),(19,vI6 ((nvW v).length:Int)),(20,vI6 ((i:Int)+1))] [(2,nvV v),(3,vrV u),(4,[.v .nilsl,.v .nilsl,.v .nilsl])] [(0,[LV.mm (MM.i (mupd (i:Int) (.agg (vrL (List.getD (nvW v) i default))) es))])]) ⟨⟨W,W,W,W,W,W,W,tVv⟩,⟨Ws,Ws,Ws,tVv⟩,(by first | rfl | (simp only [List.nil_append,nmsC_app,nmsC_snoc,Pr.cs_snoc,Tp.cs_snoc,Ex.cs_snoc,Vr.cs_snoc,Df.cs_snoc,Sy.cs_snoc,Ho.cs_snoc]; done) | (simp only [List.nil_append,nmsC_app,nmsC_snoc,Pr.cs_snoc,Tp.cs_snoc,Ex.cs_snoc,Vr.cs_snoc,Df.cs_snoc,Sy.cs_snoc,Ho.cs_snoc]; rfl))⟩ trivial (by rw [hd,kpq_f,iN h0])
 ·have he:i=(nvW v).length:=by omega
  exact lX mdL [df ((i:Int)<((nvW v).length:Int))] (es) (by rw [he,List.drop_length,kpq_f])
def gkV(u:Vr)(l:List Vr)(i:Nat):Vr:=if i<l.length/\vrNm (l.getD i default)≠vrNm u then l.getD i default else default
def gkB(u:Vr)(l:List Vr)(i:Nat):Bool:=decide (i<l.length/\vrNm (l.getD i default)≠vrNm u)
theorem mget_mupd{κ:Type} [DecidableEq κ] (k k':κ) (v:PV):∀es:List (κ × PV),mget k (mupd k' v es)=if k'=k then some v else mget k es
 | []=>by by_cases h:k'=k <;> simp [mupd,mget,h]
 | x::r=>by
  by_cases h1:x.1=k'
  ·by_cases h:k'=k
   ·subst h; simp [mupd,mget,h1]
   ·simp only [mupd,h1,if_true,mget,h,if_false]
  ·by_cases h:k'=k
   ·subst h; simp only [mupd,h1,if_false,mget,mget_mupd,if_true]
   ·simp only [mupd,h1,if_false,mget,mget_mupd,h]
theorem kpq_keys(u:Vr):∀ (l:List Vr) (i:Nat) (es:List (Int × PV)),(∀x∈es,x.1<(i:Int))->(es.map (·.1)).Nodup ->
  ∀j:Nat,mget (j:Int) (kpq_f u l i es)=if j<i then mget (j:Int) es else if j - i<l.length/\vrNm (l.getD (j - i) default)≠vrNm u then some (.agg (vrL (l.getD (j - i) default))) else none
 | [],i,es,h,_,j=>by
  by_cases hj:j<i
  ·simp [kpq_f,hj]
  ·rw [iN hj,iN sM,kpq_f]
   exact mget_none fun x hx=>by have:=h x hx; omega
 | c::r,i,es,h,hn,j=>by
  have hni:∀x∈es,x.1≠(i:Int):=fun x hx=>by have:=h x hx; omega
  have hm:=mupd_new (v := .agg (vrL c)) hni
  have hlt:∀x∈mupd (i:Int) (.agg (vrL c)) es,x.1<((i+1:Nat):Int):=fun x hx=>by
   rw [hm,List.mem_append] at hx
   rcases hx with hx | hx
   ·have:=h x hx; omega
   ·simp only [List.mem_singleton] at hx; subst hx; simp only; omega
  by_cases hc:vrNm c=vrNm u
  ·have hd:mdel (i:Int) (mupd (i:Int) (.agg (vrL c)) es)=es:=by
    rw [hm,mdel_at (j:=es.length) sM sM (fun q hq hql=>by rw [List.getElem_append_left hql]; exact hni _ (List.getElem_mem hql))]
    simp [List.eraseIdx_append_of_length_le]
   rw [kpq_f,iP hc,hd,kpq_keys u r (i+1) es (fun x hx=>by have:=h x hx; omega) hn j]
   by_cases hj:j<i
   ·rw [iP oM,iP hj]
   ·by_cases hji:j=i
    ·subst hji
     rw [iP oM,iN oM,iN (by simp [hc])]
     exact mget_none hni
    ·rw [iN oM,iN hj]
     have e:j - i=(j - (i+1))+1:=by omega
     rw [e,List.length_cons,List.getD_cons_succ]
     simp only [Nat.add_lt_add_iff_right]
  ·rw [kpq_f,iN hc,kpq_keys u r (i+1) _ hlt (by rw [hm,List.map_append,List.nodup_append]; exact ⟨hn,by simp,fun a ha b hb=>by
     obtain ⟨x,hx,rfl⟩:=List.mem_map.1 ha
     simp only [List.map_cons,List.map_nil,List.mem_singleton] at hb
     subst hb
     exact hni x hx⟩) j]
   by_cases hj:j<i
   ·rw [iP oM,iP hj,mget_mupd,iN oM]
   ·by_cases hji:j=i
    ·subst hji
     rw [iP oM,iN oM,mget_mupd,iP rfl,iP ⟨by simp,by simpa using hc⟩]
     simp
    ·rw [iN oM,iN hj]
     have e:j - i=(j - (i+1))+1:=by omega
     rw [e,List.length_cons,List.getD_cons_succ]
     simp only [Nat.add_lt_add_iff_right]
theorem kpq_lu(u:Vr)(l:List Vr)(i:Nat):luRes true (mget (i:Int) (kpq_f u l 0 [])) (.agg [.str nm0,.str nm0]) = .tup [.agg (vrL (gkV u l i)),.bool (gkB u l i)]:=by
 rw [kpq_keys u l 0 [] (fun x hx=>by cases hx) sM i,iN oM,Nat.sub_zero]
 unfold gkV gkB
 by_cases h:i<l.length/\vrNm (l.getD i default)≠vrNm u
 ·rw [iP h,iP h,decide_eq_true h]; rfl
 ·rw [iN h,iN h,decide_eq_false h]; rfl
theorem kpq_lu1(u:Vr)(l:List Vr)(i:Nat):(mget (i:Int) (kpq_f u l 0 [])).getD (.agg [.str nm0,.str nm0]) = .agg (vrL (gkV u l i)):=by
 have:=kpq_lu u l i
 simp only [luRes,PV.tup.injEq,List.cons.injEq] at this
 exact this.1
theorem kpq_lu2(u:Vr)(l:List Vr)(i:Nat):(mget (i:Int) (kpq_f u l 0 [])).isSome=gkB u l i:=by
 have:=kpq_lu u l i
 simp only [luRes,PV.tup.injEq,List.cons.injEq,PV.bool.injEq] at this
 exact this.2.1
abbrev wS_I(v:Nv)(u:Vr)(j:Int)(out:List Sy)  : S:=S.mk [(2,.lp 2 0),(3,.lp 3 0),(4,.lp 4 0),(5,.v (PV.mp 0)),(8,.lp 8 0),(37,vL 3 (Sy.cs (nvS v))),(38,vI6 ((nvS v).length:Int)),(39,vI6 j)] [(2,nvV v),(3,vrV u),(4,[.v .nilsl,.v .nilsl,.v .nilsl]),(8,[.v .nilsl,.uniq 77 3 (Sy.cs out),.v .nilsl])] [(0,[LV.mm (MM.i (kpq_f u (nvW v) 0 []))])]
def wS_f  : List Sy->(List Sy)->(List Sy)
 | [],out=>(out)
 | el::r,out=>wS_f  r (out++[el])
def wS_q(v:Nv)(u:Vr)(p:(List Sy)):PExit × S:=(.exit 2,S.mk [(2,.lp 2 0),(3,.lp 3 0),(4,.lp 4 0),(5,.v (PV.mp 0)),(8,.lp 8 0),(37,vL 3 (Sy.cs (nvS v))),(38,vI6 ((nvS v).length:Int))] [(2,nvV v),(3,vrV u),(4,[.v .nilsl,.v .nilsl,.v .nilsl]),(8,[.v .nilsl,.uniq 77 3 (Sy.cs p),.v .nilsl])] [(0,[LV.mm (MM.i (kpq_f u (nvW v) 0 []))])])
theorem wS(v:Nv)(u:Vr)(hn0:(nvW v).length<=1000000000)(hS:∀w∈nvS v,(syA w).length<=1000000000)(out:List Sy)(hN:(nvS v).length<=1000000000)(hv:List.length out<=0):(Ob.loop 99 (loopF f75 1) (wS_I v u 0 out) (wS_q v u  (wS_f  ((nvS v))  out)).1 (wS_q v u  (wS_f  ((nvS v))  out)).2).ok prog:=by
 refine rng ((nvS v).length) (fun j out=>wS_I v u j out) (fun i out=>wS_f  (List.drop i ((nvS v)))  out) (wS_q v u) (fun i out=>(out.length<=i)) kR ?_ out (by first | exact hv | omega)
 rintro i out hi hv
 try simp only at hv
 rcases Nat.lt_or_ge i ((nvS v).length) with hlt | hge
 ·have hd:=drop_at hlt
  exact lS mdL [dt ((i:Int)<((nvS v).length:Int)),am ((0:Int)<=(i:Int)/\(i:Int)<((Sy.cs (nvS v)).length:Int)) (by (simp only [Sy.cs_len]; omega)),ar (List.getD (Sy.cs (nvS v)) (Int.toNat (i:Int)) []) (syL (List.getD (nvS v) i default)) (by simp only [Int.toNat_natCast,Int.toNat_zero]; rw [@Sy.cs_at (nvS v) (i) hlt]; try rfl),cl (@cloS (syA (List.getD (nvS v) i default)) (by (apply gSy <;> first | assumption | omega | decide))),am (List.length (Sy.cs out++(fun x=>Prod.snd x) (2+1,[syL (List.getD (nvS v) i default)])) * (55+1)<=140737488355328) (by (simp only [List.length_append,List.length_cons,List.length_nil,nmsC_len,Sy.cs_len]; omega)),wr ((i:Int)+1)] [2,3,4,5,8,37,38,39] [2,3,4,8] hlt (out++[List.getD (nvS v) i default]) (S.mk [(2,.lp 2 0),(3,.lp 3 0),(4,.lp 4 0),(5,.v (PV.mp 0)),(8,.lp 8 0),(37,vL 3 (Sy.cs (nvS v))),(38,vI6 ((nvS v).length:Int)),(39,vI6 ((i:Int)+1))] [(2,nvV v),(3,vrV u),(4,[.v .nilsl,.v .nilsl,.v .nilsl]),(8,[.v .nilsl,.uniq 77 3 (Sy.cs out++[syL (List.getD (nvS v) i default)]),.v .nilsl])] [(0,[LV.mm (MM.i (kpq_f u (nvW v) 0 []))])]) ⟨⟨W,W,W,W,W,W,W,W,tVv⟩,⟨Ws,Ws,Ws,⟨W,(.inl (by first | (simp only [List.nil_append,nmsC_app,nmsC_snoc,Pr.cs_snoc,Tp.cs_snoc,Ex.cs_snoc,Vr.cs_snoc,Df.cs_snoc,Sy.cs_snoc,Ho.cs_snoc]; done) | (simp only [List.nil_append,nmsC_app,nmsC_snoc,Pr.cs_snoc,Tp.cs_snoc,Ex.cs_snoc,Vr.cs_snoc,Df.cs_snoc,Sy.cs_snoc,Ho.cs_snoc]; rfl))),W,tVv⟩,tVv⟩,rfl⟩ (by first | assumption | omega | (apply gSy <;> first | assumption | omega | decide) | (apply gHo <;> first | assumption | omega | decide) | (simp only [List.length_append,List.length_cons,List.length_nil] at *; omega) | simp_all) (by rw [hd,wS_f])
 ·have he:i=(nvS v).length:=by omega
  exact lX mdL [df ((i:Int)<((nvS v).length:Int))] (out) (by rw [he,List.drop_length,wS_f])
abbrev wH_I(v:Nv)(u:Vr)(j:Int)(out:List Ho)  : S:=S.mk [(2,.lp 2 0),(3,.lp 3 0),(4,.lp 4 0),(5,.v (PV.mp 0)),(8,.lp 8 0),(55,vL 2 (Ho.cs (nvH v))),(56,vI6 ((nvH v).length:Int)),(57,vI6 j)] [(2,nvV v),(3,vrV u),(4,[.v .nilsl,.v .nilsl,.v .nilsl]),(8,[.v .nilsl,.uniq 77 3 (Sy.cs (wS_f (nvS v) [])),.uniq 184 2 (Ho.cs out)])] [(0,[LV.mm (MM.i (kpq_f u (nvW v) 0 []))])]
def wH_f  : List Ho->(List Ho)->(List Ho)
 | [],out=>(out)
 | el::r,out=>wH_f  r (out++[el])
def wH_q(v:Nv)(u:Vr)(p:(List Ho)):PExit × S:=(.exit 4,S.mk [(2,.lp 2 0),(3,.lp 3 0),(4,.lp 4 0),(5,.v (PV.mp 0)),(8,.lp 8 0),(55,vL 2 (Ho.cs (nvH v))),(56,vI6 ((nvH v).length:Int))] [(2,nvV v),(3,vrV u),(4,[.v .nilsl,.v .nilsl,.v .nilsl]),(8,[.v .nilsl,.uniq 77 3 (Sy.cs (wS_f (nvS v) [])),.uniq 184 2 (Ho.cs p)])] [(0,[LV.mm (MM.i (kpq_f u (nvW v) 0 []))])])
theorem wH(v:Nv)(u:Vr)(hn0:(nvW v).length<=1000000000)(hS:∀w∈nvS v,(syA w).length<=1000000000)(hn1:(nvS v).length<=1000000000)(hH:∀w∈nvH v,(hoP w).length<=1000000000)(out:List Ho)(hN:(nvH v).length<=1000000000)(hv:List.length out<=0):(Ob.loop 99 (loopF f75 2) (wH_I v u 0 out) (wH_q v u  (wH_f  ((nvH v))  out)).1 (wH_q v u  (wH_f  ((nvH v))  out)).2).ok prog:=by
 refine rng ((nvH v).length) (fun j out=>wH_I v u j out) (fun i out=>wH_f  (List.drop i ((nvH v)))  out) (wH_q v u) (fun i out=>(out.length<=i)) kR ?_ out (by first | exact hv | omega)
 rintro i out hi hv
 try simp only at hv
 rcases Nat.lt_or_ge i ((nvH v).length) with hlt | hge
 ·have hd:=drop_at hlt
  exact lS mdL [dt ((i:Int)<((nvH v).length:Int)),am ((0:Int)<=(i:Int)/\(i:Int)<((Ho.cs (nvH v)).length:Int)) (by (simp only [Ho.cs_len]; omega)),ar (List.getD (Ho.cs (nvH v)) (Int.toNat (i:Int)) []) (hoL (List.getD (nvH v) i default)) (by simp only [Int.toNat_natCast,Int.toNat_zero]; rw [@Ho.cs_at (nvH v) (i) hlt]; try rfl),cl (@cloV (hoP (List.getD (nvH v) i default)) (by (apply gHo <;> first | assumption | omega | decide))),am (List.length (Ho.cs out++(fun x=>Prod.snd x) (1+1,[hoL (List.getD (nvH v) i default)])) * (39+1)<=140737488355328) (by (simp only [List.length_append,List.length_cons,List.length_nil,Vr.cs_len,Ho.cs_len]; omega)),wr ((i:Int)+1)] [2,3,4,5,8,55,56,57] [2,3,4,8] hlt (out++[List.getD (nvH v) i default]) (S.mk [(2,.lp 2 0),(3,.lp 3 0),(4,.lp 4 0),(5,.v (PV.mp 0)),(8,.lp 8 0),(55,vL 2 (Ho.cs (nvH v))),(56,vI6 ((nvH v).length:Int)),(57,vI6 ((i:Int)+1))] [(2,nvV v),(3,vrV u),(4,[.v .nilsl,.v .nilsl,.v .nilsl]),(8,[.v .nilsl,.uniq 77 3 (Sy.cs (wS_f (nvS v) [])),.uniq 184 2 (Ho.cs out++[hoL (List.getD (nvH v) i default)])])] [(0,[LV.mm (MM.i (kpq_f u (nvW v) 0 []))])]) ⟨⟨W,W,W,W,W,W,W,W,tVv⟩,⟨Ws,Ws,Ws,⟨W,W,(.inl (by first | (simp only [List.nil_append,nmsC_app,nmsC_snoc,Pr.cs_snoc,Tp.cs_snoc,Ex.cs_snoc,Vr.cs_snoc,Df.cs_snoc,Sy.cs_snoc,Ho.cs_snoc]; done) | (simp only [List.nil_append,nmsC_app,nmsC_snoc,Pr.cs_snoc,Tp.cs_snoc,Ex.cs_snoc,Vr.cs_snoc,Df.cs_snoc,Sy.cs_snoc,Ho.cs_snoc]; rfl))),tVv⟩,tVv⟩,rfl⟩ (by first | assumption | omega | (apply gSy <;> first | assumption | omega | decide) | (apply gHo <;> first | assumption | omega | decide) | (simp only [List.length_append,List.length_cons,List.length_nil] at *; omega) | simp_all) (by rw [hd,wH_f])
 ·have he:i=(nvH v).length:=by omega
  exact lX mdL [df ((i:Int)<((nvH v).length:Int))] (out) (by rw [he,List.drop_length,wH_f])
abbrev wV_I(v:Nv)(u:Vr)(j:Int)(out:List Vr)  : S:=S.mk [(3,.lp 3 0),(4,.lp 4 0),(5,.v (PV.mp 0)),(8,.lp 8 0),(74,vI6 ((nvW v).length:Int)),(75,vI6 j)] [(3,vrV u),(4,[.v .nilsl,.v .nilsl,.v .nilsl]),(8,[.uniq 104 2 (Vr.cs out),.uniq 77 3 (Sy.cs (wS_f (nvS v) [])),.uniq 184 2 (Ho.cs (wH_f (nvH v) []))])] [(0,[LV.mm (MM.i (kpq_f u (nvW v) 0 []))])]
def wV_f(v:Nv)(u:Vr):List Vr->Nat->(List Vr)->(List Vr)
 | [],i,out=>(out)
 | el::r,i,out=>(if gkB u (nvW v) i=true then wV_f v u r (i+1) (out++[gkV u (nvW v) i]) else wV_f v u r (i+1) (out))
def wV_q(v:Nv)(u:Vr)(p:(List Vr)):PExit × S:=(.exit 6,S.mk [(3,.lp 3 0),(4,.lp 4 0),(5,.v (PV.mp 0)),(8,.lp 8 0),(74,vI6 ((nvW v).length:Int))] [(3,vrV u),(4,[.v .nilsl,.v .nilsl,.v .nilsl]),(8,[.uniq 104 2 (Vr.cs p),.uniq 77 3 (Sy.cs (wS_f (nvS v) [])),.uniq 184 2 (Ho.cs (wH_f (nvH v) []))])] [(0,[LV.mm (MM.i (kpq_f u (nvW v) 0 []))])])
theorem wV(v:Nv)(u:Vr)(hn0:(nvW v).length<=1000000000)(hS:∀w∈nvS v,(syA w).length<=1000000000)(hn1:(nvS v).length<=1000000000)(hH:∀w∈nvH v,(hoP w).length<=1000000000)(hn2:(nvH v).length<=1000000000)(out:List Vr)(hN:(nvW v).length<=1000000000)(hv:List.length out<=0):(Ob.loop 99 (loopF f75 3) (wV_I v u 0 out) (wV_q v u  (wV_f v u ((nvW v)) 0 out)).1 (wV_q v u  (wV_f v u ((nvW v)) 0 out)).2).ok prog:=by
 refine rng ((nvW v).length) (fun j out=>wV_I v u j out) (fun i out=>wV_f v u (List.drop i ((nvW v))) i out) (wV_q v u) (fun i out=>(out.length<=i)) kR ?_ out (by first | exact hv | omega)
 rintro i out hi hv
 try simp only at hv
 rcases Nat.lt_or_ge i ((nvW v).length) with hlt | hge
 ·have hd:=drop_at hlt
  by_cases h0:gkB u (nvW v) i=true
  ·exact lS mdL [dt ((i:Int)<((nvW v).length:Int)),av (.v (.tup [Option.getD (mget (i:Int) (kpq_f u (nvW v) 0 [])) (.agg [.str nm0,.str nm0]),.bool (Option.isSome (mget (i:Int) (kpq_f u (nvW v) 0 [])))])) (.v (.tup [.agg (vrL (gkV u (nvW v) i)),.bool (gkB u (nvW v) i)])) (by (simp only [List.length_map,List.length_append,List.length_cons,List.length_nil,nmsC_len,Pr.cs_len,Tp.cs_len,Pm.cs_len,Ex.cs_len,Al.cs_len,Vr.cs_len,Cn.cs_len,Da.cs_len,Cl.cs_len,Bo.cs_len,Df.cs_len,In.cs_len,Cs.cs_len,Ms.cs_len,Qu.cs_len,Sy.cs_len,Ho.cs_len,Int.toNat_natCast,Bool.cond_true_left,Bool.cond_false_right,Int.toNat_zero,kpq_lu1,kpq_lu2]; done)),bt1 h0,am (List.length (Vr.cs out++(fun x=>Prod.snd x) (1+1,[vrL (gkV u (nvW v) i)])) * (31+1)<=140737488355328) (by (simp only [List.length_append,List.length_cons,List.length_nil,Vr.cs_len]; omega)),wr ((i:Int)+1)] [3,4,5,8,74,75] [3,4,8] hlt (out++[gkV u (nvW v) i]) (S.mk [(3,.lp 3 0),(4,.lp 4 0),(5,.v (PV.mp 0)),(8,.lp 8 0),(74,vI6 ((nvW v).length:Int)),(75,vI6 ((i:Int)+1))] [(3,vrV u),(4,[.v .nilsl,.v .nilsl,.v .nilsl]),(8,[.uniq 104 2 (Vr.cs out++[vrL (gkV u (nvW v) i)]),.uniq 77 3 (Sy.cs (wS_f (nvS v) [])),.uniq 184 2 (Ho.cs (wH_f (nvH v) []))])] [(0,[LV.mm (MM.i (kpq_f u (nvW v) 0 []))])]) ⟨⟨W,W,W,W,W,W,tVv⟩,⟨Ws,Ws,⟨(.inl (by first | (simp only [List.nil_append,nmsC_app,nmsC_snoc,Pr.cs_snoc,Tp.cs_snoc,Ex.cs_snoc,Vr.cs_snoc,Df.cs_snoc,Sy.cs_snoc,Ho.cs_snoc]; done) | (simp only [List.nil_append,nmsC_app,nmsC_snoc,Pr.cs_snoc,Tp.cs_snoc,Ex.cs_snoc,Vr.cs_snoc,Df.cs_snoc,Sy.cs_snoc,Ho.cs_snoc]; rfl))),W,W,tVv⟩,tVv⟩,rfl⟩ (by first | assumption | omega | (apply gSy <;> first | assumption | omega | decide) | (apply gHo <;> first | assumption | omega | decide) | (simp only [List.length_append,List.length_cons,List.length_nil] at *; omega) | simp_all) (by rw [hd,wV_f,iP h0])
  ·exact lN mdL [dt ((i:Int)<((nvW v).length:Int)),av (.v (.tup [Option.getD (mget (i:Int) (kpq_f u (nvW v) 0 [])) (.agg [.str nm0,.str nm0]),.bool (Option.isSome (mget (i:Int) (kpq_f u (nvW v) 0 [])))])) (.v (.tup [.agg (vrL (gkV u (nvW v) i)),.bool (gkB u (nvW v) i)])) (by (simp only [List.length_map,List.length_append,List.length_cons,List.length_nil,nmsC_len,Pr.cs_len,Tp.cs_len,Pm.cs_len,Ex.cs_len,Al.cs_len,Vr.cs_len,Cn.cs_len,Da.cs_len,Cl.cs_len,Bo.cs_len,Df.cs_len,In.cs_len,Cs.cs_len,Ms.cs_len,Qu.cs_len,Sy.cs_len,Ho.cs_len,Int.toNat_natCast,Bool.cond_true_left,Bool.cond_false_right,Int.toNat_zero,kpq_lu1,kpq_lu2]; done)),bf1 (bFT h0),wr ((i:Int)+1)] hlt (out) (by first | assumption | omega | (apply gSy <;> first | assumption | omega | decide) | (apply gHo <;> first | assumption | omega | decide) | (simp only [List.length_append,List.length_cons,List.length_nil] at *; omega) | simp_all) (by rw [hd,wV_f,iN h0])
 ·have he:i=(nvW v).length:=by omega
  exact lX mdL [df ((i:Int)<((nvW v).length:Int))] (out) (by rw [he,List.drop_length,wV_f])
theorem wS_e:∀ (l out:List Sy),wS_f l out=out++l
 | [],out=>by simp [wS_f]
 | x::r,out=>by simp [wS_f,wS_e r]
theorem wH_e:∀ (l out:List Ho),wH_f l out=out++l
 | [],out=>by simp [wH_f]
 | x::r,out=>by simp [wH_f,wH_e r]
def wiK(u:Vr)(l:List Vr):List Vr:=l.filter fun y=>decide (vrNm y≠vrNm u)
theorem wV_e(v:Nv)(u:Vr):∀ (pre r:List Vr) (out:List Vr),nvW v=pre++r->wV_f v u r pre.length out=out++wiK u r
 | pre,[],out,_=>by simp [wV_f,wiK]
 | pre,y::r,out,h=>by
  have hl:pre.length<(nvW v).length:=by rw [h]; simp
  have hg:(nvW v).getD pre.length default=y:=by rw [h]; simp [List.getD]
  have ih:=fun o=>wV_e v u (pre++[y]) r o (by rw [h]; simp)
  simp only [List.length_append,List.length_cons,List.length_nil,Nat.zero_add] at ih
  rw [wV_f]
  by_cases hn:vrNm y=vrNm u
  ·have hb:gkB u (nvW v) pre.length=false:=by unfold gkB; exact decide_eq_false (fun hh=>hh.2 (by rw [hg]; exact hn))
   rw [iN (by rw [hb]; decide),ih]
   simp [wiK,hn]
  ·have hb:gkB u (nvW v) pre.length=true:=by unfold gkB; exact decide_eq_true ⟨hl,by rw [hg]; exact hn⟩
   have hv:gkV u (nvW v) pre.length=y:=by unfold gkV; rw [iP ⟨hl,by rw [hg]; exact hn⟩,hg]
   rw [iP hb,hv,ih]
   simp [wiK,hn]
def wiF(v:Nv)(u:Vr):Nv := .mk (wiK u (nvW v)++[u]) (nvS v) (nvH v)
theorem wVl(v:Nv)(u:Vr):wV_f v u (nvW v) 0 []=wiK u (nvW v):=by have:=wV_e v u [] (nvW v) [] rfl; simpa using this
theorem wiL(v:Nv)(u:Vr)(hn0:(nvW v).length<=1000000000)(hS:∀w∈nvS v,(syA w).length<=1000000000)(hn1:(nvS v).length<=1000000000)(hH:∀w∈nvH v,(hoP w).length<=1000000000)(hn2:(nvH v).length<=1000000000)(hx0:List.length (Vr.cs (wV_f v u (nvW v) 0 [])++(fun x=>Prod.snd x) (1+1,[vrL u])) * (31+1)<=140737488355328):Ef 75 [.agg (nvL v),.agg (vrL u)] ([]) (rA [.sl 2 (Vr.cs (wV_f v u (nvW v) 0 [])++[vrL u]),.sl 3 (Sy.cs (wS_f (nvS v) [])),.sl 2 (Ho.cs (wH_f (nvH v) []))]) ([(0,[LV.mm (MM.i (kpq_f u (nvW v) 0 []))])]):=
 ef mdL [sl (Vr.cs_len (nvW v)),lp (S.mk [(0,.v (.agg (nvL v))),(1,.v (.agg (vrL u))),(2,.lp 2 0),(3,.lp 3 0),(4,.lp 4 0),(16,.v (PV.mp 0)),(5,.v (PV.mp 0)),(17,.lp 2 0),(18,vL 2 (Vr.cs (nvW v))),(19,vI6 ((nvW v).length:Int)),(20,vI6 0)] [(2,nvV v),(3,vrV u),(4,[.v .nilsl,.v .nilsl,.v .nilsl])] [(0,[LV.mm (newS (strK prog 182))])]) (@kpq (v) (u) ([]) hn0) xr,sl (Sy.cs_len (nvS v)),lp (S.mk [(2,.lp 2 0),(3,.lp 3 0),(4,.lp 4 0),(5,.v (PV.mp 0)),(18,vL 2 (Vr.cs (nvW v))),(19,vI6 ((nvW v).length:Int)),(8,.lp 8 0),(36,.lp 2 1),(37,vL 3 (Sy.cs (nvS v))),(38,vI6 ((nvS v).length:Int)),(39,vI6 0)] [(2,nvV v),(3,vrV u),(4,[.v .nilsl,.v .nilsl,.v .nilsl]),(8,[.v .nilsl,.v .nilsl,.v .nilsl])] [(0,[LV.mm (MM.i (kpq_f u (nvW v) 0 []))])]) (@wS (v) (u) hn0 hS ([]) hn1 (by (simp only [List.length_nil]; omega))) ⟨⟨W,W,W,W,W,W,W,W,tVv⟩,⟨⟨W,W,W,tVv⟩,⟨W,W,tVv⟩,⟨W,W,W,tVv⟩,⟨W,Wq,W,tVv⟩,tVv⟩,rfl⟩,sl (Ho.cs_len (nvH v)),lp (S.mk [(2,.lp 2 0),(3,.lp 3 0),(4,.lp 4 0),(5,.v (PV.mp 0)),(8,.lp 8 0),(37,vL 3 (Sy.cs (nvS v))),(38,vI6 ((nvS v).length:Int)),(54,.lp 2 2),(55,vL 2 (Ho.cs (nvH v))),(56,vI6 ((nvH v).length:Int)),(57,vI6 0)] [(2,nvV v),(3,vrV u),(4,[.v .nilsl,.v .nilsl,.v .nilsl]),(8,[.v .nilsl,.uniq 77 3 (Sy.cs (wS_f (nvS v) [])),.v .nilsl])] [(0,[LV.mm (MM.i (kpq_f u (nvW v) 0 []))])]) (@wH (v) (u) hn0 hS hn1 hH ([]) hn2 (by (simp only [List.length_nil]; omega))) ⟨⟨W,W,W,W,W,W,W,W,tVv⟩,⟨⟨W,W,W,tVv⟩,⟨W,W,tVv⟩,⟨W,W,W,tVv⟩,⟨W,W,Wq,tVv⟩,tVv⟩,rfl⟩,sl (Vr.cs_len (nvW v)),lp (S.mk [(2,.lp 2 0),(3,.lp 3 0),(4,.lp 4 0),(5,.v (PV.mp 0)),(8,.lp 8 0),(55,vL 2 (Ho.cs (nvH v))),(56,vI6 ((nvH v).length:Int)),(72,.lp 2 0),(73,vL 2 (Vr.cs (nvW v))),(74,vI6 ((nvW v).length:Int)),(75,vI6 0)] [(2,nvV v),(3,vrV u),(4,[.v .nilsl,.v .nilsl,.v .nilsl]),(8,[.v .nilsl,.uniq 77 3 (Sy.cs (wS_f (nvS v) [])),.uniq 184 2 (Ho.cs (wH_f (nvH v) []))])] [(0,[LV.mm (MM.i (kpq_f u (nvW v) 0 []))])]) (@wV (v) (u) hn0 hS hn1 hH hn2 ([]) hn0 (by (simp only [List.length_nil]; omega))) ⟨⟨W,W,W,W,W,W,tVv⟩,⟨⟨W,W,tVv⟩,⟨W,W,W,tVv⟩,⟨Wq,W,W,tVv⟩,tVv⟩,rfl⟩,am1 hx0] func75
structure EnvS (v:Nv):Prop where
 w:(nvW v).length<=100000000
 s:(nvS v).length<=1000000000
 h:(nvH v).length<=1000000000
 sa:∀w∈nvS v,(syA w).length<=1000000000
 hp:∀w∈nvH v,(hoP w).length<=1000000000
abbrev tagS:BA:=ByteArray.mk #[116,97,103]
abbrev valS:BA:=ByteArray.mk #[118,97,108]
abbrev intS:BA:=ByteArray.mk #[73,110,116]
abbrev boolS:BA:=ByteArray.mk #[66,111,111,108]
abbrev cellS:BA:=ByteArray.mk #[67,101,108,108]
def optB{α:Type} [Inhabited α] (f:α->BA) (name:BA) (l:List α):Bool:=decide (ix f name l<l.length)
def optD{α:Type} [Inhabited α] (f:α->BA) (name:BA) (l:List α):α:=if ix f name l<l.length then l.getD (ix f name l) default else default
theorem vaT(v:Nv)(name:BA)(hN:(nvW v).length<=1000000000):Pu 227 [.agg (nvL v),.str name] (.ret (.tup [.str (vrS (optD vrNm name (nvW v).reverse)),.bool (optB vrNm name (nvW v).reverse)])):=by
 unfold optB optD
 by_cases h:ix vrNm name (nvW v).reverse<(nvW v).reverse.length
 ·rw [iP h,decide_eq_true h]; exact vaL_1 v name hN _ (by rw [vaq_e,iP h])
 ·rw [iN h,decide_eq_false h]; exact vaL_2 v name hN (by rw [vaq_e,iN h])
def fdD(v:Nv)(name:BA):Sy:=if name=tagS then .mk tagS [] intS else if name=valS then .mk valS [cellS] intS else optD syNm name (nvS v)
def fdB(v:Nv)(name:BA):Bool:=if name=tagS then true else if name=valS then true else optB syNm name (nvS v)
theorem fdT(v:Nv)(name:BA)(hS:∀w∈nvS v,(syA w).length<=1000000000)(hN:(nvS v).length<=1000000000):Pu 272 [.agg (nvL v),.str name] (.ret (.tup [.agg (syL (fdD v name)),.bool (fdB v name)])):=by
 unfold fdB fdD
 by_cases h1:name=tagS
 ·rw [iP h1,iP h1]; exact fdL_1 v name hS hN h1
 ·rw [iN h1,iN h1]
  by_cases h2:name=valS
  ·rw [iP h2,iP h2]; exact fdL_2 v name hS hN h1 h2
  ·rw [iN h2,iN h2]
   unfold optB optD
   by_cases h:ix syNm name (nvS v)<(nvS v).length
   ·rw [iP h,decide_eq_true h]; exact fdL_3 v name hS hN h1 h2 _ (by rw [fdq_e,iP h])
   ·rw [iN h,decide_eq_false h]; exact fdL_4 v name hS hN h1 h2 (by rw [fdq_e,iN h])
theorem hoT(v:Nv)(name:BA)(hH:∀w∈nvH v,(hoP w).length<=1000000000)(hN:(nvH v).length<=1000000000):Pu 274 [.agg (nvL v),.str name] (.ret (.tup [.agg (hoL (optD hoNm name (nvH v))),.bool (optB hoNm name (nvH v))])):=by
 unfold optB optD
 by_cases h:ix hoNm name (nvH v)<(nvH v).length
 ·rw [iP h,decide_eq_true h]; exact hoqL_1 v name hH hN _ (by rw [hoq_e,iP h])
 ·rw [iN h,decide_eq_false h]; exact hoqL_2 v name hH hN (by rw [hoq_e,iN h])
theorem noX_vrs:∀l:List Vr,noXss (Vr.cs l)=true
 | []=>rfl
 | x::r=>by rw [show Vr.cs (x::r)=vrL x::Vr.cs r by simp [Vr.cs],noXss,noX_vrs r]; rfl
theorem noX_nms:∀l:List BA,noXss (nmsC l)=true
 | []=>rfl
 | x::r=>by rw [show nmsC (x::r)=[.str x]::nmsC r by simp [nmsC],noXss,noX_nms r]; rfl
theorem noX_sys:∀l:List Sy,noXss (Sy.cs l)=true
 | []=>rfl
 | x::r=>by rw [show Sy.cs (x::r)=syL x::Sy.cs r by simp [Sy.cs],noXss,noX_sys r]; simp [noXs,PV.noX,noX_nms]
theorem noX_hos:∀l:List Ho,noXss (Ho.cs l)=true
 | []=>rfl
 | x::r=>by rw [show Ho.cs (x::r)=hoL x::Ho.cs r by simp [Ho.cs],noXss,noX_hos r]; simp [noXs,PV.noX,noX_vrs]
theorem noX_nv(v:Nv):noXs (nvL v)=true:=by simp [noXs,PV.noX,noX_vrs,noX_sys,noX_hos]
theorem wiT(v:Nv)(u:Vr)(hE:EnvS v):Pu 75 [.agg (nvL v),.agg (vrL u)] (.ret (.agg (nvL (wiF v u)))):=by
 have hl:(wiK u (nvW v)).length<=100000000:=Nat.le_trans (List.length_filter_le _ _) hE.w
 have h0:=wiL v u (by have:=hE.w; omega) hE.sa hE.s hE.hp hE.h (by
  rw [wVl]
  simp only [List.length_append,Vr.cs_len,List.length_cons,List.length_nil]
  omega)
 rw [wVl,wS_e,wH_e] at h0
 have e:nvL (wiF v u)=[.sl 2 (Vr.cs (wiK u (nvW v))++[vrL u]),.sl 3 (Sy.cs ([]++nvS v)),.sl 2 (Ho.cs ([]++nvH v))]:=by
  simp only [nvL,wiF,nvW,nvS,nvH,Vr.cs_snoc,List.nil_append]
 rw [<-e] at h0
 exact Ob.pur_of_eff (by simp [noXs,PV.noX,noX_vrs,noX_sys,noX_hos]) (by simpa [CRes.noX,PV.noX] using noX_nv (wiF v u)) h0
theorem EnvS.wi{v:Nv}{u:Vr}{n:Nat}(h:EnvS v)(hn:(nvW v).length<=n)(hs:n+1<=100000000):EnvS (wiF v u)/\(nvW (wiF v u)).length<=n+1:=by
 have hl:(wiK u (nvW v)).length<=(nvW v).length:=List.length_filter_le _ _
 have hw:(nvW (wiF v u)).length<=n+1:=by
  have e:nvW (wiF v u)=wiK u (nvW v)++[u]:=rfl
  rw [e,List.length_append,List.length_cons,List.length_nil]; omega
 exact ⟨⟨by omega,h.s,h.h,h.sa,h.hp⟩,hw⟩
def plD:Nat->Tp->Tp
 | 0,t=>t
 | d+1,t => .mk (tpO t) (tpNm t) (pl0_f (plD d) (tpA t) []) [] default []
def plF(t:Tp):Tp:=plD (bulkPs (tpL t)+1) t
theorem tpw_bulk(x:Tp):bulkPss (Tp.cs (tpA x))+bulkPss (Pr.cs (tpPs x))+bulkPs (prL (tpP x))<bulkPs (tpL x):=by simp only [bulkPs,bulkP]; omega
theorem pl_ok:∀ (d:Nat) (t:Tp),bulkPs (tpL t)<d->d<=1000000001->Pu 69 [.agg (tpL t)] (.ret (.agg (tpL (plD d t))))
 | 0,_,h,_=>by omega
 | d+1,t,h,hd=>by
  have h1:=tpw_bulk t
  have h2:=Tp.bulk (tpA t)
  exact plL t (plD d) (fun w hw=>pl_ok d w (by have:=Tp.mem hw; omega) oM) oM
theorem plT(t:Tp)(hs:bulkPs (tpL t)<=1000000000):Pu 69 [.agg (tpL t)] (.ret (.agg (tpL (plF t)))):=pl_ok _ t oM oM
abbrev pcL(m:Mo)(v:Nv):List PV:=[.sl 4 (Da.cs (moD m)),.sl 3 (Cl.cs (moC m)),.sl 12 (In.cs (moI m)),.sl 8 (Ms.cs (moM m)),.sl 6 (Qu.cs (moQ m)),.sl 25 (Df.cs (moF m)),.sl 2 (Vr.cs (nvW v)),.sl 3 (Sy.cs (nvS v)),.sl 2 (Ho.cs (nvH v))]
theorem wiT2(v:Nv)(a b:BA)(hE:EnvS v):Pu 75 [.agg (nvL v),.agg [.str a,.str b]] (.ret (.agg (nvL (wiF v (.mk a b))))):=wiT v (.mk a b) hE
def pwF(v:Nv)(name:BA)(t:Tp):Nv:=if sOf_r1 (plF t)=true then wiF v (.mk name (sOf_r0 (plF t))) else v
theorem pwT(m:Mo)(v:Nv)(name:BA)(t:Tp)(hE:EnvS v)(hs:bulkPs (tpL t)<=1000000000):Pu 46 [.agg (pcL m v),.str name,.agg (tpL t)] (.ret (.agg (pcL m (pwF v name t)))):=by
 unfold pwF
 cases h:sOf_r1 (plF t) with
 | true=>rw [iP rfl]; exact pm mdL [cl (@plT (t) hs),cl (@sOf (plF t)),bt (sOf_r1 (plF t)) h,cl (@wiT2 (v) (name) (sOf_r0 (plF t)) hE)] func46
 | false=>rw [iN dD]; exact pm mdL [cl (@plT (t) hs),cl (@sOf (plF t)),bf (sOf_r1 (plF t)) h] func46
def OKn(v u:Nv)(i:Nat):Prop:=EnvS u/\(nvW u).length<=(nvW v).length+i
theorem OKn.s{v u:Nv}{i:Nat}(h:OKn v u i):OKn v u (i+1):=⟨h.1,by have:=h.2; omega⟩
theorem EnvS.pw{v:Nv}{name:BA}{t:Tp}{n:Nat}(h:EnvS v)(hn:(nvW v).length<=n)(hs:n+1<=100000000):EnvS (pwF v name t)/\(nvW (pwF v name t)).length<=n+1:=by
 unfold pwF
 split
 ·exact h.wi hn hs
 ·exact ⟨h,by omega⟩
theorem dTT(m:Mo)(name:BA)(hda:(moD m).length<=1048576):Pu 72 [.agg (moL m),.str name] (.ret (.tup [.agg (daL (optD daNm name (moD m))),.bool (optB daNm name (moD m))])):=by
 unfold optB optD
 by_cases h:ix daNm name (moD m)<(moD m).length
 ·rw [iP h,decide_eq_true h]; exact dAT m name hda h
 ·rw [iN h,decide_eq_false h]; exact dAF m name hda h
abbrev al_I(l:List BA)(a:BA)(j:Int)(e:Ext):S:=S.mk [(1,.v (.ro [.str a] 0)),(6,vL 1 (nmsC l)),(7,vI6 (l.length:Int)),(8,vI6 j)] [] e
inductive al_R where
 | e0
 | e1
def al_f(a:BA):List BA->al_R
 | []=>(al_R.e1)
 | el::r=>(if el=a then al_f a r  else (al_R.e0))
def al_q(l:List BA)(a:BA)(e:Ext):al_R->PExit × S
 | .e0=>(.ret,S.mk [(1,.v (.ro [.str a] 0)),(6,vL 1 (nmsC l)),(7,vI6 (l.length:Int)),(3,.v (.bool false))] [] e)
 | .e1=>(.exit 0,S.mk [(1,.v (.ro [.str a] 0)),(6,vL 1 (nmsC l)),(7,vI6 (l.length:Int))] [] e)
theorem al_lp(l:List BA)(a:BA)(e:Ext)(hN:l.length<=1000000000):(Ob.loop 16 (loopF f293 0) (al_I l a 0  e) (al_q l a e (al_f a (List.drop 0 (l)))).1 (al_q l a e (al_f a (List.drop 0 (l)))).2).ok prog:=by
 refine rng l.length (fun j _=>al_I l a j  e) (fun i _=>al_f a (List.drop i (l))) (al_q l a e) (fun i _=>True) kR ?_ () trivial
 rintro i u hi -
 rcases Nat.lt_or_ge i (l.length) with hlt | hge
 ·have hd:=drop_at0 hlt
  by_cases h0:List.getD l i nm0=a
  ·exact lN mdL [dt ((i:Int)<(l.length:Int)),am ((0:Int)<=(i:Int)/\(i:Int)<((nmsC l).length:Int)) (by (simp only [nmsC_len]; omega)),ar (List.getD (nmsC l) (Int.toNat (i:Int)) []) [.str (List.getD l i nm0)] (by simp only [Int.toNat_natCast,Int.toNat_zero]; rw [@nmsC_at (l) (i) hlt]; try rfl),bf (!ByteArray.toList (List.getD l i nm0)==ByteArray.toList a) (bnF (bsT h0)),wr ((i:Int)+1)] hlt () trivial (by rw [hd,al_f,iP h0])
  ·exact lX mdL [dt ((i:Int)<(l.length:Int)),am ((0:Int)<=(i:Int)/\(i:Int)<((nmsC l).length:Int)) (by (simp only [nmsC_len]; omega)),ar (List.getD (nmsC l) (Int.toNat (i:Int)) []) [.str (List.getD l i nm0)] (by simp only [Int.toNat_natCast,Int.toNat_zero]; rw [@nmsC_at (l) (i) hlt]; try rfl),bt (!ByteArray.toList (List.getD l i nm0)==ByteArray.toList a) (bnT (bsF h0))] (al_R.e0) (by rw [hd,al_f,iN h0])
 ·have he:i=l.length:=by omega
  exact lX mdL [df ((i:Int)<(l.length:Int))] (al_R.e1) (by rw [he,List.drop_length,al_f])
theorem al_0(l:List BA)(a:BA)(e:Ext)(hN:l.length<=1000000000)(hres:(al_f a (l))=(al_R.e0)):(Ob.loop 16 (loopF f293 0) (al_I l a 0  e) (al_q l a e (al_R.e0)).1 (al_q l a e (al_R.e0)).2).ok prog:=
 rz (al_lp l a e hN) hres
theorem al_1(l:List BA)(a:BA)(e:Ext)(hN:l.length<=1000000000)(hres:(al_f a (l))=(al_R.e1)):(Ob.loop 16 (loopF f293 0) (al_I l a 0  e) (al_q l a e (al_R.e1)).1 (al_q l a e (al_R.e1)).2).ok prog:=
 rz (al_lp l a e hN) hres
def allB(a:BA)(l:List BA):Bool:=l.all fun b=>decide (b=a)
theorem al_e(a:BA):∀l:List BA,al_f a l=if allB a l=true then .e1 else .e0
 | []=>by simp [al_f,allB]
 | c::r=>by
  by_cases h:c=a
  ·simp [al_f,allB,h,al_e a r]
  ·simp [al_f,allB,h]
section
variable (l:List BA) (a:BA) (hN:l.length<=1000000000)
include l a hN
theorem alL_1(hx0:al_f a l=al_R.e0):Pu 293 [.sl 1 (nmsC l),.ro [.str a] 0] (rB false):=
 pu mdL (fun e=>[sl (nmsC_len l),lp (S.mk [(0,vL 1 (nmsC l)),(1,.v (.ro [.str a] 0)),(3,.v (.bool false)),(6,vL 1 (nmsC l)),(7,vI6 (l.length:Int)),(8,vI6 0)] [] e) (@al_0 (l) (a) (e) hN hx0) xr]) func293
theorem alL_2(hx0:al_f a l=al_R.e1):Pu 293 [.sl 1 (nmsC l),.ro [.str a] 0] (rB true):=
 pu mdL (fun e=>[sl (nmsC_len l),lp (S.mk [(0,vL 1 (nmsC l)),(1,.v (.ro [.str a] 0)),(3,.v (.bool false)),(6,vL 1 (nmsC l)),(7,vI6 (l.length:Int)),(8,vI6 0)] [] e) (@al_1 (l) (a) (e) hN hx0) xr]) func293
end
theorem alT(l:List BA)(a:BA)(hN:l.length<=1000000000):Pu 293 [.sl 1 (nmsC l),.ro [.str a] 0] (.ret (.bool (allB a l))):=by
 cases h:allB a l with
 | true=>first | exact alL_2 l a hN (by rw [al_e,iP h]) | exact alL_1 l a hN (by rw [al_e,iP h])
 | false=>first | exact alL_1 l a hN (by rw [al_e,iN (by rw [h]; decide)]) | exact alL_2 l a hN (by rw [al_e,iN (by rw [h]; decide)])
theorem q2{l:List BA}(h:2<=l.length):(0:Int)<=0/\(0:Int)<(l.length:Int):=by omega
theorem q3{l:List BA}(h:2<=l.length):(0:Int)<=1/\(1:Int)<(l.length:Int):=by omega
theorem q4{l:List BA}(h:2<=l.length):0<l.length:=by omega
theorem q5{l:List BA}(h:2<=l.length):1<l.length:=by omega
theorem eq2(l:List BA)(h2:2<=l.length):Pu 276 [.sl 1 (nmsC l)] (rB (ByteArray.toList (List.getD l 0 nm0)==ByteArray.toList (List.getD l 1 nm0))):=
 pm mdL [am ((0:Int)<=0/\0<((nmsC l).length:Int)) (by (simp only [nmsC_len]; omega)),xNm l 0,am ((0:Int)<=1/\1<((nmsC l).length:Int)) (by (simp only [nmsC_len]; omega)),xNm l 1] func276
theorem spl(a:BA):Pu 273 [.str a] (rB (ByteArray.toList a==ByteArray.toList (ByteArray.mk #[73,110,116])||ByteArray.toList a==ByteArray.toList (ByteArray.mk #[66,111,111,108])||ByteArray.toList a==ByteArray.toList (ByteArray.mk #[67,101,108,108]))):=
 pm mdL [mg,av (.v (.bool (bif ByteArray.toList a==ByteArray.toList (ByteArray.mk #[73,110,116]) then true else ByteArray.toList a==ByteArray.toList (ByteArray.mk #[66,111,111,108])))) (.v (.bool (ByteArray.toList a==ByteArray.toList (ByteArray.mk #[73,110,116])||ByteArray.toList a==ByteArray.toList (ByteArray.mk #[66,111,111,108])))) rF,mg,av (.v (.bool (bif ByteArray.toList a==ByteArray.toList (ByteArray.mk #[73,110,116])||ByteArray.toList a==ByteArray.toList (ByteArray.mk #[66,111,111,108]) then true else ByteArray.toList a==ByteArray.toList (ByteArray.mk #[67,101,108,108])))) (.v (.bool (ByteArray.toList a==ByteArray.toList (ByteArray.mk #[73,110,116])||ByteArray.toList a==ByteArray.toList (ByteArray.mk #[66,111,111,108])||ByteArray.toList a==ByteArray.toList (ByteArray.mk #[67,101,108,108])))) rF] func273
abbrev apq_I(v:Nv)(name:BA)(l:List BA)(j:Int)(e:Ext):S:=S.mk [(8,.lp 8 0),(37,vL 1 (nmsC l)),(38,vI6 (l.length:Int)),(39,vI6 j)] [(8,syV (fdD v name))] e
inductive apq_R where
 | e0
 | e1
def apq_f(v:Nv)(name:BA):List BA->Nat->apq_R
 | [],i=>(apq_R.e1)
 | el::r,i=>(if el=List.getD (syA (fdD v name)) i nm0 then apq_f v name r (i+1)  else (apq_R.e0))
def apq_q(v:Nv)(name:BA)(l:List BA)(e:Ext):apq_R->PExit × S
 | .e0=>(.ret,S.mk [(8,.lp 8 0),(37,vL 1 (nmsC l)),(38,vI6 (l.length:Int)),(6,vS nm0),(7,vI6 11)] [(8,syV (fdD v name))] e)
 | .e1=>(.exit 0,S.mk [(8,.lp 8 0),(37,vL 1 (nmsC l)),(38,vI6 (l.length:Int))] [(8,syV (fdD v name))] e)
theorem apq_lp(v:Nv)(name:BA)(l:List BA)(hS:∀w∈nvS v,(syA w).length<=1000000000)(hNs:(nvS v).length<=1000000000)(hfd:fdB v name=true)(hq1:¬name=ByteArray.mk #[116,97,103])(hlen:(l.length:Int)=((syA (fdD v name)).length:Int))(e:Ext)(hN:l.length<=1000000000):(Ob.loop 54 (loopF f228 0) (apq_I v name l 0  e) (apq_q v name l e (apq_f v name (List.drop 0 (l)) 0)).1 (apq_q v name l e (apq_f v name (List.drop 0 (l)) 0)).2).ok prog:=by
 refine rng l.length (fun j _=>apq_I v name l j  e) (fun i _=>apq_f v name (List.drop i (l)) i) (apq_q v name l e) (fun i _=>True) kR ?_ () trivial
 rintro i u hi -
 rcases Nat.lt_or_ge i (l.length) with hlt | hge
 ·have hd:=drop_at0 hlt
  by_cases h0:List.getD l i nm0=List.getD (syA (fdD v name)) i nm0
  ·exact lN mdL [dt ((i:Int)<(l.length:Int)),am ((0:Int)<=(i:Int)/\(i:Int)<((nmsC l).length:Int)) (by (simp only [nmsC_len]; omega)),ar (List.getD (nmsC l) (Int.toNat (i:Int)) []) [.str (List.getD l i nm0)] (by simp only [Int.toNat_natCast,Int.toNat_zero]; rw [@nmsC_at (l) (i) hlt]; try rfl),am ((0:Int)<=(i:Int)/\(i:Int)<((nmsC (syA (fdD v name))).length:Int)) (by (simp only [nmsC_len]; omega)),ar (List.getD (nmsC (syA (fdD v name))) (Int.toNat (i:Int)) []) [.str (List.getD (syA (fdD v name)) i nm0)] (by simp only [Int.toNat_natCast,Int.toNat_zero]; rw [@nmsC_at (syA (fdD v name)) (i) oM]; try rfl),bf (!ByteArray.toList (List.getD l i nm0)==ByteArray.toList (List.getD (syA (fdD v name)) i nm0)) (bnF (bsT h0)),wr ((i:Int)+1)] hlt () trivial (by rw [hd,apq_f,iP h0])
  ·exact lX mdL [dt ((i:Int)<(l.length:Int)),am ((0:Int)<=(i:Int)/\(i:Int)<((nmsC l).length:Int)) (by (simp only [nmsC_len]; omega)),ar (List.getD (nmsC l) (Int.toNat (i:Int)) []) [.str (List.getD l i nm0)] (by simp only [Int.toNat_natCast,Int.toNat_zero]; rw [@nmsC_at (l) (i) hlt]; try rfl),am ((0:Int)<=(i:Int)/\(i:Int)<((nmsC (syA (fdD v name))).length:Int)) (by (simp only [nmsC_len]; omega)),ar (List.getD (nmsC (syA (fdD v name))) (Int.toNat (i:Int)) []) [.str (List.getD (syA (fdD v name)) i nm0)] (by simp only [Int.toNat_natCast,Int.toNat_zero]; rw [@nmsC_at (syA (fdD v name)) (i) oM]; try rfl),bt (!ByteArray.toList (List.getD l i nm0)==ByteArray.toList (List.getD (syA (fdD v name)) i nm0)) (bnT (bsF h0))] (apq_R.e0) (by rw [hd,apq_f,iN h0])
 ·have he:i=l.length:=by omega
  exact lX mdL [df ((i:Int)<(l.length:Int))] (apq_R.e1) (by rw [he,List.drop_length,apq_f])
theorem apq_0(v:Nv)(name:BA)(l:List BA)(hS:∀w∈nvS v,(syA w).length<=1000000000)(hNs:(nvS v).length<=1000000000)(hfd:fdB v name=true)(hq1:¬name=ByteArray.mk #[116,97,103])(hlen:(l.length:Int)=((syA (fdD v name)).length:Int))(e:Ext)(hN:l.length<=1000000000)(hres:(apq_f v name (l) 0)=(apq_R.e0)):(Ob.loop 54 (loopF f228 0) (apq_I v name l 0  e) (apq_q v name l e (apq_R.e0)).1 (apq_q v name l e (apq_R.e0)).2).ok prog:=
 rz (apq_lp v name l hS hNs hfd hq1 hlen e hN) hres
theorem apq_1(v:Nv)(name:BA)(l:List BA)(hS:∀w∈nvS v,(syA w).length<=1000000000)(hNs:(nvS v).length<=1000000000)(hfd:fdB v name=true)(hq1:¬name=ByteArray.mk #[116,97,103])(hlen:(l.length:Int)=((syA (fdD v name)).length:Int))(e:Ext)(hN:l.length<=1000000000)(hres:(apq_f v name (l) 0)=(apq_R.e1)):(Ob.loop 54 (loopF f228 0) (apq_I v name l 0  e) (apq_q v name l e (apq_R.e1)).1 (apq_q v name l e (apq_R.e1)).2).ok prog:=
 rz (apq_lp v name l hS hNs hfd hq1 hlen e hN) hres
theorem apq_e(v:Nv)(name:BA):∀ (l:List BA) (i:Nat),l.length+i=(syA (fdD v name)).length->apq_f v name l i=if l=(syA (fdD v name)).drop i then .e1 else .e0
 | [],i,h=>by
  have:(syA (fdD v name)).drop i=[]:=List.drop_eq_nil_of_le (by simp at h; omega)
  rw [this]; simp [apq_f]
 | c::r,i,h=>by
  have hi:i<(syA (fdD v name)).length:=by simp at h; omega
  have ih:=apq_e v name r (i+1) (by simp at h; omega)
  rw [drop_at0 hi]
  by_cases hc:c=(syA (fdD v name)).getD i nm0
  ·simp only [apq_f,hc,List.cons.injEq,true_and,if_true,not_true_eq_false,if_false]; exact ih
  ·simp only [apq_f,hc,List.cons.injEq,false_and,if_false,not_false_eq_true,if_true]
abbrev fiq_I(v:Nv)(name:BA)(l:List BA)(j:Int)(e:Ext):S:=S.mk [(8,.lp 8 0),(26,vL 1 (nmsC l)),(27,vI6 (l.length:Int)),(28,vI6 j)] [(8,hoV (optD hoNm name (nvH v)))] e
inductive fiq_R where
 | e0
 | e1
def fiq_f(v:Nv)(name:BA):List BA->Nat->fiq_R
 | [],i=>(fiq_R.e1)
 | el::r,i=>(if el=vrS (List.getD (hoP (optD hoNm name (nvH v))) i default) then fiq_f v name r (i+1)  else (fiq_R.e0))
def fiq_q(v:Nv)(name:BA)(l:List BA)(e:Ext):fiq_R->PExit × S
 | .e0=>(.ret,S.mk [(8,.lp 8 0),(26,vL 1 (nmsC l)),(27,vI6 (l.length:Int)),(6,vS nm0),(7,vI6 11)] [(8,hoV (optD hoNm name (nvH v)))] e)
 | .e1=>(.exit 0,S.mk [(8,.lp 8 0),(26,vL 1 (nmsC l)),(27,vI6 (l.length:Int))] [(8,hoV (optD hoNm name (nvH v)))] e)
theorem fiq_lp(v:Nv)(name:BA)(l:List BA)(hH:∀w∈nvH v,(hoP w).length<=1000000000)(hNh:(nvH v).length<=1000000000)(hfd:optB hoNm name (nvH v)=true)(hlen:(l.length:Int)=((hoP (optD hoNm name (nvH v))).length:Int))(e:Ext)(hN:l.length<=1000000000):(Ob.loop 42 (loopF f229 0) (fiq_I v name l 0  e) (fiq_q v name l e (fiq_f v name (List.drop 0 (l)) 0)).1 (fiq_q v name l e (fiq_f v name (List.drop 0 (l)) 0)).2).ok prog:=by
 refine rng l.length (fun j _=>fiq_I v name l j  e) (fun i _=>fiq_f v name (List.drop i (l)) i) (fiq_q v name l e) (fun i _=>True) kR ?_ () trivial
 rintro i u hi -
 rcases Nat.lt_or_ge i (l.length) with hlt | hge
 ·have hd:=drop_at0 hlt
  by_cases h0:List.getD l i nm0=vrS (List.getD (hoP (optD hoNm name (nvH v))) i default)
  ·exact lN mdL [dt ((i:Int)<(l.length:Int)),am ((0:Int)<=(i:Int)/\(i:Int)<((nmsC l).length:Int)) (by (simp only [nmsC_len]; omega)),ar (List.getD (nmsC l) (Int.toNat (i:Int)) []) [.str (List.getD l i nm0)] (by simp only [Int.toNat_natCast,Int.toNat_zero]; rw [@nmsC_at (l) (i) hlt]; try rfl),am ((0:Int)<=(i:Int)/\(i:Int)<((Vr.cs (hoP (optD hoNm name (nvH v)))).length:Int)) (by (simp only [Vr.cs_len]; omega)),ar (List.getD (Vr.cs (hoP (optD hoNm name (nvH v)))) (Int.toNat (i:Int)) []) (vrL (List.getD (hoP (optD hoNm name (nvH v))) i default)) (by simp only [Int.toNat_natCast,Int.toNat_zero]; rw [@Vr.cs_at (hoP (optD hoNm name (nvH v))) (i) oM]; try rfl),bf (!ByteArray.toList (List.getD l i nm0)==ByteArray.toList (vrS (List.getD (hoP (optD hoNm name (nvH v))) i default))) (bnF (bsT h0)),wr ((i:Int)+1)] hlt () trivial (by rw [hd,fiq_f,iP h0])
  ·exact lX mdL [dt ((i:Int)<(l.length:Int)),am ((0:Int)<=(i:Int)/\(i:Int)<((nmsC l).length:Int)) (by (simp only [nmsC_len]; omega)),ar (List.getD (nmsC l) (Int.toNat (i:Int)) []) [.str (List.getD l i nm0)] (by simp only [Int.toNat_natCast,Int.toNat_zero]; rw [@nmsC_at (l) (i) hlt]; try rfl),am ((0:Int)<=(i:Int)/\(i:Int)<((Vr.cs (hoP (optD hoNm name (nvH v)))).length:Int)) (by (simp only [Vr.cs_len]; omega)),ar (List.getD (Vr.cs (hoP (optD hoNm name (nvH v)))) (Int.toNat (i:Int)) []) (vrL (List.getD (hoP (optD hoNm name (nvH v))) i default)) (by simp only [Int.toNat_natCast,Int.toNat_zero]; rw [@Vr.cs_at (hoP (optD hoNm name (nvH v))) (i) oM]; try rfl),bt (!ByteArray.toList (List.getD l i nm0)==ByteArray.toList (vrS (List.getD (hoP (optD hoNm name (nvH v))) i default))) (bnT (bsF h0))] (fiq_R.e0) (by rw [hd,fiq_f,iN h0])
 ·have he:i=l.length:=by omega
  exact lX mdL [df ((i:Int)<(l.length:Int))] (fiq_R.e1) (by rw [he,List.drop_length,fiq_f])
theorem fiq_0(v:Nv)(name:BA)(l:List BA)(hH:∀w∈nvH v,(hoP w).length<=1000000000)(hNh:(nvH v).length<=1000000000)(hfd:optB hoNm name (nvH v)=true)(hlen:(l.length:Int)=((hoP (optD hoNm name (nvH v))).length:Int))(e:Ext)(hN:l.length<=1000000000)(hres:(fiq_f v name (l) 0)=(fiq_R.e0)):(Ob.loop 42 (loopF f229 0) (fiq_I v name l 0  e) (fiq_q v name l e (fiq_R.e0)).1 (fiq_q v name l e (fiq_R.e0)).2).ok prog:=
 rz (fiq_lp v name l hH hNh hfd hlen e hN) hres
theorem fiq_1(v:Nv)(name:BA)(l:List BA)(hH:∀w∈nvH v,(hoP w).length<=1000000000)(hNh:(nvH v).length<=1000000000)(hfd:optB hoNm name (nvH v)=true)(hlen:(l.length:Int)=((hoP (optD hoNm name (nvH v))).length:Int))(e:Ext)(hN:l.length<=1000000000)(hres:(fiq_f v name (l) 0)=(fiq_R.e1)):(Ob.loop 42 (loopF f229 0) (fiq_I v name l 0  e) (fiq_q v name l e (fiq_R.e1)).1 (fiq_q v name l e (fiq_R.e1)).2).ok prog:=
 rz (fiq_lp v name l hH hNh hfd hlen e hN) hres
theorem fiq_e(v:Nv)(name:BA):∀ (l:List BA) (i:Nat),l.length+i=(hoP (optD hoNm name (nvH v))).length->fiq_f v name l i=if l=((hoP (optD hoNm name (nvH v))).drop i).map vrS then .e1 else .e0
 | [],i,h=>by
  have:(hoP (optD hoNm name (nvH v))).drop i=[]:=List.drop_eq_nil_of_le (by simp at h; omega)
  rw [this]; simp [fiq_f]
 | c::r,i,h=>by
  have hi:i<(hoP (optD hoNm name (nvH v))).length:=by simp at h; omega
  have ih:=fiq_e v name r (i+1) (by simp at h; omega)
  rw [drop_at hi,List.map_cons]
  by_cases hc:c=vrS ((hoP (optD hoNm name (nvH v))).getD i default)
  ·simp only [fiq_f,hc,List.cons.injEq,true_and,if_true,not_true_eq_false,if_false]; exact ih
  ·simp only [fiq_f,hc,List.cons.injEq,false_and,if_false,not_false_eq_true,if_true]
theorem apG(v:Nv)(name:BA)(l:List BA)(hS:∀w∈nvS v,(syA w).length<=1000000000)(hNs:(nvS v).length<=1000000000)(hfd:fdB v name=true)(hq1:¬name=ByteArray.mk #[116,97,103])(hlen:(l.length:Int)=((syA (fdD v name)).length:Int))(e:Ext)(hN:l.length<=1000000000)(hx:l=syA (fdD v name)):(Ob.loop 54 (loopF f228 0) (apq_I v name l 0 e) (apq_q v name l e .e1).1 (apq_q v name l e .e1).2).ok prog:=
 apq_1 v name l hS hNs hfd hq1 hlen e hN (by rw [apq_e v name l 0 oM,List.drop_zero,iP hx])
theorem apB(v:Nv)(name:BA)(l:List BA)(hS:∀w∈nvS v,(syA w).length<=1000000000)(hNs:(nvS v).length<=1000000000)(hfd:fdB v name=true)(hq1:¬name=ByteArray.mk #[116,97,103])(hlen:(l.length:Int)=((syA (fdD v name)).length:Int))(e:Ext)(hN:l.length<=1000000000)(hx:¬l=syA (fdD v name)):(Ob.loop 54 (loopF f228 0) (apq_I v name l 0 e) (apq_q v name l e .e0).1 (apq_q v name l e .e0).2).ok prog:=
 apq_0 v name l hS hNs hfd hq1 hlen e hN (by rw [apq_e v name l 0 oM,List.drop_zero,iN hx])
theorem fiG(v:Nv)(name:BA)(l:List BA)(hH:∀w∈nvH v,(hoP w).length<=1000000000)(hNh:(nvH v).length<=1000000000)(hfd:optB hoNm name (nvH v)=true)(hlen:(l.length:Int)=((hoP (optD hoNm name (nvH v))).length:Int))(e:Ext)(hN:l.length<=1000000000)(hx:l=(hoP (optD hoNm name (nvH v))).map vrS):(Ob.loop 42 (loopF f229 0) (fiq_I v name l 0 e) (fiq_q v name l e .e1).1 (fiq_q v name l e .e1).2).ok prog:=
 fiq_1 v name l hH hNh hfd hlen e hN (by rw [fiq_e v name l 0 oM,List.drop_zero,iP hx])
theorem fiB(v:Nv)(name:BA)(l:List BA)(hH:∀w∈nvH v,(hoP w).length<=1000000000)(hNh:(nvH v).length<=1000000000)(hfd:optB hoNm name (nvH v)=true)(hlen:(l.length:Int)=((hoP (optD hoNm name (nvH v))).length:Int))(e:Ext)(hN:l.length<=1000000000)(hx:¬l=(hoP (optD hoNm name (nvH v))).map vrS):(Ob.loop 42 (loopF f229 0) (fiq_I v name l 0 e) (fiq_q v name l e .e0).1 (fiq_q v name l e .e0).2).ok prog:=
 fiq_0 v name l hH hNh hfd hlen e hN (by rw [fiq_e v name l 0 oM,List.drop_zero,iN hx])
section
variable (v:Nv) (name:BA) (l:List BA) (hS:∀w∈nvS v,(syA w).length<=1000000000) (hNs:(nvS v).length<=1000000000) (hN0:l.length<=1000000000)
include v name l hS hNs hN0
theorem apS_1(hx0:fdB v name=false):Pu 228 [.agg (nvL v),.str name,.sl 1 (nmsC l)] (.ret (.tup [.str nm0,pI 5])):=
 pm mdL [cl (@fdT (v) (name) hS hNs),bt1 (bnT hx0)] func228
theorem apS_2(hx0:fdB v name=true)(hx1:name=ByteArray.mk #[116,97,103])(hx2:¬(l.length:Int)=1):Pu 228 [.agg (nvL v),.str name,.sl 1 (nmsC l)] (.ret (.tup [.str nm0,pI 13])):=
 pm mdL [cl (@fdT (v) (name) hS hNs),bf1 (bnF hx0),bt (ByteArray.toList name==ByteArray.toList (ByteArray.mk #[116,97,103])) (bsT hx1),sl (nmsC_len l),nt1 hx2] func228
theorem apS_3(hx0:fdB v name=true)(hx1:name=ByteArray.mk #[116,97,103])(hx2:(l.length:Int)=1)(hx3:(ByteArray.toList (List.getD l 0 nm0)==ByteArray.toList (ByteArray.mk #[73,110,116])||ByteArray.toList (List.getD l 0 nm0)==ByteArray.toList (ByteArray.mk #[66,111,111,108])||ByteArray.toList (List.getD l 0 nm0)==ByteArray.toList (ByteArray.mk #[67,101,108,108]))=true):Pu 228 [.agg (nvL v),.str name,.sl 1 (nmsC l)] (.ret (.tup [.str nm0,pI 11])):=
 pm mdL [cl (@fdT (v) (name) hS hNs),bf1 (bnF hx0),bt (ByteArray.toList name==ByteArray.toList (ByteArray.mk #[116,97,103])) (bsT hx1),sl (nmsC_len l),nn1 hx2,am ((0:Int)<=0/\0<((nmsC l).length:Int)) (by (simp only [nmsC_len]; omega)),xNm l 0,cl (@spl (List.getD l 0 nm0)),bt1 hx3] func228
theorem apS_4(hx0:fdB v name=true)(hx1:name=ByteArray.mk #[116,97,103])(hx2:(l.length:Int)=1)(hx3:(ByteArray.toList (List.getD l 0 nm0)==ByteArray.toList (ByteArray.mk #[73,110,116])||ByteArray.toList (List.getD l 0 nm0)==ByteArray.toList (ByteArray.mk #[66,111,111,108])||ByteArray.toList (List.getD l 0 nm0)==ByteArray.toList (ByteArray.mk #[67,101,108,108]))=false):Pu 228 [.agg (nvL v),.str name,.sl 1 (nmsC l)] (.ret (.tup [.str (syR (fdD v name)),pI 0])):=
 pm mdL [cl (@fdT (v) (name) hS hNs),bf1 (bnF hx0),bt (ByteArray.toList name==ByteArray.toList (ByteArray.mk #[116,97,103])) (bsT hx1),sl (nmsC_len l),nn1 hx2,am ((0:Int)<=0/\0<((nmsC l).length:Int)) (by (simp only [nmsC_len]; omega)),xNm l 0,cl (@spl (List.getD l 0 nm0)),bf1 hx3] func228
theorem apS_5(hx0:fdB v name=true)(hx1:¬name=ByteArray.mk #[116,97,103])(hx2:¬(l.length:Int)=((syA (fdD v name)).length:Int)):Pu 228 [.agg (nvL v),.str name,.sl 1 (nmsC l)] (.ret (.tup [.str nm0,pI 13])):=
 pm mdL [cl (@fdT (v) (name) hS hNs),bf1 (bnF hx0),bf (ByteArray.toList name==ByteArray.toList (ByteArray.mk #[116,97,103])) (bsF hx1),sl (nmsC_len l),sl (nmsC_len (syA (fdD v name))),nt1 hx2] func228
theorem apS_6(hx0:fdB v name=true)(hx1:¬name=ByteArray.mk #[116,97,103])(hx2:(l.length:Int)=((syA (fdD v name)).length:Int))(hx3:l=syA (fdD v name)):Pu 228 [.agg (nvL v),.str name,.sl 1 (nmsC l)] (.ret (.tup [.str (syR (fdD v name)),pI 0])):=
 pu mdL (fun e=>[cl (@fdT (v) (name) hS hNs),bf1 (bnF hx0),bf (ByteArray.toList name==ByteArray.toList (ByteArray.mk #[116,97,103])) (bsF hx1),sl (nmsC_len l),sl (nmsC_len (syA (fdD v name))),nn1 hx2,sl (nmsC_len l),lp (S.mk [(0,.v (.agg (nvL v))),(1,vS name),(2,vL 1 (nmsC l)),(3,.lp 3 0),(6,vS nm0),(7,vI6 0),(13,.v (.agg (nvL v))),(14,vS name),(15,.v (.tup [.agg (syL (fdD v name)),.bool (fdB v name)])),(12,.v (.tup [.agg (syL (fdD v name)),.bool (fdB v name)])),(16,.v (.agg (syL (fdD v name)))),(17,.v (.bool (fdB v name))),(8,.lp 8 0),(9,.v (.bool (fdB v name))),(18,.v (.bool (fdB v name))),(19,.v (.bool !fdB v name)),(20,vS name),(21,.v (.bool (ByteArray.toList name==ByteArray.toList (ByteArray.mk #[116,97,103])))),(31,vL 1 (nmsC l)),(32,vI6 (l.length:Int)),(33,.lp 8 1),(34,vL 1 (nmsC (syA (fdD v name)))),(35,vI6 ((syA (fdD v name)).length:Int)),(36,.v (.bool ((l.length:Int) != ((syA (fdD v name)).length:Int)))),(37,vL 1 (nmsC l)),(38,vI6 (l.length:Int)),(39,vI6 0)] [(3,nvV v),(8,syV (fdD v name))] e) (@apG (v) (name) (l) hS hNs hx0 hx1 hx2 (e) hN0 hx3) xr]) func228
theorem apS_7(hx0:fdB v name=true)(hx1:¬name=ByteArray.mk #[116,97,103])(hx2:(l.length:Int)=((syA (fdD v name)).length:Int))(hx3:¬l=syA (fdD v name)):Pu 228 [.agg (nvL v),.str name,.sl 1 (nmsC l)] (.ret (.tup [.str nm0,pI 11])):=
 pu mdL (fun e=>[cl (@fdT (v) (name) hS hNs),bf1 (bnF hx0),bf (ByteArray.toList name==ByteArray.toList (ByteArray.mk #[116,97,103])) (bsF hx1),sl (nmsC_len l),sl (nmsC_len (syA (fdD v name))),nn1 hx2,sl (nmsC_len l),lp (S.mk [(0,.v (.agg (nvL v))),(1,vS name),(2,vL 1 (nmsC l)),(3,.lp 3 0),(6,vS nm0),(7,vI6 0),(13,.v (.agg (nvL v))),(14,vS name),(15,.v (.tup [.agg (syL (fdD v name)),.bool (fdB v name)])),(12,.v (.tup [.agg (syL (fdD v name)),.bool (fdB v name)])),(16,.v (.agg (syL (fdD v name)))),(17,.v (.bool (fdB v name))),(8,.lp 8 0),(9,.v (.bool (fdB v name))),(18,.v (.bool (fdB v name))),(19,.v (.bool !fdB v name)),(20,vS name),(21,.v (.bool (ByteArray.toList name==ByteArray.toList (ByteArray.mk #[116,97,103])))),(31,vL 1 (nmsC l)),(32,vI6 (l.length:Int)),(33,.lp 8 1),(34,vL 1 (nmsC (syA (fdD v name)))),(35,vI6 ((syA (fdD v name)).length:Int)),(36,.v (.bool ((l.length:Int) != ((syA (fdD v name)).length:Int)))),(37,vL 1 (nmsC l)),(38,vI6 (l.length:Int)),(39,vI6 0)] [(3,nvV v),(8,syV (fdD v name))] e) (@apB (v) (name) (l) hS hNs hx0 hx1 hx2 (e) hN0 hx3) xr]) func228
end
section
variable (v:Nv) (name:BA) (l:List BA) (hH:∀w∈nvH v,(hoP w).length<=1000000000) (hNh:(nvH v).length<=1000000000) (hN0:l.length<=1000000000)
include v name l hH hNh hN0
theorem fiS_1(hx0:optB hoNm name (nvH v)=false):Pu 229 [.agg (nvL v),.str name,.sl 1 (nmsC l)] (.ret (.tup [.str nm0,pI 5])):=
 pm mdL [cl (@hoT (v) (name) hH hNh),bt1 (bnT hx0)] func229
theorem fiS_2(hx0:optB hoNm name (nvH v)=true)(hx1:¬(l.length:Int)=((hoP (optD hoNm name (nvH v))).length:Int)):Pu 229 [.agg (nvL v),.str name,.sl 1 (nmsC l)] (.ret (.tup [.str nm0,pI 13])):=
 pm mdL [cl (@hoT (v) (name) hH hNh),bf1 (bnF hx0),sl (nmsC_len l),sl (Vr.cs_len (hoP (optD hoNm name (nvH v)))),nt1 hx1] func229
theorem fiS_3(hx0:optB hoNm name (nvH v)=true)(hx1:(l.length:Int)=((hoP (optD hoNm name (nvH v))).length:Int))(hx2:l=List.map vrS (hoP (optD hoNm name (nvH v)))):Pu 229 [.agg (nvL v),.str name,.sl 1 (nmsC l)] (.ret (.tup [.str (ByteArray.mk #[66,111,111,108]),pI 0])):=
 pu mdL (fun e=>[cl (@hoT (v) (name) hH hNh),bf1 (bnF hx0),sl (nmsC_len l),sl (Vr.cs_len (hoP (optD hoNm name (nvH v)))),nn1 hx1,sl (nmsC_len l),lp (S.mk [(0,.v (.agg (nvL v))),(1,vS name),(2,vL 1 (nmsC l)),(3,.lp 3 0),(6,vS nm0),(7,vI6 0),(13,.v (.agg (nvL v))),(14,vS name),(15,.v (.tup [.agg (hoL (optD hoNm name (nvH v))),.bool (optB hoNm name (nvH v))])),(12,.v (.tup [.agg (hoL (optD hoNm name (nvH v))),.bool (optB hoNm name (nvH v))])),(16,.v (.agg (hoL (optD hoNm name (nvH v))))),(17,.v (.bool (optB hoNm name (nvH v)))),(8,.lp 8 0),(9,.v (.bool (optB hoNm name (nvH v)))),(18,.v (.bool (optB hoNm name (nvH v)))),(19,.v (.bool !optB hoNm name (nvH v))),(20,vL 1 (nmsC l)),(21,vI6 (l.length:Int)),(22,.lp 8 1),(23,vL 2 (Vr.cs (hoP (optD hoNm name (nvH v))))),(24,vI6 ((hoP (optD hoNm name (nvH v))).length:Int)),(25,.v (.bool ((l.length:Int) != ((hoP (optD hoNm name (nvH v))).length:Int)))),(26,vL 1 (nmsC l)),(27,vI6 (l.length:Int)),(28,vI6 0)] [(3,nvV v),(8,hoV (optD hoNm name (nvH v)))] e) (@fiG (v) (name) (l) hH hNh hx0 hx1 (e) hN0 hx2) xr]) func229
theorem fiS_4(hx0:optB hoNm name (nvH v)=true)(hx1:(l.length:Int)=((hoP (optD hoNm name (nvH v))).length:Int))(hx2:¬l=List.map vrS (hoP (optD hoNm name (nvH v)))):Pu 229 [.agg (nvL v),.str name,.sl 1 (nmsC l)] (.ret (.tup [.str nm0,pI 11])):=
 pu mdL (fun e=>[cl (@hoT (v) (name) hH hNh),bf1 (bnF hx0),sl (nmsC_len l),sl (Vr.cs_len (hoP (optD hoNm name (nvH v)))),nn1 hx1,sl (nmsC_len l),lp (S.mk [(0,.v (.agg (nvL v))),(1,vS name),(2,vL 1 (nmsC l)),(3,.lp 3 0),(6,vS nm0),(7,vI6 0),(13,.v (.agg (nvL v))),(14,vS name),(15,.v (.tup [.agg (hoL (optD hoNm name (nvH v))),.bool (optB hoNm name (nvH v))])),(12,.v (.tup [.agg (hoL (optD hoNm name (nvH v))),.bool (optB hoNm name (nvH v))])),(16,.v (.agg (hoL (optD hoNm name (nvH v))))),(17,.v (.bool (optB hoNm name (nvH v)))),(8,.lp 8 0),(9,.v (.bool (optB hoNm name (nvH v)))),(18,.v (.bool (optB hoNm name (nvH v)))),(19,.v (.bool !optB hoNm name (nvH v))),(20,vL 1 (nmsC l)),(21,vI6 (l.length:Int)),(22,.lp 8 1),(23,vL 2 (Vr.cs (hoP (optD hoNm name (nvH v))))),(24,vI6 ((hoP (optD hoNm name (nvH v))).length:Int)),(25,.v (.bool ((l.length:Int) != ((hoP (optD hoNm name (nvH v))).length:Int)))),(26,vL 1 (nmsC l)),(27,vI6 (l.length:Int)),(28,vI6 0)] [(3,nvV v),(8,hoV (optD hoNm name (nvH v)))] e) (@fiB (v) (name) (l) hH hNh hx0 hx1 (e) hN0 hx2) xr]) func229
end
def splB(a:BA):Bool:=a.toList==intS.toList||a.toList==boolS.toList||a.toList==cellS.toList
def apE(v:Nv)(name:BA)(l:List BA):BA × Int:=
 if fdB v name=false then (nm0,5) else if name=tagS then (if (l.length:Int)=1 then (if splB (l.getD 0 nm0)=true then (nm0,11) else (syR (fdD v name),0)) else (nm0,13))
 else if (l.length:Int)=((syA (fdD v name)).length:Int) then (if l=syA (fdD v name) then (syR (fdD v name),0) else (nm0,11)) else (nm0,13)
theorem apT(v:Nv)(name:BA)(l:List BA)(hS:∀w∈nvS v,(syA w).length<=1000000000)(hNs:(nvS v).length<=1000000000)(hN0:l.length<=1000000000):Pu 228 [.agg (nvL v),.str name,.sl 1 (nmsC l)] (.ret (.tup [.str (apE v name l).1,.int .i64 (apE v name l).2])):=by
 unfold apE
 by_cases h0:fdB v name=false
 ·rw [iP h0]; exact apS_1 v name l hS hNs hN0 h0
 ·rw [iN h0]
  have h0:=bTF h0
  by_cases h1:name=tagS
  ·rw [iP h1]
   by_cases h2:(l.length:Int)=1
   ·rw [iP h2]
    cases h3:splB (l.getD 0 nm0) with
    | true=>rw [iP rfl]; exact apS_3 v name l hS hNs hN0 h0 h1 h2 h3
    | false=>rw [iN dD]; exact apS_4 v name l hS hNs hN0 h0 h1 h2 h3
   ·rw [iN h2]; exact apS_2 v name l hS hNs hN0 h0 h1 h2
  ·rw [iN h1]
   by_cases h2:(l.length:Int)=((syA (fdD v name)).length:Int)
   ·rw [iP h2]
    by_cases h3:l=syA (fdD v name)
    ·rw [iP h3]; exact apS_6 v name l hS hNs hN0 h0 h1 h2 h3
    ·rw [iN h3]; exact apS_7 v name l hS hNs hN0 h0 h1 h2 h3
   ·rw [iN h2]; exact apS_5 v name l hS hNs hN0 h0 h1 h2
def fiE(v:Nv)(name:BA)(l:List BA):BA × Int:=
 if optB hoNm name (nvH v)=false then (nm0,5) else if (l.length:Int)=((hoP (optD hoNm name (nvH v))).length:Int) then (if l=(hoP (optD hoNm name (nvH v))).map vrS then (boolS,0) else (nm0,11)) else (nm0,13)
theorem fiT(v:Nv)(name:BA)(l:List BA)(hH:∀w∈nvH v,(hoP w).length<=1000000000)(hNh:(nvH v).length<=1000000000)(hN0:l.length<=1000000000):Pu 229 [.agg (nvL v),.str name,.sl 1 (nmsC l)] (.ret (.tup [.str (fiE v name l).1,.int .i64 (fiE v name l).2])):=by
 unfold fiE
 by_cases h0:optB hoNm name (nvH v)=false
 ·rw [iP h0]; exact fiS_1 v name l hH hNh hN0 h0
 ·rw [iN h0]
  have h0:=bTF h0
  by_cases h2:(l.length:Int)=((hoP (optD hoNm name (nvH v))).length:Int)
  ·rw [iP h2]
   by_cases h3:l=(hoP (optD hoNm name (nvH v))).map vrS
   ·rw [iP h3]; exact fiS_3 v name l hH hNh hN0 h0 h2 h3
   ·rw [iN h3]; exact fiS_4 v name l hH hNh hN0 h0 h2 h3
  ·rw [iN h2]; exact fiS_2 v name l hH hNh hN0 h0 h2
theorem aq(a:BA):Pu 275 [.str a] (.ret (.fn (.func 293) [] [.ro [.str a] 0])):=
 pm mdL [] func275
section
variable (op:Int)
include op
theorem rl_1(hx0:op=6):Pu 230 [pI op] (rA [.fn (.func 293) [] [.ro [.str (ByteArray.mk #[73,110,116])] 0],.str (ByteArray.mk #[73,110,116])]):=
 pm mdL [rp 2 (et1 hx0),cl (@aq (ByteArray.mk #[73,110,116]))] func230
theorem rl_2(hx0:¬op=6)(hx1:op=7):Pu 230 [pI op] (rA [.fn (.func 293) [] [.ro [.str (ByteArray.mk #[73,110,116])] 0],.str (ByteArray.mk #[73,110,116])]):=
 pm mdL [en1 hx0,rp 2 (et1 hx1),cl (@aq (ByteArray.mk #[73,110,116]))] func230
theorem rl_3(hx0:¬op=6)(hx1:¬op=7)(hx2:op=8):Pu 230 [pI op] (rA [.fn (.func 293) [] [.ro [.str (ByteArray.mk #[73,110,116])] 0],.str (ByteArray.mk #[73,110,116])]):=
 pm mdL [en1 hx0,en1 hx1,rp 2 (et1 hx2),cl (@aq (ByteArray.mk #[73,110,116]))] func230
theorem rl_4(hx0:¬op=6)(hx1:¬op=7)(hx2:¬op=8)(hx3:op=9):Pu 230 [pI op] (rA [.fn (.func 293) [] [.ro [.str (ByteArray.mk #[73,110,116])] 0],.str (ByteArray.mk #[73,110,116])]):=
 pm mdL [en1 hx0,en1 hx1,en1 hx2,et1 hx3,cl (@aq (ByteArray.mk #[73,110,116]))] func230
theorem rl_5(hx0:¬op=6)(hx1:¬op=7)(hx2:¬op=8)(hx3:¬op=9)(hx4:op=12):Pu 230 [pI op] (rA [.fn (.func 293) [] [.ro [.str (ByteArray.mk #[73,110,116])] 0],.str (ByteArray.mk #[66,111,111,108])]):=
 pm mdL [en1 hx0,en1 hx1,en1 hx2,en1 hx3,rp 2 (et1 hx4),cl (@aq (ByteArray.mk #[73,110,116]))] func230
theorem rl_6(hx0:¬op=6)(hx1:¬op=7)(hx2:¬op=8)(hx3:¬op=9)(hx4:¬op=12)(hx5:op=13):Pu 230 [pI op] (rA [.fn (.func 293) [] [.ro [.str (ByteArray.mk #[73,110,116])] 0],.str (ByteArray.mk #[66,111,111,108])]):=
 pm mdL [en1 hx0,en1 hx1,en1 hx2,en1 hx3,en1 hx4,et1 hx5,cl (@aq (ByteArray.mk #[73,110,116]))] func230
theorem rl_7(hx0:¬op=6)(hx1:¬op=7)(hx2:¬op=8)(hx3:¬op=9)(hx4:¬op=12)(hx5:¬op=13)(hx6:op=10):Pu 230 [pI op] (rA [.fn (.func 276) [] [],.str (ByteArray.mk #[66,111,111,108])]):=
 pm mdL [en1 hx0,en1 hx1,en1 hx2,en1 hx3,en1 hx4,en1 hx5,rp 2 (et1 hx6)] func230
theorem rl_8(hx0:¬op=6)(hx1:¬op=7)(hx2:¬op=8)(hx3:¬op=9)(hx4:¬op=12)(hx5:¬op=13)(hx6:¬op=10)(hx7:op=11):Pu 230 [pI op] (rA [.fn (.func 276) [] [],.str (ByteArray.mk #[66,111,111,108])]):=
 pm mdL [en1 hx0,en1 hx1,en1 hx2,en1 hx3,en1 hx4,en1 hx5,en1 hx6,et1 hx7] func230
theorem rl_9(hx0:¬op=6)(hx1:¬op=7)(hx2:¬op=8)(hx3:¬op=9)(hx4:¬op=12)(hx5:¬op=13)(hx6:¬op=10)(hx7:¬op=11):Pu 230 [pI op] (rA [.fn (.func 293) [] [.ro [.str (ByteArray.mk #[66,111,111,108])] 0],.str (ByteArray.mk #[66,111,111,108])]):=
 pm mdL [en1 hx0,en1 hx1,en1 hx2,en1 hx3,en1 hx4,en1 hx5,en1 hx6,en1 hx7,cl (@aq (ByteArray.mk #[66,111,111,108]))] func230
end
theorem vaT2(v:Nv)(name:BA)(hW:EnvS v):Pu 227 [.agg (nvL v),.str name] (.ret (.tup [.str (vrS (optD vrNm name (nvW v).reverse)),.bool (optB vrNm name (nvW v).reverse)])):=vaT v name (by have:=hW.w; omega)
theorem apT2(v:Nv)(name:BA)(l:List BA)(hW:EnvS v)(hN0:l.length<=1000000000):Pu 228 [.agg (nvL v),.str name,.sl 1 (nmsC l)] (.ret (.tup [.str (apE v name l).1,.int .i64 (apE v name l).2])):=apT v name l hW.sa hW.s hN0
theorem fiT2(v:Nv)(name:BA)(l:List BA)(hW:EnvS v)(hN0:l.length<=1000000000):Pu 229 [.agg (nvL v),.str name,.sl 1 (nmsC l)] (.ret (.tup [.str (fiE v name l).1,.int .i64 (fiE v name l).2])):=fiT v name l hW.hp hW.h hN0
def sn_r0(v:Nv)(p:Pr)(l:List BA):BA:=(if prO p=1 then (ByteArray.mk #[73,110,116]) else (if prO p=2 then (ByteArray.mk #[66,111,111,108]) else (if prO p=3 then (if optB vrNm (prNm p) (List.reverse (nvW v))=false then nm0 else (vrS (optD vrNm (prNm p) (List.reverse (nvW v))))) else (if prO p=4 then (Prod.fst (apE v (prNm p) l)) else (if prO p=5 then (Prod.fst (fiE v (prNm p) l)) else (if prO p=6 then (if allB (ByteArray.mk #[73,110,116]) l=false then nm0 else (ByteArray.mk #[73,110,116])) else (if prO p=7 then (if allB (ByteArray.mk #[73,110,116]) l=false then nm0 else (ByteArray.mk #[73,110,116])) else (if prO p=8 then (if allB (ByteArray.mk #[73,110,116]) l=false then nm0 else (ByteArray.mk #[73,110,116])) else (if prO p=9 then (if allB (ByteArray.mk #[73,110,116]) l=false then nm0 else (ByteArray.mk #[73,110,116])) else (if prO p=12 then (if allB (ByteArray.mk #[73,110,116]) l=false then nm0 else (ByteArray.mk #[66,111,111,108])) else (if prO p=13 then (if allB (ByteArray.mk #[73,110,116]) l=false then nm0 else (ByteArray.mk #[66,111,111,108])) else (if prO p=10 then (if List.getD l 0 nm0=List.getD l 1 nm0 then (ByteArray.mk #[66,111,111,108]) else nm0) else (if prO p=11 then (if List.getD l 0 nm0=List.getD l 1 nm0 then (ByteArray.mk #[66,111,111,108]) else nm0) else (if allB (ByteArray.mk #[66,111,111,108]) l=false then nm0 else (ByteArray.mk #[66,111,111,108])))))))))))))))
def sn_r1(v:Nv)(p:Pr)(l:List BA):Int:=(if prO p=1 then 0 else (if prO p=2 then 0 else (if prO p=3 then (if optB vrNm (prNm p) (List.reverse (nvW v))=false then 5 else 0) else (if prO p=4 then (Prod.snd (apE v (prNm p) l)) else (if prO p=5 then (Prod.snd (fiE v (prNm p) l)) else (if prO p=6 then (if allB (ByteArray.mk #[73,110,116]) l=false then 11 else 0) else (if prO p=7 then (if allB (ByteArray.mk #[73,110,116]) l=false then 11 else 0) else (if prO p=8 then (if allB (ByteArray.mk #[73,110,116]) l=false then 11 else 0) else (if prO p=9 then (if allB (ByteArray.mk #[73,110,116]) l=false then 11 else 0) else (if prO p=12 then (if allB (ByteArray.mk #[73,110,116]) l=false then 11 else 0) else (if prO p=13 then (if allB (ByteArray.mk #[73,110,116]) l=false then 11 else 0) else (if prO p=10 then (if List.getD l 0 nm0=List.getD l 1 nm0 then 0 else 11) else (if prO p=11 then (if List.getD l 0 nm0=List.getD l 1 nm0 then 0 else 11) else (if allB (ByteArray.mk #[66,111,111,108]) l=false then 11 else 0))))))))))))))
theorem sn(v:Nv)(p:Pr)(l:List BA)(hW:EnvS v)(hN0:l.length<=1000000000)(hkk:prO p=10∨prO p=11->2<=l.length):Pu 176 [.agg (nvL v),.agg (prL p),.sl 1 (nmsC l)] (.ret (.tup [.str (sn_r0 v p l),pI (sn_r1 v p l)])):=by
 by_cases h0:prO p=1
 ·simp only [sn_r0,sn_r1,iP h0]; exact pm mdL [et1 h0] func176
 ·by_cases h1:prO p=2
  ·simp only [sn_r0,sn_r1,iN h0,iP h1]; exact pm mdL [en1 h0,et1 h1] func176
  ·by_cases h2:prO p=3
   ·by_cases h3:optB vrNm (prNm p) (List.reverse (nvW v))=false
    ·simp only [sn_r0,sn_r1,iN h0,iN h1,iP h2,iP h3]; exact pm mdL [en1 h0,en1 h1,et1 h2,cl (@vaT2 (v) (prNm p) hW),bt1 (bnT h3)] func176
    ·simp only [sn_r0,sn_r1,iN h0,iN h1,iP h2,iN h3]; exact pm mdL [en1 h0,en1 h1,et1 h2,cl (@vaT2 (v) (prNm p) hW),bf1 (bnF (bTF h3))] func176
   ·by_cases h3:prO p=4
    ·simp only [sn_r0,sn_r1,iN h0,iN h1,iN h2,iP h3]; exact pm mdL [en1 h0,en1 h1,en1 h2,et1 h3,cl (@apT2 (v) (prNm p) (l) hW hN0)] func176
    ·by_cases h4:prO p=5
     ·simp only [sn_r0,sn_r1,iN h0,iN h1,iN h2,iN h3,iP h4]; exact pm mdL [en1 h0,en1 h1,en1 h2,en1 h3,et1 h4,cl (@fiT2 (v) (prNm p) (l) hW hN0)] func176
     ·by_cases h5:prO p=6
      ·by_cases h6:allB (ByteArray.mk #[73,110,116]) l=false
       ·simp only [sn_r0,sn_r1,iN h0,iN h1,iN h2,iN h3,iN h4,iP h5,iP h6]; exact pm mdL [en1 h0,en1 h1,en1 h2,en1 h3,en1 h4,cl (@rl_1 (prO p) h5),cl (@alT (l) (ByteArray.mk #[73,110,116]) hN0),bt1 (bnT h6)] func176
       ·simp only [sn_r0,sn_r1,iN h0,iN h1,iN h2,iN h3,iN h4,iP h5,iN h6]; exact pm mdL [en1 h0,en1 h1,en1 h2,en1 h3,en1 h4,cl (@rl_1 (prO p) h5),cl (@alT (l) (ByteArray.mk #[73,110,116]) hN0),bf1 (bnF (bTF h6))] func176
      ·by_cases h6:prO p=7
       ·by_cases h7:allB (ByteArray.mk #[73,110,116]) l=false
        ·simp only [sn_r0,sn_r1,iN h0,iN h1,iN h2,iN h3,iN h4,iN h5,iP h6,iP h7]; exact pm mdL [en1 h0,en1 h1,en1 h2,en1 h3,en1 h4,cl (@rl_2 (prO p) h5 h6),cl (@alT (l) (ByteArray.mk #[73,110,116]) hN0),bt1 (bnT h7)] func176
        ·simp only [sn_r0,sn_r1,iN h0,iN h1,iN h2,iN h3,iN h4,iN h5,iP h6,iN h7]; exact pm mdL [en1 h0,en1 h1,en1 h2,en1 h3,en1 h4,cl (@rl_2 (prO p) h5 h6),cl (@alT (l) (ByteArray.mk #[73,110,116]) hN0),bf1 (bnF (bTF h7))] func176
       ·by_cases h7:prO p=8
        ·by_cases h8:allB (ByteArray.mk #[73,110,116]) l=false
         ·simp only [sn_r0,sn_r1,iN h0,iN h1,iN h2,iN h3,iN h4,iN h5,iN h6,iP h7,iP h8]; exact pm mdL [en1 h0,en1 h1,en1 h2,en1 h3,en1 h4,cl (@rl_3 (prO p) h5 h6 h7),cl (@alT (l) (ByteArray.mk #[73,110,116]) hN0),bt1 (bnT h8)] func176
         ·simp only [sn_r0,sn_r1,iN h0,iN h1,iN h2,iN h3,iN h4,iN h5,iN h6,iP h7,iN h8]; exact pm mdL [en1 h0,en1 h1,en1 h2,en1 h3,en1 h4,cl (@rl_3 (prO p) h5 h6 h7),cl (@alT (l) (ByteArray.mk #[73,110,116]) hN0),bf1 (bnF (bTF h8))] func176
        ·by_cases h8:prO p=9
         ·by_cases h9:allB (ByteArray.mk #[73,110,116]) l=false
          ·simp only [sn_r0,sn_r1,iN h0,iN h1,iN h2,iN h3,iN h4,iN h5,iN h6,iN h7,iP h8,iP h9]; exact pm mdL [en1 h0,en1 h1,en1 h2,en1 h3,en1 h4,cl (@rl_4 (prO p) h5 h6 h7 h8),cl (@alT (l) (ByteArray.mk #[73,110,116]) hN0),bt1 (bnT h9)] func176
          ·simp only [sn_r0,sn_r1,iN h0,iN h1,iN h2,iN h3,iN h4,iN h5,iN h6,iN h7,iP h8,iN h9]; exact pm mdL [en1 h0,en1 h1,en1 h2,en1 h3,en1 h4,cl (@rl_4 (prO p) h5 h6 h7 h8),cl (@alT (l) (ByteArray.mk #[73,110,116]) hN0),bf1 (bnF (bTF h9))] func176
         ·by_cases h9:prO p=12
          ·by_cases h10:allB (ByteArray.mk #[73,110,116]) l=false
           ·simp only [sn_r0,sn_r1,iN h0,iN h1,iN h2,iN h3,iN h4,iN h5,iN h6,iN h7,iN h8,iP h9,iP h10]; exact pm mdL [en1 h0,en1 h1,en1 h2,en1 h3,en1 h4,cl (@rl_5 (prO p) h5 h6 h7 h8 h9),cl (@alT (l) (ByteArray.mk #[73,110,116]) hN0),bt1 (bnT h10)] func176
           ·simp only [sn_r0,sn_r1,iN h0,iN h1,iN h2,iN h3,iN h4,iN h5,iN h6,iN h7,iN h8,iP h9,iN h10]; exact pm mdL [en1 h0,en1 h1,en1 h2,en1 h3,en1 h4,cl (@rl_5 (prO p) h5 h6 h7 h8 h9),cl (@alT (l) (ByteArray.mk #[73,110,116]) hN0),bf1 (bnF (bTF h10))] func176
          ·by_cases h10:prO p=13
           ·by_cases h11:allB (ByteArray.mk #[73,110,116]) l=false
            ·simp only [sn_r0,sn_r1,iN h0,iN h1,iN h2,iN h3,iN h4,iN h5,iN h6,iN h7,iN h8,iN h9,iP h10,iP h11]; exact pm mdL [en1 h0,en1 h1,en1 h2,en1 h3,en1 h4,cl (@rl_6 (prO p) h5 h6 h7 h8 h9 h10),cl (@alT (l) (ByteArray.mk #[73,110,116]) hN0),bt1 (bnT h11)] func176
            ·simp only [sn_r0,sn_r1,iN h0,iN h1,iN h2,iN h3,iN h4,iN h5,iN h6,iN h7,iN h8,iN h9,iP h10,iN h11]; exact pm mdL [en1 h0,en1 h1,en1 h2,en1 h3,en1 h4,cl (@rl_6 (prO p) h5 h6 h7 h8 h9 h10),cl (@alT (l) (ByteArray.mk #[73,110,116]) hN0),bf1 (bnF (bTF h11))] func176
           ·by_cases h11:prO p=10
            ·by_cases h12:List.getD l 0 nm0=List.getD l 1 nm0
             ·simp only [sn_r0,sn_r1,iN h0,iN h1,iN h2,iN h3,iN h4,iN h5,iN h6,iN h7,iN h8,iN h9,iN h10,iP h11,iP h12]; exact pm mdL [en1 h0,en1 h1,en1 h2,en1 h3,en1 h4,cl (@rl_7 (prO p) h5 h6 h7 h8 h9 h10 h11),cl (@eq2 (l) oM),bf (!ByteArray.toList (List.getD l 0 nm0)==ByteArray.toList (List.getD l 1 nm0)) (bnF (bsT h12))] func176
             ·simp only [sn_r0,sn_r1,iN h0,iN h1,iN h2,iN h3,iN h4,iN h5,iN h6,iN h7,iN h8,iN h9,iN h10,iP h11,iN h12]; exact pm mdL [en1 h0,en1 h1,en1 h2,en1 h3,en1 h4,cl (@rl_7 (prO p) h5 h6 h7 h8 h9 h10 h11),cl (@eq2 (l) oM),bt (!ByteArray.toList (List.getD l 0 nm0)==ByteArray.toList (List.getD l 1 nm0)) (bnT (bsF h12))] func176
            ·by_cases h12:prO p=11
             ·by_cases h13:List.getD l 0 nm0=List.getD l 1 nm0
              ·simp only [sn_r0,sn_r1,iN h0,iN h1,iN h2,iN h3,iN h4,iN h5,iN h6,iN h7,iN h8,iN h9,iN h10,iN h11,iP h12,iP h13]; exact pm mdL [en1 h0,en1 h1,en1 h2,en1 h3,en1 h4,cl (@rl_8 (prO p) h5 h6 h7 h8 h9 h10 h11 h12),cl (@eq2 (l) oM),bf (!ByteArray.toList (List.getD l 0 nm0)==ByteArray.toList (List.getD l 1 nm0)) (bnF (bsT h13))] func176
              ·simp only [sn_r0,sn_r1,iN h0,iN h1,iN h2,iN h3,iN h4,iN h5,iN h6,iN h7,iN h8,iN h9,iN h10,iN h11,iP h12,iN h13]; exact pm mdL [en1 h0,en1 h1,en1 h2,en1 h3,en1 h4,cl (@rl_8 (prO p) h5 h6 h7 h8 h9 h10 h11 h12),cl (@eq2 (l) oM),bt (!ByteArray.toList (List.getD l 0 nm0)==ByteArray.toList (List.getD l 1 nm0)) (bnT (bsF h13))] func176
             ·by_cases h13:allB (ByteArray.mk #[66,111,111,108]) l=false
              ·simp only [sn_r0,sn_r1,iN h0,iN h1,iN h2,iN h3,iN h4,iN h5,iN h6,iN h7,iN h8,iN h9,iN h10,iN h11,iN h12,iP h13]; exact pm mdL [en1 h0,en1 h1,en1 h2,en1 h3,en1 h4,cl (@rl_9 (prO p) h5 h6 h7 h8 h9 h10 h11 h12),cl (@alT (l) (ByteArray.mk #[66,111,111,108]) hN0),bt1 (bnT h13)] func176
              ·simp only [sn_r0,sn_r1,iN h0,iN h1,iN h2,iN h3,iN h4,iN h5,iN h6,iN h7,iN h8,iN h9,iN h10,iN h11,iN h12,iN h13]; exact pm mdL [en1 h0,en1 h1,en1 h2,en1 h3,en1 h4,cl (@rl_9 (prO p) h5 h6 h7 h8 h9 h10 h11 h12),cl (@alT (l) (ByteArray.mk #[66,111,111,108]) hN0),bf1 (bnF (bTF h13))] func176
end Go.Proofs.YthchpmnkecoafaaGreatDoor
