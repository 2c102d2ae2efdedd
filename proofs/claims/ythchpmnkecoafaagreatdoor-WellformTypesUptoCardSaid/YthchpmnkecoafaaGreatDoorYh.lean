/- Values of Go as plain data, an evaluator over them, and what the functions of the program return; part Yh. -/
import Derived.Test.YthchpmnkecoafaaGreatDoorYa
import Derived.Test.YthchpmnkecoafaaGreatDoorXh
import Derived.Test.YthchpmnkecoafaaGreatDoorYg
import Derived.Test.YthchpmnkecoafaaGreatDoorYe
set_option linter.unusedSectionVars false
set_option linter.unusedSimpArgs false
set_option linter.unusedVariables false
namespace Go.Proofs.YthchpmnkecoafaaGreatDoor
open Go.Proofs.Tryz
open Go.Pv Go.Proofs.Tryz
set_option maxRecDepth 100000
theorem gTp{l:List Tp}{i:Nat}(h:i<l.length):l.getD i default∈l:=BF h
abbrev nE(t:Tp)(pf:Tp->Tp)(j:Int)(out:List Tp)(e:Ext):S:=S.mk [(2,.lp 2 0),(3,.lp 3 0),(12,vL 9 (Tp.cs (A8 t))),(13,A1 ((A8 t).length:Int)),(14,A1 j)] [(2,[A1 0,vS Ah,.v .A4,.v .A4,A1 0,vS Ah,A1 0,.v .A4,.v .A4]),(3,[A1 (AA t),vS (Af t),.uniq 43 9 (Tp.cs out),.v .A4,A1 0,vS Ah,A1 0,.v .A4,.v .A4])] e
def JB(pf:Tp->Tp):List Tp->(List Tp)->(List Tp)
 | [],out=>(out)
 | el::r,out=>JB pf r (out++[pf el])
def aV(t:Tp)(pf:Tp->Tp)(e:Ext)(p:(List Tp)):A5 × S:=(.exit 0,S.mk [(2,.lp 2 0),(3,.lp 3 0),(12,vL 9 (Tp.cs (A8 t))),(13,A1 ((A8 t).length:Int))] [(2,[A1 0,vS Ah,.v .A4,.v .A4,A1 0,vS Ah,A1 0,.v .A4,.v .A4]),(3,[A1 (AA t),vS (Af t),.uniq 43 9 (Tp.cs p),.v .A4,A1 0,vS Ah,A1 0,.v .A4,.v .A4])] e)
theorem pl0(t:Tp)(pf:Tp->Tp)(Bg:∀w:Tp,w∈A8 t->Pu 69 [.agg (Ay w)] (.ret (.agg (Ay (pf w)))))(out:List Tp)(e:Ext)(hN:(A8 t).length<=1000000000)(hv:List.length out<=0):(Ob.loop 27 (Ai f69 0) (nE t pf 0 out e) (aV t pf e (JB pf ((A8 t))  out)).1 (aV t pf e (JB pf ((A8 t))  out)).2).ok prog:=by
 refine Ds ((A8 t).length) (fun j out=>nE t pf j out e) (fun i out=>JB pf (List.drop i ((A8 t)))  out) (aV t pf e) (fun i out=>(out.length<=i)) kR ?_ out (by first | exact hv | omega)
 rintro i out hi hv
 try simp only at hv
 rcases Nat.lt_or_ge i ((A8 t).length) with Ag | CO
 ·have hd:=AH Ag
  exact lS Ad [dt ((i:Int)<((A8 t).length:Int)),am ((0:Int)<=(i:Int)/\(i:Int)<((Tp.cs (A8 t)).length:Int)) (by (simp only [Tp.A0]; omega)),ar (List.getD (Tp.cs (A8 t)) (Int.toNat (i:Int)) []) (Ay (List.getD (A8 t) i default)) (by simp only [Int.toNat_natCast,Int.toNat_zero]; rw [@Tp.B5 (A8 t) (i) Ag]; try rfl),cl (@Bg (List.getD (A8 t) i default) (by simp_all)),am (List.length (Tp.cs out++(fun x=>Prod.snd x) (8+1,[Ay (pf (List.getD (A8 t) i default))])) * (151+1)<=140737488355328) (by (simp only [List.length_append,List.length_cons,List.length_nil,A3,Pr.A0,Tp.A0]; omega)),wr ((i:Int)+1)] [2,3,12,13,14] [2,3] Ag (out++[pf (List.getD (A8 t) i default)]) (S.mk [(2,.lp 2 0),(3,.lp 3 0),(12,vL 9 (Tp.cs (A8 t))),(13,A1 ((A8 t).length:Int)),(14,A1 ((i:Int)+1))] [(2,[A1 0,vS Ah,.v .A4,.v .A4,A1 0,vS Ah,A1 0,.v .A4,.v .A4]),(3,[A1 (AA t),vS (Af t),.uniq 43 9 (Tp.cs out++[Ay (pf (List.getD (A8 t) i default))]),.v .A4,A1 0,vS Ah,A1 0,.v .A4,.v .A4])] e) ⟨⟨W,W,W,W,W,An⟩,⟨Ws,⟨W,W,(.inl (by first | (simp only [List.nil_append,AX,AM,Pr.A2,Tp.A2,Ex.A2,Vr.A2,Df.A2]; done) | (simp only [List.nil_append,AX,AM,Pr.A2,Tp.A2,Ex.A2,Vr.A2,Df.A2]; rfl))),W,W,W,W,W,W,An⟩,An⟩,rfl⟩ (by first | assumption | omega | (apply gTp <;> first | assumption | omega | decide) | (simp only [List.length_append,List.length_cons,List.length_nil] at *; omega) | simp_all) (by rw [hd,JB])
 ·have he:i=(A8 t).length:=by omega
  exact lX Ad [df ((i:Int)<((A8 t).length:Int))] (out) (by rw [he,List.drop_length,JB])
theorem plL(t:Tp)(pf:Tp->Tp)(Bg:∀w:Tp,w∈A8 t->Pu 69 [.agg (Ay w)] (.ret (.agg (Ay (pf w)))))(hN:(A8 t).length<=1000000000):Pu 69 [.agg (Ay t)] (rA [pI (AA t),.str (Af t),.sl 9 (Tp.cs (JB pf (A8 t) [])),.sl 1 [],pI 0,.str Ah,pI 0,.sl 4 [],.sl 4 []]):=
 Ob.Ed (Wk.a (kr (kr (kr (kn 1 (kr (kr (kr (kn 4 (kn 4 (DD.r _))))))))))) (pu Ad (fun e=>[sl (Tp.A0 (A8 t)),lp (S.mk [(0,.v (.agg (Ay t))),(1,.lp 1 0),(2,.lp 2 0),(6,.lp 1 0),(7,A1 (AA t)),(8,.lp 1 1),(9,vS (Af t)),(10,.v (.agg [pI (AA t),.str (Af t),.A4,.A4,pI 0,.str Ah,pI 0,.A4,.A4])),(3,.lp 3 0),(11,.lp 1 2),(12,vL 9 (Tp.cs (A8 t))),(13,A1 ((A8 t).length:Int)),(14,A1 0)] [(1,Bj t),(2,[A1 0,vS Ah,.v .A4,.v .A4,A1 0,vS Ah,A1 0,.v .A4,.v .A4]),(3,[A1 (AA t),vS (Af t),.v .A4,.v .A4,A1 0,vS Ah,A1 0,.v .A4,.v .A4])] e) (@pl0 (t) (pf) Bg ([]) (e) hN (by (simp only [List.length_nil]; omega))) ⟨⟨W,W,W,W,W,An⟩,⟨⟨W,W,W,W,W,W,W,W,W,An⟩,⟨W,W,Wq,W,W,Wq,W,W,W,An⟩,An⟩,rfl⟩]) func69)
def DU(t:Tp):BA:=(if AA t=1 then (ByteArray.mk #[73,110,116]) else (if AA t=2 then (ByteArray.mk #[66,111,111,108]) else (if AA t=3 then (ByteArray.mk #[67,101,108,108]) else (if AA t=4 then (if ((A8 t).length:Int)=0 then (Af t) else Ah) else Ah))))
def CP(t:Tp):Bool:=(if AA t=1 then true else (if AA t=2 then true else (if AA t=3 then true else (if AA t=4 then (if ((A8 t).length:Int)=0 then true else false) else false))))
theorem sOf(t:Tp):Pu 68 [.agg (Ay t)] (.ret (.AE [.str (DU t),.bool (CP t)])):=by
 by_cases h0:AA t=1
 ·simp only [DU,CP,iP h0]; exact pm Ad [Bh h0] func68
 ·by_cases h1:AA t=2
  ·simp only [DU,CP,iN h0,iP h1]; exact pm Ad [Aw h0,Bh h1] func68
  ·by_cases h2:AA t=3
   ·simp only [DU,CP,iN h0,iN h1,iP h2]; exact pm Ad [Aw h0,Aw h1,Bh h2] func68
   ·by_cases h3:AA t=4
    ·by_cases h4:((A8 t).length:Int)=0
     ·simp only [DU,CP,iN h0,iN h1,iN h2,iP h3,iP h4]; exact pm Ad [Aw h0,Aw h1,Aw h2,Bh h3,sl (Tp.A0 (A8 t)),Bh h4] func68
     ·simp only [DU,CP,iN h0,iN h1,iN h2,iP h3,iN h4]; exact pm Ad [Aw h0,Aw h1,Aw h2,Bh h3,sl (Tp.A0 (A8 t)),Aw h4] func68
    ·simp only [DU,CP,iN h0,iN h1,iN h2,iN h3]; exact pm Ad [Aw h0,Aw h1,Aw h2,Aw h3] func68
theorem x7(l:List BA)(hn:l.length<=1000000000):Pu 30 [.sl 1 (A7 l)] (.own 74 1 (A7 l)):=by
 refine ⟨by kernel_rfl,fun e=>?_⟩
 refine C3.enter func30 rfl (show 1<=8 by decide) fun cx Ar Mv=>?_
 refine HX ?_
 refine DK Ad 8 50 [] [0] [] (s':=⟨[(0,.v (.sl 1 (A7 l)))],[],e⟩) (pe := .normal) (C1:=[]) (l:=[]) mixed Ar kR kR trivial ?_
 show PW _ _ _ _ _
 refine HX (HX ?_)
 intro g l0 a w hs
 refine wp_region_lit ?_
 have hn':∀k,k<8->k<cx.n:=fun k hk=>by rw [Ar]; exact hk
 refine (RO (p := .sl 1 (A7 l)) rfl rfl rfl (hn' _ dD) rfl ?_:PL _ _ _ _ _ _) g l0 a w hs
 refine Pa (z:=1) (es:=A7 l) (el:=74) rfl rfl rfl (hn' _ dD) kR rfl fun b hb=>?_
 refine MD ?_
 show PW _ _ _ _ _
 cases b with
 | true=>
  have h0:=hb rfl
  refine PW.Yd (t:=⟨[(4,.v (.bool true))],[],e⟩) ⟨⟨W,An⟩,trivial,rfl⟩ ?_
  refine PW.Qh ?_
  refine DK Ad 8 50 [Dg.bit true] [2] [] (s':=⟨[(2,.v .A4)],[],e⟩) (pe := .ret) (C1:=[]) (l:=[.bit true true]) mixed Ar kR kR ⟨rfl,An⟩ ?_
  refine ⟨⟨[(2,.uniq 74 1 [])],[],e⟩,⟨⟨.inr rfl,An⟩,trivial,rfl⟩,?_⟩
  refine .inr ⟨2,74,1,[],rfl,rfl,by decide,?_⟩
  rw [h0]
  exact ⟨rfl,rfl⟩
 | false=>
  refine PW.Yd (t:=⟨[(0,.v (.sl 1 (A7 l))),(4,.v (.bool false))],[],e⟩) ⟨⟨W,W,An⟩,trivial,rfl⟩ ?_
  refine DK Ad 8 50 [Dg.bit false] [0] [] (s':=⟨[(0,.v (.sl 1 (A7 l)))],[],e⟩) (pe := .normal) (C1:=[]) (l:=[.bit false false]) mixed Ar kR kR ⟨rfl,An⟩ ?_
  show PW _ _ _ _ _
  refine DK Ad 8 50 [] [2] [] (s':=⟨[(2,.uniq 74 1 (A7 l))],[],e⟩) (pe := .ret) (C1:=[]) (l:=[.bit (decide ((A7 l).length * 16<=140737488355328)) true]) mixed Ar kR kR ⟨N3 (dT (by rw [A3]; omega)),An⟩ ?_
  exact .inr ⟨2,74,1,A7 l,rfl,rfl,by decide,rfl,rfl⟩
theorem A4b(l:List Vr)(hn:l.length<=1000000000):Pu 126 [.sl 2 (Vr.cs l)] (.own 104 2 (Vr.cs l)):=by
 refine ⟨by kernel_rfl,fun e=>?_⟩
 refine C3.enter func126 rfl (show 1<=8 by decide) fun cx Ar Mv=>?_
 refine HX ?_
 refine DK Ad 8 50 [] [0] [] (s':=⟨[(0,.v (.sl 2 (Vr.cs l)))],[],e⟩) (pe := .normal) (C1:=[]) (l:=[]) mixed Ar kR kR trivial ?_
 show PW _ _ _ _ _
 refine HX (HX ?_)
 intro g l0 a w hs
 refine wp_region_lit ?_
 have hn':∀k,k<8->k<cx.n:=fun k hk=>by rw [Ar]; exact hk
 refine (RO (p := .sl 2 (Vr.cs l)) rfl rfl rfl (hn' _ dD) rfl ?_:PL _ _ _ _ _ _) g l0 a w hs
 refine Pa (z:=2) (es:=Vr.cs l) (el:=104) rfl rfl rfl (hn' _ dD) kR rfl fun b hb=>?_
 refine MD ?_
 show PW _ _ _ _ _
 cases b with
 | true=>
  have h0:=hb rfl
  refine PW.Yd (t:=⟨[(4,.v (.bool true))],[],e⟩) ⟨⟨W,An⟩,trivial,rfl⟩ ?_
  refine PW.Qh ?_
  refine DK Ad 8 50 [Dg.bit true] [2] [] (s':=⟨[(2,.v .A4)],[],e⟩) (pe := .ret) (C1:=[]) (l:=[.bit true true]) mixed Ar kR kR ⟨rfl,An⟩ ?_
  refine ⟨⟨[(2,.uniq 104 2 [])],[],e⟩,⟨⟨.inr rfl,An⟩,trivial,rfl⟩,?_⟩
  refine .inr ⟨2,104,2,[],rfl,rfl,by decide,?_⟩
  rw [h0]
  exact ⟨rfl,rfl⟩
 | false=>
  refine PW.Yd (t:=⟨[(0,.v (.sl 2 (Vr.cs l))),(4,.v (.bool false))],[],e⟩) ⟨⟨W,W,An⟩,trivial,rfl⟩ ?_
  refine DK Ad 8 50 [Dg.bit false] [0] [] (s':=⟨[(0,.v (.sl 2 (Vr.cs l)))],[],e⟩) (pe := .normal) (C1:=[]) (l:=[.bit false false]) mixed Ar kR kR ⟨rfl,An⟩ ?_
  show PW _ _ _ _ _
  refine DK Ad 8 50 [] [2] [] (s':=⟨[(2,.uniq 104 2 (Vr.cs l))],[],e⟩) (pe := .ret) (C1:=[]) (l:=[.bit (decide ((Vr.cs l).length * 32<=140737488355328)) true]) mixed Ar kR kR ⟨N3 (dT (by rw [Vr.A0]; omega)),An⟩ ?_
  exact .inr ⟨2,104,2,Vr.cs l,rfl,rfl,by decide,rfl,rfl⟩
theorem nF{v:Nv}{i:Nat}(hS:∀w∈By v,(Ca w).length<=1000000000)(h:i<(By v).length):(Ca ((By v).getD i default)).length<=1000000000:=hS _ (BF h)
theorem nG{v:Nv}{i:Nat}(hH:∀w∈AU v,(CV w).length<=1000000000)(h:i<(AU v).length):(CV ((AU v).getD i default)).length<=1000000000:=hH _ (BF h)
abbrev Ny(v:Nv)(name:BA)(j:Int)(e:Ext):S:=S.mk [(1,vS name),(2,.lp 2 0),(6,A1 j)] [(2,CT v)] e
section
variable (v:Nv) (name:BA) (i:Nat) (e:Ext) (hi:i<(AS v).length) (hN:(AS v).length<=1000000000)
include v name i e hi hN
theorem x8(Ac:BP (List.getD (AS v) i default)=name)(cx:Cx)(Ar:cx.n=29){Q:A5->S->Prop}(hq:Q (.ret) (S.mk [(1,vS name),(2,.lp 2 0),(6,A1 (i:Int)),(4,vS (Fe (List.getD (AS v) i default))),(5,.v (.bool true))] [(2,CT v)] e)):PW prog cx (Ai f227 0) (Ny v name (i:Int) e) Q:=
 pw Ad 29 [bt true,am ((0:Int)<=(i:Int)/\(i:Int)<((Vr.cs (AS v)).length:Int)) (by (simp only [Vr.A0]; omega)),ar (List.getD (Vr.cs (AS v)) (Int.toNat (i:Int)) []) (Fo (List.getD (AS v) i default)) (by simp only [Int.toNat_natCast,Int.toNat_zero]; rw [@Vr.B5 (AS v) (i) hi]; try rfl),bt (ByteArray.toList (BP (List.getD (AS v) i default))==ByteArray.toList name) (BL Ac),am ((0:Int)<=(i:Int)/\(i:Int)<((Vr.cs (AS v)).length:Int)) (by (simp only [Vr.A0]; omega)),ar (List.getD (Vr.cs (AS v)) (Int.toNat (i:Int)) []) (Fo (List.getD (AS v) i default)) (by simp only [Int.toNat_natCast,Int.toNat_zero]; rw [@Vr.B5 (AS v) (i) hi]; try rfl)] [1,2,6,4,5] [2] Ar hq
theorem x9(Ac:¬BP (List.getD (AS v) i default)=name)(cx:Cx)(Ar:cx.n=29){Q:A5->S->Prop}(hq:Q (.normal) (S.mk [(1,vS name),(2,.lp 2 0),(6,A1 ((i:Int) - 1))] [(2,CT v)] e)):PW prog cx (Ai f227 0) (Ny v name (i:Int) e) Q:=
 pw Ad 29 [bt true,am ((0:Int)<=(i:Int)/\(i:Int)<((Vr.cs (AS v)).length:Int)) (by (simp only [Vr.A0]; omega)),ar (List.getD (Vr.cs (AS v)) (Int.toNat (i:Int)) []) (Fo (List.getD (AS v) i default)) (by simp only [Int.toNat_natCast,Int.toNat_zero]; rw [@Vr.B5 (AS v) (i) hi]; try rfl),bf (ByteArray.toList (BP (List.getD (AS v) i default))==ByteArray.toList name) (BZ Ac),wr ((i:Int) - 1)] [1,2,6,4,5] [2] Ar hq
end
theorem xE(v:Nv)(name:BA)(i:Nat)(e:Ext)(hi:i=0)(hN:(AS v).length<=1000000000)(cx:Cx)(Ar:cx.n=29){Q:A5->S->Prop}(hq:Q (.exit 0) (S.mk [(1,vS name),(2,.lp 2 0),(6,A1 (-1))] [(2,CT v)] e)):PW prog cx (Ai f227 0) (Ny v name (-1) e) Q:=
 pw Ad 29 [bf false] [1,2,6,4,5] [2] Ar hq
inductive GB where
 | e0 (el:Vr)
 | e1
def EF(name:BA):List Vr->GB
 | []=>(GB.e1)
 | el::r=>(if BP el=name then (GB.e0 el) else EF name r)
def Nz(v:Nv)(name:BA)(e:Ext):GB->A5 × S
 | .e0 el=>(.ret,S.mk [(1,vS name),(2,.lp 2 0),(4,vS (Fe el)),(5,.v (.bool true))] [(2,CT v)] e)
 | .e1=>(.exit 0,S.mk [(1,vS name),(2,.lp 2 0)] [(2,CT v)] e)
theorem aW(v:Nv)(name:BA)(e:Ext)(hN:(AS v).length<=1000000000)(i:Nat)(Oi:i<=(AS v).length)  : (Ob.loop 29 (Ai f227 0) (Ny v name ((i:Int) - 1)  e) (Nz v name e (EF name (List.reverse (List.take i ((AS v)))))).1 (Nz v name e (EF name (List.reverse (List.take i ((AS v)))))).2).ok prog:=by
 refine Ob.Jg (P:=prog) (α:={ zz:Nat × Unit // zz.1<=(AS v).length }) (fun zz=>Ny v name ((zz.1.1:Int) - 1)  e) (fun zz=>zz.1.1) (fun zz=>(Nz v name e (EF name (List.reverse (List.take zz.1.1 ((AS v))))))) ?_ ⟨(i,()),Oi⟩
 clear Oi
 clear  i
 rintro ⟨⟨i,u⟩,hi⟩ cx Ar
 simp only at hi  ⊢
 rcases i with _ | i
 ·rw [show (((0:Nat):Int) - 1) = -1 from rfl]
  have hr:(EF name (List.reverse (List.take 0 ((AS v)))))=(GB.e1):=by rw [List.take_zero,List.reverse_nil,EF]
  refine xE v name 0  e rfl hN   cx Ar (.inr ?_)
  rw [hr]
  exact ⟨by simp,rfl,xr⟩
 ·have Ag:i<(AS v).length:=by omega
  have hd:=LL Ag
  rw [show (((i+1:Nat):Int) - 1)=(i:Int) by omega]
  by_cases h0:BP (List.getD (AS v) i default)=name
  ·have hr:(EF name (List.reverse (List.take (i+1) ((AS v)))))=(GB.e0 (List.getD ((AS v)) i default)):=by rw [hd,EF,iP h0]
   refine x8 v name i  e Ag hN  h0 cx Ar (.inr ?_)
   rw [hr]
   exact ⟨by simp,rfl,xr⟩
  ·have hr:(EF name (List.reverse (List.take (i+1) ((AS v)))))=(EF name (List.reverse (List.take i ((AS v))))):=by rw [hd,EF,iN h0]
   exact x9 v name i  e Ag hN  h0 cx Ar (.inl ⟨rfl,⟨(i,()),by simp only; omega⟩,by simp only; omega,xr,by simp only; rw [hr]⟩)
theorem A4c(v:Nv)(name:BA)(e:Ext)(hN:(AS v).length<=1000000000)(p0:Vr)(At:(EF name (List.reverse ((AS v))))=(GB.e0 p0)):(Ob.loop 29 (Ai f227 0) (Ny v name (((AS v).length:Int) - 1)  e) (Nz v name e (GB.e0 p0)).1 (Nz v name e (GB.e0 p0)).2).ok prog:=by
 have:=aW v name e hN ((AS v).length)  (Nat.le_refl _)
 rw [List.take_length] at this
 rw [At] at this
 exact this
theorem A4d(v:Nv)(name:BA)(e:Ext)(hN:(AS v).length<=1000000000)(At:(EF name (List.reverse ((AS v))))=(GB.e1)):(Ob.loop 29 (Ai f227 0) (Ny v name (((AS v).length:Int) - 1)  e) (Nz v name e (GB.e1)).1 (Nz v name e (GB.e1)).2).ok prog:=by
 have:=aW v name e hN ((AS v).length)  (Nat.le_refl _)
 rw [List.take_length] at this
 rw [At] at this
 exact this
theorem aX(name:BA):∀l:List Vr,EF name l=if ix BP name l<l.length then .e0 (l.getD (ix BP name l) default) else .e1
 | []=>by simp [EF,ix]
 | c::r=>by
  by_cases h:BP c=name
  ·simp [EF,ix,h]
  ·simp only [EF,ix,h,if_false,aX name r,List.length_cons,Nat.add_lt_add_iff_right,List.getD_cons_succ]
section
variable (v:Nv) (name:BA) (hN:(AS v).length<=1000000000)
include v name hN
theorem A4e(Dc:Vr)(Ae:EF name (List.reverse (AS v))=GB.e0 Dc):Pu 227 [.agg (Bd v),.str name] (.ret (.AE [.str (Fe Dc),.bool true])):=
 pu Ad (fun e=>[sl (Vr.A0 (AS v)),wr (((AS v).length:Int) - 1),lp (S.mk [(0,.v (.agg (Bd v))),(1,vS name),(2,.lp 2 0),(4,vS Ah),(5,.v (.bool false)),(7,.lp 2 0),(8,vL 2 (Vr.cs (AS v))),(9,A1 ((AS v).length:Int)),(10,A1 (((AS v).length:Int) - 1)),(6,A1 (((AS v).length:Int) - 1))] [(2,CT v)] e) (@A4c (v) (name) (e) hN Dc Ae) xr]) func227
theorem A4f(Ac:EF name (List.reverse (AS v))=GB.e1):Pu 227 [.agg (Bd v),.str name] (.ret (.AE [.str Ah,.bool false])):=
 pu Ad (fun e=>[sl (Vr.A0 (AS v)),wr (((AS v).length:Int) - 1),lp (S.mk [(0,.v (.agg (Bd v))),(1,vS name),(2,.lp 2 0),(4,vS Ah),(5,.v (.bool false)),(7,.lp 2 0),(8,vL 2 (Vr.cs (AS v))),(9,A1 ((AS v).length:Int)),(10,A1 (((AS v).length:Int) - 1)),(6,A1 (((AS v).length:Int) - 1))] [(2,CT v)] e) (@A4d (v) (name) (e) hN Ac) xr]) func227
end
abbrev UW(v:Nv)(name:BA)(j:Int)(e:Ext):S:=S.mk [(1,vS name),(4,.lp 4 0),(17,vL 3 (Sy.cs (By v))),(18,A1 ((By v).length:Int)),(19,A1 j)] [(4,[vS Ah,.v .A4,vS Ah])] e
inductive GC where
 | e0 (el:Sy)
 | e1
def G2(name:BA):List Sy->GC
 | []=>(GC.e1)
 | el::r=>(if DT el=name then (GC.e0 el) else G2 name r)
def NA(v:Nv)(name:BA)(e:Ext):GC->A5 × S
 | .e0 el=>(.ret,S.mk [(1,vS name),(4,.lp 4 0),(17,vL 3 (Sy.cs (By v))),(18,A1 ((By v).length:Int)),(5,.v (.bool true))] [(4,rP el)] e)
 | .e1=>(.exit 1,S.mk [(1,vS name),(4,.lp 4 0),(17,vL 3 (Sy.cs (By v))),(18,A1 ((By v).length:Int))] [(4,[vS Ah,.v .A4,vS Ah])] e)
theorem aY(v:Nv)(name:BA)(DV:¬name=ByteArray.mk #[116,97,103])(Jh:¬name=ByteArray.mk #[118,97,108])(hS:∀w∈By v,(Ca w).length<=1000000000)(e:Ext)(hN:(By v).length<=1000000000):(Ob.loop 34 (Ai f272 0) (UW v name 0  e) (NA v name e (G2 name (List.drop 0 ((By v))))).1 (NA v name e (G2 name (List.drop 0 ((By v))))).2).ok prog:=by
 refine Ds ((By v).length) (fun j _=>UW v name j  e) (fun i _=>G2 name (List.drop i ((By v)))) (NA v name e) (fun i _=>True) kR ?_ () trivial
 rintro i u hi -
 rcases Nat.lt_or_ge i ((By v).length) with Ag | CO
 ·have hd:=AH Ag
  by_cases h0:DT (List.getD (By v) i default)=name
  ·exact lX Ad [dt ((i:Int)<((By v).length:Int)),am ((0:Int)<=(i:Int)/\(i:Int)<((Sy.cs (By v)).length:Int)) (by (simp only [Sy.A0]; omega)),ar (List.getD (Sy.cs (By v)) (Int.toNat (i:Int)) []) (Hx (List.getD (By v) i default)) (by simp only [Int.toNat_natCast,Int.toNat_zero]; rw [@Sy.B5 (By v) (i) Ag]; try rfl),bt (ByteArray.toList (DT (List.getD (By v) i default))==ByteArray.toList name) (BL h0),cl (@x7 (Ca (List.getD (By v) i default)) (by (apply nF <;> first | assumption | omega | decide)))] (GC.e0 (List.getD ((By v)) i default)) (by rw [hd,G2,iP h0])
  ·exact lN Ad [dt ((i:Int)<((By v).length:Int)),am ((0:Int)<=(i:Int)/\(i:Int)<((Sy.cs (By v)).length:Int)) (by (simp only [Sy.A0]; omega)),ar (List.getD (Sy.cs (By v)) (Int.toNat (i:Int)) []) (Hx (List.getD (By v) i default)) (by simp only [Int.toNat_natCast,Int.toNat_zero]; rw [@Sy.B5 (By v) (i) Ag]; try rfl),bf (ByteArray.toList (DT (List.getD (By v) i default))==ByteArray.toList name) (BZ h0),wr ((i:Int)+1)] Ag () trivial (by rw [hd,G2,iN h0])
 ·have he:i=(By v).length:=by omega
  exact lX Ad [df ((i:Int)<((By v).length:Int))] (GC.e1) (by rw [he,List.drop_length,G2])
theorem A4g(v:Nv)(name:BA)(DV:¬name=ByteArray.mk #[116,97,103])(Jh:¬name=ByteArray.mk #[118,97,108])(hS:∀w∈By v,(Ca w).length<=1000000000)(e:Ext)(hN:(By v).length<=1000000000)(p0:Sy)(At:(G2 name ((By v)))=(GC.e0 p0)):(Ob.loop 34 (Ai f272 0) (UW v name 0  e) (NA v name e (GC.e0 p0)).1 (NA v name e (GC.e0 p0)).2).ok prog:=
 rz (aY v name DV Jh hS e hN) At
theorem A4h(v:Nv)(name:BA)(DV:¬name=ByteArray.mk #[116,97,103])(Jh:¬name=ByteArray.mk #[118,97,108])(hS:∀w∈By v,(Ca w).length<=1000000000)(e:Ext)(hN:(By v).length<=1000000000)(At:(G2 name ((By v)))=(GC.e1)):(Ob.loop 34 (Ai f272 0) (UW v name 0  e) (NA v name e (GC.e1)).1 (NA v name e (GC.e1)).2).ok prog:=
 rz (aY v name DV Jh hS e hN) At
theorem aZ(name:BA):∀l:List Sy,G2 name l=if ix DT name l<l.length then .e0 (l.getD (ix DT name l) default) else .e1
 | []=>by simp [G2,ix]
 | c::r=>by
  by_cases h:DT c=name
  ·simp [G2,ix,h]
  ·simp only [G2,ix,h,if_false,aZ name r,List.length_cons,Nat.add_lt_add_iff_right,List.getD_cons_succ]
theorem A4i(v:Nv)(name:BA)(hS:∀w∈By v,(Ca w).length<=1000000000)(hN:(By v).length<=1000000000)(Ac:name=ByteArray.mk #[116,97,103]):Pu 272 [.agg (Bd v),.str name] (.ret (.AE [.agg [.str (ByteArray.mk #[116,97,103]),.sl 1 [],.str (ByteArray.mk #[73,110,116])],.bool true])):=
 Ob.Ed (Wk.t (DD.c (Wk.a (kr (kn 1 (DD.r _)))) (DD.r _))) (pm Ad [bt (ByteArray.toList name==ByteArray.toList (ByteArray.mk #[116,97,103])) (BL Ac)] func272)
section
variable (v:Nv) (name:BA) (hS:∀w∈By v,(Ca w).length<=1000000000) (hN:(By v).length<=1000000000) (Ac:¬name=ByteArray.mk #[116,97,103])
include v name hS hN Ac
theorem A4j(Ae:name=ByteArray.mk #[118,97,108]):Pu 272 [.agg (Bd v),.str name] (.ret (.AE [.agg [.str (ByteArray.mk #[118,97,108]),.sl 1 [[.str (ByteArray.mk #[67,101,108,108])]],.str (ByteArray.mk #[73,110,116])],.bool true])):=
 pm Ad [bf (ByteArray.toList name==ByteArray.toList (ByteArray.mk #[116,97,103])) (BZ Ac),bt (ByteArray.toList name==ByteArray.toList (ByteArray.mk #[118,97,108])) (BL Ae)] func272
theorem A4k(Ae:¬name=ByteArray.mk #[118,97,108])(Qw:Sy)(AK:G2 name (By v)=GC.e0 Qw):Pu 272 [.agg (Bd v),.str name] (.ret (.AE [.agg (Hx Qw),.bool true])):=
 pu Ad (fun e=>[bf (ByteArray.toList name==ByteArray.toList (ByteArray.mk #[116,97,103])) (BZ Ac),bf (ByteArray.toList name==ByteArray.toList (ByteArray.mk #[118,97,108])) (BZ Ae),sl (Sy.A0 (By v)),lp (S.mk [(0,.v (.agg (Bd v))),(1,vS name),(2,.lp 2 0),(4,.lp 4 0),(5,.v (.bool false)),(8,vS name),(10,.v (.bool (ByteArray.toList name==ByteArray.toList (ByteArray.mk #[116,97,103])))),(9,.v (.bool (ByteArray.toList name==ByteArray.toList (ByteArray.mk #[116,97,103])))),(13,.v (.bool (ByteArray.toList name==ByteArray.toList (ByteArray.mk #[118,97,108])))),(12,.v (.bool (ByteArray.toList name==ByteArray.toList (ByteArray.mk #[118,97,108])))),(16,.lp 2 1),(17,vL 3 (Sy.cs (By v))),(18,A1 ((By v).length:Int)),(19,A1 0)] [(2,CT v),(4,[vS Ah,.v .A4,vS Ah])] e) (@A4g (v) (name) Ac Ae hS (e) hN Qw AK) xr]) func272
end
theorem A4l(v:Nv)(name:BA)(hS:∀w∈By v,(Ca w).length<=1000000000)(hN:(By v).length<=1000000000)(Ac:¬name=ByteArray.mk #[116,97,103])(Ae:¬name=ByteArray.mk #[118,97,108])(Ao:G2 name (By v)=GC.e1):Pu 272 [.agg (Bd v),.str name] (.ret (.AE [.agg [.str Ah,.sl 1 [],.str Ah],.bool false])):=
 Ob.Ed (Wk.t (DD.c (Wk.a (kr (kn 1 (DD.r _)))) (DD.r _))) (pu Ad (fun e=>[bf (ByteArray.toList name==ByteArray.toList (ByteArray.mk #[116,97,103])) (BZ Ac),bf (ByteArray.toList name==ByteArray.toList (ByteArray.mk #[118,97,108])) (BZ Ae),sl (Sy.A0 (By v)),lp (S.mk [(0,.v (.agg (Bd v))),(1,vS name),(2,.lp 2 0),(4,.lp 4 0),(5,.v (.bool false)),(8,vS name),(10,.v (.bool (ByteArray.toList name==ByteArray.toList (ByteArray.mk #[116,97,103])))),(9,.v (.bool (ByteArray.toList name==ByteArray.toList (ByteArray.mk #[116,97,103])))),(13,.v (.bool (ByteArray.toList name==ByteArray.toList (ByteArray.mk #[118,97,108])))),(12,.v (.bool (ByteArray.toList name==ByteArray.toList (ByteArray.mk #[118,97,108])))),(16,.lp 2 1),(17,vL 3 (Sy.cs (By v))),(18,A1 ((By v).length:Int)),(19,A1 0)] [(2,CT v),(4,[vS Ah,.v .A4,vS Ah])] e) (@A4h (v) (name) Ac Ae hS (e) hN Ao) xr]) func272)
abbrev UX(v:Nv)(name:BA)(j:Int)(e:Ext):S:=S.mk [(1,vS name),(4,.lp 4 0),(9,vL 2 (Ho.cs (AU v))),(10,A1 ((AU v).length:Int)),(11,A1 j)] [(4,[vS Ah,.v .A4])] e
inductive GD where
 | e0 (el:Ho)
 | e1
def G3(name:BA):List Ho->GD
 | []=>(GD.e1)
 | el::r=>(if AP el=name then (GD.e0 el) else G3 name r)
def NB(v:Nv)(name:BA)(e:Ext):GD->A5 × S
 | .e0 el=>(.ret,S.mk [(1,vS name),(4,.lp 4 0),(9,vL 2 (Ho.cs (AU v))),(10,A1 ((AU v).length:Int)),(5,.v (.bool true))] [(4,WX el)] e)
 | .e1=>(.exit 0,S.mk [(1,vS name),(4,.lp 4 0),(9,vL 2 (Ho.cs (AU v))),(10,A1 ((AU v).length:Int))] [(4,[vS Ah,.v .A4])] e)
theorem b7(v:Nv)(name:BA)(hH:∀w∈AU v,(CV w).length<=1000000000)(e:Ext)(hN:(AU v).length<=1000000000):(Ob.loop 26 (Ai f274 0) (UX v name 0  e) (NB v name e (G3 name (List.drop 0 ((AU v))))).1 (NB v name e (G3 name (List.drop 0 ((AU v))))).2).ok prog:=by
 refine Ds ((AU v).length) (fun j _=>UX v name j  e) (fun i _=>G3 name (List.drop i ((AU v)))) (NB v name e) (fun i _=>True) kR ?_ () trivial
 rintro i u hi -
 rcases Nat.lt_or_ge i ((AU v).length) with Ag | CO
 ·have hd:=AH Ag
  by_cases h0:AP (List.getD (AU v) i default)=name
  ·exact lX Ad [dt ((i:Int)<((AU v).length:Int)),am ((0:Int)<=(i:Int)/\(i:Int)<((Ho.cs (AU v)).length:Int)) (by (simp only [Ho.A0]; omega)),ar (List.getD (Ho.cs (AU v)) (Int.toNat (i:Int)) []) (JV (List.getD (AU v) i default)) (by simp only [Int.toNat_natCast,Int.toNat_zero]; rw [@Ho.B5 (AU v) (i) Ag]; try rfl),bt (ByteArray.toList (AP (List.getD (AU v) i default))==ByteArray.toList name) (BL h0),cl (@A4b (CV (List.getD (AU v) i default)) (by (apply nG <;> first | assumption | omega | decide)))] (GD.e0 (List.getD ((AU v)) i default)) (by rw [hd,G3,iP h0])
  ·exact lN Ad [dt ((i:Int)<((AU v).length:Int)),am ((0:Int)<=(i:Int)/\(i:Int)<((Ho.cs (AU v)).length:Int)) (by (simp only [Ho.A0]; omega)),ar (List.getD (Ho.cs (AU v)) (Int.toNat (i:Int)) []) (JV (List.getD (AU v) i default)) (by simp only [Int.toNat_natCast,Int.toNat_zero]; rw [@Ho.B5 (AU v) (i) Ag]; try rfl),bf (ByteArray.toList (AP (List.getD (AU v) i default))==ByteArray.toList name) (BZ h0),wr ((i:Int)+1)] Ag () trivial (by rw [hd,G3,iN h0])
 ·have he:i=(AU v).length:=by omega
  exact lX Ad [df ((i:Int)<((AU v).length:Int))] (GD.e1) (by rw [he,List.drop_length,G3])
theorem A4m(v:Nv)(name:BA)(hH:∀w∈AU v,(CV w).length<=1000000000)(e:Ext)(hN:(AU v).length<=1000000000)(p0:Ho)(At:(G3 name ((AU v)))=(GD.e0 p0)):(Ob.loop 26 (Ai f274 0) (UX v name 0  e) (NB v name e (GD.e0 p0)).1 (NB v name e (GD.e0 p0)).2).ok prog:=
 rz (b7 v name hH e hN) At
theorem A4n(v:Nv)(name:BA)(hH:∀w∈AU v,(CV w).length<=1000000000)(e:Ext)(hN:(AU v).length<=1000000000)(At:(G3 name ((AU v)))=(GD.e1)):(Ob.loop 26 (Ai f274 0) (UX v name 0  e) (NB v name e (GD.e1)).1 (NB v name e (GD.e1)).2).ok prog:=
 rz (b7 v name hH e hN) At
theorem b8(name:BA):∀l:List Ho,G3 name l=if ix AP name l<l.length then .e0 (l.getD (ix AP name l) default) else .e1
 | []=>by simp [G3,ix]
 | c::r=>by
  by_cases h:AP c=name
  ·simp [G3,ix,h]
  ·simp only [G3,ix,h,if_false,b8 name r,List.length_cons,Nat.add_lt_add_iff_right,List.getD_cons_succ]
theorem xJ(v:Nv)(name:BA)(hH:∀w∈AU v,(CV w).length<=1000000000)(hN:(AU v).length<=1000000000)(Dc:Ho)(Ae:G3 name (AU v)=GD.e0 Dc):Pu 274 [.agg (Bd v),.str name] (.ret (.AE [.agg (JV Dc),.bool true])):=
 pu Ad (fun e=>[sl (Ho.A0 (AU v)),lp (S.mk [(0,.v (.agg (Bd v))),(1,vS name),(2,.lp 2 0),(4,.lp 4 0),(5,.v (.bool false)),(8,.lp 2 2),(9,vL 2 (Ho.cs (AU v))),(10,A1 ((AU v).length:Int)),(11,A1 0)] [(2,CT v),(4,[vS Ah,.v .A4])] e) (@A4m (v) (name) hH (e) hN Dc Ae) xr]) func274
theorem xL(v:Nv)(name:BA)(hH:∀w∈AU v,(CV w).length<=1000000000)(hN:(AU v).length<=1000000000)(Ac:G3 name (AU v)=GD.e1):Pu 274 [.agg (Bd v),.str name] (.ret (.AE [.agg [.str Ah,.sl 2 []],.bool false])):=
 Ob.Ed (Wk.t (DD.c (Wk.a (kr (kn 2 (DD.r _)))) (DD.r _))) (pu Ad (fun e=>[sl (Ho.A0 (AU v)),lp (S.mk [(0,.v (.agg (Bd v))),(1,vS name),(2,.lp 2 0),(4,.lp 4 0),(5,.v (.bool false)),(8,.lp 2 2),(9,vL 2 (Ho.cs (AU v))),(10,A1 ((AU v).length:Int)),(11,A1 0)] [(2,CT v),(4,[vS Ah,.v .A4])] e) (@A4n (v) (name) hH (e) hN Ac) xr]) func274)
abbrev nH(v:Nv)(u:Vr)(j:Int)(es:List (Int × PV))  : S:=S.mk [(2,.lp 2 0),(3,.lp 3 0),(4,.lp 4 0),(5,.v (PV.mp 0)),(18,vL 2 (Vr.cs (AS v))),(19,A1 ((AS v).length:Int)),(20,A1 j)] [(2,CT v),(3,Oz u),(4,[.v .A4,.v .A4,.v .A4])] [(0,[LV.mm (MM.i es)])]
def CN(u:Vr):List Vr->Nat->(List (Int × PV))->(List (Int × PV))
 | [],i,es=>(es)
 | el::r,i,es=>(if BP el=BP u then CN u r (i+1) (JJ (i:Int) (Ep (i:Int) (.agg (Fo el)) es)) else CN u r (i+1) (Ep (i:Int) (.agg (Fo el)) es))
noncomputable def b9 (v:Nv) (u:Vr)  (p:(List (Int × PV))):A5 × S:=(.exit 0,S.mk [(2,.lp 2 0),(3,.lp 3 0),(4,.lp 4 0),(5,.v (PV.mp 0)),(18,vL 2 (Vr.cs (AS v))),(19,A1 ((AS v).length:Int))] [(2,CT v),(3,Oz u),(4,[.v .A4,.v .A4,.v .A4])] [(0,[LV.mm (MM.i p)])])
theorem kpq(v:Nv)(u:Vr)(es:List (Int × PV))(hN:(AS v).length<=1000000000)  : (Ob.loop 99 (Ai f75 0) (nH v u 0 es) (b9 v u  (CN u ((AS v)) 0 es)).1 (b9 v u  (CN u ((AS v)) 0 es)).2).ok prog:=by
 refine Ds ((AS v).length) (fun j es=>nH v u j es) (fun i es=>CN u (List.drop i ((AS v))) i es) (b9 v u) (fun i es=>True) kR ?_ es trivial
 rintro i es hi -
 rcases Nat.lt_or_ge i ((AS v).length) with Ag | CO
 ·have hd:=AH Ag
  by_cases h0:BP (List.getD (AS v) i default)=BP u
  ·exact lS Ad [dt ((i:Int)<((AS v).length:Int)),am ((0:Int)<=(i:Int)/\(i:Int)<((Vr.cs (AS v)).length:Int)) (by (simp only [Vr.A0]; omega)),ar (List.getD (Vr.cs (AS v)) (Int.toNat (i:Int)) []) (Fo (List.getD (AS v) i default)) (by simp only [Int.toNat_natCast,Int.toNat_zero]; rw [@Vr.B5 (AS v) (i) Ag]; try rfl),bt (ByteArray.toList (BP (List.getD (AS v) i default))==ByteArray.toList (BP u)) (BL h0),wr ((i:Int)+1)] [2,3,4,5,18,19,20] [2,3,4] Ag (JJ (i:Int) (Ep (i:Int) (.agg (Fo (List.getD (AS v) i default))) es)) (S.mk [(2,.lp 2 0),(3,.lp 3 0),(4,.lp 4 0),(5,.v (PV.mp 0)),(18,vL 2 (Vr.cs (AS v))),(19,A1 ((AS v).length:Int)),(20,A1 ((i:Int)+1))] [(2,CT v),(3,Oz u),(4,[.v .A4,.v .A4,.v .A4])] [(0,[LV.mm (MM.i (JJ (i:Int) (Ep (i:Int) (.agg (Fo (List.getD (AS v) i default))) es)))])]) ⟨⟨W,W,W,W,W,W,W,An⟩,⟨Ws,Ws,Ws,An⟩,(by first | rfl | (simp only [List.nil_append,AX,AM,Pr.A2,Tp.A2,Ex.A2,Vr.A2,Df.A2,Sy.A2,Ho.A2]; done) | (simp only [List.nil_append,AX,AM,Pr.A2,Tp.A2,Ex.A2,Vr.A2,Df.A2,Sy.A2,Ho.A2]; rfl))⟩ trivial (by rw [hd,CN,iP h0])
  ·exact lS Ad [dt ((i:Int)<((AS v).length:Int)),am ((0:Int)<=(i:Int)/\(i:Int)<((Vr.cs (AS v)).length:Int)) (by (simp only [Vr.A0]; omega)),ar (List.getD (Vr.cs (AS v)) (Int.toNat (i:Int)) []) (Fo (List.getD (AS v) i default)) (by simp only [Int.toNat_natCast,Int.toNat_zero]; rw [@Vr.B5 (AS v) (i) Ag]; try rfl),bf (ByteArray.toList (BP (List.getD (AS v) i default))==ByteArray.toList (BP u)) (BZ h0),wr ((i:Int)+1)] [2,3,4,5,18,19,20] [2,3,4] Ag (Ep (i:Int) (.agg (Fo (List.getD (AS v) i default))) es) (S.mk [(2,.lp 2 0),(3,.lp 3 0),(4,.lp 4 0),(5,.v (PV.mp 0)),(18,vL 2 (Vr.cs (AS v))),(19,A1 ((AS v).length:Int)),(20,A1 ((i:Int)+1))] [(2,CT v),(3,Oz u),(4,[.v .A4,.v .A4,.v .A4])] [(0,[LV.mm (MM.i (Ep (i:Int) (.agg (Fo (List.getD (AS v) i default))) es))])]) ⟨⟨W,W,W,W,W,W,W,An⟩,⟨Ws,Ws,Ws,An⟩,(by first | rfl | (simp only [List.nil_append,AX,AM,Pr.A2,Tp.A2,Ex.A2,Vr.A2,Df.A2,Sy.A2,Ho.A2]; done) | (simp only [List.nil_append,AX,AM,Pr.A2,Tp.A2,Ex.A2,Vr.A2,Df.A2,Sy.A2,Ho.A2]; rfl))⟩ trivial (by rw [hd,CN,iN h0])
 ·have he:i=(AS v).length:=by omega
  exact lX Ad [df ((i:Int)<((AS v).length:Int))] (es) (by rw [he,List.drop_length,CN])
def bA(u:Vr)(l:List Vr)(i:Nat):Vr:=if i<l.length/\BP (l.getD i default)≠BP u then l.getD i default else default
def bB(u:Vr)(l:List Vr)(i:Nat):Bool:=decide (i<l.length/\BP (l.getD i default)≠BP u)
theorem Ji{κ:Type} [DecidableEq κ] (k k':κ) (v:PV):∀es:List (κ × PV),E7 k (Ep k' v es)=if k'=k then some v else E7 k es
 | []=>by by_cases h:k'=k <;> simp [Ep,E7,h]
 | x::r=>by
  by_cases h1:x.1=k'
  ·by_cases h:k'=k
   ·subst h; simp [Ep,E7,h1]
   ·simp only [Ep,h1,if_true,E7,h,if_false]
  ·by_cases h:k'=k
   ·subst h; simp only [Ep,h1,if_false,E7,Ji,if_true]
   ·simp only [Ep,h1,if_false,E7,Ji,h]
theorem NC(u:Vr):∀ (l:List Vr) (i:Nat) (es:List (Int × PV)),(∀x∈es,x.1<(i:Int))->(es.map (·.1)).Nodup ->
  ∀j:Nat,E7 (j:Int) (CN u l i es)=if j<i then E7 (j:Int) es else if j - i<l.length/\BP (l.getD (j - i) default)≠BP u then some (.agg (Fo (l.getD (j - i) default))) else none
 | [],i,es,h,_,j=>by
  by_cases hj:j<i
  ·simp [CN,hj]
  ·rw [iN hj,iN sM,CN]
   exact Jb fun x hx=>by have:=h x hx; omega
 | c::r,i,es,h,hn,j=>by
  have hni:∀x∈es,x.1≠(i:Int):=fun x hx=>by have:=h x hx; omega
  have hm:=Mz (v := .agg (Fo c)) hni
  have Ag:∀x∈Ep (i:Int) (.agg (Fo c)) es,x.1<((i+1:Nat):Int):=fun x hx=>by
   rw [hm,List.mem_append] at hx
   rcases hx with hx | hx
   ·have:=h x hx; omega
   ·simp only [List.mem_singleton] at hx; subst hx; simp only; omega
  by_cases hc:BP c=BP u
  ·have hd:JJ (i:Int) (Ep (i:Int) (.agg (Fo c)) es)=es:=by
    rw [hm,PT (j:=es.length) sM sM (fun q hq hql=>by rw [List.getElem_append_left hql]; exact hni _ (List.getElem_mem hql))]
    simp [List.eraseIdx_append_of_length_le]
   rw [CN,iP hc,hd,NC u r (i+1) es (fun x hx=>by have:=h x hx; omega) hn j]
   by_cases hj:j<i
   ·rw [iP oM,iP hj]
   ·by_cases gC:j=i
    ·subst gC
     rw [iP oM,iN oM,iN (by simp [hc])]
     exact Jb hni
    ·rw [iN oM,iN hj]
     have e:j - i=(j - (i+1))+1:=by omega
     rw [e,List.length_cons,List.getD_cons_succ]
     simp only [Nat.add_lt_add_iff_right]
  ·rw [CN,iN hc,NC u r (i+1) _ Ag (by rw [hm,List.map_append,List.nodup_append]; exact ⟨hn,by simp,fun a ha b hb=>by
     obtain ⟨x,hx,rfl⟩:=List.mem_map.1 ha
     simp only [List.map_cons,List.map_nil,List.mem_singleton] at hb
     subst hb
     exact hni x hx⟩) j]
   by_cases hj:j<i
   ·rw [iP oM,iP hj,Ji,iN oM]
   ·by_cases gC:j=i
    ·subst gC
     rw [iP oM,iN oM,Ji,iP rfl,iP ⟨by simp,by simpa using hc⟩]
     simp
    ·rw [iN oM,iN hj]
     have e:j - i=(j - (i+1))+1:=by omega
     rw [e,List.length_cons,List.getD_cons_succ]
     simp only [Nat.add_lt_add_iff_right]
theorem bC(u:Vr)(l:List Vr)(i:Nat):IJ true (E7 (i:Int) (CN u l 0 [])) (.agg [.str Ah,.str Ah]) = .AE [.agg (Fo (bA u l i)),.bool (bB u l i)]:=by
 rw [NC u l 0 [] (fun x hx=>by cases hx) sM i,iN oM,Nat.sub_zero]
 unfold bA bB
 by_cases h:i<l.length/\BP (l.getD i default)≠BP u
 ·rw [iP h,iP h,decide_eq_true h]; rfl
 ·rw [iN h,iN h,decide_eq_false h]; rfl
theorem UY(u:Vr)(l:List Vr)(i:Nat):(E7 (i:Int) (CN u l 0 [])).getD (.agg [.str Ah,.str Ah]) = .agg (Fo (bA u l i)):=by
 have:=bC u l i
 simp only [IJ,PV.AE.injEq,List.cons.injEq] at this
 exact this.1
theorem UZ(u:Vr)(l:List Vr)(i:Nat):(E7 (i:Int) (CN u l 0 [])).isSome=bB u l i:=by
 have:=bC u l i
 simp only [IJ,PV.AE.injEq,List.cons.injEq,PV.bool.injEq] at this
 exact this.2.1
abbrev A4o(v:Nv)(u:Vr)(j:Int)(out:List Sy)  : S:=S.mk [(2,.lp 2 0),(3,.lp 3 0),(4,.lp 4 0),(5,.v (PV.mp 0)),(8,.lp 8 0),(37,vL 3 (Sy.cs (By v))),(38,A1 ((By v).length:Int)),(39,A1 j)] [(2,CT v),(3,Oz u),(4,[.v .A4,.v .A4,.v .A4]),(8,[.v .A4,.uniq 77 3 (Sy.cs out),.v .A4])] [(0,[LV.mm (MM.i (CN u (AS v) 0 []))])]
def IA  : List Sy->(List Sy)->(List Sy)
 | [],out=>(out)
 | el::r,out=>IA  r (out++[el])
def xU(v:Nv)(u:Vr)(p:(List Sy)):A5 × S:=(.exit 2,S.mk [(2,.lp 2 0),(3,.lp 3 0),(4,.lp 4 0),(5,.v (PV.mp 0)),(8,.lp 8 0),(37,vL 3 (Sy.cs (By v))),(38,A1 ((By v).length:Int))] [(2,CT v),(3,Oz u),(4,[.v .A4,.v .A4,.v .A4]),(8,[.v .A4,.uniq 77 3 (Sy.cs p),.v .A4])] [(0,[LV.mm (MM.i (CN u (AS v) 0 []))])])
theorem wS(v:Nv)(u:Vr)(WM:(AS v).length<=1000000000)(hS:∀w∈By v,(Ca w).length<=1000000000)(out:List Sy)(hN:(By v).length<=1000000000)(hv:List.length out<=0):(Ob.loop 99 (Ai f75 1) (A4o v u 0 out) (xU v u  (IA  ((By v))  out)).1 (xU v u  (IA  ((By v))  out)).2).ok prog:=by
 refine Ds ((By v).length) (fun j out=>A4o v u j out) (fun i out=>IA  (List.drop i ((By v)))  out) (xU v u) (fun i out=>(out.length<=i)) kR ?_ out (by first | exact hv | omega)
 rintro i out hi hv
 try simp only at hv
 rcases Nat.lt_or_ge i ((By v).length) with Ag | CO
 ·have hd:=AH Ag
  exact lS Ad [dt ((i:Int)<((By v).length:Int)),am ((0:Int)<=(i:Int)/\(i:Int)<((Sy.cs (By v)).length:Int)) (by (simp only [Sy.A0]; omega)),ar (List.getD (Sy.cs (By v)) (Int.toNat (i:Int)) []) (Hx (List.getD (By v) i default)) (by simp only [Int.toNat_natCast,Int.toNat_zero]; rw [@Sy.B5 (By v) (i) Ag]; try rfl),cl (@x7 (Ca (List.getD (By v) i default)) (by (apply nF <;> first | assumption | omega | decide))),am (List.length (Sy.cs out++(fun x=>Prod.snd x) (2+1,[Hx (List.getD (By v) i default)])) * (55+1)<=140737488355328) (by (simp only [List.length_append,List.length_cons,List.length_nil,A3,Sy.A0]; omega)),wr ((i:Int)+1)] [2,3,4,5,8,37,38,39] [2,3,4,8] Ag (out++[List.getD (By v) i default]) (S.mk [(2,.lp 2 0),(3,.lp 3 0),(4,.lp 4 0),(5,.v (PV.mp 0)),(8,.lp 8 0),(37,vL 3 (Sy.cs (By v))),(38,A1 ((By v).length:Int)),(39,A1 ((i:Int)+1))] [(2,CT v),(3,Oz u),(4,[.v .A4,.v .A4,.v .A4]),(8,[.v .A4,.uniq 77 3 (Sy.cs out++[Hx (List.getD (By v) i default)]),.v .A4])] [(0,[LV.mm (MM.i (CN u (AS v) 0 []))])]) ⟨⟨W,W,W,W,W,W,W,W,An⟩,⟨Ws,Ws,Ws,⟨W,(.inl (by first | (simp only [List.nil_append,AX,AM,Pr.A2,Tp.A2,Ex.A2,Vr.A2,Df.A2,Sy.A2,Ho.A2]; done) | (simp only [List.nil_append,AX,AM,Pr.A2,Tp.A2,Ex.A2,Vr.A2,Df.A2,Sy.A2,Ho.A2]; rfl))),W,An⟩,An⟩,rfl⟩ (by first | assumption | omega | (apply nF <;> first | assumption | omega | decide) | (apply nG <;> first | assumption | omega | decide) | (simp only [List.length_append,List.length_cons,List.length_nil] at *; omega) | simp_all) (by rw [hd,IA])
 ·have he:i=(By v).length:=by omega
  exact lX Ad [df ((i:Int)<((By v).length:Int))] (out) (by rw [he,List.drop_length,IA])
abbrev A4p(v:Nv)(u:Vr)(j:Int)(out:List Ho)  : S:=S.mk [(2,.lp 2 0),(3,.lp 3 0),(4,.lp 4 0),(5,.v (PV.mp 0)),(8,.lp 8 0),(55,vL 2 (Ho.cs (AU v))),(56,A1 ((AU v).length:Int)),(57,A1 j)] [(2,CT v),(3,Oz u),(4,[.v .A4,.v .A4,.v .A4]),(8,[.v .A4,.uniq 77 3 (Sy.cs (IA (By v) [])),.uniq 184 2 (Ho.cs out)])] [(0,[LV.mm (MM.i (CN u (AS v) 0 []))])]
def KI  : List Ho->(List Ho)->(List Ho)
 | [],out=>(out)
 | el::r,out=>KI  r (out++[el])
def xV(v:Nv)(u:Vr)(p:(List Ho)):A5 × S:=(.exit 4,S.mk [(2,.lp 2 0),(3,.lp 3 0),(4,.lp 4 0),(5,.v (PV.mp 0)),(8,.lp 8 0),(55,vL 2 (Ho.cs (AU v))),(56,A1 ((AU v).length:Int))] [(2,CT v),(3,Oz u),(4,[.v .A4,.v .A4,.v .A4]),(8,[.v .A4,.uniq 77 3 (Sy.cs (IA (By v) [])),.uniq 184 2 (Ho.cs p)])] [(0,[LV.mm (MM.i (CN u (AS v) 0 []))])])
theorem wH(v:Nv)(u:Vr)(WM:(AS v).length<=1000000000)(hS:∀w∈By v,(Ca w).length<=1000000000)(M4:(By v).length<=1000000000)(hH:∀w∈AU v,(CV w).length<=1000000000)(out:List Ho)(hN:(AU v).length<=1000000000)(hv:List.length out<=0):(Ob.loop 99 (Ai f75 2) (A4p v u 0 out) (xV v u  (KI  ((AU v))  out)).1 (xV v u  (KI  ((AU v))  out)).2).ok prog:=by
 refine Ds ((AU v).length) (fun j out=>A4p v u j out) (fun i out=>KI  (List.drop i ((AU v)))  out) (xV v u) (fun i out=>(out.length<=i)) kR ?_ out (by first | exact hv | omega)
 rintro i out hi hv
 try simp only at hv
 rcases Nat.lt_or_ge i ((AU v).length) with Ag | CO
 ·have hd:=AH Ag
  exact lS Ad [dt ((i:Int)<((AU v).length:Int)),am ((0:Int)<=(i:Int)/\(i:Int)<((Ho.cs (AU v)).length:Int)) (by (simp only [Ho.A0]; omega)),ar (List.getD (Ho.cs (AU v)) (Int.toNat (i:Int)) []) (JV (List.getD (AU v) i default)) (by simp only [Int.toNat_natCast,Int.toNat_zero]; rw [@Ho.B5 (AU v) (i) Ag]; try rfl),cl (@A4b (CV (List.getD (AU v) i default)) (by (apply nG <;> first | assumption | omega | decide))),am (List.length (Ho.cs out++(fun x=>Prod.snd x) (1+1,[JV (List.getD (AU v) i default)])) * (39+1)<=140737488355328) (by (simp only [List.length_append,List.length_cons,List.length_nil,Vr.A0,Ho.A0]; omega)),wr ((i:Int)+1)] [2,3,4,5,8,55,56,57] [2,3,4,8] Ag (out++[List.getD (AU v) i default]) (S.mk [(2,.lp 2 0),(3,.lp 3 0),(4,.lp 4 0),(5,.v (PV.mp 0)),(8,.lp 8 0),(55,vL 2 (Ho.cs (AU v))),(56,A1 ((AU v).length:Int)),(57,A1 ((i:Int)+1))] [(2,CT v),(3,Oz u),(4,[.v .A4,.v .A4,.v .A4]),(8,[.v .A4,.uniq 77 3 (Sy.cs (IA (By v) [])),.uniq 184 2 (Ho.cs out++[JV (List.getD (AU v) i default)])])] [(0,[LV.mm (MM.i (CN u (AS v) 0 []))])]) ⟨⟨W,W,W,W,W,W,W,W,An⟩,⟨Ws,Ws,Ws,⟨W,W,(.inl (by first | (simp only [List.nil_append,AX,AM,Pr.A2,Tp.A2,Ex.A2,Vr.A2,Df.A2,Sy.A2,Ho.A2]; done) | (simp only [List.nil_append,AX,AM,Pr.A2,Tp.A2,Ex.A2,Vr.A2,Df.A2,Sy.A2,Ho.A2]; rfl))),An⟩,An⟩,rfl⟩ (by first | assumption | omega | (apply nF <;> first | assumption | omega | decide) | (apply nG <;> first | assumption | omega | decide) | (simp only [List.length_append,List.length_cons,List.length_nil] at *; omega) | simp_all) (by rw [hd,KI])
 ·have he:i=(AU v).length:=by omega
  exact lX Ad [df ((i:Int)<((AU v).length:Int))] (out) (by rw [he,List.drop_length,KI])
abbrev A4q(v:Nv)(u:Vr)(j:Int)(out:List Vr)  : S:=S.mk [(3,.lp 3 0),(4,.lp 4 0),(5,.v (PV.mp 0)),(8,.lp 8 0),(74,A1 ((AS v).length:Int)),(75,A1 j)] [(3,Oz u),(4,[.v .A4,.v .A4,.v .A4]),(8,[.uniq 104 2 (Vr.cs out),.uniq 77 3 (Sy.cs (IA (By v) [])),.uniq 184 2 (Ho.cs (KI (AU v) []))])] [(0,[LV.mm (MM.i (CN u (AS v) 0 []))])]
def KJ(v:Nv)(u:Vr):List Vr->Nat->(List Vr)->(List Vr)
 | [],i,out=>(out)
 | el::r,i,out=>(if bB u (AS v) i=true then KJ v u r (i+1) (out++[bA u (AS v) i]) else KJ v u r (i+1) (out))
def xX(v:Nv)(u:Vr)(p:(List Vr)):A5 × S:=(.exit 6,S.mk [(3,.lp 3 0),(4,.lp 4 0),(5,.v (PV.mp 0)),(8,.lp 8 0),(74,A1 ((AS v).length:Int))] [(3,Oz u),(4,[.v .A4,.v .A4,.v .A4]),(8,[.uniq 104 2 (Vr.cs p),.uniq 77 3 (Sy.cs (IA (By v) [])),.uniq 184 2 (Ho.cs (KI (AU v) []))])] [(0,[LV.mm (MM.i (CN u (AS v) 0 []))])])
theorem wV(v:Nv)(u:Vr)(WM:(AS v).length<=1000000000)(hS:∀w∈By v,(Ca w).length<=1000000000)(M4:(By v).length<=1000000000)(hH:∀w∈AU v,(CV w).length<=1000000000)(XM:(AU v).length<=1000000000)(out:List Vr)(hN:(AS v).length<=1000000000)(hv:List.length out<=0):(Ob.loop 99 (Ai f75 3) (A4q v u 0 out) (xX v u  (KJ v u ((AS v)) 0 out)).1 (xX v u  (KJ v u ((AS v)) 0 out)).2).ok prog:=by
 refine Ds ((AS v).length) (fun j out=>A4q v u j out) (fun i out=>KJ v u (List.drop i ((AS v))) i out) (xX v u) (fun i out=>(out.length<=i)) kR ?_ out (by first | exact hv | omega)
 rintro i out hi hv
 try simp only at hv
 rcases Nat.lt_or_ge i ((AS v).length) with Ag | CO
 ·have hd:=AH Ag
  by_cases h0:bB u (AS v) i=true
  ·exact lS Ad [dt ((i:Int)<((AS v).length:Int)),av (.v (.AE [Option.getD (E7 (i:Int) (CN u (AS v) 0 [])) (.agg [.str Ah,.str Ah]),.bool (Option.isSome (E7 (i:Int) (CN u (AS v) 0 [])))])) (.v (.AE [.agg (Fo (bA u (AS v) i)),.bool (bB u (AS v) i)])) (by (simp only [List.length_map,List.length_append,List.length_cons,List.length_nil,A3,Pr.A0,Tp.A0,Pm.A0,Ex.A0,Al.A0,Vr.A0,Cn.A0,Da.A0,Cl.A0,Bo.A0,Df.A0,In.A0,Cs.A0,Ms.A0,Qu.A0,Sy.A0,Ho.A0,Int.toNat_natCast,Bool.cond_true_left,Bool.cond_false_right,Int.toNat_zero,UY,UZ]; done)),B2 h0,am (List.length (Vr.cs out++(fun x=>Prod.snd x) (1+1,[Fo (bA u (AS v) i)])) * (31+1)<=140737488355328) (by (simp only [List.length_append,List.length_cons,List.length_nil,Vr.A0]; omega)),wr ((i:Int)+1)] [3,4,5,8,74,75] [3,4,8] Ag (out++[bA u (AS v) i]) (S.mk [(3,.lp 3 0),(4,.lp 4 0),(5,.v (PV.mp 0)),(8,.lp 8 0),(74,A1 ((AS v).length:Int)),(75,A1 ((i:Int)+1))] [(3,Oz u),(4,[.v .A4,.v .A4,.v .A4]),(8,[.uniq 104 2 (Vr.cs out++[Fo (bA u (AS v) i)]),.uniq 77 3 (Sy.cs (IA (By v) [])),.uniq 184 2 (Ho.cs (KI (AU v) []))])] [(0,[LV.mm (MM.i (CN u (AS v) 0 []))])]) ⟨⟨W,W,W,W,W,W,An⟩,⟨Ws,Ws,⟨(.inl (by first | (simp only [List.nil_append,AX,AM,Pr.A2,Tp.A2,Ex.A2,Vr.A2,Df.A2,Sy.A2,Ho.A2]; done) | (simp only [List.nil_append,AX,AM,Pr.A2,Tp.A2,Ex.A2,Vr.A2,Df.A2,Sy.A2,Ho.A2]; rfl))),W,W,An⟩,An⟩,rfl⟩ (by first | assumption | omega | (apply nF <;> first | assumption | omega | decide) | (apply nG <;> first | assumption | omega | decide) | (simp only [List.length_append,List.length_cons,List.length_nil] at *; omega) | simp_all) (by rw [hd,KJ,iP h0])
  ·exact lN Ad [dt ((i:Int)<((AS v).length:Int)),av (.v (.AE [Option.getD (E7 (i:Int) (CN u (AS v) 0 [])) (.agg [.str Ah,.str Ah]),.bool (Option.isSome (E7 (i:Int) (CN u (AS v) 0 [])))])) (.v (.AE [.agg (Fo (bA u (AS v) i)),.bool (bB u (AS v) i)])) (by (simp only [List.length_map,List.length_append,List.length_cons,List.length_nil,A3,Pr.A0,Tp.A0,Pm.A0,Ex.A0,Al.A0,Vr.A0,Cn.A0,Da.A0,Cl.A0,Bo.A0,Df.A0,In.A0,Cs.A0,Ms.A0,Qu.A0,Sy.A0,Ho.A0,Int.toNat_natCast,Bool.cond_true_left,Bool.cond_false_right,Int.toNat_zero,UY,UZ]; done)),AQ (DQ h0),wr ((i:Int)+1)] Ag (out) (by first | assumption | omega | (apply nF <;> first | assumption | omega | decide) | (apply nG <;> first | assumption | omega | decide) | (simp only [List.length_append,List.length_cons,List.length_nil] at *; omega) | simp_all) (by rw [hd,KJ,iN h0])
 ·have he:i=(AS v).length:=by omega
  exact lX Ad [df ((i:Int)<((AS v).length:Int))] (out) (by rw [he,List.drop_length,KJ])
theorem A4r:∀ (l out:List Sy),IA l out=out++l
 | [],out=>by simp [IA]
 | x::r,out=>by simp [IA,A4r r]
theorem A4s:∀ (l out:List Ho),KI l out=out++l
 | [],out=>by simp [KI]
 | x::r,out=>by simp [KI,A4s r]
def Sa(u:Vr)(l:List Vr):List Vr:=l.filter fun y=>decide (BP y≠BP u)
theorem A4t(v:Nv)(u:Vr):∀ (pre r:List Vr) (out:List Vr),AS v=pre++r->KJ v u r pre.length out=out++Sa u r
 | pre,[],out,_=>by simp [KJ,Sa]
 | pre,y::r,out,h=>by
  have hl:pre.length<(AS v).length:=by rw [h]; simp
  have hg:(AS v).getD pre.length default=y:=by rw [h]; simp [List.getD]
  have ih:=fun o=>A4t v u (pre++[y]) r o (by rw [h]; simp)
  simp only [List.length_append,List.length_cons,List.length_nil,Nat.zero_add] at ih
  rw [KJ]
  by_cases hn:BP y=BP u
  ·have hb:bB u (AS v) pre.length=false:=by unfold bB; exact decide_eq_false (fun hh=>hh.2 (by rw [hg]; exact hn))
   rw [iN (by rw [hb]; decide),ih]
   simp [Sa,hn]
  ·have hb:bB u (AS v) pre.length=true:=by unfold bB; exact decide_eq_true ⟨hl,by rw [hg]; exact hn⟩
   have hv:bA u (AS v) pre.length=y:=by unfold bA; rw [iP ⟨hl,by rw [hg]; exact hn⟩,hg]
   rw [iP hb,hv,ih]
   simp [Sa,hn]
def Lr(v:Nv)(u:Vr):Nv := .mk (Sa u (AS v)++[u]) (By v) (AU v)
theorem wVl(v:Nv)(u:Vr):KJ v u (AS v) 0 []=Sa u (AS v):=by have:=A4t v u [] (AS v) [] rfl; simpa using this
theorem wiL(v:Nv)(u:Vr)(WM:(AS v).length<=1000000000)(hS:∀w∈By v,(Ca w).length<=1000000000)(M4:(By v).length<=1000000000)(hH:∀w∈AU v,(CV w).length<=1000000000)(XM:(AU v).length<=1000000000)(Ac:List.length (Vr.cs (KJ v u (AS v) 0 [])++(fun x=>Prod.snd x) (1+1,[Fo u])) * (31+1)<=140737488355328):Ef 75 [.agg (Bd v),.agg (Fo u)] ([]) (rA [.sl 2 (Vr.cs (KJ v u (AS v) 0 [])++[Fo u]),.sl 3 (Sy.cs (IA (By v) [])),.sl 2 (Ho.cs (KI (AU v) []))]) ([(0,[LV.mm (MM.i (CN u (AS v) 0 []))])]):=
 ef Ad [sl (Vr.A0 (AS v)),lp (S.mk [(0,.v (.agg (Bd v))),(1,.v (.agg (Fo u))),(2,.lp 2 0),(3,.lp 3 0),(4,.lp 4 0),(16,.v (PV.mp 0)),(5,.v (PV.mp 0)),(17,.lp 2 0),(18,vL 2 (Vr.cs (AS v))),(19,A1 ((AS v).length:Int)),(20,A1 0)] [(2,CT v),(3,Oz u),(4,[.v .A4,.v .A4,.v .A4])] [(0,[LV.mm (T3 (T2 prog 182))])]) (@kpq (v) (u) ([]) WM) xr,sl (Sy.A0 (By v)),lp (S.mk [(2,.lp 2 0),(3,.lp 3 0),(4,.lp 4 0),(5,.v (PV.mp 0)),(18,vL 2 (Vr.cs (AS v))),(19,A1 ((AS v).length:Int)),(8,.lp 8 0),(36,.lp 2 1),(37,vL 3 (Sy.cs (By v))),(38,A1 ((By v).length:Int)),(39,A1 0)] [(2,CT v),(3,Oz u),(4,[.v .A4,.v .A4,.v .A4]),(8,[.v .A4,.v .A4,.v .A4])] [(0,[LV.mm (MM.i (CN u (AS v) 0 []))])]) (@wS (v) (u) WM hS ([]) M4 (by (simp only [List.length_nil]; omega))) ⟨⟨W,W,W,W,W,W,W,W,An⟩,⟨⟨W,W,W,An⟩,⟨W,W,An⟩,⟨W,W,W,An⟩,⟨W,Wq,W,An⟩,An⟩,rfl⟩,sl (Ho.A0 (AU v)),lp (S.mk [(2,.lp 2 0),(3,.lp 3 0),(4,.lp 4 0),(5,.v (PV.mp 0)),(8,.lp 8 0),(37,vL 3 (Sy.cs (By v))),(38,A1 ((By v).length:Int)),(54,.lp 2 2),(55,vL 2 (Ho.cs (AU v))),(56,A1 ((AU v).length:Int)),(57,A1 0)] [(2,CT v),(3,Oz u),(4,[.v .A4,.v .A4,.v .A4]),(8,[.v .A4,.uniq 77 3 (Sy.cs (IA (By v) [])),.v .A4])] [(0,[LV.mm (MM.i (CN u (AS v) 0 []))])]) (@wH (v) (u) WM hS M4 hH ([]) XM (by (simp only [List.length_nil]; omega))) ⟨⟨W,W,W,W,W,W,W,W,An⟩,⟨⟨W,W,W,An⟩,⟨W,W,An⟩,⟨W,W,W,An⟩,⟨W,W,Wq,An⟩,An⟩,rfl⟩,sl (Vr.A0 (AS v)),lp (S.mk [(2,.lp 2 0),(3,.lp 3 0),(4,.lp 4 0),(5,.v (PV.mp 0)),(8,.lp 8 0),(55,vL 2 (Ho.cs (AU v))),(56,A1 ((AU v).length:Int)),(72,.lp 2 0),(73,vL 2 (Vr.cs (AS v))),(74,A1 ((AS v).length:Int)),(75,A1 0)] [(2,CT v),(3,Oz u),(4,[.v .A4,.v .A4,.v .A4]),(8,[.v .A4,.uniq 77 3 (Sy.cs (IA (By v) [])),.uniq 184 2 (Ho.cs (KI (AU v) []))])] [(0,[LV.mm (MM.i (CN u (AS v) 0 []))])]) (@wV (v) (u) WM hS M4 hH XM ([]) WM (by (simp only [List.length_nil]; omega))) ⟨⟨W,W,W,W,W,W,An⟩,⟨⟨W,W,An⟩,⟨W,W,W,An⟩,⟨Wq,W,W,An⟩,An⟩,rfl⟩,am1 Ac] func75
structure BQ (v:Nv):Prop where
 w:(AS v).length<=100000000
 s:(By v).length<=1000000000
 h:(AU v).length<=1000000000
 sa:∀w∈By v,(Ca w).length<=1000000000
 hp:∀w∈AU v,(CV w).length<=1000000000
abbrev Sb:BA:=ByteArray.mk #[116,97,103]
abbrev bD:BA:=ByteArray.mk #[118,97,108]
abbrev H7:BA:=ByteArray.mk #[73,110,116]
abbrev E2:BA:=ByteArray.mk #[66,111,111,108]
abbrev V0:BA:=ByteArray.mk #[67,101,108,108]
def Bl{α:Type} [Inhabited α] (f:α->BA) (name:BA) (l:List α):Bool:=decide (ix f name l<l.length)
def Au{α:Type} [Inhabited α] (f:α->BA) (name:BA) (l:List α):α:=if ix f name l<l.length then l.getD (ix f name l) default else default
theorem vaT(v:Nv)(name:BA)(hN:(AS v).length<=1000000000):Pu 227 [.agg (Bd v),.str name] (.ret (.AE [.str (Fe (Au BP name (AS v).reverse)),.bool (Bl BP name (AS v).reverse)])):=by
 unfold Bl Au
 by_cases h:ix BP name (AS v).reverse<(AS v).reverse.length
 ·rw [iP h,decide_eq_true h]; exact A4e v name hN _ (by rw [aX,iP h])
 ·rw [iN h,decide_eq_false h]; exact A4f v name hN (by rw [aX,iN h])
def Dw(v:Nv)(name:BA):Sy:=if name=Sb then .mk Sb [] H7 else if name=bD then .mk bD [V0] H7 else Au DT name (By v)
def HV(v:Nv)(name:BA):Bool:=if name=Sb then true else if name=bD then true else Bl DT name (By v)
theorem xY(v:Nv)(name:BA)(hS:∀w∈By v,(Ca w).length<=1000000000)(hN:(By v).length<=1000000000):Pu 272 [.agg (Bd v),.str name] (.ret (.AE [.agg (Hx (Dw v name)),.bool (HV v name)])):=by
 unfold HV Dw
 by_cases h1:name=Sb
 ·rw [iP h1,iP h1]; exact A4i v name hS hN h1
 ·rw [iN h1,iN h1]
  by_cases h2:name=bD
  ·rw [iP h2,iP h2]; exact A4j v name hS hN h1 h2
  ·rw [iN h2,iN h2]
   unfold Bl Au
   by_cases h:ix DT name (By v)<(By v).length
   ·rw [iP h,decide_eq_true h]; exact A4k v name hS hN h1 h2 _ (by rw [aZ,iP h])
   ·rw [iN h,decide_eq_false h]; exact A4l v name hS hN h1 h2 (by rw [aZ,iN h])
theorem hoT(v:Nv)(name:BA)(hH:∀w∈AU v,(CV w).length<=1000000000)(hN:(AU v).length<=1000000000):Pu 274 [.agg (Bd v),.str name] (.ret (.AE [.agg (JV (Au AP name (AU v))),.bool (Bl AP name (AU v))])):=by
 unfold Bl Au
 by_cases h:ix AP name (AU v)<(AU v).length
 ·rw [iP h,decide_eq_true h]; exact xJ v name hH hN _ (by rw [b8,iP h])
 ·rw [iN h,decide_eq_false h]; exact xL v name hH hN (by rw [b8,iN h])
theorem M9:∀l:List Vr,EN (Vr.cs l)=true
 | []=>rfl
 | x::r=>by rw [show Vr.cs (x::r)=Fo x::Vr.cs r by simp [Vr.cs],EN,M9 r]; rfl
theorem V1:∀l:List BA,EN (A7 l)=true
 | []=>rfl
 | x::r=>by rw [show A7 (x::r)=[.str x]::A7 r by simp [A7],EN,V1 r]; rfl
theorem Qy:∀l:List Sy,EN (Sy.cs l)=true
 | []=>rfl
 | x::r=>by rw [show Sy.cs (x::r)=Hx x::Sy.cs r by simp [Sy.cs],EN,Qy r]; simp [Ec,PV.HT,V1]
theorem Qz:∀l:List Ho,EN (Ho.cs l)=true
 | []=>rfl
 | x::r=>by rw [show Ho.cs (x::r)=JV x::Ho.cs r by simp [Ho.cs],EN,Qz r]; simp [Ec,PV.HT,M9]
theorem bE(v:Nv):Ec (Bd v)=true:=by simp [Ec,PV.HT,M9,Qy,Qz]
theorem wiT(v:Nv)(u:Vr)(hE:BQ v):Pu 75 [.agg (Bd v),.agg (Fo u)] (.ret (.agg (Bd (Lr v u)))):=by
 have hl:(Sa u (AS v)).length<=100000000:=Nat.le_trans (List.length_filter_le _ _) hE.w
 have h0:=wiL v u (by have:=hE.w; omega) hE.sa hE.s hE.hp hE.h (by
  rw [wVl]
  simp only [List.length_append,Vr.A0,List.length_cons,List.length_nil]
  omega)
 rw [wVl,A4r,A4s] at h0
 have e:Bd (Lr v u)=[.sl 2 (Vr.cs (Sa u (AS v))++[Fo u]),.sl 3 (Sy.cs ([]++By v)),.sl 2 (Ho.cs ([]++AU v))]:=by
  simp only [Bd,Lr,AS,By,AU,Vr.A2,List.nil_append]
 rw [<-e] at h0
 exact Ob.De (by simp [Ec,PV.HT,M9,Qy,Qz]) (by simpa [Cr.HT,PV.HT] using bE (Lr v u)) h0
theorem BQ.wi{v:Nv}{u:Vr}{n:Nat}(h:BQ v)(hn:(AS v).length<=n)(hs:n+1<=100000000):BQ (Lr v u)/\(AS (Lr v u)).length<=n+1:=by
 have hl:(Sa u (AS v)).length<=(AS v).length:=List.length_filter_le _ _
 have hw:(AS (Lr v u)).length<=n+1:=by
  have e:AS (Lr v u)=Sa u (AS v)++[u]:=rfl
  rw [e,List.length_append,List.length_cons,List.length_nil]; omega
 exact ⟨⟨by omega,h.s,h.h,h.sa,h.hp⟩,hw⟩
def plD:Nat->Tp->Tp
 | 0,t=>t
 | d+1,t => .mk (AA t) (Af t) (JB (plD d) (A8 t) []) [] default []
def L0(t:Tp):Tp:=plD (A6 (Ay t)+1) t
theorem BM(x:Tp):Am (Tp.cs (A8 x))+Am (Pr.cs (Ak x))+A6 (AO (Br x))<A6 (Ay x):=by simp only [A6,CK]; omega
theorem nI:∀ (d:Nat) (t:Tp),A6 (Ay t)<d->d<=1000000001->Pu 69 [.agg (Ay t)] (.ret (.agg (Ay (plD d t))))
 | 0,_,h,_=>by omega
 | d+1,t,h,hd=>by
  have h1:=BM t
  have h2:=Tp.BT (A8 t)
  exact plL t (plD d) (fun w hw=>nI d w (by have:=Tp.mem hw; omega) oM) oM
theorem plT(t:Tp)(hs:A6 (Ay t)<=1000000000):Pu 69 [.agg (Ay t)] (.ret (.agg (Ay (L0 t)))):=nI _ t oM oM
abbrev IC(m:Mo)(v:Nv):List PV:=[.sl 4 (Da.cs (Av m)),.sl 3 (Cl.cs (BW m)),.sl 12 (In.cs (CJ m)),.sl 8 (Ms.cs (Ba m)),.sl 6 (Qu.cs (Dh m)),.sl 25 (Df.cs (AY m)),.sl 2 (Vr.cs (AS v)),.sl 3 (Sy.cs (By v)),.sl 2 (Ho.cs (AU v))]
theorem xZ(v:Nv)(a b:BA)(hE:BQ v):Pu 75 [.agg (Bd v),.agg [.str a,.str b]] (.ret (.agg (Bd (Lr v (.mk a b))))):=wiT v (.mk a b) hE
def GF(v:Nv)(name:BA)(t:Tp):Nv:=if CP (L0 t)=true then Lr v (.mk name (DU (L0 t))) else v
theorem pwT(m:Mo)(v:Nv)(name:BA)(t:Tp)(hE:BQ v)(hs:A6 (Ay t)<=1000000000):Pu 46 [.agg (IC m v),.str name,.agg (Ay t)] (.ret (.agg (IC m (GF v name t)))):=by
 unfold GF
 cases h:CP (L0 t) with
 | true=>rw [iP rfl]; exact pm Ad [cl (@plT (t) hs),cl (@sOf (L0 t)),bt (CP (L0 t)) h,cl (@xZ (v) (name) (DU (L0 t)) hE)] func46
 | false=>rw [iN dD]; exact pm Ad [cl (@plT (t) hs),cl (@sOf (L0 t)),bf (CP (L0 t)) h] func46
def JC(v u:Nv)(i:Nat):Prop:=BQ u/\(AS u).length<=(AS v).length+i
theorem JC.s{v u:Nv}{i:Nat}(h:JC v u i):JC v u (i+1):=⟨h.1,by have:=h.2; omega⟩
theorem BQ.pw{v:Nv}{name:BA}{t:Tp}{n:Nat}(h:BQ v)(hn:(AS v).length<=n)(hs:n+1<=100000000):BQ (GF v name t)/\(AS (GF v name t)).length<=n+1:=by
 unfold GF
 split
 ·exact h.wi hn hs
 ·exact ⟨h,by omega⟩
theorem dTT(m:Mo)(name:BA)(Ct:(Av m).length<=1048576):Pu 72 [.agg (Ci m),.str name] (.ret (.AE [.agg (Gn (Au AB name (Av m))),.bool (Bl AB name (Av m))])):=by
 unfold Bl Au
 by_cases h:ix AB name (Av m)<(Av m).length
 ·rw [iP h,decide_eq_true h]; exact dAT m name Ct h
 ·rw [iN h,decide_eq_false h]; exact dAF m name Ct h
def CU(t:Tp):List Pr:=Br t::Ak t
theorem Ab9(t:Tp):Pr.cs (CU t)=[AO (Br t)]++Pr.cs (Ak t):=by simp [Pr.AD,CU]
theorem DL(t:Tp):(Ak t).length+1=(CU t).length:=by simp [CU]
theorem Ls{t:Tp}{i:Nat}(h:i<(CU t).length):(AO (Br t)::Pr.cs (Ak t)).getD i []=AO ((CU t).getD i default):=by
 have:=Pr.B5 h
 rw [Ab9] at this
 exact this
theorem QA{t:Tp}(Cd:(Ak t).length<=100000000):(CU t).length<=1000000000:=by simp [CU]; omega
theorem gPm{l:List Tp}{i:Nat}{a:List PV}(hPl:∀w∈l,(Ak w).length<=100000000)(h:i<l.length):List.length ([a]++(fun x:Nat × List (List PV)=>Prod.snd x) (4,Pr.cs (Ak (l.getD i default)))) * (55+1)<=140737488355328:=by have:=hPl _ (BF h); simp only [List.length_append,List.length_cons,List.length_nil,Pr.A0]; omega
abbrev nJ(l:List Pr)(mx:Int)(pf:List Pr->Int->Int)(j:Int)(n:Int)(e:Ext):S:=S.mk [(0,vL 4 (Pr.cs l)),(1,A1 mx),(4,A1 0),(5,A1 n),(6,A1 j)] [] e
def KK(mx:Int)(pf:List Pr->Int->Int):List Pr->(Int)->(Int)
 | [],n=>(n)
 | el::r,n=>(if n<=mx then KK mx pf r (IntKind.wrap .i64 (IntKind.wrap .i64 (IntKind.wrap .i64 (n+1)+IntKind.wrap .i64 (Int.tdiv (↑(ByteArray.size (Aq el)):Int) 50))+pf (As el) (IntKind.wrap .i64 (mx - IntKind.wrap .i64 (IntKind.wrap .i64 (n+1)+IntKind.wrap .i64 (Int.tdiv (↑(ByteArray.size (Aq el)):Int) 50)))))) else (n))
def bF(l:List Pr)(mx:Int)(pf:List Pr->Int->Int)(e:Ext)(p:(Int)):A5 × S:=(.exit 0,S.mk [(0,vL 4 (Pr.cs l)),(1,A1 mx),(4,A1 0),(5,A1 p)] [] e)
theorem bp0(l:List Pr)(mx:Int)(pf:List Pr->Int->Int)(Bg:∀ (w:Pr) (k:Int),w∈l->Pu 120 [.sl 4 (Pr.cs (As w)),.int .i64 k] (.ret (.int .i64 (pf (As w) k))))(n:Int)(e:Ext)(hN:l.length<=1000000000)  : (Ob.loop 40 (Ai f120 0) (nJ l mx pf 0 n e) (bF l mx pf e (KK mx pf (l)  n)).1 (bF l mx pf e (KK mx pf (l)  n)).2).ok prog:=by
 refine Ds l.length (fun j n=>nJ l mx pf j n e) (fun i n=>KK mx pf (List.drop i (l))  n) (bF l mx pf e) (fun i n=>True) kR ?_ n trivial
 rintro i n hi -
 rcases Nat.lt_or_ge i (l.length) with Ag | CO
 ·have hd:=AH Ag
  by_cases h0:n<=mx
  ·exact lN Ad [sl (Pr.A0 l),rp 4 (dt ((i:Int)<(l.length:Int))),C6 h0,kp,am ((0:Int)<=(i:Int)/\(i:Int)<((Pr.cs l).length:Int)) (by (simp only [Pr.A0]; omega)),ar (List.getD (Pr.cs l) (Int.toNat (i:Int)) []) (AO (List.getD l i default)) (by simp only [Int.toNat_natCast,Int.toNat_zero]; rw [@Pr.B5 (l) (i) Ag]; try rfl),rp 3 (kp),ab true,am ((0:Int)<=(i:Int)/\(i:Int)<((Pr.cs l).length:Int)) (by (simp only [Pr.A0]; omega)),ar (List.getD (Pr.cs l) (Int.toNat (i:Int)) []) (AO (List.getD l i default)) (by simp only [Int.toNat_natCast,Int.toNat_zero]; rw [@Pr.B5 (l) (i) Ag]; try rfl),kp,cl (@Bg (List.getD l i default) (IntKind.wrap .i64 (mx - IntKind.wrap .i64 (IntKind.wrap .i64 (n+1)+IntKind.wrap .i64 (Int.tdiv (↑(ByteArray.size (Aq (List.getD l i default))):Int) 50)))) (by simp_all [DL])),kp,wr ((i:Int)+1)] Ag (IntKind.wrap .i64 (IntKind.wrap .i64 (IntKind.wrap .i64 (n+1)+IntKind.wrap .i64 (Int.tdiv (↑(ByteArray.size (Aq (List.getD l i default))):Int) 50))+pf (As (List.getD l i default)) (IntKind.wrap .i64 (mx - IntKind.wrap .i64 (IntKind.wrap .i64 (n+1)+IntKind.wrap .i64 (Int.tdiv (↑(ByteArray.size (Aq (List.getD l i default))):Int) 50)))))) trivial (by rw [hd,KK,iP h0])
  ·exact lX Ad [sl (Pr.A0 l),rp 4 (dt ((i:Int)<(l.length:Int))),Az h0] (n) (by rw [hd,KK,iN h0])
 ·have he:i=l.length:=by omega
  exact lX Ad [sl (Pr.A0 l),rp 4 (df ((i:Int)<(l.length:Int))),bf false] (n) (by rw [he,List.drop_length,KK])
theorem bpL(l:List Pr)(mx:Int)(pf:List Pr->Int->Int)(Bg:∀ (w:Pr) (k:Int),w∈l->Pu 120 [.sl 4 (Pr.cs (As w)),.int .i64 k] (.ret (.int .i64 (pf (As w) k))))(hN:l.length<=1000000000):Pu 120 [.sl 4 (Pr.cs l),pI mx] (rI (KK mx pf l 0)):=
 pu Ad (fun e=>[lq (@bp0 (l) (mx) (pf) Bg (0) (e) hN)]) func120
def bpD:Nat->List Pr->Int->Int
 | 0,_,_=>0
 | d+1,l,mx=>KK mx (bpD d) l 0
theorem Po(x:Pr):Am (Pr.cs (As x))<A6 (AO x):=by simp only [A6,CK]; omega
theorem nK:∀ (d:Nat) (l:List Pr) (mx:Int),Am (Pr.cs l)<d->Am (Pr.cs l)<=100000000->Pu 120 [.sl 4 (Pr.cs l),.int .i64 mx] (.ret (.int .i64 (bpD d l mx)))
 | 0,_,_,h,_=>by omega
 | d+1,l,mx,h,hs=>bpL l mx (bpD d) (fun w k hw=>nK d (As w) k (by have:=Po w; have:=Pr.mem hw; omega) (by have:=Po w; have:=Pr.mem hw; omega)) (by have:=Pr.BT l; omega)
def bpF(l:List Pr)(mx:Int):Int:=bpD (Am (Pr.cs l)+1) l mx
theorem bpT(l:List Pr)(mx:Int)(hs:Am (Pr.cs l)<=100000000):Pu 120 [.sl 4 (Pr.cs l),.int .i64 mx] (.ret (.int .i64 (bpF l mx))):=nK _ l mx oM hs
theorem Aba(x:Pr)(r:List Pr)(mx:Int)(hs:A6 (AO x)+Am (Pr.cs r)<=100000000):Pu 120 [.sl 4 (AO x::Pr.cs r),.int .i64 mx] (.ret (.int .i64 (bpF (x::r) mx))):=by
 have e:Pr.cs (x::r)=AO x::Pr.cs r:=by simp [Pr.AD]
 have:=bpT (x::r) mx (by rw [e]; simpa only [Am] using hs)
 rwa [e] at this
abbrev nL(l:List Tp)(mx:Int)(pf:List Pr->Int->Int)(tf:List Tp->Int->Int)(j:Int)(n:Int)(e:Ext):S:=S.mk [(0,vL 9 (Tp.cs l)),(1,A1 mx),(4,A1 0),(5,A1 n),(6,A1 j)] [] e
def KL(mx:Int)(pf:List Pr->Int->Int)(tf:List Tp->Int->Int):List Tp->(Int)->(Int)
 | [],n=>(n)
 | el::r,n=>(if n<=mx then KL mx pf tf r (IntKind.wrap .i64 (IntKind.wrap .i64 (IntKind.wrap .i64 (IntKind.wrap .i64 (IntKind.wrap .i64 (n+1)+IntKind.wrap .i64 (Int.tdiv (↑(ByteArray.size (Af el)):Int) 50))+((Aj el).length:Int))+pf (Br el::Ak el) mx)+tf (A8 el) (IntKind.wrap .i64 (mx - IntKind.wrap .i64 (IntKind.wrap .i64 (IntKind.wrap .i64 (IntKind.wrap .i64 (n+1)+IntKind.wrap .i64 (Int.tdiv (↑(ByteArray.size (Af el)):Int) 50))+((Aj el).length:Int))+pf (Br el::Ak el) mx))))) else (n))
def bG(l:List Tp)(mx:Int)(pf:List Pr->Int->Int)(tf:List Tp->Int->Int)(e:Ext)(p:(Int)):A5 × S:=(.exit 0,S.mk [(0,vL 9 (Tp.cs l)),(1,A1 mx),(4,A1 0),(5,A1 p)] [] e)
theorem bt0(l:List Tp)(mx:Int)(pf:List Pr->Int->Int)(tf:List Tp->Int->Int)(hPl:∀w∈l,(Ak w).length<=100000000)(hp:∀ (w:Tp) (k:Int),w∈l->Pu 120 [.sl 4 (AO (Br w)::Pr.cs (Ak w)),.int .i64 k] (.ret (.int .i64 (pf (Br w::Ak w) k))))(ht:∀ (w:Tp) (k:Int),w∈l->Pu 66 [.sl 9 (Tp.cs (A8 w)),.int .i64 k] (.ret (.int .i64 (tf (A8 w) k))))(n:Int)(e:Ext)(hN:l.length<=1000000000)  : (Ob.loop 62 (Ai f66 0) (nL l mx pf tf 0 n e) (bG l mx pf tf e (KL mx pf tf (l)  n)).1 (bG l mx pf tf e (KL mx pf tf (l)  n)).2).ok prog:=by
 refine Ds l.length (fun j n=>nL l mx pf tf j n e) (fun i n=>KL mx pf tf (List.drop i (l))  n) (bG l mx pf tf e) (fun i n=>True) kR ?_ n trivial
 rintro i n hi -
 rcases Nat.lt_or_ge i (l.length) with Ag | CO
 ·have hd:=AH Ag
  by_cases h0:n<=mx
  ·exact lN Ad [sl (Tp.A0 l),rp 4 (dt ((i:Int)<(l.length:Int))),C6 h0,kp,am ((0:Int)<=(i:Int)/\(i:Int)<((Tp.cs l).length:Int)) (by (simp only [Tp.A0]; omega)),ar (List.getD (Tp.cs l) (Int.toNat (i:Int)) []) (Ay (List.getD l i default)) (by simp only [Int.toNat_natCast,Int.toNat_zero]; rw [@Tp.B5 (l) (i) Ag]; try rfl),rp 3 (kp),ab true,am ((0:Int)<=(i:Int)/\(i:Int)<((Tp.cs l).length:Int)) (by (simp only [Tp.A0]; omega)),ar (List.getD (Tp.cs l) (Int.toNat (i:Int)) []) (Ay (List.getD l i default)) (by simp only [Int.toNat_natCast,Int.toNat_zero]; rw [@Tp.B5 (l) (i) Ag]; try rfl),sl (A3 (Aj (List.getD l i default))),kp,am ((0:Int)<=(i:Int)/\(i:Int)<((Tp.cs l).length:Int)) (by (simp only [Tp.A0]; omega)),ar (List.getD (Tp.cs l) (Int.toNat (i:Int)) []) (Ay (List.getD l i default)) (by simp only [Int.toNat_natCast,Int.toNat_zero]; rw [@Tp.B5 (l) (i) Ag]; try rfl),am ((0:Int)<=(i:Int)/\(i:Int)<((Tp.cs l).length:Int)) (by (simp only [Tp.A0]; omega)),ar (List.getD (Tp.cs l) (Int.toNat (i:Int)) []) (Ay (List.getD l i default)) (by simp only [Int.toNat_natCast,Int.toNat_zero]; rw [@Tp.B5 (l) (i) Ag]; try rfl),am (List.length ([List.take ((fun x=>TypeInfo.size x) (Tables.types (Program.toTables prog))[41]) (List.drop (0+Field.offset #[Field.mk "Op" 35 0 false "" "" 0,Field.mk "Name" 9 1 false "" "" 8,Field.mk "Args" 36 2 false "" "" 24,Field.mk "Names" 37 3 false "" "" 48,Field.mk "Pred" 41 4 false "" "" 72,Field.mk "Preds" 39 8 false "" "" 128][4]) (Ay (List.getD l i default)))]++(fun x=>Prod.snd x) (4,Pr.cs (Ak (List.getD l i default)))) * (55+1)<=140737488355328) (by (apply gPm <;> first | assumption | omega | decide)),cl (@hp (List.getD l i default) (mx) (by simp_all [DL])),kp,am ((0:Int)<=(i:Int)/\(i:Int)<((Tp.cs l).length:Int)) (by (simp only [Tp.A0]; omega)),ar (List.getD (Tp.cs l) (Int.toNat (i:Int)) []) (Ay (List.getD l i default)) (by simp only [Int.toNat_natCast,Int.toNat_zero]; rw [@Tp.B5 (l) (i) Ag]; try rfl),kp,cl (@ht (List.getD l i default) (IntKind.wrap .i64 (mx - IntKind.wrap .i64 (IntKind.wrap .i64 (IntKind.wrap .i64 (IntKind.wrap .i64 (n+1)+IntKind.wrap .i64 (Int.tdiv (↑(ByteArray.size (Af (List.getD l i default))):Int) 50))+((Aj (List.getD l i default)).length:Int))+pf (Br (List.getD l i default)::Ak (List.getD l i default)) mx))) (by simp_all [DL])),kp,wr ((i:Int)+1)] Ag (IntKind.wrap .i64 (IntKind.wrap .i64 (IntKind.wrap .i64 (IntKind.wrap .i64 (IntKind.wrap .i64 (n+1)+IntKind.wrap .i64 (Int.tdiv (↑(ByteArray.size (Af (List.getD l i default))):Int) 50))+((Aj (List.getD l i default)).length:Int))+pf (Br (List.getD l i default)::Ak (List.getD l i default)) mx)+tf (A8 (List.getD l i default)) (IntKind.wrap .i64 (mx - IntKind.wrap .i64 (IntKind.wrap .i64 (IntKind.wrap .i64 (IntKind.wrap .i64 (n+1)+IntKind.wrap .i64 (Int.tdiv (↑(ByteArray.size (Af (List.getD l i default))):Int) 50))+((Aj (List.getD l i default)).length:Int))+pf (Br (List.getD l i default)::Ak (List.getD l i default)) mx))))) trivial (by rw [hd,KL,iP h0])
  ·exact lX Ad [sl (Tp.A0 l),rp 4 (dt ((i:Int)<(l.length:Int))),Az h0] (n) (by rw [hd,KL,iN h0])
 ·have he:i=l.length:=by omega
  exact lX Ad [sl (Tp.A0 l),rp 4 (df ((i:Int)<(l.length:Int))),bf false] (n) (by rw [he,List.drop_length,KL])
theorem btL(l:List Tp)(mx:Int)(pf:List Pr->Int->Int)(tf:List Tp->Int->Int)(hPl:∀w∈l,(Ak w).length<=100000000)(hp:∀ (w:Tp) (k:Int),w∈l->Pu 120 [.sl 4 (AO (Br w)::Pr.cs (Ak w)),.int .i64 k] (.ret (.int .i64 (pf (Br w::Ak w) k))))(ht:∀ (w:Tp) (k:Int),w∈l->Pu 66 [.sl 9 (Tp.cs (A8 w)),.int .i64 k] (.ret (.int .i64 (tf (A8 w) k))))(hN:l.length<=1000000000):Pu 66 [.sl 9 (Tp.cs l),pI mx] (rI (KL mx pf tf l 0)):=
 pu Ad (fun e=>[lq (@bt0 (l) (mx) (pf) (tf) hPl hp ht (0) (e) hN)]) func66
def btD:Nat->List Tp->Int->Int
 | 0,_,_=>0
 | d+1,l,mx=>KL mx bpF (btD d) l 0
theorem nM:∀ (d:Nat) (l:List Tp) (mx:Int),Am (Tp.cs l)<d->Am (Tp.cs l)<=100000000->Pu 66 [.sl 9 (Tp.cs l),.int .i64 mx] (.ret (.int .i64 (btD d l mx)))
 | 0,_,_,h,_=>by omega
 | d+1,l,mx,h,hs=>btL l mx bpF (btD d) (fun w hw=>by have:=BM w; have:=Tp.mem hw; have:=Pr.BT (Ak w); omega) (fun w k hw=>Aba _ _ k (by have:=BM w; have:=Tp.mem hw; omega)) (fun w k hw=>nM d (A8 w) k (by have:=BM w; have:=Tp.mem hw; omega) (by have:=BM w; have:=Tp.mem hw; omega)) (by have:=Tp.BT l; omega)
def btF(x:Tp)(mx:Int):Int:=btD (Am [Ay x]+1) [x] mx
theorem Abb(x:Tp)(mx:Int)(hs:A6 (Ay x)<=100000000):Pu 66 [.sl 9 [Ay x],.int .i64 mx] (.ret (.int .i64 (btF x mx))):=by
 have e:Tp.cs [x]=[Ay x]:=by simp [Tp.AD]
 have:=nM (Am (Tp.cs [x])+1) [x] mx oM (by rw [e]; simpa [Am] using hs)
 rwa [e] at this
theorem bkL(x:Tp)(hs:A6 (Ay x)<=100000000):Pu 25 [.agg [pI 0,.str Ah,pI 0,.A4,.A4,.A4,.sl 9 [Ay x]],pI 200] (rI (IntKind.wrap .i64 (IntKind.wrap .i64 (1+IntKind.wrap .i64 (Int.tdiv (↑(ByteArray.size Ah):Int) 50))+btF x 200))):=
 pm Ad [rp 3 (kp),ab true,cl (@Abb (x) (200) hs),kp,ur,kp,rp 5 (bf false),ur,kp,rp 5 (bf false),ur,kp,rp 5 (bf false)] func25
theorem smL(x:Tp)(hs:A6 (Ay x)<=100000000):Pu 9 [.agg (Ay x)] (rB (decide (IntKind.wrap .i64 (IntKind.wrap .i64 (1+IntKind.wrap .i64 (Int.tdiv (↑(ByteArray.size Ah):Int) 50))+btF x 200)<=200))):=
 pm Ad [cl (@bkL (x) hs)] func9
def Ia(v:Nv):Bool:=(if ((AS v).length:Int)<=30 then (if ((By v).length:Int)<=30 then (decide (((AU v).length:Int)<=30)) else false) else false)
theorem fwS(v:Nv):Pu 7 [.agg (Bd v)] (rB (Ia v)):=by
 by_cases h0:((AS v).length:Int)<=30
 ·by_cases h1:((By v).length:Int)<=30
  ·simp only [Ia,iP h0,iP h1]; exact pm Ad [sl (Vr.A0 (AS v)),rp 3 (C6 h0),sl (Sy.A0 (By v)),rp 2 (C6 h0),rp 3 (C6 h1),sl (Ho.A0 (AU v)),rp 2 (C6 h1)] func7
  ·simp only [Ia,iP h0,iN h1]; exact pm Ad [sl (Vr.A0 (AS v)),rp 3 (C6 h0),sl (Sy.A0 (By v)),rp 2 (C6 h0),rp 5 (Az h1)] func7
 ·simp only [Ia,iN h0]; exact pm Ad [sl (Vr.A0 (AS v)),rp 5 (Az h0),rp 5 (bf false)] func7
theorem Sc{t:Tp}{w:Pr}(h:w∈CU t):A6 (AO w)<A6 (Ay t):=by
 have h1:=BM t
 rcases List.mem_cons.1 (show w∈Br t::Ak t by unfold CU at h; exact h) with rfl | h
 ·omega
 ·have:=Pr.mem h; omega
theorem EG(t:Tp):0+1+(Ak t).length=(CU t).length:=by simp [CU]; omega
theorem zr(u:Pr):Pu 171 [.agg (AO u)] (rB (BY u)):=
 pm Ad [cl (@psz (u))] func171
abbrev WD(t:Tp)(xe:Ext):S:=⟨[(1,.lp 1 0),(2,.v (.int .i64 0))],[(1,Bj t)],xe⟩
section
variable (t:Tp) (xe:Ext)
include t xe
theorem A4u(Ac:AA t=6)(Ae:BY (Br t)=false)(cx:Cx)(Ar:cx.n=68){Q:A5->S->Prop}(hq:Q (.normal) (S.mk [(1,.lp 1 0),(2,A1 0),(33,.v (.bool true))] [(1,Bj t)] xe)):PW prog cx (AW f123 1) (WD t xe) Q:=
 pw Ad 68 [rp 3 (Bh Ac),cl (@zr (Br t)),rp 2 (Bh Ac),rp 4 (B2 (B6 Ae)),Bh Ac,B2 (B6 Ae),Bh Ac,rp 6 (bt true)] [1,2,33] [1] Ar hq
theorem A4v(Ac:AA t=6)(Ae:BY (Br t)=true)(Ao:((Ak t).length:Int)>0)(cx:Cx)(Ar:cx.n=68){Q:A5->S->Prop}(hq:Q (.normal) (S.mk [(1,.lp 1 0),(2,A1 0),(33,.v (.bool true))] [(1,Bj t)] xe)):PW prog cx (AW f123 1) (WD t xe) Q:=
 pw Ad 68 [rp 3 (Bh Ac),cl (@zr (Br t)),rp 2 (Bh Ac),rp 3 (AQ (AJ Ae)),sl (Pr.A0 (Ak t)),AQ (AJ Ae),Bh Ac,AQ (AJ Ae),Bh Ac,rp 6 (C6 Ao)] [1,2,33] [1] Ar hq
theorem A4w(Ac:AA t=6)(Ae:BY (Br t)=true)(Ao:¬((Ak t).length:Int)>0)(cx:Cx)(Ar:cx.n=68){Q:A5->S->Prop}(hq:Q (.normal) (S.mk [(1,.lp 1 0),(2,A1 0),(33,.v (.bool (decide (((Ak t).length:Int)>0))))] [(1,Bj t)] xe)):PW prog cx (AW f123 1) (WD t xe) Q:=
 pw Ad 68 [rp 3 (Bh Ac),cl (@zr (Br t)),rp 2 (Bh Ac),rp 3 (AQ (AJ Ae)),sl (Pr.A0 (Ak t)),AQ (AJ Ae),Bh Ac,AQ (AJ Ae),Bh Ac,rp 4 (Az Ao),rp 3 (nt (AA t) 4),sl (Pr.A0 (Ak t)),nt (AA t) 4,Az Ao,nt (AA t) 4,Az Ao] [1,2,33] [1] Ar hq
theorem A4x(Ac:¬AA t=6)(Ae:¬AA t=4)(cx:Cx)(Ar:cx.n=68){Q:A5->S->Prop}(hq:Q (.normal) (S.mk [(1,.lp 1 0),(2,A1 0),(33,.v (.bool (decide (((Ak t).length:Int)>0))))] [(1,Bj t)] xe)):PW prog cx (AW f123 1) (WD t xe) Q:=
 pw Ad 68 [rp 7 (Aw Ac),rp 4 (bf false),rp 3 (Bv Ae),sl (Pr.A0 (Ak t)),Bv Ae,bf false,Bv Ae,bf false] [1,2,33] [1] Ar hq
theorem A4y(Ac:¬AA t=6)(Ae:AA t=4)(cx:Cx)(Ar:cx.n=68){Q:A5->S->Prop}(hq:Q (.normal) (S.mk [(1,.lp 1 0),(2,A1 0),(33,.v (.bool false))] [(1,Bj t)] xe)):PW prog cx (AW f123 1) (WD t xe) Q:=
 pw Ad 68 [rp 7 (Aw Ac),rp 4 (bf false),rp 4 (Bi Ae),bf false,Bi Ae,bf false] [1,2,33] [1] Ar hq
end
def BE(t:Tp):Bool:=(if AA t=6 then (if BY (Br t)=true then (if ((Ak t).length:Int)>0 then (true) else ((decide (((Ak t).length:Int)>0)))) else (true)) else (if AA t=4 then (false) else ((decide (((Ak t).length:Int)>0)))))
theorem bH(t:Tp)(xe:Ext):(Ob.Ev 68 (AW f123 1) (WD t xe) (.normal) (S.mk [(1,.lp 1 0),(2,A1 0),(33,.v (.bool (BE t)))] [(1,Bj t)] xe)).ok prog:=by
 intro cx Ar
 by_cases g0:AA t=6
 ·by_cases g1:BY (Br t)=true
  ·by_cases g2:((Ak t).length:Int)>0
   ·exact A4v t xe g0 g1 g2 cx Ar ⟨rfl,by rw [show BE t=(true) by unfold BE; rw [iP g0,iP g1,iP g2]]⟩
   ·exact A4w t xe g0 g1 g2 cx Ar ⟨rfl,by rw [show BE t=((decide (((Ak t).length:Int)>0))) by unfold BE; rw [iP g0,iP g1,iN g2]]⟩
  ·exact A4u t xe g0 (Bool.eq_false_iff.2 g1) cx Ar ⟨rfl,by rw [show BE t=(true) by unfold BE; rw [iP g0,iN g1]]⟩
 ·by_cases g1:AA t=4
  ·exact A4y t xe g0 g1 cx Ar ⟨rfl,by rw [show BE t=(false) by unfold BE; rw [iN g0,iP g1]]⟩
  ·exact A4x t xe g0 g1 cx Ar ⟨rfl,by rw [show BE t=((decide (((Ak t).length:Int)>0))) by unfold BE; rw [iN g0,iN g1]]⟩
end Go.Proofs.YthchpmnkecoafaaGreatDoor
