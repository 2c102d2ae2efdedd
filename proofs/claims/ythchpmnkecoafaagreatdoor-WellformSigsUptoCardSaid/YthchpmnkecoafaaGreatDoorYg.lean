/- Values of Go as plain data, an evaluator over them, and what the functions of the program return; part Yg. -/
import Derived.Test.YthchpmnkecoafaaGreatDoorYf
import Derived.Test.YthchpmnkecoafaaGreatDoorYe
import Derived.Test.YthchpmnkecoafaaGreatDoorYd
import Derived.Test.YthchpmnkecoafaaGreatDoorYa
set_option linter.unusedSectionVars false
set_option linter.unusedSimpArgs false
set_option linter.unusedVariables false
namespace Go.Proofs.YthchpmnkecoafaaGreatDoor
open Go.Proofs.Tryz
open Go.Pv Go.Proofs.Tryz
set_option maxRecDepth 100000
abbrev A9x(v:Nv)(u:Vr)(j:Int)(out:List Sy)  : S:=S.mk [(2,.lp 2 0),(3,.lp 3 0),(4,.lp 4 0),(5,.v (PV.mp 0)),(8,.lp 8 0),(37,vL 3 (Sy.cs (BV v))),(38,A6 ((BV v).length:Int)),(39,A6 j)] [(2,Dy v),(3,Qb u),(4,[.v .A2,.v .A2,.v .A2]),(8,[.v .A2,.uniq 77 3 (Sy.cs out),.v .A2])] [(0,[LV.mm (MM.i (CW u (AX v) 0 []))])]
def IS  : List Sy->(List Sy)->(List Sy)
 | [],out=>(out)
 | el::r,out=>IS  r (out++[el])
def A34(v:Nv)(u:Vr)(p:(List Sy)):A4 × S:=(.exit 2,S.mk [(2,.lp 2 0),(3,.lp 3 0),(4,.lp 4 0),(5,.v (PV.mp 0)),(8,.lp 8 0),(37,vL 3 (Sy.cs (BV v))),(38,A6 ((BV v).length:Int))] [(2,Dy v),(3,Qb u),(4,[.v .A2,.v .A2,.v .A2]),(8,[.v .A2,.uniq 77 3 (Sy.cs p),.v .A2])] [(0,[LV.mm (MM.i (CW u (AX v) 0 []))])])
theorem wS(v:Nv)(u:Vr)(Xr:(AX v).length<=1000000000)(hS:∀w∈BV v,(DW w).length<=1000000000)(out:List Sy)(hN:(BV v).length<=1000000000)(hv:List.length out<=0):(Ob.loop 99 (Au f75 1) (A9x v u 0 out) (A34 v u  (IS  ((BV v))  out)).1 (A34 v u  (IS  ((BV v))  out)).2).ok prog:=by
 refine CL ((BV v).length) (fun j out=>A9x v u j out) (fun i out=>IS  (List.drop i ((BV v)))  out) (A34 v u) (fun i out=>(out.length<=i)) kR ?_ out (by first | exact hv | omega)
 rintro i out hi hv
 try simp only at hv
 rcases Nat.lt_or_ge i ((BV v).length) with Ac | Cm
 ·have hd:=At Ac
  exact lS A9 [dt ((i:Int)<((BV v).length:Int)),X6 (BV v) (i:Int),xSy (BV v) i Ac,cl (@A2y (DW (List.getD (BV v) i default)) (by (apply sI <;> first | assumption | omega | decide))),am (List.length (Sy.cs out++(fun x=>Prod.snd x) (2+1,[Tv (List.getD (BV v) i default)])) * (55+1)<=140737488355328) (by (simp only [List.length_append,List.length_cons,List.length_nil,A5,Sy.A0]; omega)),wr ((i:Int)+1)] [2,3,4,5,8,37,38,39] [2,3,4,8] Ac (out++[List.getD (BV v) i default]) (S.mk [(2,.lp 2 0),(3,.lp 3 0),(4,.lp 4 0),(5,.v (PV.mp 0)),(8,.lp 8 0),(37,vL 3 (Sy.cs (BV v))),(38,A6 ((BV v).length:Int)),(39,A6 ((i:Int)+1))] [(2,Dy v),(3,Qb u),(4,[.v .A2,.v .A2,.v .A2]),(8,[.v .A2,.uniq 77 3 (Sy.cs out++[Tv (List.getD (BV v) i default)]),.v .A2])] [(0,[LV.mm (MM.i (CW u (AX v) 0 []))])]) ⟨⟨W,W,W,W,W,W,W,W,B7⟩,⟨Ws,Ws,Ws,⟨W,(.inl (by first | (simp only [List.nil_append,AK,AF,Pr.A1,Tp.A1,Ex.A1,Vr.A1,Df.A1,Sy.A1,Ho.A1]; done) | (simp only [List.nil_append,AK,AF,Pr.A1,Tp.A1,Ex.A1,Vr.A1,Df.A1,Sy.A1,Ho.A1]; rfl))),W,B7⟩,B7⟩,rfl⟩ (by first | assumption | omega | (apply sI <;> first | assumption | omega | decide) | (apply sJ <;> first | assumption | omega | decide) | (simp only [List.length_append,List.length_cons,List.length_nil] at *; omega) | simp_all) (by rw [hd,IS])
 ·have he:i=(BV v).length:=by omega
  exact lX A9 [df ((i:Int)<((BV v).length:Int))] (out) (by rw [he,List.drop_length,IS])
abbrev A9y(v:Nv)(u:Vr)(j:Int)(out:List Ho)  : S:=S.mk [(2,.lp 2 0),(3,.lp 3 0),(4,.lp 4 0),(5,.v (PV.mp 0)),(8,.lp 8 0),(55,vL 2 (Ho.cs (Bd v))),(56,A6 ((Bd v).length:Int)),(57,A6 j)] [(2,Dy v),(3,Qb u),(4,[.v .A2,.v .A2,.v .A2]),(8,[.v .A2,.uniq 77 3 (Sy.cs (IS (BV v) [])),.uniq 184 2 (Ho.cs out)])] [(0,[LV.mm (MM.i (CW u (AX v) 0 []))])]
def Lf  : List Ho->(List Ho)->(List Ho)
 | [],out=>(out)
 | el::r,out=>Lf  r (out++[el])
def A35(v:Nv)(u:Vr)(p:(List Ho)):A4 × S:=(.exit 4,S.mk [(2,.lp 2 0),(3,.lp 3 0),(4,.lp 4 0),(5,.v (PV.mp 0)),(8,.lp 8 0),(55,vL 2 (Ho.cs (Bd v))),(56,A6 ((Bd v).length:Int))] [(2,Dy v),(3,Qb u),(4,[.v .A2,.v .A2,.v .A2]),(8,[.v .A2,.uniq 77 3 (Sy.cs (IS (BV v) [])),.uniq 184 2 (Ho.cs p)])] [(0,[LV.mm (MM.i (CW u (AX v) 0 []))])])
theorem wH(v:Nv)(u:Vr)(Xr:(AX v).length<=1000000000)(hS:∀w∈BV v,(DW w).length<=1000000000)(Nk:(BV v).length<=1000000000)(hH:∀w∈Bd v,(E0 w).length<=1000000000)(out:List Ho)(hN:(Bd v).length<=1000000000)(hv:List.length out<=0):(Ob.loop 99 (Au f75 2) (A9y v u 0 out) (A35 v u  (Lf  ((Bd v))  out)).1 (A35 v u  (Lf  ((Bd v))  out)).2).ok prog:=by
 refine CL ((Bd v).length) (fun j out=>A9y v u j out) (fun i out=>Lf  (List.drop i ((Bd v)))  out) (A35 v u) (fun i out=>(out.length<=i)) kR ?_ out (by first | exact hv | omega)
 rintro i out hi hv
 try simp only at hv
 rcases Nat.lt_or_ge i ((Bd v).length) with Ac | Cm
 ·have hd:=At Ac
  exact lS A9 [dt ((i:Int)<((Bd v).length:Int)),X7 (Bd v) (i:Int),xHo (Bd v) i Ac,cl (@A9o (E0 (List.getD (Bd v) i default)) (by (apply sJ <;> first | assumption | omega | decide))),am (List.length (Ho.cs out++(fun x=>Prod.snd x) (1+1,[XC (List.getD (Bd v) i default)])) * (39+1)<=140737488355328) (by (simp only [List.length_append,List.length_cons,List.length_nil,Vr.A0,Ho.A0]; omega)),wr ((i:Int)+1)] [2,3,4,5,8,55,56,57] [2,3,4,8] Ac (out++[List.getD (Bd v) i default]) (S.mk [(2,.lp 2 0),(3,.lp 3 0),(4,.lp 4 0),(5,.v (PV.mp 0)),(8,.lp 8 0),(55,vL 2 (Ho.cs (Bd v))),(56,A6 ((Bd v).length:Int)),(57,A6 ((i:Int)+1))] [(2,Dy v),(3,Qb u),(4,[.v .A2,.v .A2,.v .A2]),(8,[.v .A2,.uniq 77 3 (Sy.cs (IS (BV v) [])),.uniq 184 2 (Ho.cs out++[XC (List.getD (Bd v) i default)])])] [(0,[LV.mm (MM.i (CW u (AX v) 0 []))])]) ⟨⟨W,W,W,W,W,W,W,W,B7⟩,⟨Ws,Ws,Ws,⟨W,W,(.inl (by first | (simp only [List.nil_append,AK,AF,Pr.A1,Tp.A1,Ex.A1,Vr.A1,Df.A1,Sy.A1,Ho.A1]; done) | (simp only [List.nil_append,AK,AF,Pr.A1,Tp.A1,Ex.A1,Vr.A1,Df.A1,Sy.A1,Ho.A1]; rfl))),B7⟩,B7⟩,rfl⟩ (by first | assumption | omega | (apply sI <;> first | assumption | omega | decide) | (apply sJ <;> first | assumption | omega | decide) | (simp only [List.length_append,List.length_cons,List.length_nil] at *; omega) | simp_all) (by rw [hd,Lf])
 ·have he:i=(Bd v).length:=by omega
  exact lX A9 [df ((i:Int)<((Bd v).length:Int))] (out) (by rw [he,List.drop_length,Lf])
abbrev A9z(v:Nv)(u:Vr)(j:Int)(out:List Vr)  : S:=S.mk [(3,.lp 3 0),(4,.lp 4 0),(5,.v (PV.mp 0)),(8,.lp 8 0),(74,A6 ((AX v).length:Int)),(75,A6 j)] [(3,Qb u),(4,[.v .A2,.v .A2,.v .A2]),(8,[.uniq 104 2 (Vr.cs out),.uniq 77 3 (Sy.cs (IS (BV v) [])),.uniq 184 2 (Ho.cs (Lf (Bd v) []))])] [(0,[LV.mm (MM.i (CW u (AX v) 0 []))])]
def Lg(v:Nv)(u:Vr):List Vr->Nat->(List Vr)->(List Vr)
 | [],i,out=>(out)
 | el::r,i,out=>(if dH u (AX v) i=true then Lg v u r (i+1) (out++[dG u (AX v) i]) else Lg v u r (i+1) (out))
def A36(v:Nv)(u:Vr)(p:(List Vr)):A4 × S:=(.exit 6,S.mk [(3,.lp 3 0),(4,.lp 4 0),(5,.v (PV.mp 0)),(8,.lp 8 0),(74,A6 ((AX v).length:Int))] [(3,Qb u),(4,[.v .A2,.v .A2,.v .A2]),(8,[.uniq 104 2 (Vr.cs p),.uniq 77 3 (Sy.cs (IS (BV v) [])),.uniq 184 2 (Ho.cs (Lf (Bd v) []))])] [(0,[LV.mm (MM.i (CW u (AX v) 0 []))])])
theorem wV(v:Nv)(u:Vr)(Xr:(AX v).length<=1000000000)(hS:∀w∈BV v,(DW w).length<=1000000000)(Nk:(BV v).length<=1000000000)(hH:∀w∈Bd v,(E0 w).length<=1000000000)(Yw:(Bd v).length<=1000000000)(out:List Vr)(hN:(AX v).length<=1000000000)(hv:List.length out<=0):(Ob.loop 99 (Au f75 3) (A9z v u 0 out) (A36 v u  (Lg v u ((AX v)) 0 out)).1 (A36 v u  (Lg v u ((AX v)) 0 out)).2).ok prog:=by
 refine CL ((AX v).length) (fun j out=>A9z v u j out) (fun i out=>Lg v u (List.drop i ((AX v))) i out) (A36 v u) (fun i out=>(out.length<=i)) kR ?_ out (by first | exact hv | omega)
 rintro i out hi hv
 try simp only at hv
 rcases Nat.lt_or_ge i ((AX v).length) with Ac | Cm
 ·have hd:=At Ac
  by_cases h0:dH u (AX v) i=true
  ·exact lS A9 [dt ((i:Int)<((AX v).length:Int)),av (.v (.Bf [Option.getD (EC (i:Int) (CW u (AX v) 0 [])) (.agg [.str Ai,.str Ai]),.bool (Option.isSome (EC (i:Int) (CW u (AX v) 0 [])))])) (.v (.Bf [.agg (FU (dG u (AX v) i)),.bool (dH u (AX v) i)])) (by (simp only [List.length_append,List.length_cons,List.length_nil,Int.toNat_natCast,Bool.cond_true_left,Bool.cond_false_right,Int.toNat_zero,VQ,VR]; done)),AV h0,am (List.length (Vr.cs out++(fun x=>Prod.snd x) (1+1,[FU (dG u (AX v) i)])) * (31+1)<=140737488355328) (by (simp only [List.length_append,List.length_cons,List.length_nil,Vr.A0]; omega)),wr ((i:Int)+1)] [3,4,5,8,74,75] [3,4,8] Ac (out++[dG u (AX v) i]) (S.mk [(3,.lp 3 0),(4,.lp 4 0),(5,.v (PV.mp 0)),(8,.lp 8 0),(74,A6 ((AX v).length:Int)),(75,A6 ((i:Int)+1))] [(3,Qb u),(4,[.v .A2,.v .A2,.v .A2]),(8,[.uniq 104 2 (Vr.cs out++[FU (dG u (AX v) i)]),.uniq 77 3 (Sy.cs (IS (BV v) [])),.uniq 184 2 (Ho.cs (Lf (Bd v) []))])] [(0,[LV.mm (MM.i (CW u (AX v) 0 []))])]) ⟨⟨W,W,W,W,W,W,B7⟩,⟨Ws,Ws,⟨(.inl (by first | (simp only [List.nil_append,AK,AF,Pr.A1,Tp.A1,Ex.A1,Vr.A1,Df.A1,Sy.A1,Ho.A1]; done) | (simp only [List.nil_append,AK,AF,Pr.A1,Tp.A1,Ex.A1,Vr.A1,Df.A1,Sy.A1,Ho.A1]; rfl))),W,W,B7⟩,B7⟩,rfl⟩ (by first | assumption | omega | (apply sI <;> first | assumption | omega | decide) | (apply sJ <;> first | assumption | omega | decide) | (simp only [List.length_append,List.length_cons,List.length_nil] at *; omega) | simp_all) (by rw [hd,Lg,iP h0])
  ·exact lN A9 [dt ((i:Int)<((AX v).length:Int)),av (.v (.Bf [Option.getD (EC (i:Int) (CW u (AX v) 0 [])) (.agg [.str Ai,.str Ai]),.bool (Option.isSome (EC (i:Int) (CW u (AX v) 0 [])))])) (.v (.Bf [.agg (FU (dG u (AX v) i)),.bool (dH u (AX v) i)])) (by (simp only [List.length_append,List.length_cons,List.length_nil,Int.toNat_natCast,Bool.cond_true_left,Bool.cond_false_right,Int.toNat_zero,VQ,VR]; done)),AM (Db h0),wr ((i:Int)+1)] Ac (out) (by first | assumption | omega | (apply sI <;> first | assumption | omega | decide) | (apply sJ <;> first | assumption | omega | decide) | (simp only [List.length_append,List.length_cons,List.length_nil] at *; omega) | simp_all) (by rw [hd,Lg,iN h0])
 ·have he:i=(AX v).length:=by omega
  exact lX A9 [df ((i:Int)<((AX v).length:Int))] (out) (by rw [he,List.drop_length,Lg])
theorem Aa0:∀ (l out:List Sy),IS l out=out++l
 | [],out=>by simp [IS]
 | x::r,out=>by simp [IS,Aa0 r]
theorem Aa1:∀ (l out:List Ho),Lf l out=out++l
 | [],out=>by simp [Lf]
 | x::r,out=>by simp [Lf,Aa1 r]
def Rt(u:Vr)(l:List Vr):List Vr:=l.filter fun y=>decide (AE y≠AE u)
theorem Aa2(v:Nv)(u:Vr):∀ (pre r:List Vr) (out:List Vr),AX v=pre++r->Lg v u r pre.length out=out++Rt u r
 | pre,[],out,_=>by simp [Lg,Rt]
 | pre,y::r,out,h=>by
  have hl:pre.length<(AX v).length:=by rw [h]; simp
  have hg:(AX v).getD pre.length default=y:=by rw [h]; simp [List.getD]
  have ih:=fun o=>Aa2 v u (pre++[y]) r o (by rw [h]; simp)
  simp only [List.length_append,List.length_cons,List.length_nil,Nat.zero_add] at ih
  rw [Lg]
  by_cases hn:AE y=AE u
  ·have hb:dH u (AX v) pre.length=false:=by unfold dH; exact decide_eq_false (fun hh=>hh.2 (by rw [hg]; exact hn))
   rw [iN (by rw [hb]; decide),ih]
   simp [Rt,hn]
  ·have hb:dH u (AX v) pre.length=true:=by unfold dH; exact decide_eq_true ⟨hl,by rw [hg]; exact hn⟩
   have hv:dG u (AX v) pre.length=y:=by unfold dG; rw [iP ⟨hl,by rw [hg]; exact hn⟩,hg]
   rw [iP hb,hv,ih]
   simp [Rt,hn]
def JH(v:Nv)(u:Vr):Nv := .mk (Rt u (AX v)++[u]) (BV v) (Bd v)
theorem wVl(v:Nv)(u:Vr):Lg v u (AX v) 0 []=Rt u (AX v):=by have:=Aa2 v u [] (AX v) [] rfl; simpa using this
theorem wiL(v:Nv)(u:Vr)(Xr:(AX v).length<=1000000000)(hS:∀w∈BV v,(DW w).length<=1000000000)(Nk:(BV v).length<=1000000000)(hH:∀w∈Bd v,(E0 w).length<=1000000000)(Yw:(Bd v).length<=1000000000)(A7:List.length (Vr.cs (Lg v u (AX v) 0 [])++(fun x=>Prod.snd x) (1+1,[FU u])) * (31+1)<=140737488355328):Ef 75 [.agg (BP v),.agg (FU u)] ([]) (rA [.sl 2 (Vr.cs (Lg v u (AX v) 0 [])++[FU u]),.sl 3 (Sy.cs (IS (BV v) [])),.sl 2 (Ho.cs (Lf (Bd v) []))]) ([(0,[LV.mm (MM.i (CW u (AX v) 0 []))])]):=
 ef A9 [sl (Vr.A0 (AX v)),lq (@kpq (v) (u) ([]) Xr),sl (Sy.A0 (BV v)),lp (S.mk [(2,.lp 2 0),(3,.lp 3 0),(4,.lp 4 0),(5,.v (PV.mp 0)),(8,.lp 8 0),(37,vL 3 (Sy.cs (BV v))),(38,A6 ((BV v).length:Int)),(39,A6 0)] [(2,Dy v),(3,Qb u),(4,[.v .A2,.v .A2,.v .A2]),(8,[.v .A2,.v .A2,.v .A2])] [(0,[LV.mm (MM.i (CW u (AX v) 0 []))])]) (@wS (v) (u) Xr hS ([]) Nk (by (simp only [List.length_nil]; omega))) ⟨⟨W,W,W,W,W,W,W,W,B7⟩,⟨⟨W,W,W,B7⟩,⟨W,W,B7⟩,⟨W,W,W,B7⟩,⟨W,Wq,W,B7⟩,B7⟩,rfl⟩,sl (Ho.A0 (Bd v)),lp (S.mk [(2,.lp 2 0),(3,.lp 3 0),(4,.lp 4 0),(5,.v (PV.mp 0)),(8,.lp 8 0),(55,vL 2 (Ho.cs (Bd v))),(56,A6 ((Bd v).length:Int)),(57,A6 0)] [(2,Dy v),(3,Qb u),(4,[.v .A2,.v .A2,.v .A2]),(8,[.v .A2,.uniq 77 3 (Sy.cs (IS (BV v) [])),.v .A2])] [(0,[LV.mm (MM.i (CW u (AX v) 0 []))])]) (@wH (v) (u) Xr hS Nk hH ([]) Yw (by (simp only [List.length_nil]; omega))) ⟨⟨W,W,W,W,W,W,W,W,B7⟩,⟨⟨W,W,W,B7⟩,⟨W,W,B7⟩,⟨W,W,W,B7⟩,⟨W,W,Wq,B7⟩,B7⟩,rfl⟩,sl (Vr.A0 (AX v)),lp (S.mk [(3,.lp 3 0),(4,.lp 4 0),(5,.v (PV.mp 0)),(8,.lp 8 0),(74,A6 ((AX v).length:Int)),(75,A6 0)] [(3,Qb u),(4,[.v .A2,.v .A2,.v .A2]),(8,[.v .A2,.uniq 77 3 (Sy.cs (IS (BV v) [])),.uniq 184 2 (Ho.cs (Lf (Bd v) []))])] [(0,[LV.mm (MM.i (CW u (AX v) 0 []))])]) (@wV (v) (u) Xr hS Nk hH Yw ([]) Xr (by (simp only [List.length_nil]; omega))) ⟨⟨W,W,W,W,W,W,B7⟩,⟨⟨W,W,B7⟩,⟨W,W,W,B7⟩,⟨Wq,W,W,B7⟩,B7⟩,rfl⟩,am1 A7] func75
structure Ba (v:Nv):Prop where
 w:(AX v).length<=100000000
 s:(BV v).length<=1000000000
 h:(Bd v).length<=1000000000
 sa:∀w∈BV v,(DW w).length<=1000000000
 hp:∀w∈Bd v,(E0 w).length<=1000000000
abbrev Tc:BA:=ByteArray.mk #[116,97,103]
abbrev dJ:BA:=ByteArray.mk #[118,97,108]
abbrev Gg:BA:=ByteArray.mk #[73,110,116]
abbrev DP:BA:=ByteArray.mk #[66,111,111,108]
abbrev OK:BA:=ByteArray.mk #[67,101,108,108]
def Dx{α:Type} [Inhabited α] (f:α->BA) (name:BA) (l:List α):Bool:=decide (ix f name l<l.length)
def AQ{α:Type} [Inhabited α] (f:α->BA) (name:BA) (l:List α):α:=if ix f name l<l.length then l.getD (ix f name l) default else default
theorem vaT(v:Nv)(name:BA)(hN:(AX v).length<=1000000000):Pu 227 [.agg (BP v),.str name] (.ret (.Bf [.str (CD (AQ AE name (AX v).reverse)),.bool (Dx AE name (AX v).reverse)])):=by
 unfold Dx AQ
 by_cases h:ix AE name (AX v).reverse<(AX v).reverse.length
 ·rw [iP h,decide_eq_true h]; exact A9r v name hN _ (by rw [cU,iP h])
 ·rw [iN h,decide_eq_false h]; exact A9s v name hN (by rw [cU,iN h])
def EV(v:Nv)(name:BA):Sy:=if name=Tc then .mk Tc [] Gg else if name=dJ then .mk dJ [OK] Gg else AQ HB name (BV v)
def Lz(v:Nv)(name:BA):Bool:=if name=Tc then true else if name=dJ then true else Dx HB name (BV v)
theorem fdT(v:Nv)(name:BA)(hS:∀w∈BV v,(DW w).length<=1000000000)(hN:(BV v).length<=1000000000):Pu 272 [.agg (BP v),.str name] (.ret (.Bf [.agg (Tv (EV v name)),.bool (Lz v name)])):=by
 unfold Lz EV
 by_cases h1:name=Tc
 ·rw [iP h1,iP h1]; exact A9t v name hS hN h1
 ·rw [iN h1,iN h1]
  by_cases h2:name=dJ
  ·rw [iP h2,iP h2]; exact A9u v name hS hN h1 h2
  ·rw [iN h2,iN h2]
   unfold Dx AQ
   by_cases h:ix HB name (BV v)<(BV v).length
   ·rw [iP h,decide_eq_true h]; exact A9v v name hS hN h1 h2 _ (by rw [cX,iP h])
   ·rw [iN h,decide_eq_false h]; exact A9w v name hS hN h1 h2 (by rw [cX,iN h])
theorem hoT(v:Nv)(name:BA)(hH:∀w∈Bd v,(E0 w).length<=1000000000)(hN:(Bd v).length<=1000000000):Pu 274 [.agg (BP v),.str name] (.ret (.Bf [.agg (XC (AQ Bj name (Bd v))),.bool (Dx Bj name (Bd v))])):=by
 unfold Dx AQ
 by_cases h:ix Bj name (Bd v)<(Bd v).length
 ·rw [iP h,decide_eq_true h]; exact A32 v name hH hN _ (by rw [dA,iP h])
 ·rw [iN h,decide_eq_false h]; exact A33 v name hH hN (by rw [dA,iN h])
theorem Nr:∀l:List Vr,Fl (Vr.cs l)=true
 | []=>rfl
 | x::r=>by rw [show Vr.cs (x::r)=FU x::Vr.cs r by simp [Vr.cs],Fl,Nr r]; rfl
theorem VS:∀l:List BA,Fl (Ae l)=true
 | []=>rfl
 | x::r=>by rw [show Ae (x::r)=[.str x]::Ae r by simp [Ae],Fl,VS r]; rfl
theorem Ru:∀l:List Sy,Fl (Sy.cs l)=true
 | []=>rfl
 | x::r=>by rw [show Sy.cs (x::r)=Tv x::Sy.cs r by simp [Sy.cs],Fl,Ru r]; simp [EH,PV.I4,VS]
theorem Rv:∀l:List Ho,Fl (Ho.cs l)=true
 | []=>rfl
 | x::r=>by rw [show Ho.cs (x::r)=XC x::Ho.cs r by simp [Ho.cs],Fl,Rv r]; simp [EH,PV.I4,Nr]
theorem dK(v:Nv):EH (BP v)=true:=by simp [EH,PV.I4,Nr,Ru,Rv]
theorem wiT(v:Nv)(u:Vr)(hE:Ba v):Pu 75 [.agg (BP v),.agg (FU u)] (.ret (.agg (BP (JH v u)))):=by
 have hl:(Rt u (AX v)).length<=100000000:=Nat.le_trans (List.length_filter_le _ _) hE.w
 have h0:=wiL v u (by have:=hE.w; omega) hE.sa hE.s hE.hp hE.h (by
  rw [wVl]
  simp only [List.length_append,Vr.A0,List.length_cons,List.length_nil]
  omega)
 rw [wVl,Aa0,Aa1] at h0
 have e:BP (JH v u)=[.sl 2 (Vr.cs (Rt u (AX v))++[FU u]),.sl 3 (Sy.cs ([]++BV v)),.sl 2 (Ho.cs ([]++Bd v))]:=by
  simp only [BP,JH,AX,BV,Bd,Vr.A1,List.nil_append]
 rw [<-e] at h0
 exact Ob.Dr (by simp [EH,PV.I4,Nr,Ru,Rv]) (by simpa [Ct.I4,PV.I4] using dK (JH v u)) h0
theorem Ba.wi{v:Nv}{u:Vr}{n:Nat}(h:Ba v)(hn:(AX v).length<=n)(hs:n+1<=100000000):Ba (JH v u)/\(AX (JH v u)).length<=n+1:=by
 have hl:(Rt u (AX v)).length<=(AX v).length:=List.length_filter_le _ _
 have hw:(AX (JH v u)).length<=n+1:=by
  have e:AX (JH v u)=Rt u (AX v)++[u]:=rfl
  rw [e,List.length_append,List.length_cons,List.length_nil]; omega
 exact ⟨⟨by omega,h.s,h.h,h.sa,h.hp⟩,hw⟩
def plD:Nat->Tp->Tp
 | 0,t=>t
 | d+1,t => .mk (AB t) (An t) (K0 (plD d) (Ab t) []) [] default []
def LA(t:Tp):Tp:=plD (A3 (AO t)+1) t
theorem BY(x:Tp):Ah (Tp.cs (Ab x))+Ah (Pr.cs (Aq x))+A3 (AN (AT x))<A3 (AO x):=by simp only [A3,CR]; omega
theorem sO:∀ (d:Nat) (t:Tp),A3 (AO t)<d->d<=1000000001->Pu 69 [.agg (AO t)] (.ret (.agg (AO (plD d t))))
 | 0,_,h,_=>by omega
 | d+1,t,h,hd=>by
  have h1:=BY t
  have h2:=Tp.BS (Ab t)
  exact plL t (plD d) (fun w hw=>sO d w (by have:=Tp.mem hw; omega) oM) oM
theorem plT(t:Tp)(hs:A3 (AO t)<=1000000000):Pu 69 [.agg (AO t)] (.ret (.agg (AO (LA t)))):=sO _ t oM oM
abbrev GR(m:Mo)(v:Nv):List PV:=[.sl 4 (Da.cs (AL m)),.sl 3 (Cl.cs (CB m)),.sl 12 (In.cs (DD m)),.sl 8 (Ms.cs (B3 m)),.sl 6 (Qu.cs (Ep m)),.sl 25 (Df.cs (AW m)),.sl 2 (Vr.cs (AX v)),.sl 3 (Sy.cs (BV v)),.sl 2 (Ho.cs (Bd v))]
theorem A37(v:Nv)(a b:BA)(hE:Ba v):Pu 75 [.agg (BP v),.agg [.str a,.str b]] (.ret (.agg (BP (JH v (.mk a b))))):=wiT v (.mk a b) hE
def JI(v:Nv)(name:BA)(t:Tp):Nv:=if CY (LA t)=true then JH v (.mk name (Eo (LA t))) else v
theorem pwT(m:Mo)(v:Nv)(name:BA)(t:Tp)(hE:Ba v)(hs:A3 (AO t)<=1000000000):Pu 46 [.agg (GR m v),.str name,.agg (AO t)] (.ret (.agg (GR m (JI v name t)))):=by
 unfold JI
 cases h:CY (LA t) with
 | true=>rw [iP rfl]; exact pm A9 [cl (@plT (t) hs),cl (@sOf (LA t)),bt (CY (LA t)) h,cl (@A37 (v) (name) (Eo (LA t)) hE)] func46
 | false=>rw [iN dD]; exact pm A9 [cl (@plT (t) hs),cl (@sOf (LA t)),bf (CY (LA t)) h] func46
def GF(v u:Nv)(i:Nat):Prop:=Ba u/\(AX u).length<=(AX v).length+i
theorem GF.s{v u:Nv}{i:Nat}(h:GF v u i):GF v u (i+1):=⟨h.1,by have:=h.2; omega⟩
theorem Ba.pw{v:Nv}{name:BA}{t:Tp}{n:Nat}(h:Ba v)(hn:(AX v).length<=n)(hs:n+1<=100000000):Ba (JI v name t)/\(AX (JI v name t)).length<=n+1:=by
 unfold JI
 split
 ·exact h.wi hn hs
 ·exact ⟨h,by omega⟩
theorem dTT(m:Mo)(name:BA)(BC:(AL m).length<=1048576):Pu 72 [.agg (BD m),.str name] (.ret (.Bf [.agg (Vw (AQ Bc name (AL m))),.bool (Dx Bc name (AL m))])):=by
 unfold Dx AQ
 by_cases h:ix Bc name (AL m)<(AL m).length
 ·rw [iP h,decide_eq_true h]; exact dAT m name BC h
 ·rw [iN h,decide_eq_false h]; exact dAF m name BC h
def Dz(t:Tp):List Pr:=AT t::Aq t
theorem Agx(t:Tp):Pr.cs (Dz t)=[AN (AT t)]++Pr.cs (Aq t):=by simp [Pr.AD,Dz]
theorem Fc(t:Tp):(Aq t).length+1=(Dz t).length:=by simp [Dz]
theorem Ma{t:Tp}{i:Nat}(h:i<(Dz t).length):(AN (AT t)::Pr.cs (Aq t)).getD i []=AN ((Dz t).getD i default):=by
 have:=Pr.CG h
 rw [Agx] at this
 exact this
theorem Rw{t:Tp}(Br:(Aq t).length<=100000000):(Dz t).length<=1000000000:=by simp [Dz]; omega
theorem Td{t:Tp}{w:Pr}(h:w∈Dz t):A3 (AN w)<A3 (AO t):=by
 have h1:=BY t
 rcases List.mem_cons.1 (show w∈AT t::Aq t by unfold Dz at h; exact h) with rfl | h
 ·omega
 ·have:=Pr.mem h; omega
theorem Fe(t:Tp):0+1+(Aq t).length=(Dz t).length:=by simp [Dz]; omega
theorem zr(u:Pr):Pu 171 [.agg (AN u)] (rB (C0 u)):=
 pm A9 [cl (@psz (u))] func171
abbrev Xe(t:Tp)(xe:Ext):S:=⟨[(1,.lp 1 0),(2,.v (.int .i64 0))],[(1,Cz t)],xe⟩
section
variable (t:Tp) (xe:Ext)
include t xe
theorem Aa3(A7:AB t=6)(Aa:C0 (AT t)=false)(cx:Cx)(Aw:cx.n=68){Q:A4->S->Prop}(hq:Q (.normal) (S.mk [(1,.lp 1 0),(2,A6 0),(33,.v (.bool true))] [(1,Cz t)] xe)):PW prog cx (AS f123 1) (Xe t xe) Q:=
 pw A9 68 [rp 3 (Bb A7),cl (@zr (AT t)),rp 2 (Bb A7),rp 4 (AV (B0 Aa)),Bb A7,AV (B0 Aa),Bb A7,rp 6 (bt true)] [1,2,33] [1] Aw hq
theorem Aa4(A7:AB t=6)(Aa:C0 (AT t)=true)(Am:((Aq t).length:Int)>0)(cx:Cx)(Aw:cx.n=68){Q:A4->S->Prop}(hq:Q (.normal) (S.mk [(1,.lp 1 0),(2,A6 0),(33,.v (.bool true))] [(1,Cz t)] xe)):PW prog cx (AS f123 1) (Xe t xe) Q:=
 pw A9 68 [rp 3 (Bb A7),cl (@zr (AT t)),rp 2 (Bb A7),rp 3 (AM (AI Aa)),sl (Pr.A0 (Aq t)),AM (AI Aa),Bb A7,AM (AI Aa),Bb A7,rp 6 (BL Am)] [1,2,33] [1] Aw hq
theorem Aa5(A7:AB t=6)(Aa:C0 (AT t)=true)(Am:¬((Aq t).length:Int)>0)(cx:Cx)(Aw:cx.n=68){Q:A4->S->Prop}(hq:Q (.normal) (S.mk [(1,.lp 1 0),(2,A6 0),(33,.v (.bool (decide (((Aq t).length:Int)>0))))] [(1,Cz t)] xe)):PW prog cx (AS f123 1) (Xe t xe) Q:=
 pw A9 68 [rp 3 (Bb A7),cl (@zr (AT t)),rp 2 (Bb A7),rp 3 (AM (AI Aa)),sl (Pr.A0 (Aq t)),AM (AI Aa),Bb A7,AM (AI Aa),Bb A7,rp 4 (Ar Am),rp 3 (nt (AB t) 4),sl (Pr.A0 (Aq t)),nt (AB t) 4,Ar Am,nt (AB t) 4,Ar Am] [1,2,33] [1] Aw hq
theorem Aa6(A7:¬AB t=6)(Aa:¬AB t=4)(cx:Cx)(Aw:cx.n=68){Q:A4->S->Prop}(hq:Q (.normal) (S.mk [(1,.lp 1 0),(2,A6 0),(33,.v (.bool (decide (((Aq t).length:Int)>0))))] [(1,Cz t)] xe)):PW prog cx (AS f123 1) (Xe t xe) Q:=
 pw A9 68 [rp 7 (Ay A7),rp 4 (bf false),rp 3 (Bi Aa),sl (Pr.A0 (Aq t)),Bi Aa,bf false,Bi Aa,bf false] [1,2,33] [1] Aw hq
theorem Aa7(A7:¬AB t=6)(Aa:AB t=4)(cx:Cx)(Aw:cx.n=68){Q:A4->S->Prop}(hq:Q (.normal) (S.mk [(1,.lp 1 0),(2,A6 0),(33,.v (.bool false))] [(1,Cz t)] xe)):PW prog cx (AS f123 1) (Xe t xe) Q:=
 pw A9 68 [rp 7 (Ay A7),rp 4 (bf false),rp 4 (B1 Aa),bf false,B1 Aa,bf false] [1,2,33] [1] Aw hq
end
def C2(t:Tp):Bool:=(if AB t=6 then (if C0 (AT t)=true then (if ((Aq t).length:Int)>0 then (true) else ((decide (((Aq t).length:Int)>0)))) else (true)) else (if AB t=4 then (false) else ((decide (((Aq t).length:Int)>0)))))
theorem dL(t:Tp)(xe:Ext):(Ob.ES 68 (AS f123 1) (Xe t xe) (.normal) (S.mk [(1,.lp 1 0),(2,A6 0),(33,.v (.bool (C2 t)))] [(1,Cz t)] xe)).ok prog:=by
 intro cx Aw
 by_cases g0:AB t=6
 ·by_cases g1:C0 (AT t)=true
  ·by_cases g2:((Aq t).length:Int)>0
   ·exact Aa4 t xe g0 g1 g2 cx Aw ⟨rfl,by rw [show C2 t=(true) by unfold C2; rw [iP g0,iP g1,iP g2]]⟩
   ·exact Aa5 t xe g0 g1 g2 cx Aw ⟨rfl,by rw [show C2 t=((decide (((Aq t).length:Int)>0))) by unfold C2; rw [iP g0,iP g1,iN g2]]⟩
  ·exact Aa3 t xe g0 (Bool.eq_false_iff.2 g1) cx Aw ⟨rfl,by rw [show C2 t=(true) by unfold C2; rw [iP g0,iN g1]]⟩
 ·by_cases g1:AB t=4
  ·exact Aa7 t xe g0 g1 cx Aw ⟨rfl,by rw [show C2 t=(false) by unfold C2; rw [iN g0,iP g1]]⟩
  ·exact Aa6 t xe g0 g1 cx Aw ⟨rfl,by rw [show C2 t=((decide (((Aq t).length:Int)>0))) by unfold C2; rw [iN g0,iN g1]]⟩
def XG:Md:=⟨fun _=>some false,fun t=>t==1000001⟩
abbrev Qm(t:Tp)(j:Int)(e:Ext):S:=S.mk [(1,.lp 1 0),(2,A6 0),(35,vL 1 (Ae (Ag t))),(36,A6 ((Ag t).length:Int)),(37,A6 j)] [(1,Cz t)] e
inductive Iv where
 | e0
 | e1
def HQ  : List BA->Iv
 | []=>(Iv.e1)
 | el::r=>(if CJ (Bz el)=0 then HQ  r  else (Iv.e0))
def Jf(t:Tp)(e:Ext):Iv->A4 × S
 | .e0=>(.ret,S.mk [(1,.lp 1 0),(2,A6 3),(35,vL 1 (Ae (Ag t))),(36,A6 ((Ag t).length:Int))] [(1,Cz t)] e)
 | .e1=>(.exit 0,S.mk [(1,.lp 1 0),(2,A6 0),(35,vL 1 (Ae (Ag t))),(36,A6 ((Ag t).length:Int))] [(1,Cz t)] e)
theorem dM(t:Tp)(Gp:C2 t=false)(e:Ext)(hN:(Ag t).length<=1000000000):(Ob.loop 68 (Au f123 0) (Qm t 0  e) (Jf t e (HQ  ((Ag t)))).1 (Jf t e (HQ  ((Ag t)))).2).ok prog:=by
 refine CL ((Ag t).length) (fun j _=>Qm t j  e) (fun i _=>HQ  (List.drop i ((Ag t)))) (Jf t e) (fun i _=>True) kR ?_ () trivial
 rintro i u hi -
 rcases Nat.lt_or_ge i ((Ag t).length) with Ac | Cm
 ·have hd:=CU Ac
  by_cases h0:CJ (Bz (List.getD (Ag t) i Ai))=0
  ·exact lN XG [dt ((i:Int)<((Ag t).length:Int)),CH (Ag t) (i:Int),DU (Ag t) i Ac,cl (@A81 (List.getD (Ag t) i Ai)),B1 h0,wr ((i:Int)+1)] Ac () trivial (by rw [hd,HQ,iP h0])
  ·exact lX XG [dt ((i:Int)<((Ag t).length:Int)),CH (Ag t) (i:Int),DU (Ag t) i Ac,cl (@A81 (List.getD (Ag t) i Ai)),Bi h0] (Iv.e0) (by rw [hd,HQ,iN h0])
 ·have he:i=(Ag t).length:=by omega
  exact lX XG [df ((i:Int)<((Ag t).length:Int))] (Iv.e1) (by rw [he,List.drop_length,HQ])
theorem Aa8(t:Tp)(Gp:C2 t=false)(e:Ext)(hN:(Ag t).length<=1000000000)(Be:(HQ  ((Ag t)))=(Iv.e0)):(Ob.loop 68 (Au f123 0) (Qm t 0  e) (Jf t e (Iv.e0)).1 (Jf t e (Iv.e0)).2).ok prog:=
 rz (dM t Gp e hN) Be
theorem Aa9(t:Tp)(Gp:C2 t=false)(e:Ext)(hN:(Ag t).length<=1000000000)(Be:(HQ  ((Ag t)))=(Iv.e1)):(Ob.loop 68 (Au f123 0) (Qm t 0  e) (Jf t e (Iv.e1)).1 (Jf t e (Iv.e1)).2).ok prog:=
 rz (dM t Gp e hN) Be
theorem dN:∀l:List BA,HQ l=if Bg (fun s=>CJ (Bz s)) l=0 then .e1 else .e0
 | []=>by simp [HQ,Bg]
 | c::r=>by
  by_cases h:CJ (Bz c)=0
  ·simp [HQ,Bg,h,dN r]
  ·simp [HQ,Bg,h]
theorem A38(t:Tp)(Gp:C2 t=false)(e:Ext)(hN:(Ag t).length<=1000000000)(hx:Bg (fun s=>CJ (Bz s)) (Ag t)=0):(Ob.loop 68 (Au f123 0) (Qm t 0 e) (Jf t e .e1).1 (Jf t e .e1).2).ok prog:=Aa9 t Gp e hN (by rw [dN,iP hx])
theorem Agy(t:Tp)(Gp:C2 t=false)(e:Ext)(hN:(Ag t).length<=1000000000)(hx:¬Bg (fun s=>CJ (Bz s)) (Ag t)=0):(Ob.loop 68 (Au f123 0) (Qm t 0 e) (Jf t e .e0).1 (Jf t e .e0).2).ok prog:=Aa8 t Gp e hN (by rw [dN,iN hx])
abbrev sP(t:Tp)(j:Int)(e:Ext):S:=S.mk [(2,A6 0),(54,.uniq 41 4 (AN (AT t)::Pr.cs (Aq t))),(55,A6 ((Dz t).length:Int)),(56,A6 j)] [] e
inductive ML where
 | e0 (el:Pr)
 | e1
def G2  : List Pr->ML
 | []=>(ML.e1)
 | el::r=>(if C0 el=true then G2  r  else (if Hf el=0 then G2  r  else (ML.e0 el)))
def dO(t:Tp)(e:Ext):ML->A4 × S
 | .e0 el=>(.ret,S.mk [(2,A6 (Hf el)),(54,.uniq 41 4 (AN (AT t)::Pr.cs (Aq t))),(55,A6 ((Dz t).length:Int))] [] e)
 | .e1=>(.exit 2,S.mk [(2,A6 0),(54,.uniq 41 4 (AN (AT t)::Pr.cs (Aq t))),(55,A6 ((Dz t).length:Int))] [] e)
theorem dP(t:Tp)(Gp:C2 t=false)(Qn:(Ag t).length<=1000000000)(XF:Bg (fun s=>CJ (Bz s)) (Ag t)=0)(sQ:Ge (Ag t)=true)(BM:∀w:Pr,w∈Dz t->Pu 173 [.agg (AN w)] (.ret (.int .i64 (Hf w))))(Uw:(Aq t).length<=100000000)(e:Ext)(hN:(Dz t).length<=1000000000):(Ob.loop 68 (Au f123 1) (sP t 0  e) (dO t e (G2  ((Dz t)))).1 (dO t e (G2  ((Dz t)))).2).ok prog:=by
 refine CL ((Dz t).length) (fun j _=>sP t j  e) (fun i _=>G2  (List.drop i ((Dz t)))) (dO t e) (fun i _=>True) kR ?_ () trivial
 rintro i u hi -
 rcases Nat.lt_or_ge i ((Dz t).length) with Ac | Cm
 ·have hd:=At Ac
  by_cases h0:C0 (List.getD (Dz t) i default)=true
  ·exact lN XG [dt ((i:Int)<((Dz t).length:Int)),am ((0:Int)<=(i:Int)/\(i:Int)<((AN (AT t)::Pr.cs (Aq t)).length:Int)) (by (simp only [List.length_append,List.length_cons,List.length_nil,Pr.A0,Int.toNat_natCast,Bool.cond_true_left,Bool.cond_false_right,Int.toNat_zero,Dc,Fc,Fe]; omega)),ar (List.getD (AN (AT t)::Pr.cs (Aq t)) (Int.toNat (i:Int)) []) (AN (List.getD (Dz t) i default)) (by simp only [Int.toNat_natCast,Int.toNat_zero]; rw [@Ma (t) (i) Ac]; try rfl),cl (@zr (List.getD (Dz t) i default)),AV h0,wr ((i:Int)+1)] Ac () trivial (by rw [hd,G2,iP h0])
  ·by_cases h1:Hf (List.getD (Dz t) i default)=0
   ·exact lN XG [dt ((i:Int)<((Dz t).length:Int)),am ((0:Int)<=(i:Int)/\(i:Int)<((AN (AT t)::Pr.cs (Aq t)).length:Int)) (by (simp only [List.length_append,List.length_cons,List.length_nil,Pr.A0,Int.toNat_natCast,Bool.cond_true_left,Bool.cond_false_right,Int.toNat_zero,Dc,Fc,Fe]; omega)),ar (List.getD (AN (AT t)::Pr.cs (Aq t)) (Int.toNat (i:Int)) []) (AN (List.getD (Dz t) i default)) (by simp only [Int.toNat_natCast,Int.toNat_zero]; rw [@Ma (t) (i) Ac]; try rfl),cl (@zr (List.getD (Dz t) i default)),AM (Db h0),cl (@BM (List.getD (Dz t) i default) (by simp_all [Dc,Fc,Fe])),B1 h1,wr ((i:Int)+1)] Ac () trivial (by rw [hd,G2,iN h0,iP h1])
   ·exact lX XG [dt ((i:Int)<((Dz t).length:Int)),am ((0:Int)<=(i:Int)/\(i:Int)<((AN (AT t)::Pr.cs (Aq t)).length:Int)) (by (simp only [List.length_append,List.length_cons,List.length_nil,Pr.A0,Int.toNat_natCast,Bool.cond_true_left,Bool.cond_false_right,Int.toNat_zero,Dc,Fc,Fe]; omega)),ar (List.getD (AN (AT t)::Pr.cs (Aq t)) (Int.toNat (i:Int)) []) (AN (List.getD (Dz t) i default)) (by simp only [Int.toNat_natCast,Int.toNat_zero]; rw [@Ma (t) (i) Ac]; try rfl),cl (@zr (List.getD (Dz t) i default)),AM (Db h0),cl (@BM (List.getD (Dz t) i default) (by simp_all [Dc,Fc,Fe])),Bi h1] (ML.e0 (List.getD ((Dz t)) i default)) (by rw [hd,G2,iN h0,iN h1])
 ·have he:i=(Dz t).length:=by omega
  exact lX XG [df ((i:Int)<((Dz t).length:Int))] (ML.e1) (by rw [he,List.drop_length,G2])
def Po(w:Pr):Int:=if C0 w=true then 0 else Hf w
theorem dQ:∀l:List Pr,(Bg Po l=0->G2 l = .e1)/\(¬Bg Po l=0->∃w,G2 l = .e0 w/\Hf w=Bg Po l)
 | []=>⟨fun _=>rfl,fun h=>absurd rfl h⟩
 | c::r=>by
  have ih:=dQ r
  by_cases hz:C0 c=true
  ·have e:Po c=0:=by unfold Po; rw [iP hz]
   simp only [Bg,G2,e,hz,if_true]; exact ih
  ·by_cases hp:Hf c=0
   ·have e:Po c=0:=by unfold Po; rw [iN hz,hp]
    simp only [Bg,G2,e,hz,hp,if_true,if_false]; exact ih
   ·have e:Po c=Hf c:=by unfold Po; rw [iN hz]
    simp only [Bg,G2,e,hz,hp,if_false]
    exact ⟨fun h=>h.elim,fun _=>⟨c,rfl,rfl⟩⟩
section
variable (t:Tp) (BM:∀w:Pr,w∈Dz t->Pu 173 [.agg (AN w)] (.ret (.int .i64 (Hf w)))) (Uw:(Aq t).length<=100000000) (Qn:(Ag t).length<=1000000000)
include t BM Uw Qn
theorem Aaa(A7:C2 t=true):Pu 123 [.agg (AO t)] (rI 1):=
 pu XG (fun e=>[lg (@dL (t) (e)),AV A7]) func123
theorem Aab(A7:C2 t=false)(Aa:Bg (fun s=>CJ (Bz s)) (Ag t)=0)(Am:Ge (Ag t)=false):Pu 123 [.agg (AO t)] (rI 4):=
 pu XG (fun e=>[lg (@dL (t) (e)),AM A7,sl (A5 (Ag t)),lq (@A38 (t) A7 (e) Qn Aa),cl (@dsT (Ag t) Qn),AV (B0 Am)]) func123
theorem Aac(A7:C2 t=false)(Aa:Bg (fun s=>CJ (Bz s)) (Ag t)=0)(Am:Ge (Ag t)=true)(dR:Pr)(AP:G2 (Dz t)=ML.e0 dR):Pu 123 [.agg (AO t)] (rI (Hf dR)):=
 pu XG (fun e=>[lg (@dL (t) (e)),AM A7,sl (A5 (Ag t)),lq (@A38 (t) A7 (e) Qn Aa),cl (@dsT (Ag t) Qn),AM (AI Am),am (List.length ([AN (AT t)]++(fun x=>Prod.snd x) (4,Pr.cs (Aq t))) * (55+1)<=140737488355328) (by (simp only [List.length_append,List.length_cons,List.length_nil,Pr.A0]; omega)),ai (↑((fun x=>List.length (Prod.snd x)) (3+1,[AN (AT t)]++(fun x=>Prod.snd x) (4,Pr.cs (Aq t)))):Int) ((Dz t).length:Int) (by (simp only [List.length_append,List.length_cons,List.length_nil,Pr.A0,Fc,Fe]; done)),lp (S.mk [(2,A6 0),(54,.uniq 41 4 (AN (AT t)::List.append [] (Pr.cs (Aq t)))),(55,A6 ((Dz t).length:Int)),(56,A6 0)] [] e) (rz (dP (t) A7 Qn Aa Am BM Uw (e) (by (apply Rw <;> first | assumption | omega | decide))) AP) ⟨⟨W,(by first | exact .inl rfl | exact .inr ⟨rfl,rfl⟩ | exact .inr rfl | exact .inr trivial | exact .inl (by first | (simp only [List.nil_append,AK,AF,Pr.A1,Tp.A1,Ex.A1,Vr.A1,Df.A1]; done) | (simp only [List.nil_append,AK,AF,Pr.A1,Tp.A1,Ex.A1,Vr.A1,Df.A1]; rfl))),W,W,B7⟩,trivial,rfl⟩]) func123
theorem Aad(A7:C2 t=false)(Aa:Bg (fun s=>CJ (Bz s)) (Ag t)=0)(Am:Ge (Ag t)=true)(Az:G2 (Dz t)=ML.e1):Pu 123 [.agg (AO t)] (rI 0):=
 pu XG (fun e=>[lg (@dL (t) (e)),AM A7,sl (A5 (Ag t)),lq (@A38 (t) A7 (e) Qn Aa),cl (@dsT (Ag t) Qn),AM (AI Am),am (List.length ([AN (AT t)]++(fun x=>Prod.snd x) (4,Pr.cs (Aq t))) * (55+1)<=140737488355328) (by (simp only [List.length_append,List.length_cons,List.length_nil,Pr.A0]; omega)),ai (↑((fun x=>List.length (Prod.snd x)) (3+1,[AN (AT t)]++(fun x=>Prod.snd x) (4,Pr.cs (Aq t)))):Int) ((Dz t).length:Int) (by (simp only [List.length_append,List.length_cons,List.length_nil,Pr.A0,Fc,Fe]; done)),lp (S.mk [(2,A6 0),(54,.uniq 41 4 (AN (AT t)::List.append [] (Pr.cs (Aq t)))),(55,A6 ((Dz t).length:Int)),(56,A6 0)] [] e) (rz (dP (t) A7 Qn Aa Am BM Uw (e) (by (apply Rw <;> first | assumption | omega | decide))) Az) ⟨⟨W,(by first | exact .inl rfl | exact .inr ⟨rfl,rfl⟩ | exact .inr rfl | exact .inr trivial | exact .inl (by first | (simp only [List.nil_append,AK,AF,Pr.A1,Tp.A1,Ex.A1,Vr.A1,Df.A1]; done) | (simp only [List.nil_append,AK,AF,Pr.A1,Tp.A1,Ex.A1,Vr.A1,Df.A1]; rfl))),W,W,B7⟩,trivial,rfl⟩]) func123
theorem Aae(A7:C2 t=false)(Aa:¬Bg (fun s=>CJ (Bz s)) (Ag t)=0):Pu 123 [.agg (AO t)] (rI 3):=
 pu XG (fun e=>[lg (@dL (t) (e)),AM A7,sl (A5 (Ag t)),lq (@Agy (t) A7 (e) Qn Aa)]) func123
end
def Rx(t:Tp):Int:=if C2 t=true then 1 else if Bg (fun s=>CJ (Bz s)) (Ag t)=0 then (if Ge (Ag t)=false then 4 else Bg Po (Dz t)) else 3
theorem rpT(t:Tp)(hs:A3 (AO t)<=100000000):Pu 123 [.agg (AO t)] (.ret (.int .i64 (Rx t))):=by
 have h1:=BY t
 have h2:=Pr.BS (Aq t)
 have hk:∀w:Pr,w∈Dz t->Pu 173 [.agg (AN w)] (.ret (.int .i64 (Hf w))):=fun w hw=>pcT w (by have:=Td hw; omega)
 have hn:(Ag t).length<=1000000000:=by have:=Ov (Ag t); have h8:Ah (Ae (Ag t))<A3 (AO t):=(by simp only [A3,CR]; omega); omega
 unfold Rx
 cases h0:C2 t with
 | true=>rw [iP rfl]; exact Aaa t hk oM hn h0
 | false=>
  rw [iN dD]
  by_cases h3:Bg (fun s=>CJ (Bz s)) (Ag t)=0
  ·rw [iP h3]
   cases h4:Ge (Ag t) with
   | false=>rw [iP rfl]; exact Aab t hk oM hn h0 h3 h4
   | true=>
    rw [iN dD]
    by_cases h5:Bg Po (Dz t)=0
    ·rw [h5]; exact Aad t hk oM hn h0 h3 h4 ((dQ _).1 h5)
    ·obtain ⟨w,e1,e2⟩:=(dQ _).2 h5
     rw [<-e2]; exact Aac t hk oM hn h0 h3 h4 w e1
  ·rw [iN h3]; exact Aae t hk oM hn h0 h3
abbrev sR(t:Tp)(pf:Tp->Int)(j:Int)(e:Ext):S:=S.mk [(2,A6 0),(13,vL 9 (Tp.cs (Ab t))),(14,A6 ((Ab t).length:Int)),(15,A6 j)] [] e
inductive MN where
 | e0 (el:Tp)
 | e1
def HR(pf:Tp->Int):List Tp->MN
 | []=>(MN.e1)
 | el::r=>(if pf el=0 then HR pf r  else (MN.e0 el))
def dS(t:Tp)(pf:Tp->Int)(e:Ext):MN->A4 × S
 | .e0 el=>(.ret,S.mk [(2,A6 (pf el)),(13,vL 9 (Tp.cs (Ab t))),(14,A6 ((Ab t).length:Int))] [] e)
 | .e1=>(.exit 0,S.mk [(2,A6 0),(13,vL 9 (Tp.cs (Ab t))),(14,A6 ((Ab t).length:Int))] [] e)
theorem dU(t:Tp)(pf:Tp->Int)(BM:∀w:Tp,w∈Ab t->Pu 71 [.agg (AO w)] (.ret (.int .i64 (pf w))))(Bk:A3 (AO t)<=100000000)(Gp:Rx t=0)(e:Ext)(hN:(Ab t).length<=1000000000):(Ob.loop 25 (Au f71 0) (sR t pf 0  e) (dS t pf e (HR pf ((Ab t)))).1 (dS t pf e (HR pf ((Ab t)))).2).ok prog:=by
 refine CL ((Ab t).length) (fun j _=>sR t pf j  e) (fun i _=>HR pf (List.drop i ((Ab t)))) (dS t pf e) (fun i _=>True) kR ?_ () trivial
 rintro i u hi -
 rcases Nat.lt_or_ge i ((Ab t).length) with Ac | Cm
 ·have hd:=At Ac
  by_cases h0:pf (List.getD (Ab t) i default)=0
  ·exact lN A9 [dt ((i:Int)<((Ab t).length:Int)),DH (Ab t) (i:Int),I5 (Ab t) i Ac,cl (@BM (List.getD (Ab t) i default) (by simp_all [Dc])),B1 h0,wr ((i:Int)+1)] Ac () trivial (by rw [hd,HR,iP h0])
  ·exact lX A9 [dt ((i:Int)<((Ab t).length:Int)),DH (Ab t) (i:Int),I5 (Ab t) i Ac,cl (@BM (List.getD (Ab t) i default) (by simp_all [Dc])),Bi h0] (MN.e0 (List.getD ((Ab t)) i default)) (by rw [hd,HR,iN h0])
 ·have he:i=(Ab t).length:=by omega
  exact lX A9 [df ((i:Int)<((Ab t).length:Int))] (MN.e1) (by rw [he,List.drop_length,HR])
theorem dV(pf:Tp->Int):∀l:List Tp,(Bg pf l=0->HR pf l = .e1)/\(¬Bg pf l=0->∃w,HR pf l = .e0 w/\pf w=Bg pf l)
 | []=>⟨fun _=>rfl,fun h=>absurd rfl h⟩
 | c::r=>by
  have ih:=dV pf r
  by_cases hp:pf c=0
  ·simp only [Bg,HR,hp,if_true]; exact ih
  ·simp only [Bg,HR,hp,if_false]
   exact ⟨fun h=>h.elim,fun _=>⟨c,rfl,rfl⟩⟩
section
variable (t:Tp) (pf:Tp->Int) (BM:∀w:Tp,w∈Ab t->Pu 71 [.agg (AO w)] (.ret (.int .i64 (pf w)))) (Bk:A3 (AO t)<=100000000) (Xf:(Ab t).length<=1000000000)
include t pf BM Bk Xf
theorem Aaf(A7:¬Rx t=0):Pu 71 [.agg (AO t)] (rI (Rx t)):=
 pm A9 [cl (@rpT (t) Bk),Bi A7] func71
theorem Aag(A7:Rx t=0)(I6:Tp)(Am:HR pf (Ab t)=MN.e0 I6):Pu 71 [.agg (AO t)] (rI (pf I6)):=
 pu A9 (fun e=>[cl (@rpT (t) Bk),B1 A7,sl (Tp.A0 (Ab t)),lq (rz (dU (t) (pf) BM Bk A7 (e) Xf) Am)]) func71
theorem Aah(A7:Rx t=0)(Aa:HR pf (Ab t)=MN.e1):Pu 71 [.agg (AO t)] (rI 0):=
 pu A9 (fun e=>[cl (@rpT (t) Bk),B1 A7,sl (Tp.A0 (Ab t)),lq (rz (dU (t) (pf) BM Bk A7 (e) Xf) Aa)]) func71
end
def XH:Nat->Tp->Int
 | 0,_=>0
 | d+1,t=>if Rx t=0 then Bg (XH d) (Ab t) else Rx t
theorem sS:∀ (d:Nat) (t:Tp),A3 (AO t)<d->d<=100000001->Pu 71 [.agg (AO t)] (.ret (.int .i64 (XH d t)))
 | 0,_,h,_=>by omega
 | d+1,t,h,hd=>by
  have h1:=BY t
  have h3:=Tp.BS (Ab t)
  have ht:∀w:Tp,w∈Ab t->Pu 71 [.agg (AO w)] (.ret (.int .i64 (XH d w))):=fun w hw=>sS d w (by have:=Tp.mem hw; omega) oM
  rw [XH]
  by_cases h0:Rx t=0
  ·rw [iP h0]
   by_cases h5:Bg (XH d) (Ab t)=0
   ·rw [h5]; exact Aah t _ ht oM oM h0 ((dV _ _).1 h5)
   ·obtain ⟨w,e1,e2⟩:=(dV _ _).2 h5
    rw [<-e2]; exact Aag t _ ht oM oM h0 w e1
  ·rw [iN h0]; exact Aaf t _ ht oM oM h0
def rsF(t:Tp):Int:=XH (A3 (AO t)+1) t
theorem rsT(t:Tp)(hs:A3 (AO t)<=100000000):Pu 71 [.agg (AO t)] (.ret (.int .i64 (rsF t))):=sS _ t oM oM
def DE(t:Tp):Int:=(if E5 t=0 then (rsF t) else (E5 t))
theorem rcS(t:Tp)(hs:A3 (AO t)<=100000000):Pu 33 [.agg (AO t)] (rI (DE t)):=by
 by_cases h0:E5 t=0
 ·simp only [DE,iP h0]; exact pm A9 [cl (@tyC (t) hs),B1 h0,cl (@rsT (t) hs)] func33
 ·simp only [DE,iN h0]; exact pm A9 [cl (@tyC (t) hs),Bi h0] func33
theorem rzr(u:Pr):Pu 177 [.agg (AN u)] (rB (C0 u)):=
 pm A9 [cl (@Agt (u))] func177
abbrev rpI(t:Tp)(xe:Ext):S:=⟨[(1,.lp 1 0),(2,.v (.int .i64 0))],[(1,Cz t)],xe⟩
section
variable (t:Tp) (xe:Ext)
include t xe
theorem Aai(A7:AB t=6)(Aa:C0 (AT t)=false)(cx:Cx)(Aw:cx.n=65){Q:A4->S->Prop}(hq:Q (.normal) (S.mk [(1,.lp 1 0),(2,A6 0),(27,.v (.bool true))] [(1,Cz t)] xe)):PW prog cx (AS f127 1) (rpI t xe) Q:=
 pw A9 65 [rp 3 (Bb A7),cl (@rzr (AT t)),rp 2 (Bb A7),rp 6 (AV (B0 Aa))] [1,2,27] [1] Aw hq
theorem Aaj(A7:AB t=6)(Aa:C0 (AT t)=true)(cx:Cx)(Aw:cx.n=65){Q:A4->S->Prop}(hq:Q (.normal) (S.mk [(1,.lp 1 0),(2,A6 0),(27,.v (.bool (decide (((Aq t).length:Int)>0))))] [(1,Cz t)] xe)):PW prog cx (AS f127 1) (rpI t xe) Q:=
 pw A9 65 [rp 3 (Bb A7),cl (@rzr (AT t)),rp 2 (Bb A7),rp 4 (AM (AI Aa)),rp 3 (nt (AB t) 4),sl (Pr.A0 (Aq t)),nt (AB t) 4,AM (AI Aa),nt (AB t) 4,AM (AI Aa)] [1,2,27] [1] Aw hq
theorem Aak(A7:¬AB t=6)(Aa:¬AB t=4)(cx:Cx)(Aw:cx.n=65){Q:A4->S->Prop}(hq:Q (.normal) (S.mk [(1,.lp 1 0),(2,A6 0),(27,.v (.bool (decide (((Aq t).length:Int)>0))))] [(1,Cz t)] xe)):PW prog cx (AS f127 1) (rpI t xe) Q:=
 pw A9 65 [rp 5 (Ay A7),rp 4 (bf false),rp 3 (Bi Aa),sl (Pr.A0 (Aq t)),Bi Aa,bf false,Bi Aa,bf false] [1,2,27] [1] Aw hq
theorem Aal(A7:¬AB t=6)(Aa:AB t=4)(cx:Cx)(Aw:cx.n=65){Q:A4->S->Prop}(hq:Q (.normal) (S.mk [(1,.lp 1 0),(2,A6 0),(27,.v (.bool false))] [(1,Cz t)] xe)):PW prog cx (AS f127 1) (rpI t xe) Q:=
 pw A9 65 [rp 5 (Ay A7),rp 4 (bf false),rp 4 (B1 Aa),bf false,B1 Aa,bf false] [1,2,27] [1] Aw hq
end
def Dn(t:Tp):Bool:=(if AB t=6 then (if C0 (AT t)=true then ((decide (((Aq t).length:Int)>0))) else (true)) else (if AB t=4 then (false) else ((decide (((Aq t).length:Int)>0)))))
theorem dW(t:Tp)(xe:Ext):(Ob.ES 65 (AS f127 1) (rpI t xe) (.normal) (S.mk [(1,.lp 1 0),(2,A6 0),(27,.v (.bool (Dn t)))] [(1,Cz t)] xe)).ok prog:=by
 intro cx Aw
 by_cases g0:AB t=6
 ·by_cases g1:C0 (AT t)=true
  ·exact Aaj t xe g0 g1 cx Aw ⟨rfl,by rw [show Dn t=((decide (((Aq t).length:Int)>0))) by unfold Dn; rw [iP g0,iP g1]]⟩
  ·exact Aai t xe g0 (Bool.eq_false_iff.2 g1) cx Aw ⟨rfl,by rw [show Dn t=(true) by unfold Dn; rw [iP g0,iN g1]]⟩
 ·by_cases g1:AB t=4
  ·exact Aal t xe g0 g1 cx Aw ⟨rfl,by rw [show Dn t=(false) by unfold Dn; rw [iN g0,iP g1]]⟩
  ·exact Aak t xe g0 g1 cx Aw ⟨rfl,by rw [show Dn t=((decide (((Aq t).length:Int)>0))) by unfold Dn; rw [iN g0,iN g1]]⟩
abbrev sU(t:Tp)(xe:Ext)(j:Int)   : S:=S.mk [(1,.lp 1 0),(2,A6 0),(29,vL 1 (Ae (Ag t))),(30,A6 ((Ag t).length:Int)),(31,A6 j)] [(1,Cz t)] xe
inductive K1 where
 | e0
 | e1
def G3  : List BA->K1
 | []=>(K1.e1)
 | el::r=>(if CJ (Bz el)=0 then G3  r  else (K1.e0))
def dX(t:Tp)(xe:Ext)  : K1->A4 × S
 | .e0=>(.ret,S.mk [(1,.lp 1 0),(2,A6 3),(29,vL 1 (Ae (Ag t))),(30,A6 ((Ag t).length:Int))] [(1,Cz t)] xe)
 | .e1=>(.exit 0,S.mk [(1,.lp 1 0),(2,A6 0),(29,vL 1 (Ae (Ag t))),(30,A6 ((Ag t).length:Int))] [(1,Cz t)] xe)
theorem Ry(t:Tp)(xe:Ext)(hN:(Ag t).length<=1000000000):(Ob.loop 65 (Au f127 0) (sU t xe 0) (dX t xe  (G3  ((Ag t)))).1 (dX t xe  (G3  ((Ag t)))).2).ok prog:=by
 refine CL ((Ag t).length) (fun j _=>sU t xe j) (fun i _=>G3  (List.drop i ((Ag t)))) (dX t xe) (fun i _=>True) kR ?_ () trivial
 rintro i u hi -
 rcases Nat.lt_or_ge i ((Ag t).length) with Ac | Cm
 ·have hd:=CU Ac
  by_cases h0:CJ (Bz (List.getD (Ag t) i Ai))=0
  ·exact lN A9 [dt ((i:Int)<((Ag t).length:Int)),CH (Ag t) (i:Int),DU (Ag t) i Ac,cl (@Ph (List.getD (Ag t) i Ai)),B1 h0,wr ((i:Int)+1)] Ac () trivial (by rw [hd,G3,iP h0])
  ·exact lX A9 [dt ((i:Int)<((Ag t).length:Int)),CH (Ag t) (i:Int),DU (Ag t) i Ac,cl (@Ph (List.getD (Ag t) i Ai)),Bi h0] (K1.e0) (by rw [hd,G3,iN h0])
 ·have he:i=(Ag t).length:=by omega
  exact lX A9 [df ((i:Int)<((Ag t).length:Int))] (K1.e1) (by rw [he,List.drop_length,G3])
abbrev sV(t:Tp)(xe:Ext)(j:Int)   : S:=S.mk [(2,A6 0),(48,.uniq 41 4 (AN (AT t)::Pr.cs (Aq t))),(49,A6 ((Dz t).length:Int)),(50,A6 j)] [] xe
inductive MO where
 | e0 (el:Pr)
 | e1
def G4  : List Pr->MO
 | []=>(MO.e1)
 | el::r=>(if C0 el=false then (if Hf el=0 then G4  r  else (MO.e0 el)) else G4  r)
def dY(t:Tp)(xe:Ext)  : MO->A4 × S
 | .e0 el=>(.ret,S.mk [(2,A6 (Hf el)),(48,.uniq 41 4 (AN (AT t)::Pr.cs (Aq t))),(49,A6 ((Dz t).length:Int))] [] xe)
 | .e1=>(.exit 2,S.mk [(2,A6 0),(48,.uniq 41 4 (AN (AT t)::Pr.cs (Aq t))),(49,A6 ((Dz t).length:Int))] [] xe)
theorem dZ(t:Tp)(xe:Ext)(BM:∀w:Pr,w∈Dz t->Pu 98 [.agg (AN w)] (.ret (.int .i64 (Hf w))))(hN:(Dz t).length<=1000000000):(Ob.loop 65 (Au f127 1) (sV t xe 0) (dY t xe  (G4  ((Dz t)))).1 (dY t xe  (G4  ((Dz t)))).2).ok prog:=by
 refine CL ((Dz t).length) (fun j _=>sV t xe j) (fun i _=>G4  (List.drop i ((Dz t)))) (dY t xe) (fun i _=>True) kR ?_ () trivial
 rintro i u hi -
 rcases Nat.lt_or_ge i ((Dz t).length) with Ac | Cm
 ·have hd:=At Ac
  by_cases h0:C0 (List.getD (Dz t) i default)=false
  ·by_cases h1:Hf (List.getD (Dz t) i default)=0
   ·exact lN A9 [dt ((i:Int)<((Dz t).length:Int)),am ((0:Int)<=(i:Int)/\(i:Int)<((AN (AT t)::Pr.cs (Aq t)).length:Int)) (by (simp only [List.length_append,List.length_cons,List.length_nil,Pr.A0,Int.toNat_natCast,Bool.cond_true_left,Bool.cond_false_right,Int.toNat_zero,Dc,Fc,Fe]; omega)),ar (List.getD (AN (AT t)::Pr.cs (Aq t)) (Int.toNat (i:Int)) []) (AN (List.getD (Dz t) i default)) (by simp only [Int.toNat_natCast,Int.toNat_zero]; rw [@Ma (t) (i) Ac]; try rfl),cl (@BM (List.getD (Dz t) i default) (by simp_all [Dc,Fc,Fe])),cl (@rzr (List.getD (Dz t) i default)),rp 3 (AV (B0 h0)),B1 h1,wr ((i:Int)+1)] Ac () trivial (by rw [hd,G4,iP h0,iP h1])
   ·exact lX A9 [dt ((i:Int)<((Dz t).length:Int)),am ((0:Int)<=(i:Int)/\(i:Int)<((AN (AT t)::Pr.cs (Aq t)).length:Int)) (by (simp only [List.length_append,List.length_cons,List.length_nil,Pr.A0,Int.toNat_natCast,Bool.cond_true_left,Bool.cond_false_right,Int.toNat_zero,Dc,Fc,Fe]; omega)),ar (List.getD (AN (AT t)::Pr.cs (Aq t)) (Int.toNat (i:Int)) []) (AN (List.getD (Dz t) i default)) (by simp only [Int.toNat_natCast,Int.toNat_zero]; rw [@Ma (t) (i) Ac]; try rfl),cl (@BM (List.getD (Dz t) i default) (by simp_all [Dc,Fc,Fe])),cl (@rzr (List.getD (Dz t) i default)),rp 3 (AV (B0 h0)),Bi h1] (MO.e0 (List.getD ((Dz t)) i default)) (by rw [hd,G4,iP h0,iN h1])
  ·exact lN A9 [dt ((i:Int)<((Dz t).length:Int)),am ((0:Int)<=(i:Int)/\(i:Int)<((AN (AT t)::Pr.cs (Aq t)).length:Int)) (by (simp only [List.length_append,List.length_cons,List.length_nil,Pr.A0,Int.toNat_natCast,Bool.cond_true_left,Bool.cond_false_right,Int.toNat_zero,Dc,Fc,Fe]; omega)),ar (List.getD (AN (AT t)::Pr.cs (Aq t)) (Int.toNat (i:Int)) []) (AN (List.getD (Dz t) i default)) (by simp only [Int.toNat_natCast,Int.toNat_zero]; rw [@Ma (t) (i) Ac]; try rfl),cl (@BM (List.getD (Dz t) i default) (by simp_all [Dc,Fc,Fe])),cl (@rzr (List.getD (Dz t) i default)),rp 3 (AM (AI (JQ h0))),bf false,wr ((i:Int)+1)] Ac () trivial (by rw [hd,G4,iN h0])
 ·have he:i=(Dz t).length:=by omega
  exact lX A9 [df ((i:Int)<((Dz t).length:Int))] (MO.e1) (by rw [he,List.drop_length,G4])
def mdE:Md:=⟨fun _=>some false,fun t=>t==1000001⟩
section
variable (t:Tp) (BM:∀w:Pr,w∈Dz t->Pu 98 [.agg (AN w)] (.ret (.int .i64 (Hf w)))) (Uw:(Aq t).length<=100000000) (Qn:(Ag t).length<=1000000000)
include t BM Uw Qn
theorem Aam(A7:Dn t=true):Pu 127 [.agg (AO t)] (rI 1):=
 pu mdE (fun e=>[lg (@dW (t) (e)),AV A7]) func127
theorem Aan(A7:Dn t=false)(Aa:G3 (Ag t)=K1.e0):Pu 127 [.agg (AO t)] (rI 3):=
 pu mdE (fun e=>[lg (@dW (t) (e)),AM A7,sl (A5 (Ag t)),lq (rz (Ry (t) (e) Qn) Aa)]) func127
theorem Aao(A7:Dn t=false)(Aa:G3 (Ag t)=K1.e1)(Am:Ge (Ag t)=false):Pu 127 [.agg (AO t)] (rI 4):=
 pu mdE (fun e=>[lg (@dW (t) (e)),AM A7,sl (A5 (Ag t)),lq (rz (Ry (t) (e) Qn) Aa),cl (@A13 (Ag t) Qn),AV (B0 Am)]) func127
theorem Aap(A7:Dn t=false)(Aa:G3 (Ag t)=K1.e1)(Am:Ge (Ag t)=true)(dR:Pr)(AP:G4 (Dz t)=MO.e0 dR):Pu 127 [.agg (AO t)] (rI (Hf dR)):=
 pu mdE (fun e=>[lg (@dW (t) (e)),AM A7,sl (A5 (Ag t)),lq (rz (Ry (t) (e) Qn) Aa),cl (@A13 (Ag t) Qn),AM (AI Am),am (List.length ([AN (AT t)]++(fun x=>Prod.snd x) (4,Pr.cs (Aq t))) * (55+1)<=140737488355328) (by (simp only [List.length_append,List.length_cons,List.length_nil,Pr.A0]; omega)),ai (↑((fun x=>List.length (Prod.snd x)) (3+1,[AN (AT t)]++(fun x=>Prod.snd x) (4,Pr.cs (Aq t)))):Int) ((Dz t).length:Int) (by (simp only [List.length_append,List.length_cons,List.length_nil,Pr.A0,Fc,Fe]; done)),lp (S.mk [(2,A6 0),(48,.uniq 41 4 (AN (AT t)::List.append [] (Pr.cs (Aq t)))),(49,A6 ((Dz t).length:Int)),(50,A6 0)] [] e) (rz (dZ (t) (e) BM (by (apply Rw <;> first | assumption | omega | decide))) AP) ⟨⟨W,(by first | exact .inl rfl | exact .inr ⟨rfl,rfl⟩ | exact .inr rfl | exact .inr trivial | exact .inl (by first | (simp only [List.nil_append,AK,AF,Pr.A1,Tp.A1,Ex.A1,Vr.A1,Df.A1]; done) | (simp only [List.nil_append,AK,AF,Pr.A1,Tp.A1,Ex.A1,Vr.A1,Df.A1]; rfl))),W,W,B7⟩,trivial,rfl⟩]) func127
theorem Aaq(A7:Dn t=false)(Aa:G3 (Ag t)=K1.e1)(Am:Ge (Ag t)=true)(Az:G4 (Dz t)=MO.e1):Pu 127 [.agg (AO t)] (rI 0):=
 pu mdE (fun e=>[lg (@dW (t) (e)),AM A7,sl (A5 (Ag t)),lq (rz (Ry (t) (e) Qn) Aa),cl (@A13 (Ag t) Qn),AM (AI Am),am (List.length ([AN (AT t)]++(fun x=>Prod.snd x) (4,Pr.cs (Aq t))) * (55+1)<=140737488355328) (by (simp only [List.length_append,List.length_cons,List.length_nil,Pr.A0]; omega)),ai (↑((fun x=>List.length (Prod.snd x)) (3+1,[AN (AT t)]++(fun x=>Prod.snd x) (4,Pr.cs (Aq t)))):Int) ((Dz t).length:Int) (by (simp only [List.length_append,List.length_cons,List.length_nil,Pr.A0,Fc,Fe]; done)),lp (S.mk [(2,A6 0),(48,.uniq 41 4 (AN (AT t)::List.append [] (Pr.cs (Aq t)))),(49,A6 ((Dz t).length:Int)),(50,A6 0)] [] e) (rz (dZ (t) (e) BM (by (apply Rw <;> first | assumption | omega | decide))) Az) ⟨⟨W,(by first | exact .inl rfl | exact .inr ⟨rfl,rfl⟩ | exact .inr rfl | exact .inr trivial | exact .inl (by first | (simp only [List.nil_append,AK,AF,Pr.A1,Tp.A1,Ex.A1,Vr.A1,Df.A1]; done) | (simp only [List.nil_append,AK,AF,Pr.A1,Tp.A1,Ex.A1,Vr.A1,Df.A1]; rfl))),W,W,B7⟩,trivial,rfl⟩]) func127
end
theorem eA:∀l:List BA,G3 l=if Bg (fun s=>CJ (Bz s)) l=0 then .e1 else .e0
 | []=>by simp [G3,Bg]
 | c::r=>by
  by_cases h:CJ (Bz c)=0
  ·simp [G3,Bg,h,eA r]
  ·simp [G3,Bg,h]
theorem eB:∀l:List Pr,(Bg Po l=0->G4 l = .e1)/\(¬Bg Po l=0->∃w,G4 l = .e0 w/\Hf w=Bg Po l)
 | []=>⟨fun _=>rfl,fun h=>absurd rfl h⟩
 | c::r=>by
  have ih:=eB r
  by_cases hz:C0 c=true
  ·have e:Po c=0:=by unfold Po; rw [iP hz]
   have UX:¬C0 c=false:=by rw [hz]; decide
   simp only [Bg,G4,e,UX,if_true,if_false]; exact ih
  ·have UX:C0 c=false:=by cases h:C0 c <;> simp_all
   by_cases hp:Hf c=0
   ·have e:Po c=0:=by unfold Po; rw [iN hz,hp]
    simp only [Bg,G4,e,UX,hp,if_true]; exact ih
   ·have e:Po c=Hf c:=by unfold Po; rw [iN hz]
    simp only [Bg,G4,e,UX,hp,if_false,if_true]
    exact ⟨fun h=>h.elim,fun _=>⟨c,rfl,rfl⟩⟩
theorem Aar(t:Tp):Dn t=C2 t:=by
 unfold Dn C2
 by_cases h:((Aq t).length:Int)>0 <;> simp [h]
abbrev Aas(l:List BA)(a:BA)(j:Int)(e:Ext):S:=S.mk [(1,.v (.ro [.str a] 0)),(6,vL 1 (Ae l)),(7,A6 (l.length:Int)),(8,A6 j)] [] e
inductive Te where
 | e0
 | e1
def Mb(a:BA):List BA->Te
 | []=>(Te.e1)
 | el::r=>(if el=a then Mb a r  else (Te.e0))
def A39(l:List BA)(a:BA)(e:Ext):Te->A4 × S
 | .e0=>(.ret,S.mk [(1,.v (.ro [.str a] 0)),(6,vL 1 (Ae l)),(7,A6 (l.length:Int)),(3,.v (.bool false))] [] e)
 | .e1=>(.exit 0,S.mk [(1,.v (.ro [.str a] 0)),(6,vL 1 (Ae l)),(7,A6 (l.length:Int))] [] e)
theorem sW(l:List BA)(a:BA)(e:Ext)(hN:l.length<=1000000000):(Ob.loop 16 (Au f293 0) (Aas l a 0  e) (A39 l a e (Mb a (l))).1 (A39 l a e (Mb a (l))).2).ok prog:=by
 refine CL l.length (fun j _=>Aas l a j  e) (fun i _=>Mb a (List.drop i (l))) (A39 l a e) (fun i _=>True) kR ?_ () trivial
 rintro i u hi -
 rcases Nat.lt_or_ge i (l.length) with Ac | Cm
 ·have hd:=CU Ac
  by_cases h0:List.getD l i Ai=a
  ·exact lN A9 [dt ((i:Int)<(l.length:Int)),CH l (i:Int),DU l i Ac,bf (!ByteArray.toList (List.getD l i Ai)==ByteArray.toList a) (AI (BI h0)),wr ((i:Int)+1)] Ac () trivial (by rw [hd,Mb,iP h0])
  ·exact lX A9 [dt ((i:Int)<(l.length:Int)),CH l (i:Int),DU l i Ac,bt (!ByteArray.toList (List.getD l i Ai)==ByteArray.toList a) (B0 (Bp h0))] (Te.e0) (by rw [hd,Mb,iN h0])
 ·have he:i=l.length:=by omega
  exact lX A9 [df ((i:Int)<(l.length:Int))] (Te.e1) (by rw [he,List.drop_length,Mb])
def Ck(a:BA)(l:List BA):Bool:=l.all fun b=>decide (b=a)
theorem eC(a:BA):∀l:List BA,Mb a l=if Ck a l=true then .e1 else .e0
 | []=>by simp [Mb,Ck]
 | c::r=>by
  by_cases h:c=a
  ·simp [Mb,Ck,h,eC a r]
  ·simp [Mb,Ck,h]
section
variable (l:List BA) (a:BA) (hN:l.length<=1000000000)
include l a hN
theorem sX(A7:Mb a l=Te.e0):Pu 293 [.sl 1 (Ae l),.ro [.str a] 0] (rB false):=
 pu A9 (fun e=>[sl (A5 l),lq (rz (sW (l) (a) (e) hN) A7)]) func293
theorem sY(A7:Mb a l=Te.e1):Pu 293 [.sl 1 (Ae l),.ro [.str a] 0] (rB true):=
 pu A9 (fun e=>[sl (A5 l),lq (rz (sW (l) (a) (e) hN) A7)]) func293
end
theorem VT(l:List BA)(a:BA)(hN:l.length<=1000000000):Pu 293 [.sl 1 (Ae l),.ro [.str a] 0] (.ret (.bool (Ck a l))):=by
 cases h:Ck a l with
 | true=>first | exact sY l a hN (by rw [eC,iP h]) | exact sX l a hN (by rw [eC,iP h])
 | false=>first | exact sX l a hN (by rw [eC,iN (by rw [h]; decide)]) | exact sY l a hN (by rw [eC,iN (by rw [h]; decide)])
theorem q2{l:List BA}(h:2<=l.length):(0:Int)<=0/\(0:Int)<(l.length:Int):=by omega
theorem q3{l:List BA}(h:2<=l.length):(0:Int)<=1/\(1:Int)<(l.length:Int):=by omega
theorem q4{l:List BA}(h:2<=l.length):0<l.length:=by omega
theorem q5{l:List BA}(h:2<=l.length):1<l.length:=by omega
theorem eq2(l:List BA)(h2:2<=l.length):Pu 276 [.sl 1 (Ae l)] (rB (ByteArray.toList (List.getD l 0 Ai)==ByteArray.toList (List.getD l 1 Ai))):=
 pm A9 [CH l 0,DU l 0,CH l 1,DU l 1] func276
theorem spl(a:BA):Pu 273 [.str a] (rB (ByteArray.toList a==ByteArray.toList (ByteArray.mk #[73,110,116])||ByteArray.toList a==ByteArray.toList (ByteArray.mk #[66,111,111,108])||ByteArray.toList a==ByteArray.toList (ByteArray.mk #[67,101,108,108]))):=
 pm A9 [mg,av (.v (.bool (bif ByteArray.toList a==ByteArray.toList (ByteArray.mk #[73,110,116]) then true else ByteArray.toList a==ByteArray.toList (ByteArray.mk #[66,111,111,108])))) (.v (.bool (ByteArray.toList a==ByteArray.toList (ByteArray.mk #[73,110,116])||ByteArray.toList a==ByteArray.toList (ByteArray.mk #[66,111,111,108])))) rF,mg,av (.v (.bool (bif ByteArray.toList a==ByteArray.toList (ByteArray.mk #[73,110,116])||ByteArray.toList a==ByteArray.toList (ByteArray.mk #[66,111,111,108]) then true else ByteArray.toList a==ByteArray.toList (ByteArray.mk #[67,101,108,108])))) (.v (.bool (ByteArray.toList a==ByteArray.toList (ByteArray.mk #[73,110,116])||ByteArray.toList a==ByteArray.toList (ByteArray.mk #[66,111,111,108])||ByteArray.toList a==ByteArray.toList (ByteArray.mk #[67,101,108,108])))) rF] func273
abbrev Qo(v:Nv)(name:BA)(l:List BA)(j:Int)(e:Ext):S:=S.mk [(8,.lp 8 0),(37,vL 1 (Ae l)),(38,A6 (l.length:Int)),(39,A6 j)] [(8,syV (EV v name))] e
inductive Iw where
 | e0
 | e1
def HS(v:Nv)(name:BA):List BA->Nat->Iw
 | [],i=>(Iw.e1)
 | el::r,i=>(if el=List.getD (DW (EV v name)) i Ai then HS v name r (i+1)  else (Iw.e0))
def Jg(v:Nv)(name:BA)(l:List BA)(e:Ext):Iw->A4 × S
 | .e0=>(.ret,S.mk [(8,.lp 8 0),(37,vL 1 (Ae l)),(38,A6 (l.length:Int)),(6,vS Ai),(7,A6 11)] [(8,syV (EV v name))] e)
 | .e1=>(.exit 0,S.mk [(8,.lp 8 0),(37,vL 1 (Ae l)),(38,A6 (l.length:Int))] [(8,syV (EV v name))] e)
theorem eD(v:Nv)(name:BA)(l:List BA)(hS:∀w∈BV v,(DW w).length<=1000000000)(KI:(BV v).length<=1000000000)(RL:Lz v name=true)(Gp:¬name=ByteArray.mk #[116,97,103])(hlen:(l.length:Int)=((DW (EV v name)).length:Int))(e:Ext)(hN:l.length<=1000000000):(Ob.loop 54 (Au f228 0) (Qo v name l 0  e) (Jg v name l e (HS v name (l) 0)).1 (Jg v name l e (HS v name (l) 0)).2).ok prog:=by
 refine CL l.length (fun j _=>Qo v name l j  e) (fun i _=>HS v name (List.drop i (l)) i) (Jg v name l e) (fun i _=>True) kR ?_ () trivial
 rintro i u hi -
 rcases Nat.lt_or_ge i (l.length) with Ac | Cm
 ·have hd:=CU Ac
  by_cases h0:List.getD l i Ai=List.getD (DW (EV v name)) i Ai
  ·exact lN A9 [dt ((i:Int)<(l.length:Int)),CH l (i:Int),DU l i Ac,CH (DW (EV v name)) (i:Int),DU (DW (EV v name)) i oM,bf (!ByteArray.toList (List.getD l i Ai)==ByteArray.toList (List.getD (DW (EV v name)) i Ai)) (AI (BI h0)),wr ((i:Int)+1)] Ac () trivial (by rw [hd,HS,iP h0])
  ·exact lX A9 [dt ((i:Int)<(l.length:Int)),CH l (i:Int),DU l i Ac,CH (DW (EV v name)) (i:Int),DU (DW (EV v name)) i oM,bt (!ByteArray.toList (List.getD l i Ai)==ByteArray.toList (List.getD (DW (EV v name)) i Ai)) (B0 (Bp h0))] (Iw.e0) (by rw [hd,HS,iN h0])
 ·have he:i=l.length:=by omega
  exact lX A9 [df ((i:Int)<(l.length:Int))] (Iw.e1) (by rw [he,List.drop_length,HS])
theorem Aat(v:Nv)(name:BA)(l:List BA)(hS:∀w∈BV v,(DW w).length<=1000000000)(KI:(BV v).length<=1000000000)(RL:Lz v name=true)(Gp:¬name=ByteArray.mk #[116,97,103])(hlen:(l.length:Int)=((DW (EV v name)).length:Int))(e:Ext)(hN:l.length<=1000000000)(Be:(HS v name (l) 0)=(Iw.e0)):(Ob.loop 54 (Au f228 0) (Qo v name l 0  e) (Jg v name l e (Iw.e0)).1 (Jg v name l e (Iw.e0)).2).ok prog:=
 rz (eD v name l hS KI RL Gp hlen e hN) Be
theorem Aau(v:Nv)(name:BA)(l:List BA)(hS:∀w∈BV v,(DW w).length<=1000000000)(KI:(BV v).length<=1000000000)(RL:Lz v name=true)(Gp:¬name=ByteArray.mk #[116,97,103])(hlen:(l.length:Int)=((DW (EV v name)).length:Int))(e:Ext)(hN:l.length<=1000000000)(Be:(HS v name (l) 0)=(Iw.e1)):(Ob.loop 54 (Au f228 0) (Qo v name l 0  e) (Jg v name l e (Iw.e1)).1 (Jg v name l e (Iw.e1)).2).ok prog:=
 rz (eD v name l hS KI RL Gp hlen e hN) Be
theorem eE(v:Nv)(name:BA):∀ (l:List BA) (i:Nat),l.length+i=(DW (EV v name)).length->HS v name l i=if l=(DW (EV v name)).drop i then .e1 else .e0
 | [],i,h=>by
  have:(DW (EV v name)).drop i=[]:=List.drop_eq_nil_of_le (by simp at h; omega)
  rw [this]; simp [HS]
 | c::r,i,h=>by
  have hi:i<(DW (EV v name)).length:=by simp at h; omega
  have ih:=eE v name r (i+1) (by simp at h; omega)
  rw [CU hi]
  by_cases hc:c=(DW (EV v name)).getD i Ai
  ·simp only [HS,hc,List.cons.injEq,true_and,if_true,not_true_eq_false,if_false]; exact ih
  ·simp only [HS,hc,List.cons.injEq,false_and,if_false,not_false_eq_true,if_true]
abbrev Qp(v:Nv)(name:BA)(l:List BA)(j:Int)(e:Ext):S:=S.mk [(8,.lp 8 0),(26,vL 1 (Ae l)),(27,A6 (l.length:Int)),(28,A6 j)] [(8,pY (AQ Bj name (Bd v)))] e
inductive Iy where
 | e0
 | e1
def HT(v:Nv)(name:BA):List BA->Nat->Iy
 | [],i=>(Iy.e1)
 | el::r,i=>(if el=CD (List.getD (E0 (AQ Bj name (Bd v))) i default) then HT v name r (i+1)  else (Iy.e0))
def Jh(v:Nv)(name:BA)(l:List BA)(e:Ext):Iy->A4 × S
 | .e0=>(.ret,S.mk [(8,.lp 8 0),(26,vL 1 (Ae l)),(27,A6 (l.length:Int)),(6,vS Ai),(7,A6 11)] [(8,pY (AQ Bj name (Bd v)))] e)
 | .e1=>(.exit 0,S.mk [(8,.lp 8 0),(26,vL 1 (Ae l)),(27,A6 (l.length:Int))] [(8,pY (AQ Bj name (Bd v)))] e)
theorem eF(v:Nv)(name:BA)(l:List BA)(hH:∀w∈Bd v,(E0 w).length<=1000000000)(Pp:(Bd v).length<=1000000000)(RL:Dx Bj name (Bd v)=true)(hlen:(l.length:Int)=((E0 (AQ Bj name (Bd v))).length:Int))(e:Ext)(hN:l.length<=1000000000):(Ob.loop 42 (Au f229 0) (Qp v name l 0  e) (Jh v name l e (HT v name (l) 0)).1 (Jh v name l e (HT v name (l) 0)).2).ok prog:=by
 refine CL l.length (fun j _=>Qp v name l j  e) (fun i _=>HT v name (List.drop i (l)) i) (Jh v name l e) (fun i _=>True) kR ?_ () trivial
 rintro i u hi -
 rcases Nat.lt_or_ge i (l.length) with Ac | Cm
 ·have hd:=CU Ac
  by_cases h0:List.getD l i Ai=CD (List.getD (E0 (AQ Bj name (Bd v))) i default)
  ·exact lN A9 [dt ((i:Int)<(l.length:Int)),CH l (i:Int),DU l i Ac,D2 (E0 (AQ Bj name (Bd v))) (i:Int),Gn (E0 (AQ Bj name (Bd v))) i oM,bf (!ByteArray.toList (List.getD l i Ai)==ByteArray.toList (CD (List.getD (E0 (AQ Bj name (Bd v))) i default))) (AI (BI h0)),wr ((i:Int)+1)] Ac () trivial (by rw [hd,HT,iP h0])
  ·exact lX A9 [dt ((i:Int)<(l.length:Int)),CH l (i:Int),DU l i Ac,D2 (E0 (AQ Bj name (Bd v))) (i:Int),Gn (E0 (AQ Bj name (Bd v))) i oM,bt (!ByteArray.toList (List.getD l i Ai)==ByteArray.toList (CD (List.getD (E0 (AQ Bj name (Bd v))) i default))) (B0 (Bp h0))] (Iy.e0) (by rw [hd,HT,iN h0])
 ·have he:i=l.length:=by omega
  exact lX A9 [df ((i:Int)<(l.length:Int))] (Iy.e1) (by rw [he,List.drop_length,HT])
theorem Aav(v:Nv)(name:BA)(l:List BA)(hH:∀w∈Bd v,(E0 w).length<=1000000000)(Pp:(Bd v).length<=1000000000)(RL:Dx Bj name (Bd v)=true)(hlen:(l.length:Int)=((E0 (AQ Bj name (Bd v))).length:Int))(e:Ext)(hN:l.length<=1000000000)(Be:(HT v name (l) 0)=(Iy.e0)):(Ob.loop 42 (Au f229 0) (Qp v name l 0  e) (Jh v name l e (Iy.e0)).1 (Jh v name l e (Iy.e0)).2).ok prog:=
 rz (eF v name l hH Pp RL hlen e hN) Be
theorem Aaw(v:Nv)(name:BA)(l:List BA)(hH:∀w∈Bd v,(E0 w).length<=1000000000)(Pp:(Bd v).length<=1000000000)(RL:Dx Bj name (Bd v)=true)(hlen:(l.length:Int)=((E0 (AQ Bj name (Bd v))).length:Int))(e:Ext)(hN:l.length<=1000000000)(Be:(HT v name (l) 0)=(Iy.e1)):(Ob.loop 42 (Au f229 0) (Qp v name l 0  e) (Jh v name l e (Iy.e1)).1 (Jh v name l e (Iy.e1)).2).ok prog:=
 rz (eF v name l hH Pp RL hlen e hN) Be
theorem eG(v:Nv)(name:BA):∀ (l:List BA) (i:Nat),l.length+i=(E0 (AQ Bj name (Bd v))).length->HT v name l i=if l=((E0 (AQ Bj name (Bd v))).drop i).map CD then .e1 else .e0
 | [],i,h=>by
  have:(E0 (AQ Bj name (Bd v))).drop i=[]:=List.drop_eq_nil_of_le (by simp at h; omega)
  rw [this]; simp [HT]
 | c::r,i,h=>by
  have hi:i<(E0 (AQ Bj name (Bd v))).length:=by simp at h; omega
  have ih:=eG v name r (i+1) (by simp at h; omega)
  rw [At hi,List.map_cons]
  by_cases hc:c=CD ((E0 (AQ Bj name (Bd v))).getD i default)
  ·simp only [HT,hc,List.cons.injEq,true_and,if_true,not_true_eq_false,if_false]; exact ih
  ·simp only [HT,hc,List.cons.injEq,false_and,if_false,not_false_eq_true,if_true]
theorem apG(v:Nv)(name:BA)(l:List BA)(hS:∀w∈BV v,(DW w).length<=1000000000)(KI:(BV v).length<=1000000000)(RL:Lz v name=true)(Gp:¬name=ByteArray.mk #[116,97,103])(hlen:(l.length:Int)=((DW (EV v name)).length:Int))(e:Ext)(hN:l.length<=1000000000)(hx:l=DW (EV v name)):(Ob.loop 54 (Au f228 0) (Qo v name l 0 e) (Jg v name l e .e1).1 (Jg v name l e .e1).2).ok prog:=
 Aau v name l hS KI RL Gp hlen e hN (by rw [eE v name l 0 oM,List.drop_zero,iP hx])
theorem apB(v:Nv)(name:BA)(l:List BA)(hS:∀w∈BV v,(DW w).length<=1000000000)(KI:(BV v).length<=1000000000)(RL:Lz v name=true)(Gp:¬name=ByteArray.mk #[116,97,103])(hlen:(l.length:Int)=((DW (EV v name)).length:Int))(e:Ext)(hN:l.length<=1000000000)(hx:¬l=DW (EV v name)):(Ob.loop 54 (Au f228 0) (Qo v name l 0 e) (Jg v name l e .e0).1 (Jg v name l e .e0).2).ok prog:=
 Aat v name l hS KI RL Gp hlen e hN (by rw [eE v name l 0 oM,List.drop_zero,iN hx])
theorem fiG(v:Nv)(name:BA)(l:List BA)(hH:∀w∈Bd v,(E0 w).length<=1000000000)(Pp:(Bd v).length<=1000000000)(RL:Dx Bj name (Bd v)=true)(hlen:(l.length:Int)=((E0 (AQ Bj name (Bd v))).length:Int))(e:Ext)(hN:l.length<=1000000000)(hx:l=(E0 (AQ Bj name (Bd v))).map CD):(Ob.loop 42 (Au f229 0) (Qp v name l 0 e) (Jh v name l e .e1).1 (Jh v name l e .e1).2).ok prog:=
 Aaw v name l hH Pp RL hlen e hN (by rw [eG v name l 0 oM,List.drop_zero,iP hx])
theorem fiB(v:Nv)(name:BA)(l:List BA)(hH:∀w∈Bd v,(E0 w).length<=1000000000)(Pp:(Bd v).length<=1000000000)(RL:Dx Bj name (Bd v)=true)(hlen:(l.length:Int)=((E0 (AQ Bj name (Bd v))).length:Int))(e:Ext)(hN:l.length<=1000000000)(hx:¬l=(E0 (AQ Bj name (Bd v))).map CD):(Ob.loop 42 (Au f229 0) (Qp v name l 0 e) (Jh v name l e .e0).1 (Jh v name l e .e0).2).ok prog:=
 Aav v name l hH Pp RL hlen e hN (by rw [eG v name l 0 oM,List.drop_zero,iN hx])
section
variable (v:Nv) (name:BA) (l:List BA) (hS:∀w∈BV v,(DW w).length<=1000000000) (KI:(BV v).length<=1000000000) (Br:l.length<=1000000000)
include v name l hS KI Br
theorem Aax(A7:Lz v name=false):Pu 228 [.agg (BP v),.str name,.sl 1 (Ae l)] (.ret (.Bf [.str Ai,pI 5])):=
 pm A9 [cl (@fdT (v) (name) hS KI),AV (B0 A7)] func228
theorem Aay(A7:Lz v name=true)(Aa:name=ByteArray.mk #[116,97,103])(Am:¬(l.length:Int)=1):Pu 228 [.agg (BP v),.str name,.sl 1 (Ae l)] (.ret (.Bf [.str Ai,pI 13])):=
 pm A9 [cl (@fdT (v) (name) hS KI),AM (AI A7),bt (ByteArray.toList name==ByteArray.toList (ByteArray.mk #[116,97,103])) (BI Aa),sl (A5 l),Bi Am] func228
theorem Aaz(A7:Lz v name=true)(Aa:name=ByteArray.mk #[116,97,103])(Am:(l.length:Int)=1)(Az:(ByteArray.toList (List.getD l 0 Ai)==ByteArray.toList (ByteArray.mk #[73,110,116])||ByteArray.toList (List.getD l 0 Ai)==ByteArray.toList (ByteArray.mk #[66,111,111,108])||ByteArray.toList (List.getD l 0 Ai)==ByteArray.toList (ByteArray.mk #[67,101,108,108]))=true):Pu 228 [.agg (BP v),.str name,.sl 1 (Ae l)] (.ret (.Bf [.str Ai,pI 11])):=
 pm A9 [cl (@fdT (v) (name) hS KI),AM (AI A7),bt (ByteArray.toList name==ByteArray.toList (ByteArray.mk #[116,97,103])) (BI Aa),sl (A5 l),B1 Am,CH l 0,DU l 0,cl (@spl (List.getD l 0 Ai)),AV Az] func228
theorem Ab0(A7:Lz v name=true)(Aa:name=ByteArray.mk #[116,97,103])(Am:(l.length:Int)=1)(Az:(ByteArray.toList (List.getD l 0 Ai)==ByteArray.toList (ByteArray.mk #[73,110,116])||ByteArray.toList (List.getD l 0 Ai)==ByteArray.toList (ByteArray.mk #[66,111,111,108])||ByteArray.toList (List.getD l 0 Ai)==ByteArray.toList (ByteArray.mk #[67,101,108,108]))=false):Pu 228 [.agg (BP v),.str name,.sl 1 (Ae l)] (.ret (.Bf [.str (pQ (EV v name)),pI 0])):=
 pm A9 [cl (@fdT (v) (name) hS KI),AM (AI A7),bt (ByteArray.toList name==ByteArray.toList (ByteArray.mk #[116,97,103])) (BI Aa),sl (A5 l),B1 Am,CH l 0,DU l 0,cl (@spl (List.getD l 0 Ai)),AM Az] func228
theorem Ab1(A7:Lz v name=true)(Aa:¬name=ByteArray.mk #[116,97,103])(Am:¬(l.length:Int)=((DW (EV v name)).length:Int)):Pu 228 [.agg (BP v),.str name,.sl 1 (Ae l)] (.ret (.Bf [.str Ai,pI 13])):=
 pm A9 [cl (@fdT (v) (name) hS KI),AM (AI A7),bf (ByteArray.toList name==ByteArray.toList (ByteArray.mk #[116,97,103])) (Bp Aa),sl (A5 l),sl (A5 (DW (EV v name))),Bi Am] func228
theorem Ab2(A7:Lz v name=true)(Aa:¬name=ByteArray.mk #[116,97,103])(Am:(l.length:Int)=((DW (EV v name)).length:Int))(Az:l=DW (EV v name)):Pu 228 [.agg (BP v),.str name,.sl 1 (Ae l)] (.ret (.Bf [.str (pQ (EV v name)),pI 0])):=
 pu A9 (fun e=>[cl (@fdT (v) (name) hS KI),AM (AI A7),bf (ByteArray.toList name==ByteArray.toList (ByteArray.mk #[116,97,103])) (Bp Aa),sl (A5 l),sl (A5 (DW (EV v name))),B1 Am,sl (A5 l),lq (@apG (v) (name) (l) hS KI A7 Aa Am (e) Br Az)]) func228
theorem Ab3(A7:Lz v name=true)(Aa:¬name=ByteArray.mk #[116,97,103])(Am:(l.length:Int)=((DW (EV v name)).length:Int))(Az:¬l=DW (EV v name)):Pu 228 [.agg (BP v),.str name,.sl 1 (Ae l)] (.ret (.Bf [.str Ai,pI 11])):=
 pu A9 (fun e=>[cl (@fdT (v) (name) hS KI),AM (AI A7),bf (ByteArray.toList name==ByteArray.toList (ByteArray.mk #[116,97,103])) (Bp Aa),sl (A5 l),sl (A5 (DW (EV v name))),B1 Am,sl (A5 l),lq (@apB (v) (name) (l) hS KI A7 Aa Am (e) Br Az)]) func228
end
section
variable (v:Nv) (name:BA) (l:List BA) (hH:∀w∈Bd v,(E0 w).length<=1000000000) (Pp:(Bd v).length<=1000000000) (Br:l.length<=1000000000)
include v name l hH Pp Br
theorem Ab4(A7:Dx Bj name (Bd v)=false):Pu 229 [.agg (BP v),.str name,.sl 1 (Ae l)] (.ret (.Bf [.str Ai,pI 5])):=
 pm A9 [cl (@hoT (v) (name) hH Pp),AV (B0 A7)] func229
theorem Ab5(A7:Dx Bj name (Bd v)=true)(Aa:¬(l.length:Int)=((E0 (AQ Bj name (Bd v))).length:Int)):Pu 229 [.agg (BP v),.str name,.sl 1 (Ae l)] (.ret (.Bf [.str Ai,pI 13])):=
 pm A9 [cl (@hoT (v) (name) hH Pp),AM (AI A7),sl (A5 l),sl (Vr.A0 (E0 (AQ Bj name (Bd v)))),Bi Aa] func229
theorem Ab6(A7:Dx Bj name (Bd v)=true)(Aa:(l.length:Int)=((E0 (AQ Bj name (Bd v))).length:Int))(Am:l=List.map CD (E0 (AQ Bj name (Bd v)))):Pu 229 [.agg (BP v),.str name,.sl 1 (Ae l)] (.ret (.Bf [.str (ByteArray.mk #[66,111,111,108]),pI 0])):=
 pu A9 (fun e=>[cl (@hoT (v) (name) hH Pp),AM (AI A7),sl (A5 l),sl (Vr.A0 (E0 (AQ Bj name (Bd v)))),B1 Aa,sl (A5 l),lq (@fiG (v) (name) (l) hH Pp A7 Aa (e) Br Am)]) func229
theorem Ab7(A7:Dx Bj name (Bd v)=true)(Aa:(l.length:Int)=((E0 (AQ Bj name (Bd v))).length:Int))(Am:¬l=List.map CD (E0 (AQ Bj name (Bd v)))):Pu 229 [.agg (BP v),.str name,.sl 1 (Ae l)] (.ret (.Bf [.str Ai,pI 11])):=
 pu A9 (fun e=>[cl (@hoT (v) (name) hH Pp),AM (AI A7),sl (A5 l),sl (Vr.A0 (E0 (AQ Bj name (Bd v)))),B1 Aa,sl (A5 l),lq (@fiB (v) (name) (l) hH Pp A7 Aa (e) Br Am)]) func229
end
def nG(a:BA):Bool:=a.toList==Gg.toList||a.toList==DP.toList||a.toList==OK.toList
def VU(v:Nv)(name:BA)(l:List BA):BA × Int:=
 if Lz v name=false then (Ai,5) else if name=Tc then (if (l.length:Int)=1 then (if nG (l.getD 0 Ai)=true then (Ai,11) else (pQ (EV v name),0)) else (Ai,13))
 else if (l.length:Int)=((DW (EV v name)).length:Int) then (if l=DW (EV v name) then (pQ (EV v name),0) else (Ai,11)) else (Ai,13)
theorem apT(v:Nv)(name:BA)(l:List BA)(hS:∀w∈BV v,(DW w).length<=1000000000)(KI:(BV v).length<=1000000000)(Br:l.length<=1000000000):Pu 228 [.agg (BP v),.str name,.sl 1 (Ae l)] (.ret (.Bf [.str (VU v name l).1,.int .i64 (VU v name l).2])):=by
 unfold VU
 by_cases h0:Lz v name=false
 ·rw [iP h0]; exact Aax v name l hS KI Br h0
 ·rw [iN h0]
  have h0:=JQ h0
  by_cases h1:name=Tc
  ·rw [iP h1]
   by_cases h2:(l.length:Int)=1
   ·rw [iP h2]
    cases h3:nG (l.getD 0 Ai) with
    | true=>rw [iP rfl]; exact Aaz v name l hS KI Br h0 h1 h2 h3
    | false=>rw [iN dD]; exact Ab0 v name l hS KI Br h0 h1 h2 h3
   ·rw [iN h2]; exact Aay v name l hS KI Br h0 h1 h2
  ·rw [iN h1]
   by_cases h2:(l.length:Int)=((DW (EV v name)).length:Int)
   ·rw [iP h2]
    by_cases h3:l=DW (EV v name)
    ·rw [iP h3]; exact Ab2 v name l hS KI Br h0 h1 h2 h3
    ·rw [iN h3]; exact Ab3 v name l hS KI Br h0 h1 h2 h3
   ·rw [iN h2]; exact Ab1 v name l hS KI Br h0 h1 h2
def VV(v:Nv)(name:BA)(l:List BA):BA × Int:=
 if Dx Bj name (Bd v)=false then (Ai,5) else if (l.length:Int)=((E0 (AQ Bj name (Bd v))).length:Int) then (if l=(E0 (AQ Bj name (Bd v))).map CD then (DP,0) else (Ai,11)) else (Ai,13)
theorem fiT(v:Nv)(name:BA)(l:List BA)(hH:∀w∈Bd v,(E0 w).length<=1000000000)(Pp:(Bd v).length<=1000000000)(Br:l.length<=1000000000):Pu 229 [.agg (BP v),.str name,.sl 1 (Ae l)] (.ret (.Bf [.str (VV v name l).1,.int .i64 (VV v name l).2])):=by
 unfold VV
 by_cases h0:Dx Bj name (Bd v)=false
 ·rw [iP h0]; exact Ab4 v name l hH Pp Br h0
 ·rw [iN h0]
  have h0:=JQ h0
  by_cases h2:(l.length:Int)=((E0 (AQ Bj name (Bd v))).length:Int)
  ·rw [iP h2]
   by_cases h3:l=(E0 (AQ Bj name (Bd v))).map CD
   ·rw [iP h3]; exact Ab6 v name l hH Pp Br h0 h2 h3
   ·rw [iN h3]; exact Ab7 v name l hH Pp Br h0 h2 h3
  ·rw [iN h2]; exact Ab5 v name l hH Pp Br h0 h2
theorem aq(a:BA):Pu 275 [.str a] (.ret (.fn (.func 293) [] [.ro [.str a] 0])):=
 pm A9 [] func275
section
variable (op:Int)
include op
theorem Ab8(A7:op=6):Pu 230 [pI op] (rA [.fn (.func 293) [] [.ro [.str (ByteArray.mk #[73,110,116])] 0],.str (ByteArray.mk #[73,110,116])]):=
 pm A9 [rp 2 (Bb A7),cl (@aq (ByteArray.mk #[73,110,116]))] func230
theorem Ab9(A7:¬op=6)(Aa:op=7):Pu 230 [pI op] (rA [.fn (.func 293) [] [.ro [.str (ByteArray.mk #[73,110,116])] 0],.str (ByteArray.mk #[73,110,116])]):=
 pm A9 [Ay A7,rp 2 (Bb Aa),cl (@aq (ByteArray.mk #[73,110,116]))] func230
theorem Aba(A7:¬op=6)(Aa:¬op=7)(Am:op=8):Pu 230 [pI op] (rA [.fn (.func 293) [] [.ro [.str (ByteArray.mk #[73,110,116])] 0],.str (ByteArray.mk #[73,110,116])]):=
 pm A9 [Ay A7,Ay Aa,rp 2 (Bb Am),cl (@aq (ByteArray.mk #[73,110,116]))] func230
theorem Abb(A7:¬op=6)(Aa:¬op=7)(Am:¬op=8)(Az:op=9):Pu 230 [pI op] (rA [.fn (.func 293) [] [.ro [.str (ByteArray.mk #[73,110,116])] 0],.str (ByteArray.mk #[73,110,116])]):=
 pm A9 [Ay A7,Ay Aa,Ay Am,Bb Az,cl (@aq (ByteArray.mk #[73,110,116]))] func230
theorem Abc(A7:¬op=6)(Aa:¬op=7)(Am:¬op=8)(Az:¬op=9)(AP:op=12):Pu 230 [pI op] (rA [.fn (.func 293) [] [.ro [.str (ByteArray.mk #[73,110,116])] 0],.str (ByteArray.mk #[66,111,111,108])]):=
 pm A9 [Ay A7,Ay Aa,Ay Am,Ay Az,rp 2 (Bb AP),cl (@aq (ByteArray.mk #[73,110,116]))] func230
theorem Abd(A7:¬op=6)(Aa:¬op=7)(Am:¬op=8)(Az:¬op=9)(AP:¬op=12)(Bu:op=13):Pu 230 [pI op] (rA [.fn (.func 293) [] [.ro [.str (ByteArray.mk #[73,110,116])] 0],.str (ByteArray.mk #[66,111,111,108])]):=
 pm A9 [Ay A7,Ay Aa,Ay Am,Ay Az,Ay AP,Bb Bu,cl (@aq (ByteArray.mk #[73,110,116]))] func230
theorem Abe(A7:¬op=6)(Aa:¬op=7)(Am:¬op=8)(Az:¬op=9)(AP:¬op=12)(Bu:¬op=13)(En:op=10):Pu 230 [pI op] (rA [.fn (.func 276) [] [],.str (ByteArray.mk #[66,111,111,108])]):=
 pm A9 [Ay A7,Ay Aa,Ay Am,Ay Az,Ay AP,Ay Bu,rp 2 (Bb En)] func230
theorem Abf(A7:¬op=6)(Aa:¬op=7)(Am:¬op=8)(Az:¬op=9)(AP:¬op=12)(Bu:¬op=13)(En:¬op=10)(OD:op=11):Pu 230 [pI op] (rA [.fn (.func 276) [] [],.str (ByteArray.mk #[66,111,111,108])]):=
 pm A9 [Ay A7,Ay Aa,Ay Am,Ay Az,Ay AP,Ay Bu,Ay En,Bb OD] func230
theorem Abg(A7:¬op=6)(Aa:¬op=7)(Am:¬op=8)(Az:¬op=9)(AP:¬op=12)(Bu:¬op=13)(En:¬op=10)(OD:¬op=11):Pu 230 [pI op] (rA [.fn (.func 293) [] [.ro [.str (ByteArray.mk #[66,111,111,108])] 0],.str (ByteArray.mk #[66,111,111,108])]):=
 pm A9 [Ay A7,Ay Aa,Ay Am,Ay Az,Ay AP,Ay Bu,Ay En,Ay OD,cl (@aq (ByteArray.mk #[66,111,111,108]))] func230
end
theorem Abh(v:Nv)(name:BA)(hW:Ba v):Pu 227 [.agg (BP v),.str name] (.ret (.Bf [.str (CD (AQ AE name (AX v).reverse)),.bool (Dx AE name (AX v).reverse)])):=vaT v name (by have:=hW.w; omega)
theorem Agz(v:Nv)(name:BA)(l:List BA)(hW:Ba v)(Br:l.length<=1000000000):Pu 228 [.agg (BP v),.str name,.sl 1 (Ae l)] (.ret (.Bf [.str (VU v name l).1,.int .i64 (VU v name l).2])):=apT v name l hW.sa hW.s Br
theorem Ah0(v:Nv)(name:BA)(l:List BA)(hW:Ba v)(Br:l.length<=1000000000):Pu 229 [.agg (BP v),.str name,.sl 1 (Ae l)] (.ret (.Bf [.str (VV v name l).1,.int .i64 (VV v name l).2])):=fiT v name l hW.hp hW.h Br
def Ci(v:Nv)(p:Pr)(l:List BA):BA:=(if Af p=1 then (ByteArray.mk #[73,110,116]) else (if Af p=2 then (ByteArray.mk #[66,111,111,108]) else (if Af p=3 then (if Dx AE (Aj p) (List.reverse (AX v))=false then Ai else (CD (AQ AE (Aj p) (List.reverse (AX v))))) else (if Af p=4 then (Prod.fst (VU v (Aj p) l)) else (if Af p=5 then (Prod.fst (VV v (Aj p) l)) else (if Af p=6 then (if Ck (ByteArray.mk #[73,110,116]) l=false then Ai else (ByteArray.mk #[73,110,116])) else (if Af p=7 then (if Ck (ByteArray.mk #[73,110,116]) l=false then Ai else (ByteArray.mk #[73,110,116])) else (if Af p=8 then (if Ck (ByteArray.mk #[73,110,116]) l=false then Ai else (ByteArray.mk #[73,110,116])) else (if Af p=9 then (if Ck (ByteArray.mk #[73,110,116]) l=false then Ai else (ByteArray.mk #[73,110,116])) else (if Af p=12 then (if Ck (ByteArray.mk #[73,110,116]) l=false then Ai else (ByteArray.mk #[66,111,111,108])) else (if Af p=13 then (if Ck (ByteArray.mk #[73,110,116]) l=false then Ai else (ByteArray.mk #[66,111,111,108])) else (if Af p=10 then (if List.getD l 0 Ai=List.getD l 1 Ai then (ByteArray.mk #[66,111,111,108]) else Ai) else (if Af p=11 then (if List.getD l 0 Ai=List.getD l 1 Ai then (ByteArray.mk #[66,111,111,108]) else Ai) else (if Ck (ByteArray.mk #[66,111,111,108]) l=false then Ai else (ByteArray.mk #[66,111,111,108])))))))))))))))
def Cj(v:Nv)(p:Pr)(l:List BA):Int:=(if Af p=1 then 0 else (if Af p=2 then 0 else (if Af p=3 then (if Dx AE (Aj p) (List.reverse (AX v))=false then 5 else 0) else (if Af p=4 then (Prod.snd (VU v (Aj p) l)) else (if Af p=5 then (Prod.snd (VV v (Aj p) l)) else (if Af p=6 then (if Ck (ByteArray.mk #[73,110,116]) l=false then 11 else 0) else (if Af p=7 then (if Ck (ByteArray.mk #[73,110,116]) l=false then 11 else 0) else (if Af p=8 then (if Ck (ByteArray.mk #[73,110,116]) l=false then 11 else 0) else (if Af p=9 then (if Ck (ByteArray.mk #[73,110,116]) l=false then 11 else 0) else (if Af p=12 then (if Ck (ByteArray.mk #[73,110,116]) l=false then 11 else 0) else (if Af p=13 then (if Ck (ByteArray.mk #[73,110,116]) l=false then 11 else 0) else (if Af p=10 then (if List.getD l 0 Ai=List.getD l 1 Ai then 0 else 11) else (if Af p=11 then (if List.getD l 0 Ai=List.getD l 1 Ai then 0 else 11) else (if Ck (ByteArray.mk #[66,111,111,108]) l=false then 11 else 0))))))))))))))
theorem sn(v:Nv)(p:Pr)(l:List BA)(hW:Ba v)(Br:l.length<=1000000000)(LK:Af p=10∨Af p=11->2<=l.length):Pu 176 [.agg (BP v),.agg (AN p),.sl 1 (Ae l)] (.ret (.Bf [.str (Ci v p l),pI (Cj v p l)])):=by
 by_cases h0:Af p=1
 ·simp only [Ci,Cj,iP h0]; exact pm A9 [Bb h0] func176
 ·by_cases h1:Af p=2
  ·simp only [Ci,Cj,iN h0,iP h1]; exact pm A9 [Ay h0,Bb h1] func176
  ·by_cases h2:Af p=3
   ·by_cases h3:Dx AE (Aj p) (List.reverse (AX v))=false
    ·simp only [Ci,Cj,iN h0,iN h1,iP h2,iP h3]; exact pm A9 [Ay h0,Ay h1,Bb h2,cl (@Abh (v) (Aj p) hW),AV (B0 h3)] func176
    ·simp only [Ci,Cj,iN h0,iN h1,iP h2,iN h3]; exact pm A9 [Ay h0,Ay h1,Bb h2,cl (@Abh (v) (Aj p) hW),AM (AI (JQ h3))] func176
   ·by_cases h3:Af p=4
    ·simp only [Ci,Cj,iN h0,iN h1,iN h2,iP h3]; exact pm A9 [Ay h0,Ay h1,Ay h2,Bb h3,cl (@Agz (v) (Aj p) (l) hW Br)] func176
    ·by_cases h4:Af p=5
     ·simp only [Ci,Cj,iN h0,iN h1,iN h2,iN h3,iP h4]; exact pm A9 [Ay h0,Ay h1,Ay h2,Ay h3,Bb h4,cl (@Ah0 (v) (Aj p) (l) hW Br)] func176
     ·by_cases h5:Af p=6
      ·by_cases h6:Ck (ByteArray.mk #[73,110,116]) l=false
       ·simp only [Ci,Cj,iN h0,iN h1,iN h2,iN h3,iN h4,iP h5,iP h6]; exact pm A9 [Ay h0,Ay h1,Ay h2,Ay h3,Ay h4,cl (@Ab8 (Af p) h5),cl (@VT (l) (ByteArray.mk #[73,110,116]) Br),AV (B0 h6)] func176
       ·simp only [Ci,Cj,iN h0,iN h1,iN h2,iN h3,iN h4,iP h5,iN h6]; exact pm A9 [Ay h0,Ay h1,Ay h2,Ay h3,Ay h4,cl (@Ab8 (Af p) h5),cl (@VT (l) (ByteArray.mk #[73,110,116]) Br),AM (AI (JQ h6))] func176
      ·by_cases h6:Af p=7
       ·by_cases h7:Ck (ByteArray.mk #[73,110,116]) l=false
        ·simp only [Ci,Cj,iN h0,iN h1,iN h2,iN h3,iN h4,iN h5,iP h6,iP h7]; exact pm A9 [Ay h0,Ay h1,Ay h2,Ay h3,Ay h4,cl (@Ab9 (Af p) h5 h6),cl (@VT (l) (ByteArray.mk #[73,110,116]) Br),AV (B0 h7)] func176
        ·simp only [Ci,Cj,iN h0,iN h1,iN h2,iN h3,iN h4,iN h5,iP h6,iN h7]; exact pm A9 [Ay h0,Ay h1,Ay h2,Ay h3,Ay h4,cl (@Ab9 (Af p) h5 h6),cl (@VT (l) (ByteArray.mk #[73,110,116]) Br),AM (AI (JQ h7))] func176
       ·by_cases h7:Af p=8
        ·by_cases h8:Ck (ByteArray.mk #[73,110,116]) l=false
         ·simp only [Ci,Cj,iN h0,iN h1,iN h2,iN h3,iN h4,iN h5,iN h6,iP h7,iP h8]; exact pm A9 [Ay h0,Ay h1,Ay h2,Ay h3,Ay h4,cl (@Aba (Af p) h5 h6 h7),cl (@VT (l) (ByteArray.mk #[73,110,116]) Br),AV (B0 h8)] func176
         ·simp only [Ci,Cj,iN h0,iN h1,iN h2,iN h3,iN h4,iN h5,iN h6,iP h7,iN h8]; exact pm A9 [Ay h0,Ay h1,Ay h2,Ay h3,Ay h4,cl (@Aba (Af p) h5 h6 h7),cl (@VT (l) (ByteArray.mk #[73,110,116]) Br),AM (AI (JQ h8))] func176
        ·by_cases h8:Af p=9
         ·by_cases h9:Ck (ByteArray.mk #[73,110,116]) l=false
          ·simp only [Ci,Cj,iN h0,iN h1,iN h2,iN h3,iN h4,iN h5,iN h6,iN h7,iP h8,iP h9]; exact pm A9 [Ay h0,Ay h1,Ay h2,Ay h3,Ay h4,cl (@Abb (Af p) h5 h6 h7 h8),cl (@VT (l) (ByteArray.mk #[73,110,116]) Br),AV (B0 h9)] func176
          ·simp only [Ci,Cj,iN h0,iN h1,iN h2,iN h3,iN h4,iN h5,iN h6,iN h7,iP h8,iN h9]; exact pm A9 [Ay h0,Ay h1,Ay h2,Ay h3,Ay h4,cl (@Abb (Af p) h5 h6 h7 h8),cl (@VT (l) (ByteArray.mk #[73,110,116]) Br),AM (AI (JQ h9))] func176
         ·by_cases h9:Af p=12
          ·by_cases Ji:Ck (ByteArray.mk #[73,110,116]) l=false
           ·simp only [Ci,Cj,iN h0,iN h1,iN h2,iN h3,iN h4,iN h5,iN h6,iN h7,iN h8,iP h9,iP Ji]; exact pm A9 [Ay h0,Ay h1,Ay h2,Ay h3,Ay h4,cl (@Abc (Af p) h5 h6 h7 h8 h9),cl (@VT (l) (ByteArray.mk #[73,110,116]) Br),AV (B0 Ji)] func176
           ·simp only [Ci,Cj,iN h0,iN h1,iN h2,iN h3,iN h4,iN h5,iN h6,iN h7,iN h8,iP h9,iN Ji]; exact pm A9 [Ay h0,Ay h1,Ay h2,Ay h3,Ay h4,cl (@Abc (Af p) h5 h6 h7 h8 h9),cl (@VT (l) (ByteArray.mk #[73,110,116]) Br),AM (AI (JQ Ji))] func176
          ·by_cases Ji:Af p=13
           ·by_cases Lh:Ck (ByteArray.mk #[73,110,116]) l=false
            ·simp only [Ci,Cj,iN h0,iN h1,iN h2,iN h3,iN h4,iN h5,iN h6,iN h7,iN h8,iN h9,iP Ji,iP Lh]; exact pm A9 [Ay h0,Ay h1,Ay h2,Ay h3,Ay h4,cl (@Abd (Af p) h5 h6 h7 h8 h9 Ji),cl (@VT (l) (ByteArray.mk #[73,110,116]) Br),AV (B0 Lh)] func176
            ·simp only [Ci,Cj,iN h0,iN h1,iN h2,iN h3,iN h4,iN h5,iN h6,iN h7,iN h8,iN h9,iP Ji,iN Lh]; exact pm A9 [Ay h0,Ay h1,Ay h2,Ay h3,Ay h4,cl (@Abd (Af p) h5 h6 h7 h8 h9 Ji),cl (@VT (l) (ByteArray.mk #[73,110,116]) Br),AM (AI (JQ Lh))] func176
           ·by_cases Lh:Af p=10
            ·by_cases OL:List.getD l 0 Ai=List.getD l 1 Ai
             ·simp only [Ci,Cj,iN h0,iN h1,iN h2,iN h3,iN h4,iN h5,iN h6,iN h7,iN h8,iN h9,iN Ji,iP Lh,iP OL]; exact pm A9 [Ay h0,Ay h1,Ay h2,Ay h3,Ay h4,cl (@Abe (Af p) h5 h6 h7 h8 h9 Ji Lh),cl (@eq2 (l) oM),bf (!ByteArray.toList (List.getD l 0 Ai)==ByteArray.toList (List.getD l 1 Ai)) (AI (BI OL))] func176
             ·simp only [Ci,Cj,iN h0,iN h1,iN h2,iN h3,iN h4,iN h5,iN h6,iN h7,iN h8,iN h9,iN Ji,iP Lh,iN OL]; exact pm A9 [Ay h0,Ay h1,Ay h2,Ay h3,Ay h4,cl (@Abe (Af p) h5 h6 h7 h8 h9 Ji Lh),cl (@eq2 (l) oM),bt (!ByteArray.toList (List.getD l 0 Ai)==ByteArray.toList (List.getD l 1 Ai)) (B0 (Bp OL))] func176
            ·by_cases OL:Af p=11
             ·by_cases JY:List.getD l 0 Ai=List.getD l 1 Ai
              ·simp only [Ci,Cj,iN h0,iN h1,iN h2,iN h3,iN h4,iN h5,iN h6,iN h7,iN h8,iN h9,iN Ji,iN Lh,iP OL,iP JY]; exact pm A9 [Ay h0,Ay h1,Ay h2,Ay h3,Ay h4,cl (@Abf (Af p) h5 h6 h7 h8 h9 Ji Lh OL),cl (@eq2 (l) oM),bf (!ByteArray.toList (List.getD l 0 Ai)==ByteArray.toList (List.getD l 1 Ai)) (AI (BI JY))] func176
              ·simp only [Ci,Cj,iN h0,iN h1,iN h2,iN h3,iN h4,iN h5,iN h6,iN h7,iN h8,iN h9,iN Ji,iN Lh,iP OL,iN JY]; exact pm A9 [Ay h0,Ay h1,Ay h2,Ay h3,Ay h4,cl (@Abf (Af p) h5 h6 h7 h8 h9 Ji Lh OL),cl (@eq2 (l) oM),bt (!ByteArray.toList (List.getD l 0 Ai)==ByteArray.toList (List.getD l 1 Ai)) (B0 (Bp JY))] func176
             ·by_cases JY:Ck (ByteArray.mk #[66,111,111,108]) l=false
              ·simp only [Ci,Cj,iN h0,iN h1,iN h2,iN h3,iN h4,iN h5,iN h6,iN h7,iN h8,iN h9,iN Ji,iN Lh,iN OL,iP JY]; exact pm A9 [Ay h0,Ay h1,Ay h2,Ay h3,Ay h4,cl (@Abg (Af p) h5 h6 h7 h8 h9 Ji Lh OL),cl (@VT (l) (ByteArray.mk #[66,111,111,108]) Br),AV (B0 JY)] func176
              ·simp only [Ci,Cj,iN h0,iN h1,iN h2,iN h3,iN h4,iN h5,iN h6,iN h7,iN h8,iN h9,iN Ji,iN Lh,iN OL,iN JY]; exact pm A9 [Ay h0,Ay h1,Ay h2,Ay h3,Ay h4,cl (@Abg (Af p) h5 h6 h7 h8 h9 Ji Lh OL),cl (@VT (l) (ByteArray.mk #[66,111,111,108]) Br),AM (AI (JQ JY))] func176
end Go.Proofs.YthchpmnkecoafaaGreatDoor
