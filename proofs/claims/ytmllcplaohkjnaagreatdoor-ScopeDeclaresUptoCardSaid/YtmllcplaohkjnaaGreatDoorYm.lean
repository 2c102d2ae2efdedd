/- Values of Go as plain data, an evaluator over them, and what the functions of the program return; part Ym. -/
import Derived.Test.YtmllcplaohkjnaaGreatDoorYl
import Derived.Test.YtmllcplaohkjnaaGreatDoorXs
import Derived.Test.YtmllcplaohkjnaaGreatDoorYa
set_option linter.unusedSectionVars false
set_option linter.unusedSimpArgs false
set_option linter.unusedVariables false
namespace Go.Proofs.YtmllcplaohkjnaaGreatDoor
open Go.Proofs.Tryz
open Go.Pv Go.Proofs.Tryz
section
variable {m m2:Mo} (hD:Aj m2=Aj m) (hm:∀s,(Fb m s).2=true->Fb m2 s=Fb m s)
include hD hm
end
set_option maxRecDepth 100000
theorem NX(l:List BA):(GG l).Perm l:=by
 have h:=(List.mergeSort_perm (l.map ByteArray.toList) (fun x y=>decide (x<=y))).map (fun x=>(⟨x.toArray⟩:BA))
 have e:(l.map ByteArray.toList).map (fun x=>(⟨x.toArray⟩:BA))=l:=by
  rw [List.map_map]
  conv=>rhs; rw [<-List.map_id l]
  refine List.map_congr_left fun x _=>?_
  simp only [Function.comp,id_eq]
  rw [ByteArray.toList_eq]
 unfold GG
 rw [e] at h
 exact h
theorem SI(l:List BA):(GG l).length=l.length:=(NX l).length_eq
theorem wB(x:Cs)(l:List Cn)(h:ix Bj (P8 x) l<l.length):HY (yD x) l=(ix Bj (P8 x) l:Int):=by
 have e:∀l:List Cn,l.findIdx (yD x)=ix Bj (P8 x) l:=by
  intro l
  induction l with
  | nil=>rfl
  | cons c r ih=>
   rw [List.findIdx_cons]
   simp only [ix]
   by_cases h:Bj c=P8 x
   ·rw [iP h,show yD x c=true from DZ h]; rfl
   ·rw [iN h,show yD x c=false from HT h,ih]; rfl
 unfold HY
 rw [e,iP h]
def mcE(y:Da)(w:Cs):Int:=HW (BT (((Is w).length:Int) != ((Fp ((AS y).getD (ix Bj (P8 w) (AS y)) default)).length:Int)) 13) (Fe (Is w)) (Ss (Ll w))
def wC(y:Da)(x:Ms):Int:=if GG ((AS y).map Bj)=GG ((CV x).map P8) then Ds (BP (mcE y) (CV x)) (BT (!Ft (J9 x)) (Ss (J9 x))) else 6
theorem A9u(hS:Nl prog 89)(m:Mo)(x:Ms)(y:Da)(xe:Ext)(hNy:(AS y).length<=1048576)(hx:A5 (M7 x)<=10000000):(Ob.F9 84 (UK f49 8) (kE m x y xe) .ret (A63 (wC y x) xe)).ok prog:=by
 have zD:=Mv x
 have hNx:=Cs.BF (CV x)
 have e1:Ed (AS y) []=(AS y).map Bj:=by rw [A6d]; rfl
 have e2:EP (CV x) []=(CV x).map P8:=by rw [A6e]; rfl
 have l1:(Ed (AS y) []).length<=1000000000:=by rw [e1,List.length_map]; omega
 have l2:(EP (CV x) []).length<=1000000000:=by rw [e2,List.length_map]; omega
 unfold wC
 by_cases h:GG ((AS y).map Bj)=GG ((CV x).map P8)
 ·rw [iP h]
  have RG:∀w∈CV x,ix Bj (P8 w) (AS y)<(AS y).length:=fun w hw=>by
   rw [Mu]
   have h1:P8 w∈GG ((CV x).map P8):=(NX _).mem_iff.2 (List.mem_map_of_mem hw)
   rw [<-h,(NX _).mem_iff,List.mem_map] at h1
   exact h1
  have hea:=A89 (CV x) 92 [.ro (EO y) 0,.ro (wL m) 0] (mcE y) (fun k w hw=>by
   have Ad:=RG w hw
   have h3:=Cs.mem hw
   have h4:=VE w
   have h5:(Is w).length<=10000000:=by have:=Dc (Is w); have h8:Af (A1 (Is w))<A5 (R4 w):=(by simp only [A5,Dq]; omega); omega
   have h6:=mcI w (AS y) oM
   rw [wB w (AS y) Ad] at h6
   exact mc2 m k w y _ h6 Ad oM oM) oM
  have h7:=fun cx AH=>ml2 hS m x y xe (BP (mcE y) (CV x)) oM oM l1 l2 (by rw [e1,e2]; exact h) (by rw [SI]; exact l2) oM hea cx AH (Q:=fun Yx s'=>Yx = .ret/\s'=_) ⟨rfl,rfl⟩
  refine Ob.Mk ?_ h7
  exact ⟨⟨W,Ar⟩,trivial,rfl⟩
 ·rw [iN h]
  have h7:=fun cx AH=>ml1 hS m x y xe oM oM l1 l2 (by rw [e1,e2]; exact h) (by rw [SI]; exact l1) cx AH (Q:=fun Yx s'=>Yx = .ret/\s'=_) ⟨rfl,rfl⟩
  refine Ob.Mk ?_ h7
  exact ⟨⟨W,Ar⟩,trivial,rfl⟩
theorem A6f:Nl prog 89:=⟨by kernel_rfl,fun Xl off cap ss w h1 h2 h3=>Tryz.slices_Sort_string Xl off cap ss w h1 h2 h3,fun p cap w=>Tryz.slices_Sort_string_none p cap w⟩
def EM(m:Mo)(x:Ms)(st:St):Int:=if Ds (AU (Ac (CM x))) (Cp (CM x) st.d)=0 then (if ix BS (Qs x) (Aj m)<(Aj m).length then wC ((Aj m).getD (ix BS (Qs x) (Aj m)) default) x else 5) else Ds (AU (Ac (CM x))) (Cp (CM x) st.d)
theorem msE(m:Mo)(x:Ms)(a b c d f:List BA)(hz:Sz m)(hx:A5 (M7 x)<=10000000):Ef 49 [.agg (wL m),.agg (M7 x),.mp 3] [(0,[.mm (A6 a)]),(1,[.mm (A6 b)]),(2,[.mm (A6 c)]),(3,[.mm (A6 d)]),(4,[.mm (A6 f)])] (.ret (.int .i64 (EM m x ⟨a,b,c,d,f,[]⟩))) [(0,[.mm (A6 a)]),(1,[.mm (A6 b)]),(2,[.mm (A6 c)]),(3,[.mm (A6 (Dx (CM x) d))]),(4,[.mm (A6 f)])]:=by
 have hy:(AS ((Aj m).getD (ix BS (Qs x) (Aj m)) default)).length<=1048576:=by
  by_cases h:ix BS (Qs x) (Aj m)<(Aj m).length
  ·exact hz.hk _ (Bk h)
  ·rw [List.getD_eq_getElem?_getD,List.getElem?_eq_none oM]; decide
 have yE:=A9u A6f m x ((Aj m).getD (ix BS (Qs x) (Aj m)) default) [(0,[.mm (A6 a)]),(1,[.mm (A6 b)]),(2,[.mm (A6 c)]),(3,[.mm (A6 (Dx (CM x) d))]),(4,[.mm (A6 f)])] hy hx
 unfold EM
 by_cases h0:Ds (AU (Ac (CM x))) (Cp (CM x) d)=0
 ·rw [iP h0]
  by_cases h1:ix BS (Qs x) (Aj m)<(Aj m).length
  ·rw [iP h1]; exact A65 m x a b c d f hz _ yE h0 h1
  ·rw [iN h1]; exact A66 m x a b c d f hz _ yE h0 h1
 ·rw [iN h0]; exact A64 m x a b c d f hz _ yE h0
theorem mo4(m:Mo)(k:Int)(y:Ms)(a b c d f:List BA)(r:Int)(hme:Ef 49 [.agg (wL m),.agg (M7 y),.mp 3] [(0,[.mm (A6 a)]),(1,[.mm (A6 b)]),(2,[.mm (A6 c)]),(3,[.mm (A6 d)]),(4,[.mm (A6 f)])] (.ret (.int .i64 r)) [(0,[.mm (A6 a)]),(1,[.mm (A6 b)]),(2,[.mm (A6 c)]),(3,[.mm (A6 (Dx (CM y) d))]),(4,[.mm (A6 f)])]):Ef 48 [pI k,.agg (M7 y),.ro (wL m) 0,.ro [PV.mp 3] 0] ([(0,[LV.mm (A6 a)]),(1,[LV.mm (A6 b)]),(2,[LV.mm (A6 c)]),(3,[LV.mm (A6 d)]),(4,[LV.mm (A6 f)])]) (rI r) ([(0,[LV.mm (A6 a)]),(1,[LV.mm (A6 b)]),(2,[LV.mm (A6 c)]),(3,[LV.mm (A6 (Dx (CM y) d))]),(4,[LV.mm (A6 f)])]):=
 ef CR [ce hme] func48
theorem A9v(m:Mo)(hz:Sz m)(hs:A5 (DJ m)<=10000000):Pu 10 [.agg (DJ m)] (.ret (.int .i64 (w8 EM m))):=
 Ur m _ (A9t m hz EM (fun k w a b c d f hw=>mo4 m k w a b c d f _ (msE m w a b c d f hz (by have:=I2 m; have:=Ms.mem hw; omega))) (fun _ _=>rfl) hs)
end Go.Proofs.YtmllcplaohkjnaaGreatDoor
