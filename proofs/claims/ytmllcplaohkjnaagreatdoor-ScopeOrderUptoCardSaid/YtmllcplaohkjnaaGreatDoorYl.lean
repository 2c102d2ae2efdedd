/- Values of Go as plain data, an evaluator over them, and what the functions of the program return; part Yl. -/
import Derived.Test.YtmllcplaohkjnaaGreatDoorYk
import Derived.Test.YtmllcplaohkjnaaGreatDoorXs
import Derived.Test.YtmllcplaohkjnaaGreatDoorYa
set_option linter.unusedSectionVars false
set_option linter.unusedSimpArgs false
set_option linter.unusedVariables false
namespace Go.Proofs.YtmllcplaohkjnaaGreatDoor
open Go.Proofs.Tryz
open Go.Pv Go.Proofs.Tryz
section
variable {m m2:Mo} (hD:moD m2=moD m) (hm:∀s,(psF m s).2=true->psF m2 s=psF m s)
include hD hm
end
set_option maxRecDepth 100000
theorem srt_perm(l:List BA):(srt l).Perm l:=by
 have h:=(List.mergeSort_perm (l.map ByteArray.toList) (fun x y=>decide (x<=y))).map (fun x=>(⟨x.toArray⟩:BA))
 have e:(l.map ByteArray.toList).map (fun x=>(⟨x.toArray⟩:BA))=l:=by
  rw [List.map_map]
  conv=>rhs; rw [<-List.map_id l]
  refine List.map_congr_left fun x _=>?_
  simp only [Function.comp,id_eq]
  rw [ByteArray.toList_eq]
 unfold srt
 rw [e] at h
 exact h
theorem srt_len'(l:List BA):(srt l).length=l.length:=(srt_perm l).length_eq
theorem fxE_ix(x:Cs)(l:List Cn)(h:ix cnNm (csC x) l<l.length):fxE (mcP x) l=(ix cnNm (csC x) l:Int):=by
 have e:∀l:List Cn,l.findIdx (mcP x)=ix cnNm (csC x) l:=by
  intro l
  induction l with
  | nil=>rfl
  | cons c r ih=>
   rw [List.findIdx_cons]
   simp only [ix]
   by_cases h:cnNm c=csC x
   ·rw [iP h,show mcP x c=true from bsT h]; rfl
   ·rw [iN h,show mcP x c=false from bsF h,ih]; rfl
 unfold fxE
 rw [e,iP h]
def mcE(y:Da)(w:Cs):Int:=fi3 (whE (((csNs w).length:Int) != ((cnF ((daC y).getD (ix cnNm (csC w) (daC y)) default)).length:Int)) 13) (alE (csNs w)) (pcE (csB w))
def msTe(y:Da)(x:Ms):Int:=if srt ((daC y).map cnNm)=srt ((msC x).map csC) then fi2 (frE (mcE y) (msC x)) (whE (!psz_r0 (msI x)) (pcE (msI x))) else 6
theorem msTl(hS:SortC prog 89)(m:Mo)(x:Ms)(y:Da)(xe:Ext)(hNy:(daC y).length<=1048576)(hx:bulkPs (msL x)<=10000000):(Ob.frag 84 (tailF f49 8) (msS0 m x y xe) .ret (msS1 (msTe y x) xe)).ok prog:=by
 have hb1:=ms_bulk x
 have hNx:=Cs.bulk (msC x)
 have e1:lw_f (daC y) []=(daC y).map cnNm:=by rw [lw_e]; rfl
 have e2:lh_f (msC x) []=(msC x).map csC:=by rw [lh_e]; rfl
 have l1:(lw_f (daC y) []).length<=1000000000:=by rw [e1,List.length_map]; omega
 have l2:(lh_f (msC x) []).length<=1000000000:=by rw [e2,List.length_map]; omega
 unfold msTe
 by_cases h:srt ((daC y).map cnNm)=srt ((msC x).map csC)
 ·rw [iP h]
  have hmem:∀w∈msC x,ix cnNm (csC w) (daC y)<(daC y).length:=fun w hw=>by
   rw [ix_some]
   have h1:csC w∈srt ((msC x).map csC):=(srt_perm _).mem_iff.2 (List.mem_map_of_mem hw)
   rw [<-h,(srt_perm _).mem_iff,List.mem_map] at h1
   exact h1
  have hea:=eaBT (msC x) 92 [.ro (daL y) 0,.ro (wL m) 0] (mcE y) (fun k w hw=>by
   have hlt:=hmem w hw
   have h3:=Cs.mem hw
   have h4:=cs_bulk w
   have h5:(csNs w).length<=10000000:=by have:=nms_bulk (csNs w); have h8:bulkPss (nmsC (csNs w))<bulkPs (csL w):=(by simp only [bulkPs,bulkP]; omega); omega
   have h6:=mcI w (daC y) oM
   rw [fxE_ix w (daC y) hlt] at h6
   exact mc2 m k w y _ h6 hlt oM oM) oM
  have h7:=fun cx hcx=>ml2 hS m x y xe (frE (mcE y) (msC x)) oM oM l1 l2 (by rw [e1,e2]; exact h) (by rw [srt_len']; exact l2) oM hea cx hcx (Q:=fun pe' s'=>pe' = .ret/\s'=_) ⟨rfl,rfl⟩
  refine Ob.frag_le ?_ h7
  exact ⟨⟨W,tVv⟩,trivial,rfl⟩
 ·rw [iN h]
  have h7:=fun cx hcx=>ml1 hS m x y xe oM oM l1 l2 (by rw [e1,e2]; exact h) (by rw [srt_len']; exact l1) cx hcx (Q:=fun pe' s'=>pe' = .ret/\s'=_) ⟨rfl,rfl⟩
  refine Ob.frag_le ?_ h7
  exact ⟨⟨W,tVv⟩,trivial,rfl⟩
theorem sortC:SortC prog 89:=⟨by kernel_rfl,fun blk off cap ss w h1 h2 h3=>Tryz.slices_Sort_string blk off cap ss w h1 h2 h3,fun p cap w=>Tryz.slices_Sort_string_none p cap w⟩
def geM(m:Mo)(x:Ms)(st:St):Int:=if fi2 (erN (nameB (msNm x))) (twE (msNm x) st.d)=0 then (if ix daNm (msD x) (moD m)<(moD m).length then msTe ((moD m).getD (ix daNm (msD x) (moD m)) default) x else 5) else fi2 (erN (nameB (msNm x))) (twE (msNm x) st.d)
theorem geM_c{m m2:Mo}(h:moD m2=moD m):geM m2=geM m:=by funext x st; unfold geM; rw [h]
theorem msE(m:Mo)(x:Ms)(a b c d f:List BA)(hz:Sz m)(hx:bulkPs (msL x)<=10000000):Ef 49 [.agg (wL m),.agg (msL x),.mp 3] [(0,[.mm (mks a)]),(1,[.mm (mks b)]),(2,[.mm (mks c)]),(3,[.mm (mks d)]),(4,[.mm (mks f)])] (.ret (.int .i64 (geM m x ⟨a,b,c,d,f,[]⟩))) [(0,[.mm (mks a)]),(1,[.mm (mks b)]),(2,[.mm (mks c)]),(3,[.mm (mks (adK (msNm x) d))]),(4,[.mm (mks f)])]:=by
 have hy:(daC ((moD m).getD (ix daNm (msD x) (moD m)) default)).length<=1048576:=by
  by_cases h:ix daNm (msD x) (moD m)<(moD m).length
  ·exact hz.hk _ (getD_mem h)
  ·rw [List.getD_eq_getElem?_getD,List.getElem?_eq_none oM]; decide
 have htl:=msTl sortC m x ((moD m).getD (ix daNm (msD x) (moD m)) default) [(0,[.mm (mks a)]),(1,[.mm (mks b)]),(2,[.mm (mks c)]),(3,[.mm (mks (adK (msNm x) d))]),(4,[.mm (mks f)])] hy hx
 unfold geM
 by_cases h0:fi2 (erN (nameB (msNm x))) (twE (msNm x) d)=0
 ·rw [iP h0]
  by_cases h1:ix daNm (msD x) (moD m)<(moD m).length
  ·rw [iP h1]; exact mse_2 m x a b c d f hz _ htl h0 h1
  ·rw [iN h1]; exact mse_3 m x a b c d f hz _ htl h0 h1
 ·rw [iN h0]; exact mse_1 m x a b c d f hz _ htl h0
theorem mo4(m:Mo)(k:Int)(y:Ms)(a b c d f:List BA)(r:Int)(hme:Ef 49 [.agg (wL m),.agg (msL y),.mp 3] [(0,[.mm (mks a)]),(1,[.mm (mks b)]),(2,[.mm (mks c)]),(3,[.mm (mks d)]),(4,[.mm (mks f)])] (.ret (.int .i64 r)) [(0,[.mm (mks a)]),(1,[.mm (mks b)]),(2,[.mm (mks c)]),(3,[.mm (mks (adK (msNm y) d))]),(4,[.mm (mks f)])]):Ef 48 [pI k,.agg (msL y),.ro (wL m) 0,.ro [PV.mp 3] 0] ([(0,[LV.mm (mks a)]),(1,[LV.mm (mks b)]),(2,[LV.mm (mks c)]),(3,[LV.mm (mks d)]),(4,[LV.mm (mks f)])]) (rI r) ([(0,[LV.mm (mks a)]),(1,[LV.mm (mks b)]),(2,[LV.mm (mks c)]),(3,[LV.mm (mks (adK (msNm y) d))]),(4,[LV.mm (mks f)])]):=
 ef mdW [ce hme] func48
theorem chkT(m:Mo)(hz:Sz m)(hs:bulkPs (moL m)<=10000000):Pu 10 [.agg (moL m)] (.ret (.int .i64 (moE geM m))):=
 chk m _ (modT m hz geM (fun k w a b c d f hw=>mo4 m k w a b c d f _ (msE m w a b c d f hz (by have:=mo_bulk m; have:=Ms.mem hw; omega))) (fun _ _=>rfl) hs)
end Go.Proofs.YtmllcplaohkjnaaGreatDoor
