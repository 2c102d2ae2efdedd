/- Values of Go as plain data, an evaluator over them, and what the functions of the program return; part Yl. -/
import Derived.Test.YtmllcplaohkjnaaGreatDoorYk
import Derived.Test.YtmllcplaohkjnaaGreatDoorXs
import Derived.Test.YtmllcplaohkjnaaGreatDoorYa
set_option linter.unusedSectionVars false
set_option linter.unusedSimpArgs false
set_option linter.unusedVariables false
namespace Go.Proofs.YtmllcplaohkjnaaGreatDoor
open Go.Proofs.Tryz
open Go.Pv Go.Proofs.Tryz
theorem ix_app{α:Type} [Inhabited α] (f:α->BA) (s:BA) (z:α):∀l:List α,
  (ix f s l<l.length->ix f s (l++[z])=ix f s l)/\(¬ix f s l<l.length->ix f s (l++[z])=if f z=s then l.length else l.length+1)
 | []=>by constructor <;> intro h <;> simp_all [ix]
 | c::r=>by
  have ih:=ix_app f s z r
  by_cases h:f c=s
  ·constructor <;> intro h2 <;> simp_all [ix]
  ·simp only [List.cons_append,ix,h,if_false,List.length_cons,Nat.add_lt_add_iff_right]
   refine ⟨fun h2=>by rw [ih.1 h2],fun h2=>?_⟩
   rw [ih.2 h2]; split <;> rfl
theorem psF_app{m m2:Mo}{z:Df}(hC:moC m2=moC m)(hF:moF m2=moF m++[z])(hz:(psF m (dfNm z)).2=true->∃x∈moF m,dfNm x=dfNm z)(s:BA)(hs:(psF m s).2=true):psF m2 s=psF m s:=by
 have hi:=ix_app dfNm s z (moF m)
 unfold psF at hs ⊢
 rw [hF,hC]
 by_cases h:ix dfNm s (moF m)<(moF m).length
 ·rw [iP h,hi.1 h,iP (by rw [List.length_append]; simp; omega)]
  rw [show (moF m++[z]).getD (ix dfNm s (moF m)) default=(moF m).getD (ix dfNm s (moF m)) default by simp [List.getD,List.getElem?_append_left h]]
 ·rw [iN h] at hs ⊢
  have hne:¬dfNm z=s:=fun e=>h ((ix_some dfNm s (moF m)).2 (by
   have:=hz (by unfold psF; rw [e,iN h]; exact hs)
   rw [e] at this; exact this))
  rw [hi.2 h,iN hne,iN (by rw [List.length_append]; simp)]
theorem xpE_mono{ε ε2:En}(hm:∀s,(ε.ps s).2=true->ε2.ps s=ε.ps s)(hd:ε2.dv=ε.dv)(ha:ε2.ar=ε.ar)(vs bd:List BA)(y:Ex)(hz:xpE ε vs bd y=0):xpE ε2 vs bd y=0:=by
 unfold xpE at hz ⊢
 by_cases h:fi1 (syE y)=0
 ·rw [iP h] at hz ⊢; exact nqF_mono hm hd ha vs y bd hz
 ·rw [iN h] at hz; exact absurd hz h
section
variable {m m2:Mo} (hD:moD m2=moD m) (hm:∀s,(psF m s).2=true->psF m2 s=psF m s)
include hD hm
theorem dfR_mono(y:Df)(vs:List BA)(h:dfR m y vs=0):dfR m2 y vs=0:=by
 have hx:=fun h=>xpE_mono (ε:=enM m) (ε2:=enM m2) hm (dvM_c hD) (arF_c hD) (vs++dfVs y) (dfP y) (dfB y) h
 have e8:df8_v11 m2 y vs default=df8_v11 m y vs default:=rfl
 unfold dfR at h ⊢
 rw [e8,sgE_c hD]
 by_cases h8:df8_v11 m y vs default=0
 ·rw [iP h8] at h ⊢
  by_cases ht:dfTy y=true∨emT_r0 (dfT y)=false
  ·rw [iP ht] at h ⊢
   by_cases hg:sgE m y vs=0
   ·rw [iP hg] at h ⊢
    by_cases hM:dfM y=1
    ·rw [iP hM]
    ·rw [iN hM] at h ⊢; exact hx h
   ·rw [iN hg] at h; exact absurd h hg
  ·rw [iN ht] at h ⊢
   by_cases hM:dfM y=1
   ·rw [iP hM]
   ·rw [iN hM] at h ⊢; exact hx h
 ·rw [iN h8] at h; exact absurd h h8
theorem dfE_mono(y:Df)(vs:List BA)(h:dfE m y vs=0):dfE m2 y vs=0:=by
 unfold dfE at h ⊢
 by_cases h0:erN (nameB (dfNm y))=0
 ·rw [iP h0] at h ⊢; exact dfR_mono hD hm y vs h
 ·rw [iN h0] at h; exact absurd h h0
theorem inB_mono(vs:List BA)(y:Df)(h:inB m vs y=0):inB m2 vs y=0:=by
 unfold inB at h ⊢
 by_cases h0:(dfTy y||dfM y != 0)=true
 ·rw [iP h0] at h; exact absurd h dD
 ·rw [iN h0] at h ⊢
  by_cases h1:(((dfVs y).length:Int)==0&&((dfNe y).length:Int)==0&&((dfAb y).length:Int)==0&&((dfBo y).length:Int)==0&&((dfMe y).length:Int)==0)=false
  ·rw [iP h1] at h; exact absurd h dD
  ·rw [iN h1] at h ⊢; exact dfE_mono hD hm y vs h
theorem insE_mono(y:In)(h:insE m y=0):insE m2 y=0:=by
 unfold insE at h ⊢
 rw [dvM_c hD]
 by_cases h0:fi2 (erN (titleB (inNm y))) (tyC_r0 (inT y))=0
 ·rw [iP h0] at h ⊢
  by_cases h1:(tpO (inT y) != 1&&tpO (inT y) != 2&&(tpO (inT y) != 4 || !vaB (tpA (inT y))))=true
  ·rw [iP h1] at h; exact absurd h dD
  ·rw [iN h1] at h ⊢
   by_cases h2:tyE (dvM m) (vaN (tpA (inT y))) (inT y)=0
   ·rw [iP h2] at h ⊢
    rw [frE_zero] at h ⊢
    exact fun x hx=>inB_mono hD hm _ x (h x hx)
   ·rw [iN h2] at h; exact absurd h h2
 ·rw [iN h0] at h; exact absurd h h0
end
theorem frS_app{α:Type}(ge:α->St->Int)(gs:α->St->St)(z:α):∀ (l:List α) (st:St),(frS ge gs l st).1=0->(frS ge gs (l++[z]) st).1=ge z (frS ge gs l st).2
 | [],st,_=>by
  simp only [List.nil_append,frS]
  split
  ·rename_i h; simp [h]
  ·rfl
 | x::r,st,h=>by
  simp only [List.cons_append,frS] at h ⊢
  by_cases hx:ge x st=0
  ·rw [iP hx] at h ⊢; rw [iP hx]; exact frS_app ge gs z r _ h
  ·rw [iN hx] at h; exact absurd h hx
theorem one_more(geM:Mo->Ms->St->Int)(hM:∀m m2:Mo,moD m2=moD m->geM m2=geM m){m m2:Mo}{z:Df}(hD:moD m2=moD m)(hC:moC m2=moC m)(hI:moI m2=moI m)(hMs:moM m2=moM m)(hQ:moQ m2=moQ m)(hF:moF m2=moF m++[z])
  (hl:((moF m).length:Int)<=63) (hz:(psF m (dfNm z)).2=true->∃x∈moF m,dfNm x=dfNm z) (h:moE geM m=0):moE geM m2=geF m2 z (xF geM m).2:=by
 rw [moE_zero] at h
 obtain ⟨h0,h1,h2,h3,h4,h5,h6⟩:=h
 have hm:=psF_app (z:=z) hC hF hz
 have eM:xM geM m2=xM geM m:=by unfold xM; rw [hM m m2 hD,hMs,xC_c hD hC]; rfl
 have eQ:xQ geM m2=xQ geM m:=by unfold xQ; rw [hQ,eM]; rfl
 have h7:¬lenX m2>64:=by
  unfold lenX at h0 ⊢
  rw [hD,hC,hI,hMs,hQ,hF,List.length_append]
  simp only [List.length_singleton]
  revert h0
  unfold mxI
  simp only [if_true]
  (repeat' split) <;> omega
 have h8:frE (insE m2) (moI m2)=0:=by
  rw [hI,frE_zero]
  rw [frE_zero] at h3
  exact fun y hy=>insE_mono hD hm y (h3 y hy)
 have ef:∀st,frS (geF m2) (gsF m2) (moF m) st=frS (geF m) (gsF m) (moF m) st∨¬(frS (geF m) (gsF m) (moF m) st).1=0:=by
  intro st
  have:∀ (l:List Df) (st:St),(frS (geF m) (gsF m) l st).1=0->frS (geF m2) (gsF m2) l st=frS (geF m) (gsF m) l st:=by
   intro l
   induction l with
   | nil=>intro st _; rfl
   | cons x r ih=>
    intro st hh
    simp only [frS] at hh ⊢
    by_cases hx:geF m x st=0
    ·rw [iP hx] at hh ⊢
     have hx2:geF m2 x st=0:=by
      rw [geF_zero] at hx ⊢
      exact ⟨⟨hx.1.1,dfR_mono hD hm x [] hx.1.2⟩,hx.2⟩
     rw [iP hx2]
     exact ih _ hh
    ·rw [iN hx] at hh; exact absurd hh hx
  by_cases hh:(frS (geF m) (gsF m) (moF m) st).1=0
  ·exact .inl (this _ _ hh)
  ·exact .inr hh
 have e6:(xF geM m2).1=geF m2 z (xF geM m).2:=by
  unfold xF at h6 ⊢
  rw [hF,eQ]
  rcases ef (cutS (xQ geM m).2) with e | e
  ·rw [frS_app _ _ _ _ _ (by rw [e]; exact h6),e]
  ·exact absurd h6 e
 unfold moE
 rw [iN h7,xD_c hD,iP h1,xC_c hD hC,iP h2,iP h8,eM,iP h4,eQ,iP h5,e6]
set_option maxRecDepth 100000
theorem srt_perm(l:List BA):(srt l).Perm l:=by
 have h:=(List.mergeSort_perm (l.map ByteArray.toList) (fun x y=>decide (x<=y))).map (fun x=>(⟨x.toArray⟩:BA))
 have e:(l.map ByteArray.toList).map (fun x=>(⟨x.toArray⟩:BA))=l:=by
  rw [List.map_map]
  conv=>rhs; rw [<-List.map_id l]
  refine List.map_congr_left fun x _=>?_
  simp only [Function.comp,id_eq]
  rw [ByteArray.toList_eq]
 unfold srt
 rw [e] at h
 exact h
theorem srt_len'(l:List BA):(srt l).length=l.length:=(srt_perm l).length_eq
theorem fxE_ix(x:Cs)(l:List Cn)(h:ix cnNm (csC x) l<l.length):fxE (mcP x) l=(ix cnNm (csC x) l:Int):=by
 have e:∀l:List Cn,l.findIdx (mcP x)=ix cnNm (csC x) l:=by
  intro l
  induction l with
  | nil=>rfl
  | cons c r ih=>
   rw [List.findIdx_cons]
   simp only [ix]
   by_cases h:cnNm c=csC x
   ·rw [iP h,show mcP x c=true from bsT h]; rfl
   ·rw [iN h,show mcP x c=false from bsF h,ih]; rfl
 unfold fxE
 rw [e,iP h]
def mcE(y:Da)(w:Cs):Int:=fi3 (whE (((csNs w).length:Int) != ((cnF ((daC y).getD (ix cnNm (csC w) (daC y)) default)).length:Int)) 13) (alE (csNs w)) (pcE (csB w))
def msTe(y:Da)(x:Ms):Int:=if srt ((daC y).map cnNm)=srt ((msC x).map csC) then fi2 (frE (mcE y) (msC x)) (whE (!psz_r0 (msI x)) (pcE (msI x))) else 6
theorem msTl(hS:SortC prog 89)(m:Mo)(x:Ms)(y:Da)(xe:Ext)(hNy:(daC y).length<=1048576)(hx:bulkPs (msL x)<=10000000):(Ob.frag 84 (tailF f49 8) (msS0 m x y xe) .ret (msS1 (msTe y x) xe)).ok prog:=by
 have hb1:=ms_bulk x
 have hNx:=Cs.bulk (msC x)
 have e1:lw_f (daC y) []=(daC y).map cnNm:=by rw [lw_e]; rfl
 have e2:lh_f (msC x) []=(msC x).map csC:=by rw [lh_e]; rfl
 have l1:(lw_f (daC y) []).length<=1000000000:=by rw [e1,List.length_map]; omega
 have l2:(lh_f (msC x) []).length<=1000000000:=by rw [e2,List.length_map]; omega
 unfold msTe
 by_cases h:srt ((daC y).map cnNm)=srt ((msC x).map csC)
 ·rw [iP h]
  have hmem:∀w∈msC x,ix cnNm (csC w) (daC y)<(daC y).length:=fun w hw=>by
   rw [ix_some]
   have h1:csC w∈srt ((msC x).map csC):=(srt_perm _).mem_iff.2 (List.mem_map_of_mem hw)
   rw [<-h,(srt_perm _).mem_iff,List.mem_map] at h1
   exact h1
  have hea:=eaBT (msC x) 92 [.ro (daL y) 0,.ro (wL m) 0] (mcE y) (fun k w hw=>by
   have hlt:=hmem w hw
   have h3:=Cs.mem hw
   have h4:=cs_bulk w
   have h5:(csNs w).length<=10000000:=by have:=nms_bulk (csNs w); have h8:bulkPss (nmsC (csNs w))<bulkPs (csL w):=(by simp only [bulkPs,bulkP]; omega); omega
   have h6:=mcI w (daC y) oM
   rw [fxE_ix w (daC y) hlt] at h6
   exact mc2 m k w y _ h6 hlt oM oM) oM
  have h7:=fun cx hcx=>ml2 hS m x y xe (frE (mcE y) (msC x)) oM oM l1 l2 (by rw [e1,e2]; exact h) (by rw [srt_len']; exact l2) oM hea cx hcx (Q:=fun pe' s'=>pe' = .ret/\s'=_) ⟨rfl,rfl⟩
  refine Ob.frag_le ?_ h7
  exact ⟨⟨W,tVv⟩,trivial,rfl⟩
 ·rw [iN h]
  have h7:=fun cx hcx=>ml1 hS m x y xe oM oM l1 l2 (by rw [e1,e2]; exact h) (by rw [srt_len']; exact l1) cx hcx (Q:=fun pe' s'=>pe' = .ret/\s'=_) ⟨rfl,rfl⟩
  refine Ob.frag_le ?_ h7
  exact ⟨⟨W,tVv⟩,trivial,rfl⟩
theorem sortC:SortC prog 89:=⟨by kernel_rfl,fun blk off cap ss w h1 h2 h3=>Tryz.slices_Sort_string blk off cap ss w h1 h2 h3,fun p cap w=>Tryz.slices_Sort_string_none p cap w⟩
def geM(m:Mo)(x:Ms)(st:St):Int:=if fi2 (erN (nameB (msNm x))) (twE (msNm x) st.d)=0 then (if ix daNm (msD x) (moD m)<(moD m).length then msTe ((moD m).getD (ix daNm (msD x) (moD m)) default) x else 5) else fi2 (erN (nameB (msNm x))) (twE (msNm x) st.d)
theorem geM_c{m m2:Mo}(h:moD m2=moD m):geM m2=geM m:=by funext x st; unfold geM; rw [h]
theorem msE(m:Mo)(x:Ms)(a b c d f:List BA)(hz:Sz m)(hx:bulkPs (msL x)<=10000000):Ef 49 [.agg (wL m),.agg (msL x),.mp 3] [(0,[.mm (mks a)]),(1,[.mm (mks b)]),(2,[.mm (mks c)]),(3,[.mm (mks d)]),(4,[.mm (mks f)])] (.ret (.int .i64 (geM m x ⟨a,b,c,d,f,[]⟩))) [(0,[.mm (mks a)]),(1,[.mm (mks b)]),(2,[.mm (mks c)]),(3,[.mm (mks (adK (msNm x) d))]),(4,[.mm (mks f)])]:=by
 have hy:(daC ((moD m).getD (ix daNm (msD x) (moD m)) default)).length<=1048576:=by
  by_cases h:ix daNm (msD x) (moD m)<(moD m).length
  ·exact hz.hk _ (getD_mem h)
  ·rw [List.getD_eq_getElem?_getD,List.getElem?_eq_none oM]; decide
 have htl:=msTl sortC m x ((moD m).getD (ix daNm (msD x) (moD m)) default) [(0,[.mm (mks a)]),(1,[.mm (mks b)]),(2,[.mm (mks c)]),(3,[.mm (mks (adK (msNm x) d))]),(4,[.mm (mks f)])] hy hx
 unfold geM
 by_cases h0:fi2 (erN (nameB (msNm x))) (twE (msNm x) d)=0
 ·rw [iP h0]
  by_cases h1:ix daNm (msD x) (moD m)<(moD m).length
  ·rw [iP h1]; exact mse_2 m x a b c d f hz _ htl h0 h1
  ·rw [iN h1]; exact mse_3 m x a b c d f hz _ htl h0 h1
 ·rw [iN h0]; exact mse_1 m x a b c d f hz _ htl h0
theorem mo4(m:Mo)(k:Int)(y:Ms)(a b c d f:List BA)(r:Int)(hme:Ef 49 [.agg (wL m),.agg (msL y),.mp 3] [(0,[.mm (mks a)]),(1,[.mm (mks b)]),(2,[.mm (mks c)]),(3,[.mm (mks d)]),(4,[.mm (mks f)])] (.ret (.int .i64 r)) [(0,[.mm (mks a)]),(1,[.mm (mks b)]),(2,[.mm (mks c)]),(3,[.mm (mks (adK (msNm y) d))]),(4,[.mm (mks f)])]):Ef 48 [pI k,.agg (msL y),.ro (wL m) 0,.ro [PV.mp 3] 0] ([(0,[LV.mm (mks a)]),(1,[LV.mm (mks b)]),(2,[LV.mm (mks c)]),(3,[LV.mm (mks d)]),(4,[LV.mm (mks f)])]) (rI r) ([(0,[LV.mm (mks a)]),(1,[LV.mm (mks b)]),(2,[LV.mm (mks c)]),(3,[LV.mm (mks (adK (msNm y) d))]),(4,[LV.mm (mks f)])]):=
 ef mdW [ce hme] func48
theorem chkT(m:Mo)(hz:Sz m)(hs:bulkPs (moL m)<=10000000):Pu 10 [.agg (moL m)] (.ret (.int .i64 (moE geM m))):=
 chk m _ (modT m hz geM (fun k w a b c d f hw=>mo4 m k w a b c d f _ (msE m w a b c d f hz (by have:=mo_bulk m; have:=Ms.mem hw; omega))) (fun _ _=>rfl) hs)
end Go.Proofs.YtmllcplaohkjnaaGreatDoor
