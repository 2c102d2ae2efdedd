/- Values of Go as plain data, an evaluator over them, and what the functions of the program return; part Yc. -/
import Derived.Test.YtaakmholhliodaaGreatDoorYb
import Derived.RangeFuncNested
import Derived.RangeFuncBound
import Derived.RangeFuncCalls
import Derived.RangeFuncLeaves
import Derived.Shelf.Abstract
import Derived.Shelf.RegionOpen
import Derived.WalkKit
import Derived.OwnWalkIn
import Derived.TacticsInMore
import Derived.LoopNIn
import Derived.LoopIn
import Derived.Test.YtaakmholhliodaaGreatDoorYa
set_option linter.unusedSectionVars false
set_option linter.unusedSimpArgs false
set_option linter.unusedVariables false
namespace Go.Proofs.YtaakmholhliodaaGreatDoor
open Go.Proofs.Tryz
open Go.Pv Go.Proofs.Tryz
set_option maxRecDepth 100000
def mdB:Md:=⟨fun _=>some false,fun t=>t==4000081||t==4000082⟩
def prVr(x:BA):Pr := .mk 3 x 0 []
def prZ:Pr := .mk 0 nm0 0 []
theorem wk_pr(o:Int)(x:BA)(n:Int):Wk (.agg [.int .i64 o,.str x,.int .i64 n,.nilsl]) (.agg (prL (.mk o x n []))) := .agg rfl fun j h h'=>by
 have:j<4:=h
 match j,this with
 | 0,_=>exact .r _
 | 1,_=>exact .r _
 | 2,_=>exact .r _
 | 3,_=>exact .n 4
theorem withV(l:Sc)(hn:(scK l).Nodup)(nm:BA)(t:Int)(x:BA):Pu 66 [.agg (scL l),.str nm,.int .i64 t,.agg [.int .i64 3,.str x,.int .i64 0,.nilsl]] (.ret (.agg (scL (scW nm t (prVr x) l)))):=
 Ob.pur_arg (.c (.r _) (.c (.r _) (.c (.r _) (.c (wk_pr 3 x 0) (.r _))))) (withT l hn nm t (prVr x))
theorem withZ(l:Sc)(hn:(scK l).Nodup)(nm:BA)(t:Int):Pu 66 [.agg (scL l),.str nm,.int .i64 t,.agg [.int .i64 0,.str nm0,.int .i64 0,.nilsl]] (.ret (.agg (scL (scW nm t prZ l)))):=
 Ob.pur_arg (.c (.r _) (.c (.r _) (.c (.r _) (.c (wk_pr 0 nm0 0) (.r _))))) (withT l hn nm t prZ)
abbrev be0_I(d:Df)(u:Tp)(s0:Sc)(xe:Ext)(j:Int)(s:Sc)  : S:=S.mk [(1,.lp 1 0),(2,.lp 2 0),(4,.lp 4 0),(5,.lp 5 0),(55,vL 1 (nmsC (dfP d))),(56,vI6 ((dfP d).length:Int)),(57,vI6 j)] [(1,dfV d),(2,[.v PV.mpn,.v PV.mpn]),(4,[.v (PV.fm (scK s) (scT s)),.v (PV.fm (scK s) (scP s))]),(5,tpV u)] xe
def be0_f(u:Tp):List BA->Nat->(Sc)->(Sc)
 | [],i,s=>(s)
 | el::r,i,s=>be0_f u r (i+1) (scW el (tpO (List.getD (tpA u) i default)) (prVr el) s)
def be0_q(d:Df)(u:Tp)(s0:Sc)(xe:Ext)(p:(Sc)):PExit × S:=(.exit 0,S.mk [(1,.lp 1 0),(2,.lp 2 0),(4,.lp 4 0),(5,.lp 5 0),(55,vL 1 (nmsC (dfP d))),(56,vI6 ((dfP d).length:Int))] [(1,dfV d),(2,[.v PV.mpn,.v PV.mpn]),(4,[.v (PV.fm (scK p) (scT p)),.v (PV.fm (scK p) (scP p))]),(5,tpV u)] xe)
theorem be0(d:Df)(u:Tp)(s0:Sc)(hlen:(tpA u).length=(dfP d).length+1)(hs0:(scK s0).Nodup)(xe:Ext)(s:Sc)(hN:(dfP d).length<=1000000000)(hv:List.Nodup (scK s)):(Ob.loop 75 (loopF f31 0) (be0_I d u s0 xe 0 s) (be0_q d u s0 xe  (be0_f u ((dfP d)) 0 s)).1 (be0_q d u s0 xe  (be0_f u ((dfP d)) 0 s)).2).ok prog:=by
 refine rng ((dfP d).length) (fun j s=>be0_I d u s0 xe j s) (fun i s=>be0_f u (List.drop i ((dfP d))) i s) (be0_q d u s0 xe) (fun i s=>((scK s).Nodup)) kR ?_ s (by first | exact hv | omega)
 rintro i s hi hv
 try simp only at hv
 rcases Nat.lt_or_ge i ((dfP d).length) with hlt | hge
 ·have hd:=drop_at0 hlt
  exact lS mdB [rgNm hlt,mxTp (tpA u) (i:Int),xTp (tpA u) i oM,cl (@withV s hv (List.getD (dfP d) i nm0) (tpO (List.getD (tpA u) i default)) (List.getD (dfP d) i nm0)),wr ((i:Int)+1)] [1,2,4,5,55,56,57] [1,2,4,5] hlt (scW (List.getD (dfP d) i nm0) (tpO (List.getD (tpA u) i default)) (prVr (List.getD (dfP d) i nm0)) s) (S.mk [(1,.lp 1 0),(2,.lp 2 0),(4,.lp 4 0),(5,.lp 5 0),(55,vL 1 (nmsC (dfP d))),(56,vI6 ((dfP d).length:Int)),(57,vI6 ((i:Int)+1))] [(1,dfV d),(2,[.v PV.mpn,.v PV.mpn]),(4,[.v (PV.fm (scK (scW (List.getD (dfP d) i nm0) (tpO (List.getD (tpA u) i default)) (prVr (List.getD (dfP d) i nm0)) s)) (scT (scW (List.getD (dfP d) i nm0) (tpO (List.getD (tpA u) i default)) (prVr (List.getD (dfP d) i nm0)) s))),.v (PV.fm (scK (scW (List.getD (dfP d) i nm0) (tpO (List.getD (tpA u) i default)) (prVr (List.getD (dfP d) i nm0)) s)) (scP (scW (List.getD (dfP d) i nm0) (tpO (List.getD (tpA u) i default)) (prVr (List.getD (dfP d) i nm0)) s)))]),(5,tpV u)] xe) ⟨⟨W,W,W,W,W,W,W,tVv⟩,⟨Ws,Ws,⟨Wq,Wq,tVv⟩,Ws,tVv⟩,rfl⟩ (by first | assumption | omega | (apply scW_keys <;> first | assumption | omega | decide) | (apply gTp <;> first | assumption | omega | decide) | (simp only [List.length_append,List.length_cons,List.length_nil] at *; omega) | simp_all) (by rw [hd,be0_f])
 ·have he:i=(dfP d).length:=by omega
  exact lX mdB [df ((i:Int)<((dfP d).length:Int))] (s) (by rw [he,List.drop_length,be0_f])
theorem be0_le(u:Tp):∀ (l:List BA) (i:Nat) (s:Sc),(scK s).Nodup->(scK (be0_f u l i s)).Nodup
 | [],i,s,h=>h
 | x::r,i,s,h=>be0_le u r (i+1) _ (scW_keys h)
theorem be0N(d:Df)(u:Tp)(hlen:(tpA u).length=(dfP d).length+1)(hN:(dfP d).length<=1000000000)(xe:Ext):(Ob.loop 75 (loopF f31 0) ⟨[(1,.lp 1 0),(2,.lp 2 0),(4,.lp 4 0),(5,.lp 5 0),(55,.v (.sl 1 (nmsC (dfP d)))),(56,.v (.int .i64 (dfP d).length)),(57,.v (.int .i64 0))],[(1,dfV d),(2,[.v .mpn,.v .mpn]),(4,[.v (.fm [] []),.v (.fm [] [])]),(5,tpV u)],xe⟩ (be0_q d u [] xe (be0_f u ((dfP d)) 0 [])).1 (be0_q d u [] xe (be0_f u ((dfP d)) 0 [])).2).ok prog:=be0 d u [] hlen List.nodup_nil xe [] hN List.nodup_nil
section
variable (d:Df) (u:Tp) (b:Bool) (hpl:Pu 62 [.agg (tpL (dfT d))] (.ret (.agg (tpL u)))) (hsi:Pu 63 [.sl 9 (Tp.cs (tpA u)),.fn (.func 64) [] []] (.ret (.bool b))) (hN:(dfP d).length<=1000000000)
include d u b hpl hsi hN
theorem beL_1(hx0:((dfP d).length:Int)=0):Pu 31 [.agg (dfL d)] (.ret (.tup [.agg [PV.fm [] [],PV.fm [] []],.bool false])):=
 pm mdB [cl hpl,sl (nmsC_len (dfP d)),rp 6 (et1 hx0),rp 24 (bt true)] func31
theorem beL_2(hx0:¬((dfP d).length:Int)=0)(hx1:((dfAb d).length:Int)>0):Pu 31 [.agg (dfL d)] (.ret (.tup [.agg [PV.fm [] [],PV.fm [] []],.bool false])):=
 pm mdB [cl hpl,sl (nmsC_len (dfP d)),rp 4 (en1 hx0),sl (Vr.cs_len (dfAb d)),rp 2 (en1 hx0),rp 6 (dt1 hx1),rp 18 (bt true)] func31
theorem beL_3(hx0:¬((dfP d).length:Int)=0)(hx1:¬((dfAb d).length:Int)>0)(hx2:((dfBo d).length:Int)>0):Pu 31 [.agg (dfL d)] (.ret (.tup [.agg [PV.fm [] [],PV.fm [] []],.bool false])):=
 pm mdB [cl hpl,sl (nmsC_len (dfP d)),rp 4 (en1 hx0),sl (Vr.cs_len (dfAb d)),rp 2 (en1 hx0),rp 4 (df1 hx1),sl (Bo.cs_len (dfBo d)),rp 2 (df1 hx1),rp 4 (dt1 hx2),rp 14 (bt true)] func31
theorem beL_4(hx0:¬((dfP d).length:Int)=0)(hx1:¬((dfAb d).length:Int)>0)(hx2:¬((dfBo d).length:Int)>0)(hx3:¬tpO u=6):Pu 31 [.agg (dfL d)] (.ret (.tup [.agg [PV.fm [] [],PV.fm [] []],.bool false])):=
 pm mdB [cl hpl,sl (nmsC_len (dfP d)),rp 4 (en1 hx0),sl (Vr.cs_len (dfAb d)),rp 2 (en1 hx0),rp 4 (df1 hx1),sl (Bo.cs_len (dfBo d)),rp 2 (df1 hx1),rp 4 (df1 hx2),rp 9 (nt1 hx3),rp 5 (bt true)] func31
theorem beL_5(hx0:¬((dfP d).length:Int)=0)(hx1:¬((dfAb d).length:Int)>0)(hx2:¬((dfBo d).length:Int)>0)(hx3:tpO u=6)(hx4:¬((tpA u).length:Int)=((dfP d).length:Int)+1):Pu 31 [.agg (dfL d)] (.ret (.tup [.agg [PV.fm [] [],PV.fm [] []],.bool false])):=
 pm mdB [cl hpl,sl (nmsC_len (dfP d)),rp 4 (en1 hx0),sl (Vr.cs_len (dfAb d)),rp 2 (en1 hx0),rp 4 (df1 hx1),sl (Bo.cs_len (dfBo d)),rp 2 (df1 hx1),rp 4 (df1 hx2),rp 3 (nn1 hx3),sl (Tp.cs_len (tpA u)),rp 3 (nn1 hx3),sl (nmsC_len (dfP d)),nn1 hx3,wr (((dfP d).length:Int)+1),rp 2 (nn1 hx3),rp 4 (nt1 hx4),bt true] func31
theorem beL_6(hx0:¬((dfP d).length:Int)=0)(hx1:¬((dfAb d).length:Int)>0)(hx2:¬((dfBo d).length:Int)>0)(hx3:tpO u=6)(hx4:((tpA u).length:Int)=((dfP d).length:Int)+1)(hx5:b=true):Pu 31 [.agg (dfL d)] (.ret (.tup [.agg [PV.fm [] [],PV.fm [] []],.bool false])):=
 pm mdB [cl hpl,sl (nmsC_len (dfP d)),rp 4 (en1 hx0),sl (Vr.cs_len (dfAb d)),rp 2 (en1 hx0),rp 4 (df1 hx1),sl (Bo.cs_len (dfBo d)),rp 2 (df1 hx1),rp 4 (df1 hx2),rp 3 (nn1 hx3),sl (Tp.cs_len (tpA u)),rp 3 (nn1 hx3),sl (nmsC_len (dfP d)),nn1 hx3,wr (((dfP d).length:Int)+1),rp 2 (nn1 hx3),rp 3 (nn1 hx4),cl hsi,nn1 hx4,bt1 hx5] func31
theorem beL_7(hx0:¬((dfP d).length:Int)=0)(hx1:¬((dfAb d).length:Int)>0)(hx2:¬((dfBo d).length:Int)>0)(hx3:tpO u=6)(hx4:((tpA u).length:Int)=((dfP d).length:Int)+1)(hx5:b=false):Pu 31 [.agg (dfL d)] (.ret (.tup [.agg [PV.fm (scK (be0_f u (dfP d) 0 [])) (scT (be0_f u (dfP d) 0 [])),PV.fm (scK (be0_f u (dfP d) 0 [])) (scP (be0_f u (dfP d) 0 []))],.bool true])):=
 pu mdB (fun e=>[cl hpl,sl (nmsC_len (dfP d)),rp 4 (en1 hx0),sl (Vr.cs_len (dfAb d)),rp 2 (en1 hx0),rp 4 (df1 hx1),sl (Bo.cs_len (dfBo d)),rp 2 (df1 hx1),rp 4 (df1 hx2),rp 3 (nn1 hx3),sl (Tp.cs_len (tpA u)),rp 3 (nn1 hx3),sl (nmsC_len (dfP d)),nn1 hx3,wr (((dfP d).length:Int)+1),rp 2 (nn1 hx3),rp 3 (nn1 hx4),cl hsi,nn1 hx4,bf1 hx5,sl (nmsC_len (dfP d)),lq (@be0N d u oM hN e)]) func31
end
theorem cs_map_le{f:Tp->Tp}:∀ {l:List Tp},(∀w∈l,bulkPs (tpL (f w))<=bulkPs (tpL w))->bulkPss (Tp.cs (l.map f))<=bulkPss (Tp.cs l)
 | [],_=>Nat.le_refl _
 | x::r,h=>by
  have h1:=h x sM
  have h2:=cs_map_le (l:=r) fun w hw=>h w (by simp [hw])
  rw [Tp.cs_eq] at h2 ⊢
  rw [Tp.cs_eq] at h2 ⊢
  rw [List.map_cons,List.map_cons,List.map_cons,bulkPss,bulkPss]
  omega
theorem plD_bulk:∀ (d:Nat) (t:Tp),bulkPs (tpL (plD d t))<=bulkPs (tpL t)
 | 0,_=>Nat.le_refl _
 | d+1,t=>by
  have h:=cs_map_le (l:=tpA t) fun w _=>plD_bulk d w
  have e:tpA (plD (d+1) t)=(tpA t).map (plD d):=by
   show pl0_f (plD d) (tpA t) []=_
   rw [pl0_e]
   rfl
  have e1:tpNm (plD (d+1) t)=tpNm t:=rfl
  have e2:bulkPss (nmsC (tpNs (plD (d+1) t)))=0:=rfl
  have e3:(prNm (tpP (plD (d+1) t))).size=0:=rfl
  have e4:bulkPss (Pr.cs (prK (tpP (plD (d+1) t))))=0:=rfl
  have e5:bulkPss (Pr.cs (tpPs (plD (d+1) t)))=0:=rfl
  simp only [bulkPs,bulkP,e,e1,e2,e3,e4,e5]
  omega
theorem plF_bulk(t:Tp):bulkPs (tpL (plF t))<=bulkPs (tpL t):=plD_bulk _ t
def simB(t:Tp):Bool:=(tpO (plF t)==1||tpO (plF t)==2)&&ByteArray.toList (tpNm (plF t))==ByteArray.toList nm0&&((tpA (plF t)).length:Int)==0
theorem simT(t:Tp)(hs:bulkPs (tpL t)<=1000000000):Pu 65 [.agg (tpL t)] (.ret (.bool (simB t))):=simL t hs
theorem anyT(l:List Tp)(hs:bulkPss (Tp.cs l)<=1000000000):Pu 63 [.sl 9 (Tp.cs l),.fn (.func 64) [] []] (.ret (.bool (l.any fun t=>!simB t))):=
 cfTT l _ [] (fun t=>!simB t) (fun w hw=>beN w (simB w) (simT w (by have:=Tp.mem hw; omega))) (by have:=Tp.bulk l; omega)
def bgB(d:Df):Bool:=decide ((dfP d).length≠0)&&decide ((dfAb d).length=0)&&decide ((dfBo d).length=0)&&decide (tpO (plF (dfT d))=6)&&decide ((tpA (plF (dfT d))).length=(dfP d).length+1) && !((tpA (plF (dfT d))).any fun t=>!simB t)
def bgF(d:Df):Sc:=if bgB d=true then be0_f (plF (dfT d)) (dfP d) 0 [] else []
theorem bgF_keys(d:Df):(scK (bgF d)).Nodup:=by
 unfold bgF
 split
 ·exact be0_le _ _ _ _ List.nodup_nil
 ·exact List.nodup_nil
theorem df_le(d:Df):bulkPss (nmsC (dfP d))+bulkPs (exL (dfB d))+bulkPs (tpL (dfT d))<=bulkPs (dfL d):=by
 simp only [bulkPs,bulkP]
 omega
theorem sc_e0:scL []=[PV.fm [] [],PV.fm [] []]:=rfl
theorem bgT(d:Df)(hs:bulkPs (dfL d)<=100000000):Pu 31 [.agg (dfL d)] (.ret (.tup [.agg (scL (bgF d)),.bool (bgB d)])):=by
 have hq:=df_le d
 have hp:(dfP d).length<=1000000000:=by
  have:=nms_bulk (dfP d)
  omega
 have ht:bulkPs (tpL (dfT d))<=1000000000:=by omega
 have hl:bulkPss (Tp.cs (tpA (plF (dfT d))))<=1000000000:=by
  have h1:=plF_bulk (dfT d)
  have h2:=tpw_bulk (plF (dfT d))
  omega
 have hpl:=plT (dfT d) ht
 have hsi:=anyT (tpA (plF (dfT d))) hl
 unfold bgF bgB
 by_cases h0:(dfP d).length=0
 ·simpa [h0,sc_e0] using beL_1 d _ _ hpl hsi hp oM
 by_cases h1:(dfAb d).length=0
 case neg=>simpa [h1,sc_e0] using beL_2 d _ _ hpl hsi hp oM oM
 by_cases h2:(dfBo d).length=0
 case neg=>simpa [h2,sc_e0] using beL_3 d _ _ hpl hsi hp oM oM oM
 by_cases h3:tpO (plF (dfT d))=6
 case neg=>simpa [h3,sc_e0] using beL_4 d _ _ hpl hsi hp oM oM oM h3
 by_cases h4:(tpA (plF (dfT d))).length=(dfP d).length+1
 case neg=>simpa [h4,sc_e0] using beL_5 d _ _ hpl hsi hp oM oM oM h3 oM
 cases h5:(tpA (plF (dfT d))).any fun t=>!simB t with
 | true=>
  have:=beL_6 d _ _ hpl hsi hp oM oM oM h3 oM h5
  rw [Bool.not_true,Bool.and_false,iN sM]
  exact this
 | false=>
  have:=beL_7 d _ _ hpl hsi hp oM oM oM h3 oM h5
  rw [h1,h2,h3,h4,show (decide ((dfP d).length≠0))=true by simpa using h0]
  simp only [eq_self,decide_true,Bool.and_true,Bool.not_false,if_true]
  exact this
abbrev sdA_I(m:Mo)(nm:BA)(j:Int)(e:Ext):S:=S.mk [(1,vS nm),(4,.lp 4 0),(9,vL 25 (Df.cs (moF m))),(10,vI6 ((moF m).length:Int)),(11,vI6 j)] [(4,[vS nm0,.v .nilsl,vI6 0,vS nm0,vI6 0,.v .nilsl,.v .nilsl,.v .nilsl,.v .nilsl,vI6 0,.v (.bool false),.v .nilsl,.v .nilsl,.v .nilsl,.v .nilsl,vI6 0,vS nm0,.v .nilsl,.v .nilsl,vI6 0,vS nm0,vI6 0,.v .nilsl,.v .nilsl,.v .nilsl])] e
inductive sdA_R where
 | e0 (el:Df)
 | e1
def sdA_f(nm:BA):List Df->sdA_R
 | []=>(sdA_R.e1)
 | el::r=>(if dfNm el=nm then (sdA_R.e0 el) else sdA_f nm r)
def sdA_q(m:Mo)(nm:BA)(e:Ext):sdA_R->PExit × S
 | .e0 el=>(.ret,S.mk [(1,vS nm),(4,.lp 4 0),(9,vL 25 (Df.cs (moF m))),(10,vI6 ((moF m).length:Int)),(5,.v (.bool true))] [(4,dfV el)] e)
 | .e1=>(.exit 0,S.mk [(1,vS nm),(4,.lp 4 0),(9,vL 25 (Df.cs (moF m))),(10,vI6 ((moF m).length:Int))] [(4,[vS nm0,.v .nilsl,vI6 0,vS nm0,vI6 0,.v .nilsl,.v .nilsl,.v .nilsl,.v .nilsl,vI6 0,.v (.bool false),.v .nilsl,.v .nilsl,.v .nilsl,.v .nilsl,vI6 0,vS nm0,.v .nilsl,.v .nilsl,vI6 0,vS nm0,vI6 0,.v .nilsl,.v .nilsl,.v .nilsl])] e)
theorem sdA_lp(m:Mo)(nm:BA)(e:Ext)(hN:(moF m).length<=1000000000):(Ob.loop 22 (loopF f99 0) (sdA_I m nm 0  e) (sdA_q m nm e (sdA_f nm ((moF m)))).1 (sdA_q m nm e (sdA_f nm ((moF m)))).2).ok prog:=by
 refine rng ((moF m).length) (fun j _=>sdA_I m nm j  e) (fun i _=>sdA_f nm (List.drop i ((moF m)))) (sdA_q m nm e) (fun i _=>True) kR ?_ () trivial
 rintro i u hi -
 rcases Nat.lt_or_ge i ((moF m).length) with hlt | hge
 ·have hd:=drop_at hlt
  by_cases h0:dfNm (List.getD (moF m) i default)=nm
  ·exact lX mdL [rgDf hlt,bt (ByteArray.toList (dfNm (List.getD (moF m) i default))==ByteArray.toList nm) (bsT h0)] (sdA_R.e0 (List.getD ((moF m)) i default)) (by rw [hd,sdA_f,iP h0])
  ·exact lN mdL [rgDf hlt,bf (ByteArray.toList (dfNm (List.getD (moF m) i default))==ByteArray.toList nm) (bsF h0),wr ((i:Int)+1)] hlt () trivial (by rw [hd,sdA_f,iN h0])
 ·have he:i=(moF m).length:=by omega
  exact lX mdL [df ((i:Int)<((moF m).length:Int))] (sdA_R.e1) (by rw [he,List.drop_length,sdA_f])
def opS_r0(k:Int):Int:=(if k=10 then 6 else (if k=11 then 7 else (if k=12 then 8 else (if k=16 then 10 else (if k=17 then 12 else (if k=18 then 13 else (if k=19 then 15 else (if k=20 then 16 else 0))))))))
def opS_r1(k:Int):Bool:=(if k=10 then true else (if k=11 then true else (if k=12 then true else (if k=16 then true else (if k=17 then true else (if k=18 then true else (if k=19 then true else (if k=20 then true else false))))))))
theorem opS(k:Int):Pu 100 [pI k] (.ret (.tup [pI (opS_r0 k),.bool (opS_r1 k)])):=by
 refine t0 ?_;by_cases h0:k=10
 ·simp only [opS_r0,opS_r1,iP h0]; exact tM mdL [et1 h0] func100
 ·refine tp [en1 h0] ?_;by_cases h1:k=11
  ·simp only [opS_r0,opS_r1,iN h0,iP h1]; exact tM mdL [et1 h1] func100
  ·refine tp [en1 h1] ?_;by_cases h2:k=12
   ·simp only [opS_r0,opS_r1,iN h0,iN h1,iP h2]; exact tM mdL [et1 h2] func100
   ·refine tp [en1 h2] ?_;by_cases h3:k=16
    ·simp only [opS_r0,opS_r1,iN h0,iN h1,iN h2,iP h3]; exact tM mdL [et1 h3] func100
    ·refine tp [en1 h3] ?_;by_cases h4:k=17
     ·simp only [opS_r0,opS_r1,iN h0,iN h1,iN h2,iN h3,iP h4]; exact tM mdL [et1 h4] func100
     ·refine tp [en1 h4] ?_;by_cases h5:k=18
      ·simp only [opS_r0,opS_r1,iN h0,iN h1,iN h2,iN h3,iN h4,iP h5]; exact tM mdL [et1 h5] func100
      ·refine tp [en1 h5] ?_;by_cases h6:k=19
       ·simp only [opS_r0,opS_r1,iN h0,iN h1,iN h2,iN h3,iN h4,iN h5,iP h6]; exact tM mdL [et1 h6] func100
       ·refine tp [en1 h6] ?_;by_cases h7:k=20
        ·simp only [opS_r0,opS_r1,iN h0,iN h1,iN h2,iN h3,iN h4,iN h5,iN h6,iP h7]; exact tM mdL [et1 h7] func100
        ·simp only [opS_r0,opS_r1,iN h0,iN h1,iN h2,iN h3,iN h4,iN h5,iN h6,iN h7]; exact tM mdL [en1 h7] func100
def sdO(nm:BA)(l:List Df):Option Df:=l.find? fun d=>decide (dfNm d=nm)
theorem sdA_e(nm:BA):∀l:List Df,sdA_f nm l=match sdO nm l with | some d => .e0 d | none => .e1
 | []=>rfl
 | d::r=>by
  by_cases h:dfNm d=nm
  ·simp [sdA_f,sdO,h]
  ·have:=sdA_e nm r
   simp only [sdA_f,sdO,List.find?_cons,h,if_false,decide_false] at this ⊢
   exact this
theorem sdL_1(m:Mo)(nm:BA)(hN:(moF m).length<=1000000000)(hy0:Df)(hx1:sdA_f nm (moF m)=sdA_R.e0 hy0):Pu 99 [.agg (moL m),.str nm] (.ret (.tup [.agg (dfL hy0),.bool true])):=
 pu mdL (fun e=>[sl (Df.cs_len (moF m)),lq (rz (sdA_lp (m) (nm) (e) hN) hx1)]) func99
theorem sdL_2(m:Mo)(nm:BA)(hN:(moF m).length<=1000000000)(hx0:sdA_f nm (moF m)=sdA_R.e1):Pu 99 [.agg (moL m),.str nm] (.ret (.tup [.agg [.str nm0,.sl 1 [],pI 0,.str nm0,pI 0,.sl 7 [],.sl 10 [],.sl 9 [],.sl 9 [],pI 0,.bool false,.sl 1 [],.sl 2 [],.sl 2 [],.sl 10 [],pI 0,.str nm0,.sl 9 [],.sl 1 [],pI 0,.str nm0,pI 0,.sl 4 [],.sl 4 [],.sl 4 []],.bool false])):=
 Ob.pur_wk (Wk.t (WkL.c (Wk.a (kr (kn 1 (kr (kr (kr (kn 7 (kn 10 (kn 9 (kn 9 (kr (kr (kn 1 (kn 2 (kn 2 (kn 10 (kr (kr (kn 9 (kn 1 (kr (kr (kr (kn 4 (kn 4 (kn 4 (WkL.r _))))))))))))))))))))))))))) (WkL.r _))) (pu mdL (fun e=>[sl (Df.cs_len (moF m)),lq (rz (sdA_lp (m) (nm) (e) hN) hx0)]) func99)
theorem sdT(m:Mo)(nm:BA)(hN:(moF m).length<=1000000000):Pu 99 [.agg (moL m),.str nm] (.ret (.tup [.agg (dfL ((sdO nm (moF m)).getD default)),.bool (sdO nm (moF m)).isSome])):=by
 have h:=sdA_e nm (moF m)
 cases ho:sdO nm (moF m) with
 | none=>rw [ho] at h; first | exact sdL_1 m nm hN h | exact sdL_2 m nm hN h
 | some d=>rw [ho] at h; first | exact sdL_1 m nm hN _ h | exact sdL_2 m nm hN _ h
def scO(k:BA)(l:Sc):Option (BA × Int × Pr):=l.find? fun x=>decide (x.1=k)
def scTy(k:BA)(l:Sc):Int:=((scO k l).map fun x=>x.2.1).getD 0
def scPr(k:BA)(l:Sc):Pr:=((scO k l).map fun x=>x.2.2).getD prZ
theorem sc_m1(k:BA):∀l:Sc,mget k (scE1 l)=(scO k l).map fun x => .int .i64 x.2.1
 | []=>rfl
 | x::r=>by
  have:=sc_m1 k r
  by_cases h:x.1=k
  ·simp [scE1,mget,scO,h]
  ·simp only [scE1,scO,List.map_cons,mget,h,if_false,List.find?_cons,decide_false] at this ⊢
   exact this
theorem sc_m2(k:BA):∀l:Sc,mget k (scE2 l)=(scO k l).map fun x => .agg (prL x.2.2)
 | []=>rfl
 | x::r=>by
  have:=sc_m2 k r
  by_cases h:x.1=k
  ·simp [scE2,mget,scO,h]
  ·simp only [scE2,scO,List.map_cons,mget,h,if_false,List.find?_cons,decide_false] at this ⊢
   exact this
theorem lu_sc1(k:BA)(l:Sc):luRes false (mget k ((scK l).zip (scT l))) (.int .i64 0) = .int .i64 (scTy k l):=by
 rw [scZ1,sc_m1]
 simp only [luRes,scTy]
 cases scO k l <;> rfl
theorem rkN(m:Mo)(w:Ex)(s:Sc)(b:Bool)(hb:Pu 61 [.agg (moL m),.agg (exL w),.agg (scL s)] (.ret (.bool b))):Pu 98 [.agg (exL w),.ro (moL m) 0,.ro (scL s) 0] (rB !b):=
 pm mdL [cl hb] func98
theorem rkL(m:Mo)(e0:Ex)(s:Sc)(b:Bool)(hb:Pu 97 [.sl 7 (Ex.cs (exK e0)),.fn (.func 98) [] [.ro (moL m) 0,.ro (scL s) 0]] (.ret (.bool b))):Pu 96 [.ro (exL e0) 0,.ro (moL m) 0,.ro (scL s) 0] (rB !b):=
 pm mdL [cl hb] func96
theorem rkT(m:Mo)(x:Ex)(s:Sc)(rg:Ex->Bool)(hwk:∀w:Ex,w∈exK x->Pu 61 [.agg (moL m),.agg (exL w),.agg (scL s)] (.ret (.bool (rg w))))(hN:(exK x).length<=1000000000) :
  Pu 96 [.ro (exL x) 0,.ro (moL m) 0,.ro (scL s) 0] (.ret (.bool ((exK x).all rg))):=by
 have h:=rkL m x s _ (cfET (exK x) _ [.ro (moL m) 0,.ro (scL s) 0] (fun w=>!rg w) (fun w hw=>rkN m w s (rg w) (hwk w hw)) hN)
 rw [show (!(exK x).any fun w=>!rg w)=(exK x).all rg by simp [List.all_eq_not_any_not]] at h
 exact h
theorem withZ'(l:Sc)(hn:(scK l).Nodup)(nm:BA)(t:Int):Pu 66 [.agg (scL l),.str nm,.int .i64 t,.agg [.int .i64 0,.str nm0,.int .i64 0,.nilsl]] (.ret (.agg (scL (scW nm t prZ l)))):=withZ l hn nm t
section
variable (m:Mo) (x:Ex) (s:Sc) (hn:(scK s).Nodup) (rg:Ex->Sc->Bool) (hwk:∀ (w:Ex) (u:Sc),w∈exK x->(scK u).Nodup->Pu 61 [.agg (moL m),.agg (exL w),.agg (scL u)] (.ret (.bool (rg w u)))) (kb:Bool) (hkb:Pu 96 [.ro (exL x) 0,.ro (moL m) 0,.ro (scL s) 0] (.ret (.bool kb))) (hsi:∀t:Tp,t∈exT x->Pu 65 [.agg (tpL t)] (.ret (.bool (simB t)))) (hpl:∀t:Tp,t∈exT x->Pu 62 [.agg (tpL t)] (.ret (.agg (tpL (plF t))))) (hN:(moF m).length<=1000000000) (hK:(exK x).length<=1000000000) (hT:(exT x).length<=1000000000) (hx0:¬exO x=1) (hx1:¬exO x=2) (hx2:¬exO x=3) (hx3:¬exO x=12) (hx4:¬exO x=15) (hx5:¬exO x=21) (hx6:¬exO x=8) (hx7:exO x=7) (hx8:((exK x).length:Int)=2) (hx9:((exT x).length:Int)=1)
include m x s hn rg hwk kb hkb hsi hpl hN hK hT hx0 hx1 hx2 hx3 hx4 hx5 hx6 hx7 hx8 hx9
theorem riL_14(hx10:simB (List.getD (exT x) 0 default)=true)(hx11:rg (List.getD (exK x) 0 default) s=true):Pu 61 [.agg (moL m),.agg (exL x),.agg (scL s)] (rB (rg (List.getD (exK x) 1 default) (scW (exNm x) (tpO (plF (List.getD (exT x) 0 default))) prZ s))):=
 pm mdL [sl (Ex.cs_len (exK x)),en1 hx0,en1 hx1,en1 hx2,en1 hx3,en1 hx4,en1 hx5,en1 hx6,et1 hx7,rp 3 (et1 hx8),sl (Tp.cs_len (exT x)),rp 2 (et1 hx8),rp 3 (et1 hx9),mxTp (exT x) 0,xTp (exT x) 0,rp 2 (et1 hx9),cl (@hsi (List.getD (exT x) 0 default) (by (apply gTp <;> first | assumption | omega | decide))),et1 hx9,rp 4 (bt1 hx10),mxEx (exK x) 0,xEx (exK x) 0,rp 3 (bt1 hx10),cl (@hwk (List.getD (exK x) 0 default) s (by (apply gEx <;> first | assumption | omega | decide)) hn),bt1 hx10,rp 4 (bt1 hx11),mxEx (exK x) 1,xEx (exK x) 1,rp 7 (bt1 hx11),mxTp (exT x) 0,xTp (exT x) 0,rp 2 (bt1 hx11),cl (@hpl (List.getD (exT x) 0 default) (by (apply gTp <;> first | assumption | omega | decide))),rp 3 (bt1 hx11),cl (@withZ' s hn (exNm x) (tpO (plF (List.getD (exT x) 0 default)))),bt1 hx11,cl (@hwk (List.getD (exK x) 1 default) (scW (exNm x) (tpO (plF (List.getD (exT x) 0 default))) prZ s) (by (apply gEx <;> first | assumption | omega | decide)) (by (apply scW_keys <;> first | assumption | omega | decide))),bt1 hx11] func61
theorem riL_15(hx10:simB (List.getD (exT x) 0 default)=true)(hx11:rg (List.getD (exK x) 0 default) s=false):Pu 61 [.agg (moL m),.agg (exL x),.agg (scL s)] (rB false):=
 pm mdL [sl (Ex.cs_len (exK x)),en1 hx0,en1 hx1,en1 hx2,en1 hx3,en1 hx4,en1 hx5,en1 hx6,et1 hx7,rp 3 (et1 hx8),sl (Tp.cs_len (exT x)),rp 2 (et1 hx8),rp 3 (et1 hx9),mxTp (exT x) 0,xTp (exT x) 0,rp 2 (et1 hx9),cl (@hsi (List.getD (exT x) 0 default) (by (apply gTp <;> first | assumption | omega | decide))),et1 hx9,rp 4 (bt1 hx10),mxEx (exK x) 0,xEx (exK x) 0,rp 3 (bt1 hx10),cl (@hwk (List.getD (exK x) 0 default) s (by (apply gEx <;> first | assumption | omega | decide)) hn),bt1 hx10,rp 18 (bf1 hx11)] func61
theorem riL_16(hx10:simB (List.getD (exT x) 0 default)=false):Pu 61 [.agg (moL m),.agg (exL x),.agg (scL s)] (rB false):=
 pm mdL [sl (Ex.cs_len (exK x)),en1 hx0,en1 hx1,en1 hx2,en1 hx3,en1 hx4,en1 hx5,en1 hx6,et1 hx7,rp 3 (et1 hx8),sl (Tp.cs_len (exT x)),rp 2 (et1 hx8),rp 3 (et1 hx9),mxTp (exT x) 0,xTp (exT x) 0,rp 2 (et1 hx9),cl (@hsi (List.getD (exT x) 0 default) (by (apply gTp <;> first | assumption | omega | decide))),et1 hx9,rp 8 (bf1 hx10),rp 18 (bf false)] func61
end
def riL_r0(m:Mo)(x:Ex)(s:Sc)(rg:Ex->Sc->Bool)(kb:Bool):Bool:=(if exO x=1 then (((exK x).length:Int)==0) else (if exO x=2 then (((exK x).length:Int)==0) else (if exO x=3 then (Option.isSome (mget (exNm x) (List.zip (scK s) (scT s)))&&((exK x).length:Int)==0) else (if exO x=12 then (if ((exK x).length:Int)=2 then (if exO (List.getD (exK x) 0 default)=1 then kb else (if exO (List.getD (exK x) 1 default)=1 then kb else false)) else false) else (if exO x=15 then (if ((exK x).length:Int)=1 then kb else false) else (if exO x=21 then (if ((exK x).length:Int)=1 then kb else false) else (if exO x=8 then (if ((exK x).length:Int)=3 then kb else false) else (if exO x=7 then (if ((exK x).length:Int)=2 then (if ((exT x).length:Int)=1 then (if simB (List.getD (exT x) 0 default)=true then (if rg (List.getD (exK x) 0 default) s=true then (rg (List.getD (exK x) 1 default) (scW (exNm x) (tpO (plF (List.getD (exT x) 0 default))) prZ s)) else false) else false) else false) else false) else (if exO x=5 then (if (Option.isSome (sdO (exNm x) (moF m)) && !Option.isSome (mget (exNm x) (List.zip (scK s) (scT s)))&&dfM (Option.getD (sdO (exNm x) (moF m)) default)==2)=true then kb else false) else (if (opS_r1 (exO x)&&((exK x).length:Int)==2)=true then kb else false))))))))))
theorem riL(m:Mo)(x:Ex)(s:Sc)(hn:(scK s).Nodup)(rg:Ex->Sc->Bool)(hwk:∀ (w:Ex) (u:Sc),w∈exK x->(scK u).Nodup->Pu 61 [.agg (moL m),.agg (exL w),.agg (scL u)] (.ret (.bool (rg w u))))(kb:Bool)(hkb:Pu 96 [.ro (exL x) 0,.ro (moL m) 0,.ro (scL s) 0] (.ret (.bool kb)))(hsi:∀t:Tp,t∈exT x->Pu 65 [.agg (tpL t)] (.ret (.bool (simB t))))(hpl:∀t:Tp,t∈exT x->Pu 62 [.agg (tpL t)] (.ret (.agg (tpL (plF t)))))(hN:(moF m).length<=1000000000)(hK:(exK x).length<=1000000000)(hT:(exT x).length<=1000000000):Pu 61 [.agg (moL m),.agg (exL x),.agg (scL s)] (rB (riL_r0 m x s rg kb)):=by
 by_cases h0:exO x=1
 ·simp only [riL_r0,iP h0]; exact pm mdL [sl (Ex.cs_len (exK x)),rp 2 (et1 h0)] func61
 ·by_cases h1:exO x=2
  ·simp only [riL_r0,iN h0,iP h1]; exact pm mdL [sl (Ex.cs_len (exK x)),en1 h0,et1 h1] func61
  ·by_cases h2:exO x=3
   ·simp only [riL_r0,iN h0,iN h1,iP h2]; exact pm mdL [sl (Ex.cs_len (exK x)),en1 h0,en1 h1,et1 h2,kp,mg,av (.v (.bool (bif Option.isSome (mget (exNm x) (List.zip (scK s) (scT s))) then ((exK x).length:Int)==0 else false))) (.v (.bool (Option.isSome (mget (exNm x) (List.zip (scK s) (scT s)))&&((exK x).length:Int)==0))) (by (simp only [Bool.cond_false_right]; done))] func61
   ·by_cases h3:exO x=12
    ·refine t0 ?_;refine tp [sl (Ex.cs_len (exK x)),en1 h0,en1 h1,en1 h2,et1 h3] ?_;by_cases h4:((exK x).length:Int)=2
     ·refine tp [rp 3 (et1 h4),mxEx (exK x) 0,xEx (exK x) 0,rp 4 (et1 h4)] ?_;by_cases h5:exO (List.getD (exK x) 0 default)=1
      ·simp only [riL_r0,iN h0,iN h1,iN h2,iP h3,iP h4,iP h5]; exact tM mdL [rp 6 (et1 h5),et1 h4,et1 h5,et1 h4,rp 2 (bt true),cl hkb,bt true] func61
      ·refine tp [rp 3 (en1 h5),mxEx (exK x) 1,xEx (exK x) 1,rp 3 (en1 h5),et1 h4,en1 h5,et1 h4] ?_;by_cases h6:exO (List.getD (exK x) 1 default)=1
       ·simp only [riL_r0,iN h0,iN h1,iN h2,iP h3,iP h4,iN h5,iP h6]; exact tM mdL [rp 2 (et1 h6),cl hkb,et1 h6] func61
       ·simp only [riL_r0,iN h0,iN h1,iN h2,iP h3,iP h4,iN h5,iN h6]; exact tM mdL [rp 3 (en1 h6)] func61
     ·simp only [riL_r0,iN h0,iN h1,iN h2,iP h3,iN h4]; exact tM mdL [rp 9 (en1 h4),rp 3 (bf false)] func61
    ·by_cases h4:exO x=15
     ·refine t0 ?_;refine tp [sl (Ex.cs_len (exK x)),en1 h0,en1 h1,en1 h2,en1 h3,rp 2 (et1 h4)] ?_;by_cases h5:((exK x).length:Int)=1
      ·simp only [riL_r0,iN h0,iN h1,iN h2,iN h3,iP h4,iP h5]; exact tM mdL [rp 2 (et1 h5),cl hkb,et1 h5] func61
      ·simp only [riL_r0,iN h0,iN h1,iN h2,iN h3,iP h4,iN h5]; exact tM mdL [rp 3 (en1 h5)] func61
     ·by_cases h5:exO x=21
      ·refine t0 ?_;refine tp [sl (Ex.cs_len (exK x)),en1 h0,en1 h1,en1 h2,en1 h3,en1 h4,et1 h5] ?_;by_cases h6:((exK x).length:Int)=1
       ·simp only [riL_r0,iN h0,iN h1,iN h2,iN h3,iN h4,iP h5,iP h6]; exact tM mdL [rp 2 (et1 h6),cl hkb,et1 h6] func61
       ·simp only [riL_r0,iN h0,iN h1,iN h2,iN h3,iN h4,iP h5,iN h6]; exact tM mdL [rp 3 (en1 h6)] func61
      ·by_cases h6:exO x=8
       ·refine t0 ?_;refine tp [sl (Ex.cs_len (exK x)),en1 h0,en1 h1,en1 h2,en1 h3,en1 h4,en1 h5,et1 h6] ?_;by_cases h7:((exK x).length:Int)=3
        ·simp only [riL_r0,iN h0,iN h1,iN h2,iN h3,iN h4,iN h5,iP h6,iP h7]; exact tM mdL [rp 2 (et1 h7),cl hkb,et1 h7] func61
        ·simp only [riL_r0,iN h0,iN h1,iN h2,iN h3,iN h4,iN h5,iP h6,iN h7]; exact tM mdL [rp 3 (en1 h7)] func61
       ·by_cases h7:exO x=7
        ·by_cases h8:((exK x).length:Int)=2
         ·by_cases h9:((exT x).length:Int)=1
          ·by_cases h10:simB (List.getD (exT x) 0 default)=true
           ·by_cases h11:rg (List.getD (exK x) 0 default) s=true
            ·simp only [riL_r0,iN h0,iN h1,iN h2,iN h3,iN h4,iN h5,iN h6,iP h7,iP h8,iP h9,iP h10,iP h11]; exact riL_14 m x s hn rg hwk kb hkb hsi hpl hN hK hT h0 h1 h2 h3 h4 h5 h6 h7 h8 h9 h10 h11
            ·simp only [riL_r0,iN h0,iN h1,iN h2,iN h3,iN h4,iN h5,iN h6,iP h7,iP h8,iP h9,iP h10,iN h11]; exact riL_15 m x s hn rg hwk kb hkb hsi hpl hN hK hT h0 h1 h2 h3 h4 h5 h6 h7 h8 h9 h10 (bFT h11)
           ·simp only [riL_r0,iN h0,iN h1,iN h2,iN h3,iN h4,iN h5,iN h6,iP h7,iP h8,iP h9,iN h10]; exact riL_16 m x s hn rg hwk kb hkb hsi hpl hN hK hT h0 h1 h2 h3 h4 h5 h6 h7 h8 h9 (bFT h10)
          ·simp only [riL_r0,iN h0,iN h1,iN h2,iN h3,iN h4,iN h5,iN h6,iP h7,iP h8,iN h9]; exact pm mdL [sl (Ex.cs_len (exK x)),en1 h0,en1 h1,en1 h2,en1 h3,en1 h4,en1 h5,en1 h6,et1 h7,rp 3 (et1 h8),sl (Tp.cs_len (exT x)),rp 2 (et1 h8),rp 6 (en1 h9),rp 26 (bf false)] func61
         ·simp only [riL_r0,iN h0,iN h1,iN h2,iN h3,iN h4,iN h5,iN h6,iP h7,iN h8]; exact pm mdL [sl (Ex.cs_len (exK x)),en1 h0,en1 h1,en1 h2,en1 h3,en1 h4,en1 h5,en1 h6,et1 h7,rp 5 (en1 h8),rp 32 (bf false)] func61
        ·refine t0 ?_;refine tp [sl (Ex.cs_len (exK x)),en1 h0,en1 h1,en1 h2,en1 h3,en1 h4,en1 h5,en1 h6,en1 h7] ?_;by_cases h8:exO x=5
         ·refine tp [et1 h8,cl (@sdT m (exNm x) hN),kp,mg,av (.v (.bool (bif Option.isSome (sdO (exNm x) (moF m)) then !Option.isSome (mget (exNm x) (List.zip (scK s) (scT s))) else false))) (.v (.bool (Option.isSome (sdO (exNm x) (moF m)) && !Option.isSome (mget (exNm x) (List.zip (scK s) (scT s)))))) (by (simp only [Bool.cond_false_right]; done)),mg,av (.v (.bool (bif Option.isSome (sdO (exNm x) (moF m)) && !Option.isSome (mget (exNm x) (List.zip (scK s) (scT s))) then dfM (Option.getD (sdO (exNm x) (moF m)) default)==2 else false))) (.v (.bool (Option.isSome (sdO (exNm x) (moF m)) && !Option.isSome (mget (exNm x) (List.zip (scK s) (scT s)))&&dfM (Option.getD (sdO (exNm x) (moF m)) default)==2))) (by (simp only [Bool.cond_false_right]; done))] ?_;by_cases h9:(Option.isSome (sdO (exNm x) (moF m)) && !Option.isSome (mget (exNm x) (List.zip (scK s) (scT s)))&&dfM (Option.getD (sdO (exNm x) (moF m)) default)==2)=true
          ·simp only [riL_r0,iN h0,iN h1,iN h2,iN h3,iN h4,iN h5,iN h6,iN h7,iP h8,iP h9]; exact tM mdL [rp 2 (bt1 h9),cl hkb,bt1 h9] func61
          ·simp only [riL_r0,iN h0,iN h1,iN h2,iN h3,iN h4,iN h5,iN h6,iN h7,iP h8,iN h9]; exact tM mdL [rp 3 (bf1 (bFT h9))] func61
         ·refine tp [en1 h8,cl (@opS (exO x)),mg,av (.v (.bool (bif opS_r1 (exO x) then ((exK x).length:Int)==2 else false))) (.v (.bool (opS_r1 (exO x)&&((exK x).length:Int)==2))) (by (simp only [Bool.cond_false_right]; done))] ?_;by_cases h9:(opS_r1 (exO x)&&((exK x).length:Int)==2)=true
          ·simp only [riL_r0,iN h0,iN h1,iN h2,iN h3,iN h4,iN h5,iN h6,iN h7,iN h8,iP h9]; exact tM mdL [rp 2 (bt1 h9),cl hkb,bt1 h9] func61
          ·simp only [riL_r0,iN h0,iN h1,iN h2,iN h3,iN h4,iN h5,iN h6,iN h7,iN h8,iN h9]; exact tM mdL [rp 3 (bf1 (bFT h9))] func61
def riD(m:Mo):Nat->Ex->Sc->Bool
 | 0,_,_=>false
 | d+1,x,s=>riL_r0 m x s (riD m d) ((exK x).all fun w=>riD m d w s)
theorem exk_bulk(x:Ex):bulkPss (Ex.cs (exK x))+bulkPss (Al.cs (exA x))+bulkPss (Tp.cs (exT x))<bulkPs (exL x):=by simp only [bulkPs,bulkP]; omega
theorem ri_ok(m:Mo)(hN:(moF m).length<=1000000000):∀ (d:Nat) (x:Ex) (s:Sc),bulkPs (exL x)<d->d<=1000000001->(scK s).Nodup->Pu 61 [.agg (moL m),.agg (exL x),.agg (scL s)] (.ret (.bool (riD m d x s)))
 | 0,x,s,h,_,_=>by omega
 | d+1,x,s,h,hd,hn=>by
  have h1:=exk_bulk x
  have h2:=Ex.bulk (exK x)
  have h3:=Tp.bulk (exT x)
  have hk:∀w:Ex,w∈exK x->bulkPs (exL w)<d:=fun w hw=>by have:=Ex.mem hw; omega
  have ht:∀t:Tp,t∈exT x->bulkPs (tpL t)<=1000000000:=fun t ht=>by have:=Tp.mem ht; omega
  exact riL m x s hn (riD m d) (fun w u hw hu=>ri_ok m hN d w u (hk w hw) oM hu) _ (rkT m x s (fun w=>riD m d w s) (fun w hw=>ri_ok m hN d w s (hk w hw) oM hn) oM) (fun t h=>simT t (ht t h)) (fun t h=>plT t (ht t h)) hN oM oM
def reS_r0(u:Tp):Int:=(if tpO u=6 then (if ((tpA u).length:Int)>0 then (if tpO (List.getD (tpA u) (Int.toNat (((tpA u).length:Int) - 1)) default)=2 then 2 else 1) else 1) else 1)
theorem reS(d:Df)(u:Tp)(hpl:Pu 62 [.agg (tpL (dfT d))] (.ret (.agg (tpL u))))(hN:(tpA u).length<=1000000000):Pu 39 [.agg (dfL d)] (rI (reS_r0 u)):=by
 refine t0 ?_;refine tp [cl hpl] ?_;by_cases h0:tpO u=6
 ·refine tp [rp 3 (et1 h0),sl (Tp.cs_len (tpA u)),rp 2 (et1 h0)] ?_;by_cases h1:((tpA u).length:Int)>0
  ·refine tp [rp 5 (dt1 h1),sl (Tp.cs_len (tpA u)),dt1 h1,wr (((tpA u).length:Int) - 1),dt1 h1,mxTp (tpA u) (((tpA u).length:Int) - 1),xTp (tpA u) (Int.toNat (((tpA u).length:Int) - 1)),rp 4 (dt1 h1)] ?_;by_cases h2:tpO (List.getD (tpA u) (Int.toNat (((tpA u).length:Int) - 1)) default)=2
   ·simp only [reS_r0,iP h0,iP h1,iP h2]; exact tM mdL [et1 h2] func39
   ·simp only [reS_r0,iP h0,iP h1,iN h2]; exact tM mdL [en1 h2] func39
  ·simp only [reS_r0,iP h0,iN h1]; exact tM mdL [rp 11 (df1 h1),bf false] func39
 ·simp only [reS_r0,iN h0]; exact tM mdL [rp 5 (en1 h0),rp 12 (bf false)] func39
section
variable (m:Mo) (x:Ex) (s:Sc) (hn:(scK s).Nodup) (gk8:exO x=7∨exO x=8->2<=(exK x).length) (gk7:exO x=7->1<=(exT x).length) (tg:Ex->Sc->Int) (hwk:∀ (w:Ex) (u:Sc),w∈exK x->(scK u).Nodup->Pu 102 [.agg (moL m),.agg (exL w),.agg (scL u)] (.ret (.int .i64 (tg w u)))) (rg:BA->Int) (hre:∀nm:BA,Pu 39 [.agg (dfL ((sdO nm (moF m)).getD default))] (.ret (.int .i64 (rg nm)))) (hpl:∀t:Tp,t∈exT x->Pu 62 [.agg (tpL t)] (.ret (.agg (tpL (plF t))))) (hN:(moF m).length<=1000000000) (hK:(exK x).length<=1000000000) (hT:(exT x).length<=1000000000) (hx0:¬exO x=2) (hx1:¬exO x=16) (hx2:¬exO x=17) (hx3:¬exO x=18) (hx4:¬exO x=19) (hx5:¬exO x=20) (hx6:¬exO x=21) (hx7:¬exO x=3)
include m x s hn gk8 gk7 tg hwk rg hre hpl hN hK hT hx0 hx1 hx2 hx3 hx4 hx5 hx6 hx7
theorem toL_9(hx8:exO x=8):Pu 102 [.agg (moL m),.agg (exL x),.agg (scL s)] (rI (tg (List.getD (exK x) 1 default) s)):=
 pm mdL [en1 hx0,en1 hx1,en1 hx2,en1 hx3,en1 hx4,en1 hx5,en1 hx6,en1 hx7,et1 hx8,mxEx (exK x) 1,xEx (exK x) 1,cl (@hwk (List.getD (exK x) 1 default) s (by (apply gEx <;> first | assumption | omega | decide)) hn)] func102
theorem toL_10(hx8:¬exO x=8)(hx9:exO x=7):Pu 102 [.agg (moL m),.agg (exL x),.agg (scL s)] (rI (tg (List.getD (exK x) 1 default) (scW (exNm x) (tpO (plF (List.getD (exT x) 0 default))) prZ s))):=
 pm mdL [en1 hx0,en1 hx1,en1 hx2,en1 hx3,en1 hx4,en1 hx5,en1 hx6,en1 hx7,en1 hx8,et1 hx9,mxEx (exK x) 1,xEx (exK x) 1,mxTp (exT x) 0,xTp (exT x) 0,cl (@hpl (List.getD (exT x) 0 default) (by (apply gTp <;> first | assumption | omega | decide))),cl (@withZ' s hn (exNm x) (tpO (plF (List.getD (exT x) 0 default)))),cl (@hwk (List.getD (exK x) 1 default) (scW (exNm x) (tpO (plF (List.getD (exT x) 0 default))) prZ s) (by (apply gEx <;> first | assumption | omega | decide)) (by (apply scW_keys <;> first | assumption | omega | decide)))] func102
end
def toL_r0(x:Ex)(s:Sc)(tg:Ex->Sc->Int)(rg:BA->Int):Int:=(if exO x=2 then 2 else (if exO x=16 then 2 else (if exO x=17 then 2 else (if exO x=18 then 2 else (if exO x=19 then 2 else (if exO x=20 then 2 else (if exO x=21 then 2 else (if exO x=3 then (scTy (exNm x) s) else (if exO x=8 then (tg (List.getD (exK x) 1 default) s) else (if exO x=7 then (tg (List.getD (exK x) 1 default) (scW (exNm x) (tpO (plF (List.getD (exT x) 0 default))) prZ s)) else (if exO x=5 then (rg (exNm x)) else 1)))))))))))
theorem toL(m:Mo)(x:Ex)(s:Sc)(hn:(scK s).Nodup)(gk8:exO x=7∨exO x=8->2<=(exK x).length)(gk7:exO x=7->1<=(exT x).length)(tg:Ex->Sc->Int)(hwk:∀ (w:Ex) (u:Sc),w∈exK x->(scK u).Nodup->Pu 102 [.agg (moL m),.agg (exL w),.agg (scL u)] (.ret (.int .i64 (tg w u))))(rg:BA->Int)(hre:∀nm:BA,Pu 39 [.agg (dfL ((sdO nm (moF m)).getD default))] (.ret (.int .i64 (rg nm))))(hpl:∀t:Tp,t∈exT x->Pu 62 [.agg (tpL t)] (.ret (.agg (tpL (plF t)))))(hN:(moF m).length<=1000000000)(hK:(exK x).length<=1000000000)(hT:(exT x).length<=1000000000):Pu 102 [.agg (moL m),.agg (exL x),.agg (scL s)] (rI (toL_r0 x s tg rg)):=by
 by_cases h0:exO x=2
 ·simp only [toL_r0,iP h0]; exact pm mdL [rp 2 (et1 h0)] func102
 ·by_cases h1:exO x=16
  ·simp only [toL_r0,iN h0,iP h1]; exact pm mdL [en1 h0,rp 2 (et1 h1)] func102
  ·by_cases h2:exO x=17
   ·simp only [toL_r0,iN h0,iN h1,iP h2]; exact pm mdL [en1 h0,en1 h1,rp 2 (et1 h2)] func102
   ·by_cases h3:exO x=18
    ·simp only [toL_r0,iN h0,iN h1,iN h2,iP h3]; exact pm mdL [en1 h0,en1 h1,en1 h2,rp 2 (et1 h3)] func102
    ·by_cases h4:exO x=19
     ·simp only [toL_r0,iN h0,iN h1,iN h2,iN h3,iP h4]; exact pm mdL [en1 h0,en1 h1,en1 h2,en1 h3,rp 2 (et1 h4)] func102
     ·by_cases h5:exO x=20
      ·simp only [toL_r0,iN h0,iN h1,iN h2,iN h3,iN h4,iP h5]; exact pm mdL [en1 h0,en1 h1,en1 h2,en1 h3,en1 h4,rp 2 (et1 h5)] func102
      ·by_cases h6:exO x=21
       ·simp only [toL_r0,iN h0,iN h1,iN h2,iN h3,iN h4,iN h5,iP h6]; exact pm mdL [en1 h0,en1 h1,en1 h2,en1 h3,en1 h4,en1 h5,et1 h6] func102
       ·by_cases h7:exO x=3
        ·simp only [toL_r0,iN h0,iN h1,iN h2,iN h3,iN h4,iN h5,iN h6,iP h7]; exact pm mdL [en1 h0,en1 h1,en1 h2,en1 h3,en1 h4,en1 h5,en1 h6,et1 h7,av (.v (luRes false (mget (exNm x) (List.zip (scK s) (scT s))) (pI 0))) (vI6 (scTy (exNm x) s)) (by (simp only [lu_sc1]; done))] func102
        ·by_cases h8:exO x=8
         ·simp only [toL_r0,iN h0,iN h1,iN h2,iN h3,iN h4,iN h5,iN h6,iN h7,iP h8]; exact toL_9 m x s hn gk8 gk7 tg hwk rg hre hpl hN hK hT h0 h1 h2 h3 h4 h5 h6 h7 h8
         ·by_cases h9:exO x=7
          ·simp only [toL_r0,iN h0,iN h1,iN h2,iN h3,iN h4,iN h5,iN h6,iN h7,iN h8,iP h9]; exact toL_10 m x s hn gk8 gk7 tg hwk rg hre hpl hN hK hT h0 h1 h2 h3 h4 h5 h6 h7 h8 h9
          ·refine t0 ?_;refine tp [en1 h0,en1 h1,en1 h2,en1 h3,en1 h4,en1 h5,en1 h6,en1 h7,en1 h8,en1 h9] ?_;by_cases h10:exO x=5
           ·simp only [toL_r0,iN h0,iN h1,iN h2,iN h3,iN h4,iN h5,iN h6,iN h7,iN h8,iN h9,iP h10]; exact tM mdL [et1 h10,cl (@sdT m (exNm x) hN),cl (@hre (exNm x))] func102
           ·simp only [toL_r0,iN h0,iN h1,iN h2,iN h3,iN h4,iN h5,iN h6,iN h7,iN h8,iN h9,iN h10]; exact tM mdL [en1 h10] func102
section
variable (m:Mo) (x:Ex) (s:Sc) (l:List Pr) (tg:Ex->Int) (hto:∀w:Ex,w∈exK x->Pu 102 [.agg (moL m),.agg (exL w),.agg (scL s)] (.ret (.int .i64 (tg w)))) (gk2:exO x=12∨exO x=16->2<=(exK x).length) (hl2:l.length=(exK x).length) (hK:(exK x).length<=1000000000)
include m x s l tg hto gk2 hl2 hK
theorem ndL_1(hx0:exO x=15):Pu 71 [.agg (moL m),.agg (exL x),.agg (scL s),.sl 4 (Pr.cs l)] (rA [pI 9,.str nm0,pI 0,.sl 4 (Pr.cs l)]):=
 pm mdL [et1 hx0] func71
theorem ndL_2(hx0:¬exO x=15)(hx1:exO x=21):Pu 71 [.agg (moL m),.agg (exL x),.agg (scL s),.sl 4 (Pr.cs l)] (rA [pI 14,.str nm0,pI 0,.sl 4 (Pr.cs l)]):=
 pm mdL [en1 hx0,et1 hx1] func71
theorem ndL_3(hx0:¬exO x=15)(hx1:¬exO x=21)(hx2:exO x=5):Pu 71 [.agg (moL m),.agg (exL x),.agg (scL s),.sl 4 (Pr.cs l)] (rA [pI 4,.str (exNm x),pI 0,.sl 4 (Pr.cs l)]):=
 pm mdL [en1 hx0,en1 hx1,et1 hx2] func71
theorem ndL_4(hx0:¬exO x=15)(hx1:¬exO x=21)(hx2:¬exO x=5)(hx3:exO x=12)(hx4:¬exO (List.getD (exK x) 0 default)=1):Pu 71 [.agg (moL m),.agg (exL x),.agg (scL s),.sl 4 (Pr.cs l)] (rA [pI (opS_r0 (exO x)),.str nm0,pI 0,.sl 4 [prL (List.getD l 1 default),prL (List.getD l 0 default)]]):=
 pm mdL [en1 hx0,en1 hx1,en1 hx2,et1 hx3,mxEx (exK x) 0,xEx (exK x) 0,nt1 hx4,mxPr l 1,xPr l 1,mxPr l 0,xPr l 0,cl (@opS (exO x))] func71
theorem ndL_5(hx0:¬exO x=15)(hx1:¬exO x=21)(hx2:¬exO x=5)(hx3:exO x=12)(hx4:exO (List.getD (exK x) 0 default)=1):Pu 71 [.agg (moL m),.agg (exL x),.agg (scL s),.sl 4 (Pr.cs l)] (rA [pI (opS_r0 (exO x)),.str nm0,pI 0,.sl 4 (Pr.cs l)]):=
 pm mdL [en1 hx0,en1 hx1,en1 hx2,et1 hx3,mxEx (exK x) 0,xEx (exK x) 0,nn1 hx4,cl (@opS (exO x))] func71
theorem ndL_6(hx0:¬exO x=15)(hx1:¬exO x=21)(hx2:¬exO x=5)(hx3:¬exO x=12)(hx4:exO x=16)(hx5:tg (List.getD (exK x) 0 default)=2):Pu 71 [.agg (moL m),.agg (exL x),.agg (scL s),.sl 4 (Pr.cs l)] (rA [pI 18,.str nm0,pI 0,.sl 4 (Pr.cs l)]):=
 pm mdL [en1 hx0,en1 hx1,en1 hx2,en1 hx3,et1 hx4,mxEx (exK x) 0,xEx (exK x) 0,cl (@hto (List.getD (exK x) 0 default) (by (apply gEx <;> first | assumption | omega | decide))),et1 hx5] func71
theorem ndL_7(hx0:¬exO x=15)(hx1:¬exO x=21)(hx2:¬exO x=5)(hx3:¬exO x=12)(hx4:exO x=16)(hx5:¬tg (List.getD (exK x) 0 default)=2):Pu 71 [.agg (moL m),.agg (exL x),.agg (scL s),.sl 4 (Pr.cs l)] (rA [pI (opS_r0 (exO x)),.str nm0,pI 0,.sl 4 (Pr.cs l)]):=
 pm mdL [en1 hx0,en1 hx1,en1 hx2,en1 hx3,et1 hx4,mxEx (exK x) 0,xEx (exK x) 0,cl (@hto (List.getD (exK x) 0 default) (by (apply gEx <;> first | assumption | omega | decide))),en1 hx5,cl (@opS (exO x))] func71
theorem ndL_8(hx0:¬exO x=15)(hx1:¬exO x=21)(hx2:¬exO x=5)(hx3:¬exO x=12)(hx4:¬exO x=16):Pu 71 [.agg (moL m),.agg (exL x),.agg (scL s),.sl 4 (Pr.cs l)] (rA [pI (opS_r0 (exO x)),.str nm0,pI 0,.sl 4 (Pr.cs l)]):=
 pm mdL [en1 hx0,en1 hx1,en1 hx2,en1 hx3,en1 hx4,cl (@opS (exO x))] func71
end
def mdW:Md:=⟨fun _=>some false,fun _=>false⟩
def mks:List BA->List (BA × PV)
 | []=>[]
 | k::r=>(k,.bool true)::mks r
def memB(s:BA):List BA->Bool
 | []=>false
 | k::r=>decide (k=s)||memB s r
theorem mget_mks(s:BA):∀ks,(mget s (mks ks)).getD (.bool false) = .bool (memB s ks)
 | []=>rfl
 | k::r=>by
  by_cases h:k=s
  ·simp [mks,mget,memB,h]
  ·simp only [mks,mget,memB,h,if_false,decide_false,Bool.false_or]; exact mget_mks s r
def adN(s:BA):List BA->List BA
 | []=>[s]
 | k::r=>if k=s then k::r else k::adN s r
theorem mks_ad(s:BA):∀ks,mks (adN s ks)=mupd s (.bool true) (mks ks)
 | []=>rfl
 | k::r=>by
  by_cases h:k=s
  ·subst h; simp [adN,mks,mupd]
  ·simp only [adN,mks,mupd,h,if_false,mks_ad s r]
theorem lu_mks(s:BA)(ks:List BA):luRes false (mget s (mks ks)) (.bool false) = .bool (memB s ks):=mget_mks s ks
open Go.RowKit Go.Shelf Go.Pv
attribute [local go_sem] Oper.semAt_some
set_option maxRecDepth 100000
structure KC (W W':World):Prop where
 size:W.heap.size<=W'.heap.size
 same:∀ (k:Nat) (o:Obj),W.heap[k]?=some o->o.isCells=true->W'.heap[k]?=some o
theorem KC.refl(W:World):KC W W:=⟨Nat.le_refl _,fun _ _ h _=>h⟩
theorem KC.trans{A B C:World}(h:KC A B)(k:KC B C):KC A C:=⟨Nat.le_trans h.size k.size,fun i o hi ho=>k.same i o (h.same i o hi ho) ho⟩
theorem KC.cell{A B:World}(h:KC A B){a:Addr}{v:Value}(hc:A.cell? a=some v):B.cell? a=some v:=by
 unfold World.cell? at hc ⊢
 cases hh:A.heap[a.block]? with
 | none=>simp [hh] at hc
 | some o=>
  cases o with
  | cells cur e m=>rw [h.same _ _ hh rfl]; rw [hh] at hc; exact hc
  | _=>simp [hh] at hc
mutual
/-- The nodes of a predicate,each before its kids' nodes. -/
def nodesP:Pr->List Pr
 | .mk o s n ks => .mk o s n ks::nodesPs ks
def nodesPs:List Pr->List Pr
 | []=>[]
 | x::r=>nodesP x++nodesPs r
end
theorem nodesP_e(p:Pr):nodesP p=p::nodesPs (prK p):=by cases p; simp [nodesP,prK]
abbrev encP(p:Pr)(kv:Value):Value := .agg #[.int .i64 (prO p),.string (prNm p),.int .i64 (prN p),kv]
theorem KC.alloc{A W:World}(h:KC A W)(o:Obj):KC A (W.alloc o):=⟨Nat.le_trans h.size (by simp),fun k o' hk hc=>by
 have h1:=h.same k o' hk hc
 exact (Below.heap_alloc _ _ _ (Array.getElem?_eq_some_iff.1 h1).1).trans h1⟩
theorem cell_new3(W:World)(v0 v1 v2 v3:Value):(W.alloc (.cells #[v0,v1,v2,v3] 46)).cell? ⟨W.heap.size,3,none⟩=some v3:=by
 unfold World.cell?
 rw [World.alloc_heap_new W (.cells #[v0,v1,v2,v3] 46)]
 rfl
abbrev Nd(g:Gh)(W0:World):Type:={ x:Pr × Option Addr × Nat × Nat // Rep g W0 (.sl 4 (Pr.cs (prK x.1))) (.slice x.2.1 x.2.2.1 x.2.2.2) }
abbrev Nd.enc{g:Gh}{W0:World}(x:Nd g W0):Value:=encP x.1.1 (.slice x.1.2.1 x.1.2.2.1 x.1.2.2.2)
theorem spotN{W:World}{a:Addr}{v:Value}(h:W.cell? a=some v):a=⟨a.block,a.off,none⟩:=by
 have:=spot_of_cell h
 cases a; simp only at this; subst this; rfl
theorem sl_val{g:Gh}{w:World}{z:Nat}{es:List (List PV)}{v:Value}(h:Rep g w (.sl z es) v):∃oa m c,v = .slice oa m c:=by
 cases h with
 | slnil=>exact ⟨none,0,0,rfl⟩
 | sl _ _ a cap _ _ _ _ _ _ _ _=>exact ⟨some a,_,cap,rfl⟩
theorem kids_inv{g:Gh}{W0:World}(x:Nd g W0):(prK x.1.1=[]/\x.1.2.2.1=0) ∨
  ∃b off,x.1.2.1=some ⟨b,off,none⟩/\x.1.2.2.1=(prK x.1.1).length/\0<(prK x.1.1).length/\(prK x.1.1).length<=9223372036854775807 /\
   ∀i,i<(prK x.1.1).length->∃y:Nd g W0,y.1.1=(prK x.1.1).getD i default/\W0.cell? ⟨b,off+i * 4,none⟩=some (.int .i64 (prO y.1.1))/\W0.cell? ⟨b,off+i * 4+1,none⟩=some (.string (prNm y.1.1)) /\
    W0.cell? ⟨b,off+i * 4+2,none⟩=some (.int .i64 (prN y.1.1))/\W0.cell? ⟨b,off+i * 4+3,none⟩=some (.slice y.1.2.1 y.1.2.2.1 y.1.2.2.2):=by
 obtain ⟨⟨p,oa,m,c⟩,h⟩:=x
 simp only at h ⊢
 generalize he:Pr.cs (prK p)=es at h
 generalize hv:Value.slice oa m c=v at h
 have hl:es.length=(prK p).length:=by rw [<-he,Pr.cs_len]
 cases h with
 | slnil=>
  injection hv with e1 e2 e3
  exact .inl ⟨List.eq_nil_of_length_eq_zero (by rw [<-hl]; rfl),e2⟩
 | sl _ _ a cap vs hle hcap hsz hc hf h1 hr=>
  injection hv with e1 e2 e3
  by_cases h0:(prK p).length=0
  ·exact .inl ⟨List.eq_nil_of_length_eq_zero h0,by omega⟩
  ·have c00:=spotN (hc 0 0 (by omega) (by omega))
   have ha:a=⟨a.block,a.off,none⟩:=by
    have h:=spot_of_cell (hc 0 0 (by omega) (by omega))
    cases a with
    | mk b o sp=>
     simp only [Addr.add] at h ⊢
     split at h <;> simp_all
   refine .inr ⟨a.block,a.off,by rw [e1,<-ha],by omega,by omega,Nat.le_trans (by omega) (Nat.le_trans hcap (by decide)),fun i hi=>?_⟩
   have hie:i<es.length:=by omega
   have hrow:es[i]=prL ((prK p).getD i default):=by
    have:=Pr.cs_at hi
    rw [he] at this
    rw [<-this]
    simp [List.getD,hie]
   have hat:∀j,a.add (i * 4+j)=⟨a.block,a.off+i * 4+j,none⟩:=fun j=>by
    rw [ha]; simp only [Addr.add]; simp [Nat.add_assoc]
   have hrr:∀j (hj:j<es[i].length),Rep g W0 es[i][j] (vs i j):=fun j hj=>hr i j hie hj
   have hlen:es[i].length=4:=hsz i hie
   have r0:Rep g W0 (.int .i64 (prO ((prK p).getD i default))) (vs i 0):=by have:=hrr 0 (by omega); simpa only [hrow,prL,List.getElem_cons_zero] using this
   have r1:Rep g W0 (.str (prNm ((prK p).getD i default))) (vs i 1):=by have:=hrr 1 (by omega); simpa only [hrow,prL,List.getElem_cons_zero,List.getElem_cons_succ] using this
   have r2:Rep g W0 (.int .i64 (prN ((prK p).getD i default))) (vs i 2):=by have:=hrr 2 (by omega); simpa only [hrow,prL,List.getElem_cons_zero,List.getElem_cons_succ] using this
   have r3:Rep g W0 (.sl 4 (Pr.cs (prK ((prK p).getD i default)))) (vs i 3):=by have:=hrr 3 (by omega); simpa only [hrow,prL,List.getElem_cons_zero,List.getElem_cons_succ] using this
   obtain ⟨oa',m',c',e'⟩:=sl_val r3
   have v0:vs i 0 = .int .i64 (prO ((prK p).getD i default)):=by generalize vs i 0=u at r0; cases r0; rfl
   have v1:vs i 1 = .string (prNm ((prK p).getD i default)):=by generalize vs i 1=u at r1; cases r1; rfl
   have v2:vs i 2 = .int .i64 (prN ((prK p).getD i default)):=by generalize vs i 2=u at r2; cases r2; rfl
   refine ⟨⟨⟨(prK p).getD i default,oa',m',c'⟩,by rw [e'] at r3; exact r3⟩,rfl,?_,?_,?_,?_⟩
   ·have:=hc i 0 hie (by omega); rw [hat,v0] at this; exact this
   ·have:=hc i 1 hie (by omega); rw [hat,v1] at this; exact this
   ·have:=hc i 2 hie (by omega); rw [hat,v2] at this; exact this
   ·have:=hc i 3 hie (by omega); rw [hat,e'] at this; exact this
theorem nodesPs_app:∀a b:List Pr,nodesPs (a++b)=nodesPs a++nodesPs b
 | [],b=>rfl
 | x::r,b=>by simp [nodesPs,nodesPs_app r b]
theorem nodesPs_take{ks:List Pr}{k:Nat}(h:k<ks.length):nodesPs (ks.take (k+1))=nodesPs (ks.take k)++nodesP (ks.getD k default):=by
 rw [List.take_add_one,nodesPs_app]
 simp [List.getD,h,nodesPs]
theorem nodesPs_le{ks:List Pr}{k:Nat}(h:k<ks.length):(nodesPs (ks.take k)).length+(nodesP (ks.getD k default)).length<=(nodesPs ks).length:=by
 have h1:nodesPs ks=nodesPs (ks.take (k+1))++nodesPs (ks.drop (k+1)):=by rw [<-nodesPs_app,List.take_append_drop]
 rw [h1,nodesPs_take h]
 simp only [List.length_append]
 omega
theorem nodesPs_pre{ks:List Pr}{k:Nat}(h:k<ks.length){q:List Pr}(hq:q <+: nodesP (ks.getD k default)):nodesPs (ks.take k)++q <+: nodesPs ks:=by
 have h1:nodesPs ks=nodesPs (ks.take (k+1))++nodesPs (ks.drop (k+1)):=by rw [<-nodesPs_app,List.take_append_drop]
 obtain ⟨r,hr⟩:=hq
 rw [h1,nodesPs_take h,<-hr]
 exact ⟨r++nodesPs (ks.drop (k+1)),by simp [List.append_assoc]⟩
abbrev YR{g:Gh}{W0:World}(J Jx:List (Nd g W0)->World->Prop)(pre:List (Nd g W0))(x:Nd g W0)(W:World)(e:Ending)(W':World):Prop:=
 (e = .returned (.bool true)/\J (pre++[x]) W'/\KC W W')∨(e = .returned (.bool false)/\Jx (pre++[x]) W')
set_option maxHeartbeats 2000000 in
theorem visit_in(F:Fence)(hd:F.depth=none)(h143:F.fn 104)(hro:F.round=none)(g:Gh)(W0:World)(l N:Nat)(J Jx:List (Nd g W0)->World->Prop)
  (hJ:∀s W W',J s W->W.grownBy W' none->J s W')
  (hY:∀m pre (x:Nd g W0) W,J pre W->pre.length<N->YieldAt F m Tryz.prog l #[x.enc] W (YR J Jx pre x W)) :
  ∀ (d:Nat) (x:Nd g W0) (n:Nat) (pre:List (Nd g W0)) (W:World),(nodesP x.1.1).length<=d->KC W0 W->J pre W->pre.length+(nodesP x.1.1).length<=N ->
   CallsIn F n Tryz.prog 104 #[x.enc,.func (.yield l) #[] #[]] W fun e W'=>
    (e = .returned (.bool true)/\(∃ys:List (Nd g W0),ys.map (·.1.1)=nodesP x.1.1/\J (pre++ys) W')/\KC W W') ∨
    (e = .returned (.bool false)/\∃ys:List (Nd g W0),ys.map (·.1.1) <+: nodesP x.1.1/\Jx (pre++ys) W'):=by
 intro d
 induction d with
 | zero=>intro x n pre W h; rw [nodesP_e] at h; simp at h
 | succ d ih=>
 intro x n pre W hlen hk0 hJ0 hN
 have hnd:(nodesPs (prK x.1.1)).length<=d:=by rw [nodesP_e] at hlen; simp at hlen; omega
 have hNs:pre.length+1+(nodesPs (prK x.1.1)).length<=N:=by rw [nodesP_e] at hN; simp at hN; omega
 have hpre1:∀q,q <+: nodesPs (prK x.1.1)->x.1.1::q <+: nodesP x.1.1:=fun q hq=>by rw [nodesP_e]; exact (List.prefix_cons_inj _).2 hq
 have hall:x.1.1::nodesPs (prK x.1.1)=nodesP x.1.1:=(nodesP_e _).symm
 have hkids:=kids_inv x
 have hY0:=fun m W=>hY m pre x W
 obtain ⟨p,oa,len,cap,hx⟩:∃p oa len cap,x.1=(p,oa,len,cap):=⟨_,_,_,_,rfl⟩
 simp only [Nd.enc] at hY0 ⊢
 rw [hx] at hlen hnd hNs hpre1 hall hkids hY0 hN ⊢
 simp only at hlen hnd hNs hpre1 hall hkids hY0 hN ⊢
 refine callsIn_of_wp Tryz.func104 rfl h143 ?_ hro
 simp only [Tryz.ntmps104,List.size_toArray,List.length_cons,List.length_nil,Nat.reduceAdd,Nat.reduceSub,Array.replicate_succ,Array.replicate_zero,List.push_toArray,List.append_toArray,List.nil_append,List.cons_append]
 have hdd:∀k:Nat,(F.depth.isSome=true->1<=k):=fun k h=>by rw [hd] at h; cases h
 have hJ1:J pre (W.alloc (.cells #[.int .i64 (prO p),.string (prNm p),.int .i64 (prN p),.slice oa len cap] 46)):=hJ _ _ _ hJ0 (World.grownBy_alloc W _ none)
 obtain ⟨fn,tmps,assign,body,hy,hR⟩:=hY0 (n - 1) _ hJ1 (by rw [nodesP_e] at hN; simp at hN; omega)
 have hR':=hR.mono (R':=fun e W2=>(e = .returned (.bool true)/\J (pre++[x]) W2/\KC W W2/\W2.cell? ⟨W.heap.size,3,none⟩=some (.slice oa len cap))∨(e = .returned (.bool false)/\Jx (pre++[x]) W2))
  (fun e W2 h=>h.elim (fun ⟨he,hj,hk⟩ => .inl ⟨he,hj,((KC.refl W).alloc _).trans hk,hk.cell (cell_new3 _ _ _ _ _)⟩) .inr)
 clear hR hY hY0
 gi_wp2_with ((try refine ⟨hdd _,?_⟩); refine hR'.mono ?_; clear hR'; rintro e W2 (⟨rfl,hj2,hk,hc⟩ | ⟨rfl,hx9⟩))
 ·rcases hkids with ⟨hnil,rfl⟩ | ⟨b,off,rfl,rfl,hpos,hmax,hcs⟩
  ·gi_loopw [14] (fun i wr=>i = .int .i64 0/\KC W wr/\J (pre++[x]) wr) (fun _ _=>0)
   case atStart=>exact ⟨rfl,hk,hj2⟩
   case round=>
    obtain ⟨rfl,hkc,hjy⟩:=hrel
    gi_wp2
    go_ret
    exact .inl ⟨rfl,⟨[x],by simp only [List.map_cons,List.map_nil,hx]; rw [hnil] at hall; exact hall,hjy⟩,hkc⟩
  ·gi_loopw [14] (fun i wr=>∃ (k:Nat) (ys:List (Nd g W0)),k<=(prK p).length/\i = .int .i64 k/\KC W wr/\ys.map (·.1.1)=nodesPs ((prK p).take k)/\J (pre++x::ys) wr) (fun i _=>(prK p).length - (intOf i).toNat)
   case atStart=>exact ⟨0,[],Nat.zero_le _,rfl,hk,rfl,hj2⟩
   case round=>
    obtain ⟨k,ys,hkl,rfl,hkc,hys,hjy⟩:=hrel
    by_cases hlt:k<(prK p).length
    ·obtain ⟨y,hy1,c0,c1,c2,c3⟩:=hcs k hlt
     have d0:=(hk0.trans hkc).cell c0
     have d1:=(hk0.trans hkc).cell c1
     have d2:=(hk0.trans hkc).cell c2
     have d3:=(hk0.trans hkc).cell c3
     have hle:=nodesPs_le hlt
     have htk:=nodesPs_take hlt
     have hpr:=fun q (hq:q <+: nodesP ((prK p).getD k default))=>nodesPs_pre hlt hq
     rw [<-hy1] at hle htk hpr
     have hyl:ys.length=(nodesPs ((prK p).take k)).length:=by rw [<-hys,List.length_map]
     have hcall:=ih y (n - 1) (pre++x::ys) (wr.alloc (.cells #[.int .i64 (prO y.1.1),.string (prNm y.1.1),.int .i64 (prN y.1.1),.slice y.1.2.1 y.1.2.2.1 y.1.2.2.2] 46)) (by omega) ((hk0.trans hkc).alloc _) (hJ _ _ _ hjy (World.grownBy_alloc _ _ none))
      (by simp only [List.length_append,List.length_cons]; omega)
     clear ih hcs hy1
     simp only [Nd.enc] at hcall
     obtain ⟨q,oa',m',c',hyx⟩:∃q oa' m' c',y.1=(q,oa',m',c'):=⟨_,_,_,_,rfl⟩
     rw [hyx] at hcall d0 d1 d2 d3 htk hpr hle
     simp only at hcall d0 d1 d2 d3 htk hpr hle
     clear hyx c0 c1 c2 c3
     gi_wp2_with ((try refine ⟨hdd _,?_⟩); gi_at_call 104; refine hcall.mono ?_; clear hcall; rintro e W3 (⟨rfl,⟨zs,hzs,hjz⟩,hk3⟩ | ⟨rfl,zs,hzs,hxz⟩))
     ·go_roundw
      case rel=>exact ⟨k+1,ys++zs,hlt,by simp,(hkc.alloc _).trans hk3,by rw [List.map_append,hys,hzs,htk],by rw [<-List.cons_append,<-List.append_assoc]; exact hjz⟩
      case measure=>simp [intOf]; omega
     ·go_ret
      exact .inr ⟨rfl,x::(ys++zs),by simp only [List.map_cons,List.map_append,hys,hx]; exact hpre1 _ (hpr _ hzs),by rw [<-List.cons_append,<-List.append_assoc]; exact hxz⟩
    ·obtain rfl:k=(prK p).length:=by omega
     gi_wp2
     go_ret
     exact .inl ⟨rfl,⟨x::ys,by simp only [List.map_cons,hys,hx,List.take_length]; exact hall,hjy⟩,hkc⟩
 ·go_ret
  exact .inr ⟨rfl,[x],by simp only [List.map_cons,List.map_nil,hx]; exact hpre1 [] (List.nil_prefix),by exact hx9⟩
set_option maxHeartbeats 1000000 in
theorem before1_in(F:Fence)(hd:F.depth=none)(h142:F.fn 103)(h143:F.fn 104)(hro:F.round=none)(g:Gh)(W0:World)(l Bs:Nat)(x:Nd g W0)(n:Nat)(J Jx:List (Nd g W0)->World->Prop)
  (hJ:∀s W W',J s W->W.grownBy W' none->J s W')
  (hY:∀m pre (y:Nd g W0) W,J pre W->pre.length<(nodesP x.1.1).length->YieldAt F m Tryz.prog l #[y.enc] W (YR J Jx pre y W)) (W:World) (hk0:KC W0 W)
  (h1:W.cell? ⟨Bs,0,none⟩=some (.int .i64 (prO x.1.1))) (h2:W.cell? ⟨Bs,1,none⟩=some (.string (prNm x.1.1))) (h3:W.cell? ⟨Bs,2,none⟩=some (.int .i64 (prN x.1.1))) (h4:W.cell? ⟨Bs,3,none⟩=some (.slice x.1.2.1 x.1.2.2.1 x.1.2.2.2)) (h0:J [] W) :
  CallsIn F n Tryz.prog 103 #[.func (.yield l) #[] #[],.pointer (some ⟨Bs,0,none⟩)] W fun e W'=>(∃v,e = .returned v) /\
   ((∃ys:List (Nd g W0),ys.map (·.1.1)=nodesP x.1.1/\J ys W')∨(∃ys:List (Nd g W0),ys.map (·.1.1) <+: nodesP x.1.1/\Jx ys W')):=by
 have hdd:∀k:Nat,(F.depth.isSome=true->1<=k):=fun k h=>by rw [hd] at h; cases h
 have hcall:=visit_in F hd h143 hro g W0 l _ J Jx hJ hY _ x (n - 1) [] W (Nat.le_refl _) hk0 h0 (by simp)
 simp only [Nd.enc,List.nil_append] at hcall
 obtain ⟨p,oa,len,cap,hx⟩:∃p oa len cap,x.1=(p,oa,len,cap):=⟨_,_,_,_,rfl⟩
 rw [hx] at hcall h1 h2 h3 h4 ⊢
 simp only at hcall h1 h2 h3 h4 ⊢
 clear hY hx
 refine callsIn_of_wp Tryz.func103 rfl h142 ?_ hro
 simp only [Tryz.ntmps103,List.size_toArray,List.length_cons,List.length_nil,Nat.reduceAdd,Nat.reduceSub,Array.replicate_succ,Array.replicate_zero,List.push_toArray,List.append_toArray,List.nil_append,List.cons_append]
 gi_wp2_with ((try refine ⟨hdd _,?_⟩); gi_at_call 104; refine hcall.mono ?_; clear hcall; rintro e W1 (⟨rfl,⟨ys,hys,hj⟩,_⟩ | ⟨rfl,ys,hys,hx⟩))
 ·go_end0
  exact ⟨⟨_,rfl⟩,.inl ⟨ys,hys,hj⟩⟩
 ·go_end0
  exact ⟨⟨_,rfl⟩,.inr ⟨ys,hys,hx⟩⟩
set_option maxHeartbeats 1000000 in
theorem before_in(F:Fence)(n:Nat)(h100:F.fn 74)(hro:F.round=none)(p:Pr)(oa:Option Addr)(m c:Nat)(w:World) :
  CallsIn F n Tryz.prog 74 #[encP p (.slice oa m c)] w fun e w'=>e = .returned (.func (.func 103) #[] #[.pointer (some ⟨w.heap.size,0,none⟩)])/\w'=w.alloc (.cells #[.int .i64 (prO p),.string (prNm p),.int .i64 (prN p),.slice oa m c] 46):=by
 refine callsIn_of_wp Tryz.func74 rfl h100 ?_ hro
 simp only [Tryz.ntmps74,List.size_toArray,List.length_cons,List.length_nil,Nat.reduceAdd,Nat.reduceSub,Array.replicate_succ,Array.replicate_zero,List.push_toArray,List.append_toArray,List.nil_append,List.cons_append]
 gi_wp2
 go_ret
 exact ⟨rfl,rfl⟩
end Go.Proofs.YtaakmholhliodaaGreatDoor
