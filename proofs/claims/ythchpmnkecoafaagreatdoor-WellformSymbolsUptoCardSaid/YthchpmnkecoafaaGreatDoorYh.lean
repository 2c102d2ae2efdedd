/- Values of Go as plain data, an evaluator over them, and what the functions of the program return; part Yh. -/
import Derived.Test.YthchpmnkecoafaaGreatDoorYg
import Derived.Test.YthchpmnkecoafaaGreatDoorYd
import Derived.Test.YthchpmnkecoafaaGreatDoorYa
set_option linter.unusedSectionVars false
set_option linter.unusedSimpArgs false
set_option linter.unusedVariables false
namespace Go.Proofs.YthchpmnkecoafaaGreatDoor
open Go.Proofs.Tryz
open Go.Pv Go.Proofs.Tryz
set_option maxRecDepth 100000
def knD(m:Mo):Nat->Tp->Int
 | 0,_=>0
 | d+1,t=>knS_r0 m t (frE (knD m d) (tpA t))
theorem kn_ok(m:Mo)(v:Nv)(hda:(moD m).length<=1048576):∀ (d:Nat) (t:Tp),bulkPs (tpL t)<d->d<=100000001->Pu 34 [.agg (pcL m v),.agg (tpL t)] (.ret (.int .i64 (knD m d t)))
 | 0,_,h,_=>by omega
 | d+1,t,h,hd=>by
  have h1:=tpw_bulk t
  have h3:=Tp.bulk (tpA t)
  exact knS m v t _ hda (ekT (tpA t) m v (knD m d) (fun w hw=>kn_ok m v hda d w (by have:=Tp.mem hw; omega) oM) oM)
def knF(m:Mo)(t:Tp):Int:=knD m (bulkPs (tpL t)+1) t
theorem knT(m:Mo)(v:Nv)(t:Tp)(hda:(moD m).length<=1048576)(hs:bulkPs (tpL t)<=100000000):Pu 34 [.agg (pcL m v),.agg (tpL t)] (.ret (.int .i64 (knF m t))):=kn_ok m v hda _ t oM oM
theorem gEn{v u:Nv}{i:Nat}(hv:OKn v u i):EnvS u:=hv.1
theorem gBk{t:Tp}{i:Nat}(hsz:bulkPs (tpL t)<=10000000)(h:i<(tpA t).length):bulkPs (tpL ((tpA t).getD i default))<=1000000000:=by
 have h1:=tpw_bulk t; have:=Tp.mem (getD_mem h); omega
theorem gPw1{v u:Nv}{i:Nat}{name:BA}{w:Tp}(hv:OKn v u i)(hgr:(nvW v).length<=50000000)(hi:i<=10000000):OKn v (pwF u name w) (i+1):=hv.1.pw (n:=(nvW v).length+i) hv.2 oM
theorem gPw2{t:Tp}{v u:Nv}{i:Nat}{name:BA}{w:Tp}(hv:OKn v u i)(hgr:(nvW v).length<=50000000)(hsz:bulkPs (tpL t)<=10000000)(h:i<(tpA t).length):OKn v (pwF u name w) (i+1):=gPw1 hv hgr (by have h1:=tpw_bulk t; have:=Tp.bulk (tpA t); omega)
abbrev ty0_I(m:Mo)(v:Nv)(t:Tp)(tf:Nv->Tp->Int)(j:Int)(u:Nv)(e:Ext):S:=S.mk [(2,.lp 2 0),(3,.lp 3 0),(4,vI6 0),(5,.lp 5 0),(20,vL 9 (Tp.cs (tpA t))),(21,vI6 ((tpA t).length:Int)),(22,vI6 j)] [(2,vL 4 (Da.cs (moD m))::vL 3 (Cl.cs (moC m))::vL 12 (In.cs (moI m))::vL 8 (Ms.cs (moM m))::vL 6 (Qu.cs (moQ m))::vL 25 (Df.cs (moF m))::nvV v),(3,tpV t),(5,vL 4 (Da.cs (moD m))::vL 3 (Cl.cs (moC m))::vL 12 (In.cs (moI m))::vL 8 (Ms.cs (moM m))::vL 6 (Qu.cs (moQ m))::vL 25 (Df.cs (moF m))::nvV u)] e
inductive ty0_R where
 | e0 (el:Tp) (u:Nv)
 | e1 (u:Nv)
def ty0_f(t:Tp)(tf:Nv->Tp->Int):List Tp->Nat->(Nv)->ty0_R
 | [],i,u=>(ty0_R.e1 u)
 | el::r,i,u=>(if tf u el=0 then (if (i:Int)<((tpNs t).length:Int) then ty0_f t tf r (i+1) (pwF u (List.getD (tpNs t) i nm0) el) else ty0_f t tf r (i+1) (u)) else (ty0_R.e0 el u))
def ty0_q(m:Mo)(v:Nv)(t:Tp)(tf:Nv->Tp->Int)(e:Ext):ty0_R->PExit × S
 | .e0 el u=>(.ret,S.mk [(2,.lp 2 0),(3,.lp 3 0),(4,vI6 (tf u el)),(5,.lp 5 0),(20,vL 9 (Tp.cs (tpA t))),(21,vI6 ((tpA t).length:Int))] [(2,vL 4 (Da.cs (moD m))::vL 3 (Cl.cs (moC m))::vL 12 (In.cs (moI m))::vL 8 (Ms.cs (moM m))::vL 6 (Qu.cs (moQ m))::vL 25 (Df.cs (moF m))::nvV v),(3,tpV t),(5,vL 4 (Da.cs (moD m))::vL 3 (Cl.cs (moC m))::vL 12 (In.cs (moI m))::vL 8 (Ms.cs (moM m))::vL 6 (Qu.cs (moQ m))::vL 25 (Df.cs (moF m))::nvV u)] e)
 | .e1 u=>(.exit 0,S.mk [(2,.lp 2 0),(3,.lp 3 0),(4,vI6 0),(5,.lp 5 0),(20,vL 9 (Tp.cs (tpA t))),(21,vI6 ((tpA t).length:Int))] [(2,vL 4 (Da.cs (moD m))::vL 3 (Cl.cs (moC m))::vL 12 (In.cs (moI m))::vL 8 (Ms.cs (moM m))::vL 6 (Qu.cs (moQ m))::vL 25 (Df.cs (moF m))::nvV v),(3,tpV t),(5,vL 4 (Da.cs (moD m))::vL 3 (Cl.cs (moC m))::vL 12 (In.cs (moI m))::vL 8 (Ms.cs (moM m))::vL 6 (Qu.cs (moQ m))::vL 25 (Df.cs (moF m))::nvV u)] e)
theorem ty0_lp(m:Mo)(v:Nv)(t:Tp)(tf:Nv->Tp->Int)(hwk:∀ (u:Nv) (i:Nat),i<(tpA t).length->OKn v u i->Pu 35 [.agg (pcL m u),.agg (tpL ((tpA t).getD i default))] (.ret (.int .i64 (tf u ((tpA t).getD i default)))))(hq1:tpO t=6)(hgr:(nvW v).length<=50000000)(hsz:bulkPs (tpL t)<=10000000)(e:Ext)(hN:(tpA t).length<=1000000000)(u:Nv)(hv:(OKn v u 0)):(Ob.loop 105 (loopF f35 0) (ty0_I m v t tf 0 u e) (ty0_q m v t tf e (ty0_f t tf (List.drop 0 ((tpA t))) 0 u)).1 (ty0_q m v t tf e (ty0_f t tf (List.drop 0 ((tpA t))) 0 u)).2).ok prog:=by
 refine rng ((tpA t).length) (fun j u=>ty0_I m v t tf j u e) (fun i u=>ty0_f t tf (List.drop i ((tpA t))) i u) (ty0_q m v t tf e) (fun i u=>(OKn v u i)) kR ?_ u (by first | exact hv | omega)
 rintro i u hi hv
 try simp only at hv
 rcases Nat.lt_or_ge i ((tpA t).length) with hlt | hge
 ·have hd:=drop_at hlt
  by_cases h0:tf u (List.getD (tpA t) i default)=0
  ·by_cases h1:(i:Int)<((tpNs t).length:Int)
   ·exact lS mdL [dt ((i:Int)<((tpA t).length:Int)),am ((0:Int)<=(i:Int)/\(i:Int)<((Tp.cs (tpA t)).length:Int)) (by (simp only [Tp.cs_len]; omega)),ar (List.getD (Tp.cs (tpA t)) (Int.toNat (i:Int)) []) (tpL (List.getD (tpA t) i default)) (by simp only [Int.toNat_natCast,Int.toNat_zero]; rw [@Tp.cs_at (tpA t) (i) hlt]; try rfl),cl (@hwk (u) (i) hlt hv),nn1 h0,sl (nmsC_len (tpNs t)),dt1 h1,am ((0:Int)<=(i:Int)/\(i:Int)<((nmsC (tpNs t)).length:Int)) (by (simp only [nmsC_len]; omega)),ar (List.getD (nmsC (tpNs t)) (Int.toNat (i:Int)) []) [.str (List.getD (tpNs t) i nm0)] (by simp only [Int.toNat_natCast,Int.toNat_zero]; rw [@nmsC_at (tpNs t) (i) oM]; try rfl),cl (@pwT (m) (u) (List.getD (tpNs t) i nm0) (List.getD (tpA t) i default) (by (apply gEn <;> first | assumption | omega | decide)) (by (apply gBk <;> first | assumption | omega | decide))),wr ((i:Int)+1)] [2,3,4,5,20,21,22] [2,3,5] hlt (pwF u (List.getD (tpNs t) i nm0) (List.getD (tpA t) i default)) (S.mk [(2,.lp 2 0),(3,.lp 3 0),(4,vI6 0),(5,.lp 5 0),(20,vL 9 (Tp.cs (tpA t))),(21,vI6 ((tpA t).length:Int)),(22,vI6 ((i:Int)+1))] [(2,vL 4 (Da.cs (moD m))::vL 3 (Cl.cs (moC m))::vL 12 (In.cs (moI m))::vL 8 (Ms.cs (moM m))::vL 6 (Qu.cs (moQ m))::vL 25 (Df.cs (moF m))::nvV v),(3,tpV t),(5,vL 4 (Da.cs (moD m))::vL 3 (Cl.cs (moC m))::vL 12 (In.cs (moI m))::vL 8 (Ms.cs (moM m))::vL 6 (Qu.cs (moQ m))::vL 25 (Df.cs (moF m))::nvV (pwF u (List.getD (tpNs t) i nm0) (List.getD (tpA t) i default)))] e) ⟨⟨W,W,W,W,W,W,W,tVv⟩,⟨Ws,Ws,⟨W,W,W,W,W,W,Wq,Wq,Wq,tVv⟩,tVv⟩,rfl⟩ (by first | assumption | omega | (apply gEn <;> first | assumption | omega | decide) | (apply gBk <;> first | assumption | omega | decide) | (apply gPw2 <;> first | assumption | omega | decide) | (apply OKn.s <;> first | assumption | omega | decide) | (simp only [List.length_append,List.length_cons,List.length_nil] at *; omega) | simp_all) (by rw [hd,ty0_f,iP h0,iP h1])
   ·exact lN mdL [dt ((i:Int)<((tpA t).length:Int)),am ((0:Int)<=(i:Int)/\(i:Int)<((Tp.cs (tpA t)).length:Int)) (by (simp only [Tp.cs_len]; omega)),ar (List.getD (Tp.cs (tpA t)) (Int.toNat (i:Int)) []) (tpL (List.getD (tpA t) i default)) (by simp only [Int.toNat_natCast,Int.toNat_zero]; rw [@Tp.cs_at (tpA t) (i) hlt]; try rfl),cl (@hwk (u) (i) hlt hv),nn1 h0,sl (nmsC_len (tpNs t)),df1 h1,wr ((i:Int)+1)] hlt (u) (by first | assumption | omega | (apply gEn <;> first | assumption | omega | decide) | (apply gBk <;> first | assumption | omega | decide) | (apply gPw2 <;> first | assumption | omega | decide) | (apply OKn.s <;> first | assumption | omega | decide) | (simp only [List.length_append,List.length_cons,List.length_nil] at *; omega) | simp_all) (by rw [hd,ty0_f,iP h0,iN h1])
  ·exact lX mdL [dt ((i:Int)<((tpA t).length:Int)),am ((0:Int)<=(i:Int)/\(i:Int)<((Tp.cs (tpA t)).length:Int)) (by (simp only [Tp.cs_len]; omega)),ar (List.getD (Tp.cs (tpA t)) (Int.toNat (i:Int)) []) (tpL (List.getD (tpA t) i default)) (by simp only [Int.toNat_natCast,Int.toNat_zero]; rw [@Tp.cs_at (tpA t) (i) hlt]; try rfl),cl (@hwk (u) (i) hlt hv),nt1 h0] (ty0_R.e0 (List.getD ((tpA t)) i default) u) (by rw [hd,ty0_f,iN h0])
 ·have he:i=(tpA t).length:=by omega
  exact lX mdL [df ((i:Int)<((tpA t).length:Int))] (ty0_R.e1 u) (by rw [he,List.drop_length,ty0_f])
theorem ty0_0(m:Mo)(v:Nv)(t:Tp)(tf:Nv->Tp->Int)(hwk:∀ (u:Nv) (i:Nat),i<(tpA t).length->OKn v u i->Pu 35 [.agg (pcL m u),.agg (tpL ((tpA t).getD i default))] (.ret (.int .i64 (tf u ((tpA t).getD i default)))))(hq1:tpO t=6)(hgr:(nvW v).length<=50000000)(hsz:bulkPs (tpL t)<=10000000)(u:Nv)(e:Ext)(hN:(tpA t).length<=1000000000)(hv:OKn v u 0)(p0:Tp)(p1:Nv)(hres:(ty0_f t tf ((tpA t)) 0 u)=(ty0_R.e0 p0 p1)):(Ob.loop 105 (loopF f35 0) (ty0_I m v t tf 0 u e) (ty0_q m v t tf e (ty0_R.e0 p0 p1)).1 (ty0_q m v t tf e (ty0_R.e0 p0 p1)).2).ok prog:=
 rz (ty0_lp m v t tf hwk hq1 hgr hsz e hN u hv) hres
theorem ty0_1(m:Mo)(v:Nv)(t:Tp)(tf:Nv->Tp->Int)(hwk:∀ (u:Nv) (i:Nat),i<(tpA t).length->OKn v u i->Pu 35 [.agg (pcL m u),.agg (tpL ((tpA t).getD i default))] (.ret (.int .i64 (tf u ((tpA t).getD i default)))))(hq1:tpO t=6)(hgr:(nvW v).length<=50000000)(hsz:bulkPs (tpL t)<=10000000)(u:Nv)(e:Ext)(hN:(tpA t).length<=1000000000)(hv:OKn v u 0)(p0:Nv)(hres:(ty0_f t tf ((tpA t)) 0 u)=(ty0_R.e1 p0)):(Ob.loop 105 (loopF f35 0) (ty0_I m v t tf 0 u e) (ty0_q m v t tf e (ty0_R.e1 p0)).1 (ty0_q m v t tf e (ty0_R.e1 p0)).2).ok prog:=
 rz (ty0_lp m v t tf hwk hq1 hgr hsz e hN u hv) hres
theorem gE1{v:Nv}{name:BA}{t:Tp}(hE:EnvS v)(hgr:(nvW v).length<=50000000):EnvS (pwF v name t):=(hE.pw (n:=(nvW v).length) (Nat.le_refl _) oM).1
theorem gE2{v:Nv}{a b:BA}(hE:EnvS v)(hgr:(nvW v).length<=50000000):EnvS (wiF v (.mk a b)):=(hE.wi (n:=(nvW v).length) (Nat.le_refl _) oM).1
theorem gB1{t:Tp}(hsz:bulkPs (tpL t)<=10000000):bulkPs (prL (tpP t))<=100000000:=by have:=tpw_bulk t; omega
theorem gB2{t:Tp}{i:Nat}(hsz:bulkPs (tpL t)<=10000000)(h:i<(tpPs t).length):bulkPs (prL ((tpPs t).getD i default))<=100000000:=by have:=tpw_bulk t; have:=Pr.mem (getD_mem h); omega
abbrev vSS:BA:=ByteArray.mk #[118]
abbrev ty1_I(m:Mo)(v:Nv)(t:Tp)(j:Int)(e:Ext):S:=S.mk [(2,.lp 2 0),(3,.lp 3 0),(4,vI6 0),(10,.lp 10 0),(77,vL 4 (Pr.cs (tpPs t))),(78,vI6 ((tpPs t).length:Int)),(79,vI6 j)] [(2,vL 4 (Da.cs (moD m))::vL 3 (Cl.cs (moC m))::vL 12 (In.cs (moI m))::vL 8 (Ms.cs (moM m))::vL 6 (Qu.cs (moQ m))::vL 25 (Df.cs (moF m))::nvV v),(3,tpV t),(10,daV (optD daNm (tpNm t) (moD m)))] e
inductive ty1_R where
 | e0 (el:Pr) (i:Nat)
 | e1
def ty1_f(m:Mo)(v:Nv)(t:Tp):List Pr->Nat->ty1_R
 | [],i=>(ty1_R.e1)
 | el::r,i=>(if sb_r0 (wiF v (Vr.mk (bM 118) (vrS (List.getD (daP (optD daNm (tpNm t) (moD m))) i default)))) el=0 then ty1_f m v t r (i+1)  else (ty1_R.e0 el i))
def ty1_q(m:Mo)(v:Nv)(t:Tp)(e:Ext):ty1_R->PExit × S
 | .e0 el i=>(.ret,S.mk [(2,.lp 2 0),(3,.lp 3 0),(4,vI6 (sb_r0 (wiF v (Vr.mk (bM 118) (vrS (List.getD (daP (optD daNm (tpNm t) (moD m))) i default)))) el)),(10,.lp 10 0),(77,vL 4 (Pr.cs (tpPs t))),(78,vI6 ((tpPs t).length:Int))] [(2,vL 4 (Da.cs (moD m))::vL 3 (Cl.cs (moC m))::vL 12 (In.cs (moI m))::vL 8 (Ms.cs (moM m))::vL 6 (Qu.cs (moQ m))::vL 25 (Df.cs (moF m))::nvV v),(3,tpV t),(10,daV (optD daNm (tpNm t) (moD m)))] e)
 | .e1=>(.exit 2,S.mk [(2,.lp 2 0),(3,.lp 3 0),(4,vI6 0),(10,.lp 10 0),(77,vL 4 (Pr.cs (tpPs t))),(78,vI6 ((tpPs t).length:Int))] [(2,vL 4 (Da.cs (moD m))::vL 3 (Cl.cs (moC m))::vL 12 (In.cs (moI m))::vL 8 (Ms.cs (moM m))::vL 6 (Qu.cs (moQ m))::vL 25 (Df.cs (moF m))::nvV v),(3,tpV t),(10,daV (optD daNm (tpNm t) (moD m)))] e)
theorem ty1_lp(m:Mo)(v:Nv)(t:Tp)(hq1:¬tpO t=6)(hE:EnvS v)(hgr:(nvW v).length<=50000000)(hsz:bulkPs (tpL t)<=10000000)(hda:(moD m).length<=1048576)(hq2:sb_r0 (pwF v (bM 118) t) (tpP t)=0)(hq3:((tpPs t).length:Int)>0)(hlen:((tpPs t).length:Int)=((daP (optD daNm (tpNm t) (moD m))).length:Int))(e:Ext)(hN:(tpPs t).length<=1000000000):(Ob.loop 105 (loopF f35 1) (ty1_I m v t 0  e) (ty1_q m v t e (ty1_f m v t (List.drop 0 ((tpPs t))) 0)).1 (ty1_q m v t e (ty1_f m v t (List.drop 0 ((tpPs t))) 0)).2).ok prog:=by
 refine rng ((tpPs t).length) (fun j _=>ty1_I m v t j  e) (fun i _=>ty1_f m v t (List.drop i ((tpPs t))) i) (ty1_q m v t e) (fun i _=>True) kR ?_ () trivial
 rintro i u hi -
 rcases Nat.lt_or_ge i ((tpPs t).length) with hlt | hge
 ·have hd:=drop_at hlt
  by_cases h0:sb_r0 (wiF v (Vr.mk (bM 118) (vrS (List.getD (daP (optD daNm (tpNm t) (moD m))) i default)))) (List.getD (tpPs t) i default)=0
  ·exact lN mdL [dt ((i:Int)<((tpPs t).length:Int)),am ((0:Int)<=(i:Int)/\(i:Int)<((Pr.cs (tpPs t)).length:Int)) (by (simp only [Pr.cs_len]; omega)),ar (List.getD (Pr.cs (tpPs t)) (Int.toNat (i:Int)) []) (prL (List.getD (tpPs t) i default)) (by simp only [Int.toNat_natCast,Int.toNat_zero]; rw [@Pr.cs_at (tpPs t) (i) hlt]; try rfl),am ((0:Int)<=(i:Int)/\(i:Int)<((Vr.cs (daP (optD daNm (tpNm t) (moD m)))).length:Int)) (by (simp only [Vr.cs_len]; omega)),ar (List.getD (Vr.cs (daP (optD daNm (tpNm t) (moD m)))) (Int.toNat (i:Int)) []) (vrL (List.getD (daP (optD daNm (tpNm t) (moD m))) i default)) (by simp only [Int.toNat_natCast,Int.toNat_zero]; rw [@Vr.cs_at (daP (optD daNm (tpNm t) (moD m))) (i) oM]; try rfl),cl (@wiT2 (v) (bM 118) (vrS (List.getD (daP (optD daNm (tpNm t) (moD m))) i default)) hE),cl (@sb (wiF v (Vr.mk (bM 118) (vrS (List.getD (daP (optD daNm (tpNm t) (moD m))) i default)))) (List.getD (tpPs t) i default) (by (apply gE2 <;> first | assumption | omega | decide)) (by (apply gB2 <;> first | assumption | omega | decide))),nn1 h0,wr ((i:Int)+1)] hlt () trivial (by rw [hd,ty1_f,iP h0])
  ·exact lX mdL [dt ((i:Int)<((tpPs t).length:Int)),am ((0:Int)<=(i:Int)/\(i:Int)<((Pr.cs (tpPs t)).length:Int)) (by (simp only [Pr.cs_len]; omega)),ar (List.getD (Pr.cs (tpPs t)) (Int.toNat (i:Int)) []) (prL (List.getD (tpPs t) i default)) (by simp only [Int.toNat_natCast,Int.toNat_zero]; rw [@Pr.cs_at (tpPs t) (i) hlt]; try rfl),am ((0:Int)<=(i:Int)/\(i:Int)<((Vr.cs (daP (optD daNm (tpNm t) (moD m)))).length:Int)) (by (simp only [Vr.cs_len]; omega)),ar (List.getD (Vr.cs (daP (optD daNm (tpNm t) (moD m)))) (Int.toNat (i:Int)) []) (vrL (List.getD (daP (optD daNm (tpNm t) (moD m))) i default)) (by simp only [Int.toNat_natCast,Int.toNat_zero]; rw [@Vr.cs_at (daP (optD daNm (tpNm t) (moD m))) (i) oM]; try rfl),cl (@wiT2 (v) (bM 118) (vrS (List.getD (daP (optD daNm (tpNm t) (moD m))) i default)) hE),cl (@sb (wiF v (Vr.mk (bM 118) (vrS (List.getD (daP (optD daNm (tpNm t) (moD m))) i default)))) (List.getD (tpPs t) i default) (by (apply gE2 <;> first | assumption | omega | decide)) (by (apply gB2 <;> first | assumption | omega | decide))),nt1 h0] (ty1_R.e0 (List.getD ((tpPs t)) i default) i) (by rw [hd,ty1_f,iN h0])
 ·have he:i=(tpPs t).length:=by omega
  exact lX mdL [df ((i:Int)<((tpPs t).length:Int))] (ty1_R.e1) (by rw [he,List.drop_length,ty1_f])
theorem ty1_0(m:Mo)(v:Nv)(t:Tp)(hq1:¬tpO t=6)(hE:EnvS v)(hgr:(nvW v).length<=50000000)(hsz:bulkPs (tpL t)<=10000000)(hda:(moD m).length<=1048576)(hq2:sb_r0 (pwF v (bM 118) t) (tpP t)=0)(hq3:((tpPs t).length:Int)>0)(hlen:((tpPs t).length:Int)=((daP (optD daNm (tpNm t) (moD m))).length:Int))(e:Ext)(hN:(tpPs t).length<=1000000000)(p0:Pr)(p1:Nat)(hres:(ty1_f m v t ((tpPs t)) 0)=(ty1_R.e0 p0 p1)):(Ob.loop 105 (loopF f35 1) (ty1_I m v t 0  e) (ty1_q m v t e (ty1_R.e0 p0 p1)).1 (ty1_q m v t e (ty1_R.e0 p0 p1)).2).ok prog:=
 rz (ty1_lp m v t hq1 hE hgr hsz hda hq2 hq3 hlen e hN) hres
theorem ty1_1(m:Mo)(v:Nv)(t:Tp)(hq1:¬tpO t=6)(hE:EnvS v)(hgr:(nvW v).length<=50000000)(hsz:bulkPs (tpL t)<=10000000)(hda:(moD m).length<=1048576)(hq2:sb_r0 (pwF v (bM 118) t) (tpP t)=0)(hq3:((tpPs t).length:Int)>0)(hlen:((tpPs t).length:Int)=((daP (optD daNm (tpNm t) (moD m))).length:Int))(e:Ext)(hN:(tpPs t).length<=1000000000)(hres:(ty1_f m v t ((tpPs t)) 0)=(ty1_R.e1)):(Ob.loop 105 (loopF f35 1) (ty1_I m v t 0  e) (ty1_q m v t e (ty1_R.e1)).1 (ty1_q m v t e (ty1_R.e1)).2).ok prog:=
 rz (ty1_lp m v t hq1 hE hgr hsz hda hq2 hq3 hlen e hN) hres
theorem gO0{v:Nv}(hE:EnvS v):OKn v v 0:=⟨hE,by omega⟩
section
variable (m:Mo) (v:Nv) (t:Tp) (tf:Nv->Tp->Int) (hwk:∀ (u:Nv) (i:Nat),i<(tpA t).length->OKn v u i->Pu 35 [.agg (pcL m u),.agg (tpL ((tpA t).getD i default))] (.ret (.int .i64 (tf u ((tpA t).getD i default))))) (hE:EnvS v) (hgr:(nvW v).length<=50000000) (hsz:bulkPs (tpL t)<=10000000) (hda:(moD m).length<=1048576) (k:Int) (hea:Pu 73 [.sl 9 (Tp.cs (tpA t)),.fn (.func 35) [.agg (pcL m v)] []] (.ret (.int .i64 k))) (hNa:(tpA t).length<=1000000000) (hNp:(tpPs t).length<=1000000000)
include m v t tf hwk hE hgr hsz hda k hea hNa hNp
theorem tyL_1(hx0:tpO t=6)(hy1:Tp)(hy2:Nv)(hx3:ty0_f t tf (tpA t) 0 v=ty0_R.e0 hy1 hy2):Pu 35 [.agg (pcL m v),.agg (tpL t)] (rI (tf hy2 hy1)):=
 pu mdL (fun e=>[et1 hx0,sl (Tp.cs_len (tpA t)),lp (S.mk [(0,.v (.agg (.sl 4 (Da.cs (moD m)) :: .sl 3 (Cl.cs (moC m)) :: .sl 12 (In.cs (moI m)) :: .sl 8 (Ms.cs (moM m)) :: .sl 6 (Qu.cs (moQ m)) :: .sl 25 (Df.cs (moF m))::nvL v))),(1,.v (.agg (tpL t))),(2,.lp 2 0),(3,.lp 3 0),(4,vI6 0),(15,.lp 3 0),(16,vI6 (tpO t)),(17,.v (.bool (tpO t==6))),(18,.v (.agg (.sl 4 (Da.cs (moD m)) :: .sl 3 (Cl.cs (moC m)) :: .sl 12 (In.cs (moI m)) :: .sl 8 (Ms.cs (moM m)) :: .sl 6 (Qu.cs (moQ m)) :: .sl 25 (Df.cs (moF m))::nvL v))),(5,.lp 5 0),(19,.lp 3 2),(20,vL 9 (Tp.cs (tpA t))),(21,vI6 ((tpA t).length:Int)),(22,vI6 0)] [(2,vL 4 (Da.cs (moD m))::vL 3 (Cl.cs (moC m))::vL 12 (In.cs (moI m))::vL 8 (Ms.cs (moM m))::vL 6 (Qu.cs (moQ m))::vL 25 (Df.cs (moF m))::nvV v),(3,tpV t),(5,vL 4 (Da.cs (moD m))::vL 3 (Cl.cs (moC m))::vL 12 (In.cs (moI m))::vL 8 (Ms.cs (moM m))::vL 6 (Qu.cs (moQ m))::vL 25 (Df.cs (moF m))::nvV v)] e) (@ty0_0 (m) (v) (t) (tf) hwk hx0 hgr hsz (v) (e) hNa (by (apply gO0 <;> first | assumption | omega | decide)) hy1 hy2 hx3) xr]) func35
theorem tyL_2(hx0:tpO t=6)(hy1:Nv)(hx2:ty0_f t tf (tpA t) 0 v=ty0_R.e1 hy1):Pu 35 [.agg (pcL m v),.agg (tpL t)] (rI 0):=
 pu mdL (fun e=>[et1 hx0,sl (Tp.cs_len (tpA t)),lp (S.mk [(0,.v (.agg (.sl 4 (Da.cs (moD m)) :: .sl 3 (Cl.cs (moC m)) :: .sl 12 (In.cs (moI m)) :: .sl 8 (Ms.cs (moM m)) :: .sl 6 (Qu.cs (moQ m)) :: .sl 25 (Df.cs (moF m))::nvL v))),(1,.v (.agg (tpL t))),(2,.lp 2 0),(3,.lp 3 0),(4,vI6 0),(15,.lp 3 0),(16,vI6 (tpO t)),(17,.v (.bool (tpO t==6))),(18,.v (.agg (.sl 4 (Da.cs (moD m)) :: .sl 3 (Cl.cs (moC m)) :: .sl 12 (In.cs (moI m)) :: .sl 8 (Ms.cs (moM m)) :: .sl 6 (Qu.cs (moQ m)) :: .sl 25 (Df.cs (moF m))::nvL v))),(5,.lp 5 0),(19,.lp 3 2),(20,vL 9 (Tp.cs (tpA t))),(21,vI6 ((tpA t).length:Int)),(22,vI6 0)] [(2,vL 4 (Da.cs (moD m))::vL 3 (Cl.cs (moC m))::vL 12 (In.cs (moI m))::vL 8 (Ms.cs (moM m))::vL 6 (Qu.cs (moQ m))::vL 25 (Df.cs (moF m))::nvV v),(3,tpV t),(5,vL 4 (Da.cs (moD m))::vL 3 (Cl.cs (moC m))::vL 12 (In.cs (moI m))::vL 8 (Ms.cs (moM m))::vL 6 (Qu.cs (moQ m))::vL 25 (Df.cs (moF m))::nvV v)] e) (@ty0_1 (m) (v) (t) (tf) hwk hx0 hgr hsz (v) (e) hNa (by (apply gO0 <;> first | assumption | omega | decide)) hy1 hx2) xr]) func35
theorem tyL_3(hx0:¬tpO t=6)(hx1:¬sb_r0 (pwF v (bM 118) t) (tpP t)=0):Pu 35 [.agg (pcL m v),.agg (tpL t)] (rI (sb_r0 (pwF v (bM 118) t) (tpP t))):=
 pm mdL [en1 hx0,cl (@pwT (m) (v) (bM 118) (t) hE oM),cl (@sb (pwF v (bM 118) t) (tpP t) (by (apply gE1 <;> first | assumption | omega | decide)) (by (apply gB1 <;> first | assumption | omega | decide))),nt1 hx1] func35
theorem tyL_4(hx0:¬tpO t=6)(hx1:sb_r0 (pwF v (bM 118) t) (tpP t)=0)(hx2:((tpPs t).length:Int)>0)(hx3:¬((tpPs t).length:Int)=((daP (optD daNm (tpNm t) (moD m))).length:Int)):Pu 35 [.agg (pcL m v),.agg (tpL t)] (rI 13):=
 pm mdL [en1 hx0,cl (@pwT (m) (v) (bM 118) (t) hE oM),cl (@sb (pwF v (bM 118) t) (tpP t) (by (apply gE1 <;> first | assumption | omega | decide)) (by (apply gB1 <;> first | assumption | omega | decide))),nn1 hx1,sl (Pr.cs_len (tpPs t)),dt1 hx2,cl (@dTT (m) (tpNm t) hda),sl (Pr.cs_len (tpPs t)),sl (Vr.cs_len (daP (optD daNm (tpNm t) (moD m)))),nt1 hx3] func35
theorem tyL_5(hx0:¬tpO t=6)(hx1:sb_r0 (pwF v (bM 118) t) (tpP t)=0)(hx2:((tpPs t).length:Int)>0)(hx3:((tpPs t).length:Int)=((daP (optD daNm (tpNm t) (moD m))).length:Int))(hy4:Pr)(hy5:Nat)(hx6:ty1_f m v t (tpPs t) 0=ty1_R.e0 hy4 hy5):Pu 35 [.agg (pcL m v),.agg (tpL t)] (rI (sb_r0 (wiF v (Vr.mk (bM 118) (vrS (List.getD (daP (optD daNm (tpNm t) (moD m))) hy5 default)))) hy4)):=
 pu mdL (fun e=>[en1 hx0,cl (@pwT (m) (v) (bM 118) (t) hE oM),cl (@sb (pwF v (bM 118) t) (tpP t) (by (apply gE1 <;> first | assumption | omega | decide)) (by (apply gB1 <;> first | assumption | omega | decide))),nn1 hx1,sl (Pr.cs_len (tpPs t)),dt1 hx2,cl (@dTT (m) (tpNm t) hda),sl (Pr.cs_len (tpPs t)),sl (Vr.cs_len (daP (optD daNm (tpNm t) (moD m)))),nn1 hx3,sl (Pr.cs_len (tpPs t)),lp (S.mk [(0,.v (.agg (.sl 4 (Da.cs (moD m)) :: .sl 3 (Cl.cs (moC m)) :: .sl 12 (In.cs (moI m)) :: .sl 8 (Ms.cs (moM m)) :: .sl 6 (Qu.cs (moQ m)) :: .sl 25 (Df.cs (moF m))::nvL v))),(1,.v (.agg (tpL t))),(2,.lp 2 0),(3,.lp 3 0),(4,vI6 0),(15,.lp 3 0),(16,vI6 (tpO t)),(17,.v (.bool (tpO t==6))),(47,.v (.agg (.sl 4 (Da.cs (moD m)) :: .sl 3 (Cl.cs (moC m)) :: .sl 12 (In.cs (moI m)) :: .sl 8 (Ms.cs (moM m)) :: .sl 6 (Qu.cs (moQ m)) :: .sl 25 (Df.cs (moF m))::nvL v))),(48,.v (.agg (tpL t))),(49,.v (.agg (.sl 4 (Da.cs (moD m)) :: .sl 3 (Cl.cs (moC m)) :: .sl 12 (In.cs (moI m)) :: .sl 8 (Ms.cs (moM m)) :: .sl 6 (Qu.cs (moQ m)) :: .sl 25 (Df.cs (moF m))::nvL (pwF v (bM 118) t)))),(50,.v (.agg (nvL (pwF v (bM 118) t)))),(51,.lp 3 4),(52,.v (.agg (prL (tpP t)))),(53,vI6 (sb_r0 (pwF v (bM 118) t) (tpP t))),(9,vI6 (sb_r0 (pwF v (bM 118) t) (tpP t))),(54,vI6 (sb_r0 (pwF v (bM 118) t) (tpP t))),(55,.v (.bool (sb_r0 (pwF v (bM 118) t) (tpP t) != 0))),(57,.lp 3 8),(58,vL 4 (Pr.cs (tpPs t))),(59,vI6 ((tpPs t).length:Int)),(60,.v (.bool (decide (((tpPs t).length:Int)>0)))),(62,.lp 2 0),(63,.v (.agg (moL m))),(64,.lp 3 1),(65,vS (tpNm t)),(66,.v (.tup [.agg (daL (optD daNm (tpNm t) (moD m))),.bool (optB daNm (tpNm t) (moD m))])),(61,.v (.tup [.agg (daL (optD daNm (tpNm t) (moD m))),.bool (optB daNm (tpNm t) (moD m))])),(67,.v (.agg (daL (optD daNm (tpNm t) (moD m))))),(68,.v (.bool (optB daNm (tpNm t) (moD m)))),(10,.lp 10 0),(11,.v (.bool (optB daNm (tpNm t) (moD m)))),(69,.lp 3 8),(70,vL 4 (Pr.cs (tpPs t))),(71,vI6 ((tpPs t).length:Int)),(72,.lp 10 2),(73,vL 2 (Vr.cs (daP (optD daNm (tpNm t) (moD m))))),(74,vI6 ((daP (optD daNm (tpNm t) (moD m))).length:Int)),(75,.v (.bool (((tpPs t).length:Int) != ((daP (optD daNm (tpNm t) (moD m))).length:Int)))),(76,.lp 3 8),(77,vL 4 (Pr.cs (tpPs t))),(78,vI6 ((tpPs t).length:Int)),(79,vI6 0)] [(2,vL 4 (Da.cs (moD m))::vL 3 (Cl.cs (moC m))::vL 12 (In.cs (moI m))::vL 8 (Ms.cs (moM m))::vL 6 (Qu.cs (moQ m))::vL 25 (Df.cs (moF m))::nvV v),(3,tpV t),(10,daV (optD daNm (tpNm t) (moD m)))] e) (@ty1_0 (m) (v) (t) hx0 hE hgr hsz hda hx1 hx2 hx3 (e) hNp hy4 hy5 hx6) xr]) func35
theorem tyL_6(hx0:¬tpO t=6)(hx1:sb_r0 (pwF v (bM 118) t) (tpP t)=0)(hx2:((tpPs t).length:Int)>0)(hx3:((tpPs t).length:Int)=((daP (optD daNm (tpNm t) (moD m))).length:Int))(hx4:ty1_f m v t (tpPs t) 0=ty1_R.e1):Pu 35 [.agg (pcL m v),.agg (tpL t)] (rI k):=
 pu mdL (fun e=>[en1 hx0,cl (@pwT (m) (v) (bM 118) (t) hE oM),cl (@sb (pwF v (bM 118) t) (tpP t) (by (apply gE1 <;> first | assumption | omega | decide)) (by (apply gB1 <;> first | assumption | omega | decide))),nn1 hx1,sl (Pr.cs_len (tpPs t)),dt1 hx2,cl (@dTT (m) (tpNm t) hda),sl (Pr.cs_len (tpPs t)),sl (Vr.cs_len (daP (optD daNm (tpNm t) (moD m)))),nn1 hx3,sl (Pr.cs_len (tpPs t)),lp (S.mk [(0,.v (.agg (.sl 4 (Da.cs (moD m)) :: .sl 3 (Cl.cs (moC m)) :: .sl 12 (In.cs (moI m)) :: .sl 8 (Ms.cs (moM m)) :: .sl 6 (Qu.cs (moQ m)) :: .sl 25 (Df.cs (moF m))::nvL v))),(1,.v (.agg (tpL t))),(2,.lp 2 0),(3,.lp 3 0),(4,vI6 0),(15,.lp 3 0),(16,vI6 (tpO t)),(17,.v (.bool (tpO t==6))),(47,.v (.agg (.sl 4 (Da.cs (moD m)) :: .sl 3 (Cl.cs (moC m)) :: .sl 12 (In.cs (moI m)) :: .sl 8 (Ms.cs (moM m)) :: .sl 6 (Qu.cs (moQ m)) :: .sl 25 (Df.cs (moF m))::nvL v))),(48,.v (.agg (tpL t))),(49,.v (.agg (.sl 4 (Da.cs (moD m)) :: .sl 3 (Cl.cs (moC m)) :: .sl 12 (In.cs (moI m)) :: .sl 8 (Ms.cs (moM m)) :: .sl 6 (Qu.cs (moQ m)) :: .sl 25 (Df.cs (moF m))::nvL (pwF v (bM 118) t)))),(50,.v (.agg (nvL (pwF v (bM 118) t)))),(51,.lp 3 4),(52,.v (.agg (prL (tpP t)))),(53,vI6 (sb_r0 (pwF v (bM 118) t) (tpP t))),(9,vI6 (sb_r0 (pwF v (bM 118) t) (tpP t))),(54,vI6 (sb_r0 (pwF v (bM 118) t) (tpP t))),(55,.v (.bool (sb_r0 (pwF v (bM 118) t) (tpP t) != 0))),(57,.lp 3 8),(58,vL 4 (Pr.cs (tpPs t))),(59,vI6 ((tpPs t).length:Int)),(60,.v (.bool (decide (((tpPs t).length:Int)>0)))),(62,.lp 2 0),(63,.v (.agg (moL m))),(64,.lp 3 1),(65,vS (tpNm t)),(66,.v (.tup [.agg (daL (optD daNm (tpNm t) (moD m))),.bool (optB daNm (tpNm t) (moD m))])),(61,.v (.tup [.agg (daL (optD daNm (tpNm t) (moD m))),.bool (optB daNm (tpNm t) (moD m))])),(67,.v (.agg (daL (optD daNm (tpNm t) (moD m))))),(68,.v (.bool (optB daNm (tpNm t) (moD m)))),(10,.lp 10 0),(11,.v (.bool (optB daNm (tpNm t) (moD m)))),(69,.lp 3 8),(70,vL 4 (Pr.cs (tpPs t))),(71,vI6 ((tpPs t).length:Int)),(72,.lp 10 2),(73,vL 2 (Vr.cs (daP (optD daNm (tpNm t) (moD m))))),(74,vI6 ((daP (optD daNm (tpNm t) (moD m))).length:Int)),(75,.v (.bool (((tpPs t).length:Int) != ((daP (optD daNm (tpNm t) (moD m))).length:Int)))),(76,.lp 3 8),(77,vL 4 (Pr.cs (tpPs t))),(78,vI6 ((tpPs t).length:Int)),(79,vI6 0)] [(2,vL 4 (Da.cs (moD m))::vL 3 (Cl.cs (moC m))::vL 12 (In.cs (moI m))::vL 8 (Ms.cs (moM m))::vL 6 (Qu.cs (moQ m))::vL 25 (Df.cs (moF m))::nvV v),(3,tpV t),(10,daV (optD daNm (tpNm t) (moD m)))] e) (@ty1_1 (m) (v) (t) hx0 hE hgr hsz hda hx1 hx2 hx3 (e) hNp hx4) xr,cl hea]) func35
theorem tyL_7(hx0:¬tpO t=6)(hx1:sb_r0 (pwF v (bM 118) t) (tpP t)=0)(hx2:¬((tpPs t).length:Int)>0):Pu 35 [.agg (pcL m v),.agg (tpL t)] (rI k):=
 pm mdL [en1 hx0,cl (@pwT (m) (v) (bM 118) (t) hE oM),cl (@sb (pwF v (bM 118) t) (tpP t) (by (apply gE1 <;> first | assumption | omega | decide)) (by (apply gB1 <;> first | assumption | omega | decide))),nn1 hx1,sl (Pr.cs_len (tpPs t)),df1 hx2,cl hea] func35
end
theorem idx_bulk:∀ {l:List Tp} {i:Nat},i<l.length->i+bulkPs (tpL (l.getD i default))<=bulkPss (Tp.cs l)
 | [],i,h=>by simp at h
 | c::r,0,_=>by
  have e:Tp.cs (c::r)=tpL c::Tp.cs r:=by simp [Tp.cs_eq]
  rw [e]; simp only [bulkPss,List.getD_cons_zero]; omega
 | c::r,i+1,h=>by
  have e:Tp.cs (c::r)=tpL c::Tp.cs r:=by simp [Tp.cs_eq]
  have ih:=idx_bulk (l:=r) (i:=i) (by simpa using h)
  have hc:1<=bulkPs (tpL c):=cons_bulk _ _
  rw [e]; simp only [bulkPss,List.getD_cons_succ]; omega
def tyS(m:Mo)(tf:Nv->Tp->Int)(v:Nv)(t:Tp)(k:Int):Int:=
 if tpO t=6 then (match ty0_f t tf (tpA t) 0 v with
  | .e0 el u=>tf u el
  | .e1 _=>0)
 else if sb_r0 (pwF v vSS t) (tpP t)=0 then
  (if ((tpPs t).length:Int)>0 then (if ((tpPs t).length:Int)=((daP (optD daNm (tpNm t) (moD m))).length:Int) then (match ty1_f m v t (tpPs t) 0 with
   | .e0 el i=>sb_r0 (wiF v (.mk vSS (vrS ((daP (optD daNm (tpNm t) (moD m))).getD i default)))) el
   | .e1=>k) else 13) else k)
 else sb_r0 (pwF v vSS t) (tpP t)
def tyD(m:Mo):Nat->Nv->Tp->Int
 | 0,_,_=>0
 | d+1,v,t=>tyS m (tyD m d) v t (frE (tyD m d v) (tpA t))
theorem ty_ok(m:Mo)(hda:(moD m).length<=1048576):∀ (d:Nat) (t:Tp) (v:Nv),bulkPs (tpL t)<d->d<=10000001->EnvS v->(nvW v).length+bulkPs (tpL t)<=50000000->Pu 35 [.agg (pcL m v),.agg (tpL t)] (.ret (.int .i64 (tyD m d v t)))
 | 0,_,_,h,_,_,_=>by omega
 | d+1,t,v,h,hd,hE,hgr=>by
  have h1:=tpw_bulk t
  have h2:=Pr.bulk (tpPs t)
  have h3:=Tp.bulk (tpA t)
  have hk:∀ (u:Nv) (i:Nat),i<(tpA t).length->OKn v u i->Pu 35 [.agg (pcL m u),.agg (tpL ((tpA t).getD i default))] (.ret (.int .i64 (tyD m d u ((tpA t).getD i default)))):=fun u i hi hu=>ty_ok m hda d _ u (by have:=Tp.mem (getD_mem hi); omega) oM hu.1 (by have:=hu.2; have:=idx_bulk hi; omega)
  have hea:=etT (tpA t) m v (tyD m d v) (fun w hw=>ty_ok m hda d w v (by have:=Tp.mem hw; omega) oM hE (by have:=Tp.mem hw; omega)) oM
  have hx1:(nvW v).length<=50000000:=by omega
  have hx2:bulkPs (tpL t)<=10000000:=by omega
  have hx3:(tpA t).length<=1000000000:=by omega
  have hx4:(tpPs t).length<=1000000000:=by omega
  rw [tyD]
  unfold tyS
  by_cases h6:tpO t=6
  ·rw [iP h6]
   cases hr:ty0_f t (tyD m d) (tpA t) 0 v with
   | e0 el u=>exact tyL_1 m v t _ hk hE hx1 hx2 hda _ hea hx3 hx4 h6 el u hr
   | e1 u=>exact tyL_2 m v t _ hk hE hx1 hx2 hda _ hea hx3 hx4 h6 u hr
  ·rw [iN h6]
   by_cases hs:sb_r0 (pwF v vSS t) (tpP t)=0
   ·rw [iP hs]
    by_cases hp:((tpPs t).length:Int)>0
    ·rw [iP hp]
     by_cases hl:((tpPs t).length:Int)=((daP (optD daNm (tpNm t) (moD m))).length:Int)
     ·rw [iP hl]
      cases hr:ty1_f m v t (tpPs t) 0 with
      | e0 el i=>exact tyL_5 m v t _ hk hE hx1 hx2 hda _ hea hx3 hx4 h6 hs hp hl el i hr
      | e1=>exact tyL_6 m v t _ hk hE hx1 hx2 hda _ hea hx3 hx4 h6 hs hp hl hr
     ·rw [iN hl]; exact tyL_4 m v t _ hk hE hx1 hx2 hda _ hea hx3 hx4 h6 hs hp hl
    ·rw [iN hp]; exact tyL_7 m v t _ hk hE hx1 hx2 hda _ hea hx3 hx4 h6 hs hp
   ·rw [iN hs]; exact tyL_3 m v t _ hk hE hx1 hx2 hda _ hea hx3 hx4 h6 hs
def tyF(m:Mo)(v:Nv)(t:Tp):Int:=tyD m (bulkPs (tpL t)+1) v t
theorem tyT(m:Mo)(v:Nv)(t:Tp)(hda:(moD m).length<=1048576)(hE:EnvS v)(hs:bulkPs (tpL t)<=10000000)(hgr:(nvW v).length<=10000000):Pu 35 [.agg (pcL m v),.agg (tpL t)] (.ret (.int .i64 (tyF m v t))):=ty_ok m hda _ t v oM oM hE oM
theorem rcT2(t:Tp)(hs:bulkPs (tpL t)<=10000000):Pu 33 [.agg (tpL t)] (.ret (.int .i64 (rcS_r0 t))):=rcS t oM
theorem knT2(m:Mo)(v:Nv)(t:Tp)(hda:(moD m).length<=1048576)(hs:bulkPs (tpL t)<=10000000):Pu 34 [.agg (pcL m v),.agg (tpL t)] (.ret (.int .i64 (knF m t))):=knT m v t hda oM
def wt_r0(m:Mo)(v:Nv)(t:Tp):Int:=(if rcS_r0 t=0 then (if knF m t=0 then (tyF m v t) else (knF m t)) else (rcS_r0 t))
theorem wt(m:Mo)(v:Nv)(t:Tp)(hda:(moD m).length<=1048576)(hE:EnvS v)(hs:bulkPs (tpL t)<=10000000)(hgr:(nvW v).length<=10000000):Pu 14 [.agg (nvL v),.agg (moL m),.agg (tpL t)] (rI (wt_r0 m v t)):=by
 by_cases h0:rcS_r0 t=0
 ·by_cases h1:knF m t=0
  ·simp only [wt_r0,iP h0,iP h1]; exact pm mdL [cl (@rcT2 (t) hs),nn1 h0,cl (@knT2 (m) (v) (t) hda hs),nn1 h1,cl (@tyT (m) (v) (t) hda hE hs hgr)] func14
  ·simp only [wt_r0,iP h0,iN h1]; exact pm mdL [cl (@rcT2 (t) hs),nn1 h0,cl (@knT2 (m) (v) (t) hda hs),nt1 h1] func14
 ·simp only [wt_r0,iN h0]; exact pm mdL [cl (@rcT2 (t) hs),nt1 h0] func14
abbrev zzS:BA:=ByteArray.mk #[122,122,57]
def xtV(v:Nv):Nv := .mk (nvW v) (nvS v++[.mk zzS [intS] boolS]) (nvH v)
inductive NoN (z:BA):Pr->Prop
 | mk (p:Pr) (h:¬prNm p=z) (hk:∀w∈prK p,NoN z w):NoN z p
theorem noN_of(z:BA):∀ (d:Nat) (p:Pr),bulkPs (prL p)<d->mnD z d p=false->NoN z p
 | 0,_,h,_=>by omega
 | d+1,p,h,hm=>by
  simp only [mnD,Bool.or_eq_false_iff,decide_eq_false_iff_not,List.any_eq_false] at hm
  refine .mk p hm.1 fun w hw=>noN_of z d w (by have:=prKw_bulk p; have:=Pr.mem hw; omega) ?_
  have:=hm.2 w hw
  simpa using this
theorem noN_mn{z:BA}{p:Pr}(h:mnF z p=false):NoN z p:=noN_of z _ p (Nat.lt_succ_self _) h
inductive NoT (z:BA):Tp->Prop
 | mk (t:Tp) (h:∀p∈prP t,NoN z p) (hk:∀w∈tpA t,NoT z w):NoT z t
theorem noT_of(z:BA):∀ (d:Nat) (t:Tp),bulkPs (tpL t)<d->ocD z d t=false->NoT z t
 | 0,_,h,_=>by omega
 | d+1,t,h,hm=>by
  simp only [ocD,Bool.or_eq_false_iff,List.any_eq_false] at hm
  refine .mk t (fun p hp=>noN_mn (by simpa using hm.1 p hp)) fun w hw=>noT_of z d w (by have:=tpw_bulk t; have:=Tp.mem hw; omega) ?_
  have:=hm.2 w hw
  simpa using this
theorem noT_oc{z:BA}{t:Tp}(h:ocF z t=false):NoT z t:=noT_of z _ t (Nat.lt_succ_self _) h
theorem ix_app{α:Type}(f:α->BA)(name:BA)(x:α)(hx:¬f x=name):∀l:List α,ix f name (l++[x])=if ix f name l<l.length then ix f name l else l.length+1
 | []=>by simp [ix,hx]
 | c::r=>by
  by_cases h:f c=name
  ·simp [ix,h]
  ·simp only [List.cons_append,ix,h,if_false,ix_app f name x hx r,List.length_cons]
   by_cases h2:ix f name r<r.length
   ·rw [iP h2,iP oM]
   ·rw [iN h2,iN oM]
theorem optB_app{α:Type} [Inhabited α] (f:α->BA) (name:BA) (x:α) (hx:¬f x=name) (l:List α):optB f name (l++[x])=optB f name l:=by
 unfold optB
 rw [ix_app f name x hx l]
 split
 ·rename_i h; rw [decide_eq_true h,decide_eq_true (by simp; omega)]
 ·rename_i h; rw [decide_eq_false h,decide_eq_false sM]
theorem optD_app{α:Type} [Inhabited α] (f:α->BA) (name:BA) (x:α) (hx:¬f x=name) (l:List α):optD f name (l++[x])=optD f name l:=by
 unfold optD
 rw [ix_app f name x hx l]
 by_cases h:ix f name l<l.length
 ·rw [iP h,iP (by simp; omega),iP h]
  simp [List.getD,List.getElem?_append_left h]
 ·rw [iN h,iN sM,iN h]
theorem fdD_x{v:Nv}{name:BA}(h:¬name=zzS):fdD (xtV v) name=fdD v name:=by
 unfold fdD
 rw [show nvS (xtV v)=nvS v++[.mk zzS [intS] boolS] from rfl,optD_app syNm name (.mk zzS [intS] boolS) (fun e=>h (Eq.symm e))]
theorem fdB_x{v:Nv}{name:BA}(h:¬name=zzS):fdB (xtV v) name=fdB v name:=by
 unfold fdB
 rw [show nvS (xtV v)=nvS v++[.mk zzS [intS] boolS] from rfl,optB_app syNm name (.mk zzS [intS] boolS) (fun e=>h (Eq.symm e))]
theorem apE_x{v:Nv}{name:BA}{l:List BA}(h:¬name=zzS):apE (xtV v) name l=apE v name l:=by
 unfold apE; rw [fdD_x h,fdB_x h]
theorem sn0_x{v:Nv}{p:Pr}{l:List BA}(h:¬prNm p=zzS):sn_r0 (xtV v) p l=sn_r0 v p l:=by
 unfold sn_r0; rw [apE_x h]; rfl
theorem sn1_x{v:Nv}{p:Pr}{l:List BA}(h:¬prNm p=zzS):sn_r1 (xtV v) p l=sn_r1 v p l:=by
 unfold sn_r1; rw [apE_x h]; rfl
theorem of0_cg{sf sf':Pr->BA}{efz ef':Pr->Int}:∀ {l:List Pr} (out:List BA),(∀w∈l,sf w=sf' w/\efz w=ef' w)->of0_f sf efz l out=of0_f sf' ef' l out
 | [],_,_=>rfl
 | c::r,out,h=>by
  have hc:=h c sM
  simp only [of0_f,hc.1,hc.2]
  rw [of0_cg (l:=r) _ fun w hw=>h w (List.mem_cons_of_mem _ hw)]
theorem of0_mem{sf:Pr->BA}{efz:Pr->Int}:∀ {l:List Pr} {out o:List BA} {w:Pr},of0_f sf efz l out = .e0 w o->w∈l
 | [],out,o,w,h=>by simp [of0_f] at h
 | c::r,out,o,w,h=>by
  simp only [of0_f] at h
  split at h
  ·exact List.mem_cons_of_mem _ (of0_mem h)
  ·simp only [of0_R.e0.injEq] at h; rw [<-h.1]; exact List.mem_cons_self
theorem ofD_x(v:Nv):∀ (d:Nat) (p:Pr),NoN zzS p->ofD d (xtV v) p=ofD d v p
 | 0,_,_=>rfl
 | d+1,p,h=>by
  cases h with
  | mk _ h1 hk=>
   have ih:∀w∈prK p,ofD d (xtV v) w=ofD d v w:=fun w hw=>ofD_x v d w (hk w hw)
   have e:of0_f (fun w=>(ofD d (xtV v) w).1) (fun w=>(ofD d (xtV v) w).2) (prK p) []=of0_f (fun w=>(ofD d v w).1) (fun w=>(ofD d v w).2) (prK p) []:=of0_cg [] fun w hw=>by rw [ih w hw]; exact ⟨rfl,rfl⟩
   rw [ofD,ofD,e]
   cases hr:of0_f (fun w=>(ofD d v w).1) (fun w=>(ofD d v w).2) (prK p) [] with
   | e0 w o=>simp only; rw [ih w (of0_mem hr)]
   | e1 o=>simp only; rw [sn0_x h1,sn1_x h1]
theorem soE_x{v:Nv}{p:Pr}(h:NoN zzS p):soE (xtV v) p=soE v p:=by
 unfold soE ofF; rw [ofD_x v _ p h]
theorem sb_x{v:Nv}{p:Pr}(h:NoN zzS p):sb_r0 (xtV v) p=sb_r0 v p:=by
 unfold sb_r0; rw [soE_x h]
theorem wiF_x(v:Nv)(u:Vr):wiF (xtV v) u=xtV (wiF v u):=rfl
theorem pwF_x(v:Nv)(name:BA)(t:Tp):pwF (xtV v) name t=xtV (pwF v name t):=by
 unfold pwF; split <;> rfl
theorem ty0_x{t:Tp}{tf:Nv->Tp->Int}:∀ {l:List Tp} (i:Nat) (u:Nv),(∀w∈l,∀u,tf (xtV u) w=tf u w)->ty0_f t tf l i (xtV u)=match ty0_f t tf l i u with
  | .e0 el u' => .e0 el (xtV u')
  | .e1 u' => .e1 (xtV u')
 | [],i,u,_=>rfl
 | c::r,i,u,h=>by
  have hc:=h c sM u
  have ih:=fun i u=>ty0_x (t:=t) (tf:=tf) (l:=r) i u fun w hw=>h w (List.mem_cons_of_mem _ hw)
  simp only [ty0_f,hc]
  by_cases h0:tf u c=0
  ·simp only [h0,if_true]
   by_cases h1:(i:Int)<((tpNs t).length:Int)
   ·simp only [h1,if_true,pwF_x]; exact ih _ _
   ·simp only [h1,if_false]; exact ih _ _
  ·simp only [h0,if_false]
theorem ty0_mem{t:Tp}{tf:Nv->Tp->Int}:∀ {l:List Tp} {i:Nat} {u u':Nv} {w:Tp},ty0_f t tf l i u = .e0 w u'->w∈l
 | [],i,u,u',w,h=>by simp [ty0_f] at h
 | c::r,i,u,u',w,h=>by
  simp only [ty0_f] at h
  split at h
  ·split at h
   ·exact List.mem_cons_of_mem _ (ty0_mem h)
   ·exact List.mem_cons_of_mem _ (ty0_mem h)
  ·simp only [ty0_R.e0.injEq] at h; rw [<-h.1]; exact List.mem_cons_self
theorem ty1_x{m:Mo}{v:Nv}{t:Tp}:∀ {l:List Pr} (i:Nat),(∀w∈l,NoN zzS w)->ty1_f m (xtV v) t l i=ty1_f m v t l i
 | [],i,_=>rfl
 | c::r,i,h=>by
  simp only [ty1_f,wiF_x,sb_x (h c sM)]
  rw [ty1_x (l:=r) _ fun w hw=>h w (List.mem_cons_of_mem _ hw)]
theorem ty1_mem{m:Mo}{v:Nv}{t:Tp}:∀ {l:List Pr} {i j:Nat} {w:Pr},ty1_f m v t l i = .e0 w j->w∈l
 | [],i,j,w,h=>by simp [ty1_f] at h
 | c::r,i,j,w,h=>by
  simp only [ty1_f] at h
  split at h
  ·exact List.mem_cons_of_mem _ (ty1_mem h)
  ·simp only [ty1_R.e0.injEq] at h; rw [<-h.1]; exact List.mem_cons_self
theorem frE_cg{α:Type}{f g:α->Int}:∀ {l:List α},(∀w∈l,f w=g w)->frE f l=frE g l
 | [],_=>rfl
 | c::r,h=>by simp only [frE,h c sM]; rw [frE_cg (l:=r) fun w hw=>h w (List.mem_cons_of_mem _ hw)]
theorem tyD_x(m:Mo):∀ (d:Nat) (t:Tp) (v:Nv),NoT zzS t->tyD m d (xtV v) t=tyD m d v t
 | 0,_,_,_=>rfl
 | d+1,t,v,h=>by
  cases h with
  | mk _ hp hk=>
   have ih:∀w∈tpA t,∀u,tyD m d (xtV u) w=tyD m d u w:=fun w hw u=>tyD_x m d w u (hk w hw)
   have hpp:NoN zzS (tpP t):=hp _ (List.mem_cons_self)
   have hps:∀w∈tpPs t,NoN zzS w:=fun w hw=>hp _ (List.mem_cons_of_mem _ hw)
   rw [tyD,tyD,frE_cg (f:=tyD m d (xtV v)) (g:=tyD m d v) fun w hw=>ih w hw v]
   unfold tyS
   rw [ty0_x 0 v ih,ty1_x 0 hps,pwF_x,sb_x hpp]
   by_cases h6:tpO t=6
   ·rw [iP h6,iP h6]
    cases hr:ty0_f t (tyD m d) (tpA t) 0 v with
    | e0 el u=>exact ih el (ty0_mem hr) u
    | e1 u=>rfl
   ·rw [iN h6,iN h6]
    by_cases hs:sb_r0 (pwF v vSS t) (tpP t)=0
    ·rw [iP hs,iP hs]
     by_cases hl:((tpPs t).length:Int)>0
     ·rw [iP hl,iP hl]
      by_cases he:((tpPs t).length:Int)=((daP (optD daNm (tpNm t) (moD m))).length:Int)
      ·rw [iP he,iP he]
       cases hr:ty1_f m v t (tpPs t) 0 with
       | e0 el i=>simp only; rw [wiF_x,sb_x (hps el (ty1_mem hr))]
       | e1=>rfl
      ·rw [iN he,iN he]
     ·rw [iN hl,iN hl]
    ·rw [iN hs,iN hs]
theorem wt_x(m:Mo)(v:Nv)(t:Tp)(h:ocF zzS t=false):wt_r0 m (xtV v) t=wt_r0 m v t:=by
 unfold wt_r0 tyF; rw [tyD_x m _ t v (noT_oc h)]
theorem hA_o{m:Mo}{o:Nat}(hA:∀ (d:Da) (c:Cn) (k:Int),d∈moD m->c∈daC d->Pu 23 [.sl 9 (Tp.cs (cnF c)),.int .i64 k] (.ret (.int .i64 (ctF (cnF c) k))))(h:o<(moD m).length):∀ (c:Cn) (k:Int),c∈daC ((moD m).getD o default)->Pu 23 [.sl 9 (Tp.cs (cnF c)),.int .i64 k] (.ret (.int .i64 (ctF (cnF c) k))):=fun c k hc=>hA _ c k (getD_mem h) hc
theorem hB_o{m:Mo}{o:Nat}(hB:∀ (c:Cl) (p:Pm) (k:Int),c∈moC m->p∈clM c->Pu 23 [.sl 9 [tpL (pmT p)],.int .i64 k] (.ret (.int .i64 (ctF [pmT p] k))))(h:o<(moC m).length):∀ (p:Pm) (k:Int),p∈clM ((moC m).getD o default)->Pu 23 [.sl 9 [tpL (pmT p)],.int .i64 k] (.ret (.int .i64 (ctF [pmT p] k))):=fun c k hc=>hB _ c k (getD_mem h) hc
theorem hG_o{m:Mo}{o:Nat}(hG:∀ (x:Ms) (c:Cs) (k:Int),x∈moM m->c∈msC x->Pu 24 [.sl 4 [prL (csB c)],.int .i64 k] (.ret (.int .i64 (cpF [csB c] k))))(h:o<(moM m).length):∀ (c:Cs) (k:Int),c∈msC ((moM m).getD o default)->Pu 24 [.sl 4 [prL (csB c)],.int .i64 k] (.ret (.int .i64 (cpF [csB c] k))):=fun c k hc=>hG _ c k (getD_mem h) hc
def cdF(l:List Df)(mx:Int):Int:=cd0_f mx l 0
theorem l1_le{m:Mo}{i:Nat}(l1:∀c∈moD m,(daC c).length<=1048576)(h:i<(moD m).length):(daC ((moD m).getD i default)).length<=1000000000:=by
 have:=l1 _ (getD_mem h); omega
theorem l2_le{m:Mo}{i:Nat}(l2:∀c∈moC m,(clM c).length<=1048576)(h:i<(moC m).length):(clM ((moC m).getD i default)).length<=1000000000:=by
 have:=l2 _ (getD_mem h); omega
theorem l3_le{m:Mo}{i:Nat}(l3:∀c∈moM m,(msC c).length<=1048576)(h:i<(moM m).length):(msC ((moM m).getD i default)).length<=1000000000:=by
 have:=l3 _ (getD_mem h); omega
theorem g1{l:List Da}{i:Nat}(h:i<l.length):l.getD i default∈l:=getD_mem h
theorem g2{l:List Cn}{i:Nat}(h:i<l.length):l.getD i default∈l:=getD_mem h
theorem g3{l:List Cl}{i:Nat}(h:i<l.length):l.getD i default∈l:=getD_mem h
theorem g4{l:List In}{i:Nat}(h:i<l.length):l.getD i default∈l:=getD_mem h
theorem g5{l:List Ms}{i:Nat}(h:i<l.length):l.getD i default∈l:=getD_mem h
theorem g6{l:List Cs}{i:Nat}(h:i<l.length):l.getD i default∈l:=getD_mem h
abbrev sl1_I(m:Mo)(o:Nat)(n0:Int)(xe:Ext)(j:Int)(n:Int)  : S:=S.mk [(1,.lp 1 0),(2,.v (.bool false)),(3,vI6 n),(4,vI6 (o:Int)),(5,vI6 j)] [(1,moV m)] xe
def sl1_f  : List Cn->(Int)->(Int)
 | [],n=>(n)
 | el::r,n=>(if n<=4000 then sl1_f  r (IntKind.wrap .i64 (IntKind.wrap .i64 (IntKind.wrap .i64 (n+1)+((cnNs el).length:Int))+ctF (cnF el) 4000)) else (n))
def sl1_q(m:Mo)(o:Nat)(n0:Int)(xe:Ext)(p:(Int)):PExit × S:=(.exit 2,S.mk [(1,.lp 1 0),(2,.v (.bool false)),(3,vI6 p),(4,vI6 (o:Int))] [(1,moV m)] xe)
theorem sl1(m:Mo)(o:Nat)(ho:o<(moD m).length)(n0:Int)(xe:Ext)(hAo:∀ (c:Cn) (k:Int),c∈daC ((moD m).getD o default)->Pu 23 [.sl 9 (Tp.cs (cnF c)),.int .i64 k] (.ret (.int .i64 (ctF (cnF c) k))))(l1:∀c∈moD m,(daC c).length<=1048576)(n:Int)(hN:List.length ((daC ((moD m).getD o default)))<=1000000000)  : (Ob.loop 303 (loopF f8 1) (sl1_I m o n0 xe 0 n) (sl1_q m o n0 xe  (sl1_f  ((daC ((moD m).getD o default)))  n)).1 (sl1_q m o n0 xe  (sl1_f  ((daC ((moD m).getD o default)))  n)).2).ok prog:=by
 refine rng (List.length ((daC ((moD m).getD o default)))) (fun j n=>sl1_I m o n0 xe j n) (fun i n=>sl1_f  (List.drop i ((daC ((moD m).getD o default))))  n) (sl1_q m o n0 xe) (fun i n=>True) kR ?_ n trivial
 rintro i n hi -
 rcases Nat.lt_or_ge i (List.length ((daC ((moD m).getD o default)))) with hlt | hge
 ·have hd:=drop_at hlt
  by_cases h0:n<=4000
  ·exact lN mdL [am ((0:Int)<=(o:Int)/\(o:Int)<((Da.cs (moD m)).length:Int)) (by (simp only [Da.cs_len]; omega)),xDa (moD m) o ho,sl (Cn.cs_len (daC (List.getD (moD m) o default))),rp 3 (dt ((i:Int)<((daC (List.getD (moD m) o default)).length:Int))),dt1 h0,kp,am ((0:Int)<=(o:Int)/\(o:Int)<((Da.cs (moD m)).length:Int)) (by (simp only [Da.cs_len]; omega)),xDa (moD m) o ho,am ((0:Int)<=(i:Int)/\(i:Int)<((Cn.cs (daC (List.getD (moD m) o default))).length:Int)) (by (simp only [Cn.cs_len]; omega)),xCn (daC (List.getD (moD m) o default)) i hlt,sl (nmsC_len (cnNs (List.getD (daC (List.getD (moD m) o default)) i default))),kp,am ((0:Int)<=(o:Int)/\(o:Int)<((Da.cs (moD m)).length:Int)) (by (simp only [Da.cs_len]; omega)),xDa (moD m) o ho,am ((0:Int)<=(i:Int)/\(i:Int)<((Cn.cs (daC (List.getD (moD m) o default))).length:Int)) (by (simp only [Cn.cs_len]; omega)),xCn (daC (List.getD (moD m) o default)) i hlt,cl (@hAo (List.getD (daC (List.getD (moD m) o default)) i default) (4000) (by simp_all [List.length_map,List.length_append,List.length_cons,List.length_nil,nmsC_len,Pr.cs_len,Tp.cs_len,Pm.cs_len,Ex.cs_len,Al.cs_len,Vr.cs_len,Cn.cs_len,Da.cs_len,Cl.cs_len,Bo.cs_len,Df.cs_len,In.cs_len,Cs.cs_len,Ms.cs_len,Qu.cs_len,Sy.cs_len,Ho.cs_len,Int.toNat_natCast,Bool.cond_true_left,Bool.cond_false_right])),kp,wr ((i:Int)+1)] hlt (IntKind.wrap .i64 (IntKind.wrap .i64 (IntKind.wrap .i64 (n+1)+((cnNs (List.getD (daC (List.getD (moD m) o default)) i default)).length:Int))+ctF (cnF (List.getD (daC (List.getD (moD m) o default)) i default)) 4000)) trivial (by rw [hd,sl1_f,iP h0])
  ·exact lX mdL [am ((0:Int)<=(o:Int)/\(o:Int)<((Da.cs (moD m)).length:Int)) (by (simp only [Da.cs_len]; omega)),xDa (moD m) o ho,sl (Cn.cs_len (daC (List.getD (moD m) o default))),rp 3 (dt ((i:Int)<((daC (List.getD (moD m) o default)).length:Int))),df1 h0] (n) (by rw [hd,sl1_f,iN h0])
 ·have he:i=List.length ((daC ((moD m).getD o default))):=by omega
  exact lX mdL [am ((0:Int)<=(o:Int)/\(o:Int)<((Da.cs (moD m)).length:Int)) (by (simp only [Da.cs_len]; omega)),xDa (moD m) o ho,sl (Cn.cs_len (daC (List.getD (moD m) o default))),rp 3 (df ((i:Int)<((daC (List.getD (moD m) o default)).length:Int))),bf false] (n) (by rw [he,List.drop_length,sl1_f])
abbrev sl0_I(m:Mo)(j:Int)(n:Int)(e:Ext):S:=S.mk [(1,.lp 1 0),(2,.v (.bool false)),(3,vI6 n),(4,vI6 j)] [(1,moV m)] e
def sl0_f  : List Da->(Int)->(Int)
 | [],n=>(n)
 | el::r,n=>(if n<=4000 then sl0_f  r (sl1_f (daC el) (IntKind.wrap .i64 (IntKind.wrap .i64 (IntKind.wrap .i64 (IntKind.wrap .i64 (n+1)+IntKind.wrap .i64 (Int.tdiv (↑(ByteArray.size (daNm el)):Int) 100))+((daVs el).length:Int))+((daP el).length:Int)))) else (n))
def sl0_q(m:Mo)(e:Ext)(p:(Int)):PExit × S:=(.exit 0,S.mk [(1,.lp 1 0),(2,.v (.bool false)),(3,vI6 p)] [(1,moV m)] e)
theorem sl0(m:Mo)(s1:¬((moD m).length:Int)>80)(s2:¬((moC m).length:Int)>80)(s3:¬((moI m).length:Int)>80)(s4:¬((moM m).length:Int)>80)(s5:¬((moQ m).length:Int)>80)(s6:¬((moF m).length:Int)>80)(hA:∀ (d:Da) (c:Cn) (k:Int),d∈moD m->c∈daC d->Pu 23 [.sl 9 (Tp.cs (cnF c)),.int .i64 k] (.ret (.int .i64 (ctF (cnF c) k))))(l1:∀c∈moD m,(daC c).length<=1048576)(hI:∀ (k:Int),Pu 22 [.sl 25 (Df.cs (moF m)),.int .i64 k] (.ret (.int .i64 (cdF (moF m) k))))(n:Int)(e:Ext)(hN:(moD m).length<=1000000000)  : (Ob.loop 303 (loopF f8 0) (sl0_I m 0 n e) (sl0_q m e (sl0_f  ((moD m))  n)).1 (sl0_q m e (sl0_f  ((moD m))  n)).2).ok prog:=by
 refine rng ((moD m).length) (fun j n=>sl0_I m j n e) (fun i n=>sl0_f  (List.drop i ((moD m)))  n) (sl0_q m e) (fun i n=>True) kR ?_ n trivial
 rintro i n hi -
 rcases Nat.lt_or_ge i ((moD m).length) with hlt | hge
 ·have hd:=drop_at hlt
  by_cases h0:n<=4000
  ·exact lN mdL [sl (Da.cs_len (moD m)),rp 3 (dt ((i:Int)<((moD m).length:Int))),dt1 h0,kp,am ((0:Int)<=(i:Int)/\(i:Int)<((Da.cs (moD m)).length:Int)) (by (simp only [Da.cs_len]; omega)),xDa (moD m) i hlt,rp 3 (kp),ab true,am ((0:Int)<=(i:Int)/\(i:Int)<((Da.cs (moD m)).length:Int)) (by (simp only [Da.cs_len]; omega)),xDa (moD m) i hlt,sl (nmsC_len (daVs (List.getD (moD m) i default))),kp,am ((0:Int)<=(i:Int)/\(i:Int)<((Da.cs (moD m)).length:Int)) (by (simp only [Da.cs_len]; omega)),xDa (moD m) i hlt,sl (Vr.cs_len (daP (List.getD (moD m) i default))),kp,lp (S.mk [(1,.lp 1 0),(2,.v (.bool false)),(3,vI6 (IntKind.wrap .i64 (IntKind.wrap .i64 (IntKind.wrap .i64 (IntKind.wrap .i64 (n+1)+IntKind.wrap .i64 (Int.tdiv (↑(ByteArray.size (daNm (List.getD (moD m) i default))):Int) 100))+((daVs (List.getD (moD m) i default)).length:Int))+((daP (List.getD (moD m) i default)).length:Int)))),(4,vI6 (i:Int)),(49,vI6 (i:Int)),(50,.lp 1 0),(51,vL 4 (Da.cs (moD m))),(52,vI6 ((moD m).length:Int)),(53,.v (.bool (decide ((i:Int)<((moD m).length:Int))))),(54,.v (.bool (decide ((i:Int)<((moD m).length:Int))))),(55,vI6 n),(56,.v (.bool (decide (n<=4000)))),(57,.v (.bool (decide (n<=4000)))),(60,vI6 n),(61,vI6 (IntKind.wrap .i64 (n+1))),(62,.lp 1 0),(63,vL 4 (Da.cs (moD m))),(64,vI6 (i:Int)),(65,.v (.ro (daL (List.getD (moD m) i default)) 0)),(66,.v (.ro (daL (List.getD (moD m) i default)) 0)),(67,vS (daNm (List.getD (moD m) i default))),(68,vI6 (↑(ByteArray.size (daNm (List.getD (moD m) i default))):Int)),(69,vI6 (IntKind.wrap .i64 (Int.tdiv (↑(ByteArray.size (daNm (List.getD (moD m) i default))):Int) 100))),(70,vI6 (IntKind.wrap .i64 (IntKind.wrap .i64 (n+1)+IntKind.wrap .i64 (Int.tdiv (↑(ByteArray.size (daNm (List.getD (moD m) i default))):Int) 100)))),(71,.lp 1 0),(72,vL 4 (Da.cs (moD m))),(73,vI6 (i:Int)),(74,.v (.ro (daL (List.getD (moD m) i default)) 0)),(75,.v (.ro (daL (List.getD (moD m) i default)) 1)),(76,vL 1 (nmsC (daVs (List.getD (moD m) i default)))),(77,vI6 ((daVs (List.getD (moD m) i default)).length:Int)),(78,vI6 (IntKind.wrap .i64 (IntKind.wrap .i64 (IntKind.wrap .i64 (n+1)+IntKind.wrap .i64 (Int.tdiv (↑(ByteArray.size (daNm (List.getD (moD m) i default))):Int) 100))+((daVs (List.getD (moD m) i default)).length:Int)))),(79,.lp 1 0),(80,vL 4 (Da.cs (moD m))),(81,vI6 (i:Int)),(82,.v (.ro (daL (List.getD (moD m) i default)) 0)),(83,.v (.ro (daL (List.getD (moD m) i default)) 2)),(84,vL 2 (Vr.cs (daP (List.getD (moD m) i default)))),(85,vI6 ((daP (List.getD (moD m) i default)).length:Int)),(86,vI6 (IntKind.wrap .i64 (IntKind.wrap .i64 (IntKind.wrap .i64 (IntKind.wrap .i64 (n+1)+IntKind.wrap .i64 (Int.tdiv (↑(ByteArray.size (daNm (List.getD (moD m) i default))):Int) 100))+((daVs (List.getD (moD m) i default)).length:Int))+((daP (List.getD (moD m) i default)).length:Int)))),(5,vI6 0)] [(1,moV m)] e) (@sl1 (m) (i) hlt default (e) (by (apply hA_o <;> first | assumption | omega | decide)) l1 (IntKind.wrap .i64 (IntKind.wrap .i64 (IntKind.wrap .i64 (IntKind.wrap .i64 (n+1)+IntKind.wrap .i64 (Int.tdiv (↑(ByteArray.size (daNm (List.getD (moD m) i default))):Int) 100))+((daVs (List.getD (moD m) i default)).length:Int))+((daP (List.getD (moD m) i default)).length:Int))) (by (apply l1_le <;> first | assumption | omega | decide))) xr,wr ((i:Int)+1)] hlt (sl1_f (daC (List.getD (moD m) i default)) (IntKind.wrap .i64 (IntKind.wrap .i64 (IntKind.wrap .i64 (IntKind.wrap .i64 (n+1)+IntKind.wrap .i64 (Int.tdiv (↑(ByteArray.size (daNm (List.getD (moD m) i default))):Int) 100))+((daVs (List.getD (moD m) i default)).length:Int))+((daP (List.getD (moD m) i default)).length:Int)))) trivial (by rw [hd,sl0_f,iP h0])
  ·exact lX mdL [sl (Da.cs_len (moD m)),rp 3 (dt ((i:Int)<((moD m).length:Int))),df1 h0] (n) (by rw [hd,sl0_f,iN h0])
 ·have he:i=(moD m).length:=by omega
  exact lX mdL [sl (Da.cs_len (moD m)),rp 3 (df ((i:Int)<((moD m).length:Int))),bf false] (n) (by rw [he,List.drop_length,sl0_f])
abbrev sl3_I(m:Mo)(o:Nat)(n0:Int)(xe:Ext)(j:Int)(n:Int)  : S:=S.mk [(1,.lp 1 0),(2,.v (.bool false)),(3,vI6 n),(6,vI6 (o:Int)),(7,vI6 j)] [(1,moV m)] xe
def sl3_f  : List Pm->(Int)->(Int)
 | [],n=>(n)
 | el::r,n=>(if n<=4000 then sl3_f  r (IntKind.wrap .i64 (IntKind.wrap .i64 (n+1)+ctF [pmT el] 4000)) else (n))
def sl3_q(m:Mo)(o:Nat)(n0:Int)(xe:Ext)(p:(Int)):PExit × S:=(.exit 6,S.mk [(1,.lp 1 0),(2,.v (.bool false)),(3,vI6 p),(6,vI6 (o:Int))] [(1,moV m)] xe)
theorem sl3(m:Mo)(o:Nat)(ho:o<(moC m).length)(n0:Int)(xe:Ext)(hBo:∀ (p:Pm) (k:Int),p∈clM ((moC m).getD o default)->Pu 23 [.sl 9 [tpL (pmT p)],.int .i64 k] (.ret (.int .i64 (ctF [pmT p] k))))(l2:∀c∈moC m,(clM c).length<=1048576)(n:Int)(hN:List.length ((clM ((moC m).getD o default)))<=1000000000)  : (Ob.loop 303 (loopF f8 3) (sl3_I m o n0 xe 0 n) (sl3_q m o n0 xe  (sl3_f  ((clM ((moC m).getD o default)))  n)).1 (sl3_q m o n0 xe  (sl3_f  ((clM ((moC m).getD o default)))  n)).2).ok prog:=by
 refine rng (List.length ((clM ((moC m).getD o default)))) (fun j n=>sl3_I m o n0 xe j n) (fun i n=>sl3_f  (List.drop i ((clM ((moC m).getD o default))))  n) (sl3_q m o n0 xe) (fun i n=>True) kR ?_ n trivial
 rintro i n hi -
 rcases Nat.lt_or_ge i (List.length ((clM ((moC m).getD o default)))) with hlt | hge
 ·have hd:=drop_at hlt
  by_cases h0:n<=4000
  ·exact lN mdL [am ((0:Int)<=(o:Int)/\(o:Int)<((Cl.cs (moC m)).length:Int)) (by (simp only [Cl.cs_len]; omega)),xCl (moC m) o ho,sl (Pm.cs_len (clM (List.getD (moC m) o default))),rp 3 (dt ((i:Int)<((clM (List.getD (moC m) o default)).length:Int))),dt1 h0,kp,am ((0:Int)<=(o:Int)/\(o:Int)<((Cl.cs (moC m)).length:Int)) (by (simp only [Cl.cs_len]; omega)),xCl (moC m) o ho,am ((0:Int)<=(i:Int)/\(i:Int)<((Pm.cs (clM (List.getD (moC m) o default))).length:Int)) (by (simp only [Pm.cs_len]; omega)),xPm (clM (List.getD (moC m) o default)) i hlt,cl (@hBo (List.getD (clM (List.getD (moC m) o default)) i default) (4000) (by simp_all [List.length_map,List.length_append,List.length_cons,List.length_nil,nmsC_len,Pr.cs_len,Tp.cs_len,Pm.cs_len,Ex.cs_len,Al.cs_len,Vr.cs_len,Cn.cs_len,Da.cs_len,Cl.cs_len,Bo.cs_len,Df.cs_len,In.cs_len,Cs.cs_len,Ms.cs_len,Qu.cs_len,Sy.cs_len,Ho.cs_len,Int.toNat_natCast,Bool.cond_true_left,Bool.cond_false_right])),kp,wr ((i:Int)+1)] hlt (IntKind.wrap .i64 (IntKind.wrap .i64 (n+1)+ctF [pmT (List.getD (clM (List.getD (moC m) o default)) i default)] 4000)) trivial (by rw [hd,sl3_f,iP h0])
  ·exact lX mdL [am ((0:Int)<=(o:Int)/\(o:Int)<((Cl.cs (moC m)).length:Int)) (by (simp only [Cl.cs_len]; omega)),xCl (moC m) o ho,sl (Pm.cs_len (clM (List.getD (moC m) o default))),rp 3 (dt ((i:Int)<((clM (List.getD (moC m) o default)).length:Int))),df1 h0] (n) (by rw [hd,sl3_f,iN h0])
 ·have he:i=List.length ((clM ((moC m).getD o default))):=by omega
  exact lX mdL [am ((0:Int)<=(o:Int)/\(o:Int)<((Cl.cs (moC m)).length:Int)) (by (simp only [Cl.cs_len]; omega)),xCl (moC m) o ho,sl (Pm.cs_len (clM (List.getD (moC m) o default))),rp 3 (df ((i:Int)<((clM (List.getD (moC m) o default)).length:Int))),bf false] (n) (by rw [he,List.drop_length,sl3_f])
abbrev sl2_I(m:Mo)(j:Int)(n:Int)(e:Ext):S:=S.mk [(1,.lp 1 0),(2,.v (.bool false)),(3,vI6 n),(6,vI6 j)] [(1,moV m)] e
def sl2_f  : List Cl->(Int)->(Int)
 | [],n=>(n)
 | el::r,n=>(if n<=4000 then sl2_f  r (sl3_f (clM el) n) else (n))
def sl2_q(m:Mo)(e:Ext)(p:(Int)):PExit × S:=(.exit 4,S.mk [(1,.lp 1 0),(2,.v (.bool false)),(3,vI6 p)] [(1,moV m)] e)
theorem sl2(m:Mo)(s1:¬((moD m).length:Int)>80)(s2:¬((moC m).length:Int)>80)(s3:¬((moI m).length:Int)>80)(s4:¬((moM m).length:Int)>80)(s5:¬((moQ m).length:Int)>80)(s6:¬((moF m).length:Int)>80)(hA:∀ (d:Da) (c:Cn) (k:Int),d∈moD m->c∈daC d->Pu 23 [.sl 9 (Tp.cs (cnF c)),.int .i64 k] (.ret (.int .i64 (ctF (cnF c) k))))(l1:∀c∈moD m,(daC c).length<=1048576)(hI:∀ (k:Int),Pu 22 [.sl 25 (Df.cs (moF m)),.int .i64 k] (.ret (.int .i64 (cdF (moF m) k))))(hB:∀ (c:Cl) (p:Pm) (k:Int),c∈moC m->p∈clM c->Pu 23 [.sl 9 [tpL (pmT p)],.int .i64 k] (.ret (.int .i64 (ctF [pmT p] k))))(l2:∀c∈moC m,(clM c).length<=1048576)(n:Int)(e:Ext)(hN:(moC m).length<=1000000000)  : (Ob.loop 303 (loopF f8 2) (sl2_I m 0 n e) (sl2_q m e (sl2_f  ((moC m))  n)).1 (sl2_q m e (sl2_f  ((moC m))  n)).2).ok prog:=by
 refine rng ((moC m).length) (fun j n=>sl2_I m j n e) (fun i n=>sl2_f  (List.drop i ((moC m)))  n) (sl2_q m e) (fun i n=>True) kR ?_ n trivial
 rintro i n hi -
 rcases Nat.lt_or_ge i ((moC m).length) with hlt | hge
 ·have hd:=drop_at hlt
  by_cases h0:n<=4000
  ·exact lN mdL [sl (Cl.cs_len (moC m)),rp 3 (dt ((i:Int)<((moC m).length:Int))),dt1 h0,lp (S.mk [(1,.lp 1 0),(2,.v (.bool false)),(3,vI6 n),(6,vI6 (i:Int)),(128,vI6 (i:Int)),(129,.lp 1 1),(130,vL 3 (Cl.cs (moC m))),(131,vI6 ((moC m).length:Int)),(132,.v (.bool (decide ((i:Int)<((moC m).length:Int))))),(133,.v (.bool (decide ((i:Int)<((moC m).length:Int))))),(134,vI6 n),(135,.v (.bool (decide (n<=4000)))),(136,.v (.bool (decide (n<=4000)))),(7,vI6 0)] [(1,moV m)] e) (@sl3 (m) (i) hlt default (e) (by (apply hB_o <;> first | assumption | omega | decide)) l2 (n) (by (apply l2_le <;> first | assumption | omega | decide))) xr,wr ((i:Int)+1)] hlt (sl3_f (clM (List.getD (moC m) i default)) n) trivial (by rw [hd,sl2_f,iP h0])
  ·exact lX mdL [sl (Cl.cs_len (moC m)),rp 3 (dt ((i:Int)<((moC m).length:Int))),df1 h0] (n) (by rw [hd,sl2_f,iN h0])
 ·have he:i=(moC m).length:=by omega
  exact lX mdL [sl (Cl.cs_len (moC m)),rp 3 (df ((i:Int)<((moC m).length:Int))),bf false] (n) (by rw [he,List.drop_length,sl2_f])
abbrev sl4_I(m:Mo)(j:Int)(n:Int)(e:Ext):S:=S.mk [(1,.lp 1 0),(2,.v (.bool false)),(3,vI6 n),(8,vI6 j)] [(1,moV m)] e
def sl4_f  : List In->(Int)->(Int)
 | [],n=>(n)
 | el::r,n=>(if n<=4000 then sl4_f  r (IntKind.wrap .i64 (IntKind.wrap .i64 (IntKind.wrap .i64 (IntKind.wrap .i64 (n+1)+((inNe el).length:Int))+ctF [inT el] 4000)+cdF (inD el) 4000)) else (n))
def sl4_q(m:Mo)(e:Ext)(p:(Int)):PExit × S:=(.exit 8,S.mk [(1,.lp 1 0),(2,.v (.bool false)),(3,vI6 p)] [(1,moV m)] e)
theorem sl4(m:Mo)(s1:¬((moD m).length:Int)>80)(s2:¬((moC m).length:Int)>80)(s3:¬((moI m).length:Int)>80)(s4:¬((moM m).length:Int)>80)(s5:¬((moQ m).length:Int)>80)(s6:¬((moF m).length:Int)>80)(hA:∀ (d:Da) (c:Cn) (k:Int),d∈moD m->c∈daC d->Pu 23 [.sl 9 (Tp.cs (cnF c)),.int .i64 k] (.ret (.int .i64 (ctF (cnF c) k))))(l1:∀c∈moD m,(daC c).length<=1048576)(hI:∀ (k:Int),Pu 22 [.sl 25 (Df.cs (moF m)),.int .i64 k] (.ret (.int .i64 (cdF (moF m) k))))(hB:∀ (c:Cl) (p:Pm) (k:Int),c∈moC m->p∈clM c->Pu 23 [.sl 9 [tpL (pmT p)],.int .i64 k] (.ret (.int .i64 (ctF [pmT p] k))))(l2:∀c∈moC m,(clM c).length<=1048576)(hC:∀ (x:In) (k:Int),x∈moI m->Pu 23 [.sl 9 [tpL (inT x)],.int .i64 k] (.ret (.int .i64 (ctF [inT x] k))))(hD:∀ (x:In) (k:Int),x∈moI m->Pu 22 [.sl 25 (Df.cs (inD x)),.int .i64 k] (.ret (.int .i64 (cdF (inD x) k))))(n:Int)(e:Ext)(hN:(moI m).length<=1000000000)  : (Ob.loop 303 (loopF f8 4) (sl4_I m 0 n e) (sl4_q m e (sl4_f  ((moI m))  n)).1 (sl4_q m e (sl4_f  ((moI m))  n)).2).ok prog:=by
 refine rng ((moI m).length) (fun j n=>sl4_I m j n e) (fun i n=>sl4_f  (List.drop i ((moI m)))  n) (sl4_q m e) (fun i n=>True) kR ?_ n trivial
 rintro i n hi -
 rcases Nat.lt_or_ge i ((moI m).length) with hlt | hge
 ·have hd:=drop_at hlt
  by_cases h0:n<=4000
  ·exact lN mdL [sl (In.cs_len (moI m)),rp 3 (dt ((i:Int)<((moI m).length:Int))),dt1 h0,kp,am ((0:Int)<=(i:Int)/\(i:Int)<((In.cs (moI m)).length:Int)) (by (simp only [In.cs_len]; omega)),xIn (moI m) i hlt,sl (Vr.cs_len (inNe (List.getD (moI m) i default))),kp,am ((0:Int)<=(i:Int)/\(i:Int)<((In.cs (moI m)).length:Int)) (by (simp only [In.cs_len]; omega)),xIn (moI m) i hlt,cl (@hC (List.getD (moI m) i default) (4000) (by simp_all [List.length_map,List.length_append,List.length_cons,List.length_nil,nmsC_len,Pr.cs_len,Tp.cs_len,Pm.cs_len,Ex.cs_len,Al.cs_len,Vr.cs_len,Cn.cs_len,Da.cs_len,Cl.cs_len,Bo.cs_len,Df.cs_len,In.cs_len,Cs.cs_len,Ms.cs_len,Qu.cs_len,Sy.cs_len,Ho.cs_len,Int.toNat_natCast,Bool.cond_true_left,Bool.cond_false_right])),kp,am ((0:Int)<=(i:Int)/\(i:Int)<((In.cs (moI m)).length:Int)) (by (simp only [In.cs_len]; omega)),xIn (moI m) i hlt,cl (@hD (List.getD (moI m) i default) (4000) (by simp_all [List.length_map,List.length_append,List.length_cons,List.length_nil,nmsC_len,Pr.cs_len,Tp.cs_len,Pm.cs_len,Ex.cs_len,Al.cs_len,Vr.cs_len,Cn.cs_len,Da.cs_len,Cl.cs_len,Bo.cs_len,Df.cs_len,In.cs_len,Cs.cs_len,Ms.cs_len,Qu.cs_len,Sy.cs_len,Ho.cs_len,Int.toNat_natCast,Bool.cond_true_left,Bool.cond_false_right])),kp,wr ((i:Int)+1)] hlt (IntKind.wrap .i64 (IntKind.wrap .i64 (IntKind.wrap .i64 (IntKind.wrap .i64 (n+1)+((inNe (List.getD (moI m) i default)).length:Int))+ctF [inT (List.getD (moI m) i default)] 4000)+cdF (inD (List.getD (moI m) i default)) 4000)) trivial (by rw [hd,sl4_f,iP h0])
  ·exact lX mdL [sl (In.cs_len (moI m)),rp 3 (dt ((i:Int)<((moI m).length:Int))),df1 h0] (n) (by rw [hd,sl4_f,iN h0])
 ·have he:i=(moI m).length:=by omega
  exact lX mdL [sl (In.cs_len (moI m)),rp 3 (df ((i:Int)<((moI m).length:Int))),bf false] (n) (by rw [he,List.drop_length,sl4_f])
abbrev sl6_I(m:Mo)(o:Nat)(n0:Int)(xe:Ext)(j:Int)(n:Int)  : S:=S.mk [(1,.lp 1 0),(2,.v (.bool false)),(3,vI6 n),(9,vI6 (o:Int)),(10,vI6 j)] [(1,moV m)] xe
def sl6_f  : List Cs->(Int)->(Int)
 | [],n=>(n)
 | el::r,n=>(if n<=4000 then sl6_f  r (IntKind.wrap .i64 (IntKind.wrap .i64 (IntKind.wrap .i64 (n+1)+((csNs el).length:Int))+cpF [csB el] 4000)) else (n))
def sl6_q(m:Mo)(o:Nat)(n0:Int)(xe:Ext)(p:(Int)):PExit × S:=(.exit 12,S.mk [(1,.lp 1 0),(2,.v (.bool false)),(3,vI6 p),(9,vI6 (o:Int))] [(1,moV m)] xe)
theorem sl6(m:Mo)(o:Nat)(ho:o<(moM m).length)(n0:Int)(xe:Ext)(hGo:∀ (c:Cs) (k:Int),c∈msC ((moM m).getD o default)->Pu 24 [.sl 4 [prL (csB c)],.int .i64 k] (.ret (.int .i64 (cpF [csB c] k))))(l3:∀c∈moM m,(msC c).length<=1048576)(n:Int)(hN:List.length ((msC ((moM m).getD o default)))<=1000000000)  : (Ob.loop 303 (loopF f8 6) (sl6_I m o n0 xe 0 n) (sl6_q m o n0 xe  (sl6_f  ((msC ((moM m).getD o default)))  n)).1 (sl6_q m o n0 xe  (sl6_f  ((msC ((moM m).getD o default)))  n)).2).ok prog:=by
 refine rng (List.length ((msC ((moM m).getD o default)))) (fun j n=>sl6_I m o n0 xe j n) (fun i n=>sl6_f  (List.drop i ((msC ((moM m).getD o default))))  n) (sl6_q m o n0 xe) (fun i n=>True) kR ?_ n trivial
 rintro i n hi -
 rcases Nat.lt_or_ge i (List.length ((msC ((moM m).getD o default)))) with hlt | hge
 ·have hd:=drop_at hlt
  by_cases h0:n<=4000
  ·exact lN mdL [am ((0:Int)<=(o:Int)/\(o:Int)<((Ms.cs (moM m)).length:Int)) (by (simp only [Ms.cs_len]; omega)),xMs (moM m) o ho,sl (Cs.cs_len (msC (List.getD (moM m) o default))),rp 3 (dt ((i:Int)<((msC (List.getD (moM m) o default)).length:Int))),dt1 h0,kp,am ((0:Int)<=(o:Int)/\(o:Int)<((Ms.cs (moM m)).length:Int)) (by (simp only [Ms.cs_len]; omega)),xMs (moM m) o ho,am ((0:Int)<=(i:Int)/\(i:Int)<((Cs.cs (msC (List.getD (moM m) o default))).length:Int)) (by (simp only [Cs.cs_len]; omega)),xCs (msC (List.getD (moM m) o default)) i hlt,sl (nmsC_len (csNs (List.getD (msC (List.getD (moM m) o default)) i default))),kp,am ((0:Int)<=(o:Int)/\(o:Int)<((Ms.cs (moM m)).length:Int)) (by (simp only [Ms.cs_len]; omega)),xMs (moM m) o ho,am ((0:Int)<=(i:Int)/\(i:Int)<((Cs.cs (msC (List.getD (moM m) o default))).length:Int)) (by (simp only [Cs.cs_len]; omega)),xCs (msC (List.getD (moM m) o default)) i hlt,cl (@hGo (List.getD (msC (List.getD (moM m) o default)) i default) (4000) (by simp_all [List.length_map,List.length_append,List.length_cons,List.length_nil,nmsC_len,Pr.cs_len,Tp.cs_len,Pm.cs_len,Ex.cs_len,Al.cs_len,Vr.cs_len,Cn.cs_len,Da.cs_len,Cl.cs_len,Bo.cs_len,Df.cs_len,In.cs_len,Cs.cs_len,Ms.cs_len,Qu.cs_len,Sy.cs_len,Ho.cs_len,Int.toNat_natCast,Bool.cond_true_left,Bool.cond_false_right])),kp,wr ((i:Int)+1)] hlt (IntKind.wrap .i64 (IntKind.wrap .i64 (IntKind.wrap .i64 (n+1)+((csNs (List.getD (msC (List.getD (moM m) o default)) i default)).length:Int))+cpF [csB (List.getD (msC (List.getD (moM m) o default)) i default)] 4000)) trivial (by rw [hd,sl6_f,iP h0])
  ·exact lX mdL [am ((0:Int)<=(o:Int)/\(o:Int)<((Ms.cs (moM m)).length:Int)) (by (simp only [Ms.cs_len]; omega)),xMs (moM m) o ho,sl (Cs.cs_len (msC (List.getD (moM m) o default))),rp 3 (dt ((i:Int)<((msC (List.getD (moM m) o default)).length:Int))),df1 h0] (n) (by rw [hd,sl6_f,iN h0])
 ·have he:i=List.length ((msC ((moM m).getD o default))):=by omega
  exact lX mdL [am ((0:Int)<=(o:Int)/\(o:Int)<((Ms.cs (moM m)).length:Int)) (by (simp only [Ms.cs_len]; omega)),xMs (moM m) o ho,sl (Cs.cs_len (msC (List.getD (moM m) o default))),rp 3 (df ((i:Int)<((msC (List.getD (moM m) o default)).length:Int))),bf false] (n) (by rw [he,List.drop_length,sl6_f])
abbrev sl5_I(m:Mo)(j:Int)(n:Int)(e:Ext):S:=S.mk [(1,.lp 1 0),(2,.v (.bool false)),(3,vI6 n),(9,vI6 j)] [(1,moV m)] e
def sl5_f  : List Ms->(Int)->(Int)
 | [],n=>(n)
 | el::r,n=>(if n<=4000 then sl5_f  r (sl6_f (msC el) (IntKind.wrap .i64 (IntKind.wrap .i64 (n+1)+cpF [msI el] 4000))) else (n))
def sl5_q(m:Mo)(e:Ext)(p:(Int)):PExit × S:=(.exit 10,S.mk [(1,.lp 1 0),(2,.v (.bool false)),(3,vI6 p)] [(1,moV m)] e)
theorem sl5(m:Mo)(s1:¬((moD m).length:Int)>80)(s2:¬((moC m).length:Int)>80)(s3:¬((moI m).length:Int)>80)(s4:¬((moM m).length:Int)>80)(s5:¬((moQ m).length:Int)>80)(s6:¬((moF m).length:Int)>80)(hA:∀ (d:Da) (c:Cn) (k:Int),d∈moD m->c∈daC d->Pu 23 [.sl 9 (Tp.cs (cnF c)),.int .i64 k] (.ret (.int .i64 (ctF (cnF c) k))))(l1:∀c∈moD m,(daC c).length<=1048576)(hI:∀ (k:Int),Pu 22 [.sl 25 (Df.cs (moF m)),.int .i64 k] (.ret (.int .i64 (cdF (moF m) k))))(hB:∀ (c:Cl) (p:Pm) (k:Int),c∈moC m->p∈clM c->Pu 23 [.sl 9 [tpL (pmT p)],.int .i64 k] (.ret (.int .i64 (ctF [pmT p] k))))(l2:∀c∈moC m,(clM c).length<=1048576)(hC:∀ (x:In) (k:Int),x∈moI m->Pu 23 [.sl 9 [tpL (inT x)],.int .i64 k] (.ret (.int .i64 (ctF [inT x] k))))(hD:∀ (x:In) (k:Int),x∈moI m->Pu 22 [.sl 25 (Df.cs (inD x)),.int .i64 k] (.ret (.int .i64 (cdF (inD x) k))))(hE:∀ (x:Ms) (k:Int),x∈moM m->Pu 24 [.sl 4 [prL (msI x)],.int .i64 k] (.ret (.int .i64 (cpF [msI x] k))))(hG:∀ (x:Ms) (c:Cs) (k:Int),x∈moM m->c∈msC x->Pu 24 [.sl 4 [prL (csB c)],.int .i64 k] (.ret (.int .i64 (cpF [csB c] k))))(l3:∀c∈moM m,(msC c).length<=1048576)(n:Int)(e:Ext)(hN:(moM m).length<=1000000000)  : (Ob.loop 303 (loopF f8 5) (sl5_I m 0 n e) (sl5_q m e (sl5_f  ((moM m))  n)).1 (sl5_q m e (sl5_f  ((moM m))  n)).2).ok prog:=by
 refine rng ((moM m).length) (fun j n=>sl5_I m j n e) (fun i n=>sl5_f  (List.drop i ((moM m)))  n) (sl5_q m e) (fun i n=>True) kR ?_ n trivial
 rintro i n hi -
 rcases Nat.lt_or_ge i ((moM m).length) with hlt | hge
 ·have hd:=drop_at hlt
  by_cases h0:n<=4000
  ·exact lN mdL [sl (Ms.cs_len (moM m)),rp 3 (dt ((i:Int)<((moM m).length:Int))),dt1 h0,kp,am ((0:Int)<=(i:Int)/\(i:Int)<((Ms.cs (moM m)).length:Int)) (by (simp only [Ms.cs_len]; omega)),xMs (moM m) i hlt,cl (@hE (List.getD (moM m) i default) (4000) (by simp_all [List.length_map,List.length_append,List.length_cons,List.length_nil,nmsC_len,Pr.cs_len,Tp.cs_len,Pm.cs_len,Ex.cs_len,Al.cs_len,Vr.cs_len,Cn.cs_len,Da.cs_len,Cl.cs_len,Bo.cs_len,Df.cs_len,In.cs_len,Cs.cs_len,Ms.cs_len,Qu.cs_len,Sy.cs_len,Ho.cs_len,Int.toNat_natCast,Bool.cond_true_left,Bool.cond_false_right])),kp,lp (S.mk [(1,.lp 1 0),(2,.v (.bool false)),(3,vI6 (IntKind.wrap .i64 (IntKind.wrap .i64 (n+1)+cpF [msI (List.getD (moM m) i default)] 4000))),(9,vI6 (i:Int)),(207,vI6 (i:Int)),(208,.lp 1 3),(209,vL 8 (Ms.cs (moM m))),(210,vI6 ((moM m).length:Int)),(211,.v (.bool (decide ((i:Int)<((moM m).length:Int))))),(212,.v (.bool (decide ((i:Int)<((moM m).length:Int))))),(213,vI6 n),(214,.v (.bool (decide (n<=4000)))),(215,.v (.bool (decide (n<=4000)))),(218,vI6 n),(219,vI6 (IntKind.wrap .i64 (n+1))),(220,.lp 1 3),(221,vL 8 (Ms.cs (moM m))),(222,vI6 (i:Int)),(223,.v (.ro (msL (List.getD (moM m) i default)) 0)),(224,.v (.ro (msL (List.getD (moM m) i default)) 4)),(225,.v (.agg (prL (msI (List.getD (moM m) i default))))),(226,LV.full 4 [prL (msI (List.getD (moM m) i default))]),(227,vI6 (cpF [msI (List.getD (moM m) i default)] 4000)),(228,vI6 (IntKind.wrap .i64 (IntKind.wrap .i64 (n+1)+cpF [msI (List.getD (moM m) i default)] 4000))),(10,vI6 0)] [(1,moV m)] e) (@sl6 (m) (i) hlt default (e) (by (apply hG_o <;> first | assumption | omega | decide)) l3 (IntKind.wrap .i64 (IntKind.wrap .i64 (n+1)+cpF [msI (List.getD (moM m) i default)] 4000)) (by (apply l3_le <;> first | assumption | omega | decide))) xr,wr ((i:Int)+1)] hlt (sl6_f (msC (List.getD (moM m) i default)) (IntKind.wrap .i64 (IntKind.wrap .i64 (n+1)+cpF [msI (List.getD (moM m) i default)] 4000))) trivial (by rw [hd,sl5_f,iP h0])
  ·exact lX mdL [sl (Ms.cs_len (moM m)),rp 3 (dt ((i:Int)<((moM m).length:Int))),df1 h0] (n) (by rw [hd,sl5_f,iN h0])
 ·have he:i=(moM m).length:=by omega
  exact lX mdL [sl (Ms.cs_len (moM m)),rp 3 (df ((i:Int)<((moM m).length:Int))),bf false] (n) (by rw [he,List.drop_length,sl5_f])
abbrev sl7_I(m:Mo)(j:Int)(n:Int)(e:Ext):S:=S.mk [(1,.lp 1 0),(2,.v (.bool false)),(3,vI6 n),(11,vI6 j)] [(1,moV m)] e
def sl7_f  : List Qu->(Int)->(Int)
 | [],n=>(n)
 | el::r,n=>(if n<=4000 then sl7_f  r (IntKind.wrap .i64 (IntKind.wrap .i64 (IntKind.wrap .i64 (n+1)+((quW el).length:Int))+cpF [quB el] 4000)) else (n))
def sl7_q(m:Mo)(e:Ext)(p:(Int)):PExit × S:=(.exit 14,S.mk [(1,.lp 1 0),(2,.v (.bool false)),(3,vI6 p)] [(1,moV m)] e)
theorem sl7(m:Mo)(s1:¬((moD m).length:Int)>80)(s2:¬((moC m).length:Int)>80)(s3:¬((moI m).length:Int)>80)(s4:¬((moM m).length:Int)>80)(s5:¬((moQ m).length:Int)>80)(s6:¬((moF m).length:Int)>80)(hA:∀ (d:Da) (c:Cn) (k:Int),d∈moD m->c∈daC d->Pu 23 [.sl 9 (Tp.cs (cnF c)),.int .i64 k] (.ret (.int .i64 (ctF (cnF c) k))))(l1:∀c∈moD m,(daC c).length<=1048576)(hI:∀ (k:Int),Pu 22 [.sl 25 (Df.cs (moF m)),.int .i64 k] (.ret (.int .i64 (cdF (moF m) k))))(hB:∀ (c:Cl) (p:Pm) (k:Int),c∈moC m->p∈clM c->Pu 23 [.sl 9 [tpL (pmT p)],.int .i64 k] (.ret (.int .i64 (ctF [pmT p] k))))(l2:∀c∈moC m,(clM c).length<=1048576)(hC:∀ (x:In) (k:Int),x∈moI m->Pu 23 [.sl 9 [tpL (inT x)],.int .i64 k] (.ret (.int .i64 (ctF [inT x] k))))(hD:∀ (x:In) (k:Int),x∈moI m->Pu 22 [.sl 25 (Df.cs (inD x)),.int .i64 k] (.ret (.int .i64 (cdF (inD x) k))))(hE:∀ (x:Ms) (k:Int),x∈moM m->Pu 24 [.sl 4 [prL (msI x)],.int .i64 k] (.ret (.int .i64 (cpF [msI x] k))))(hG:∀ (x:Ms) (c:Cs) (k:Int),x∈moM m->c∈msC x->Pu 24 [.sl 4 [prL (csB c)],.int .i64 k] (.ret (.int .i64 (cpF [csB c] k))))(l3:∀c∈moM m,(msC c).length<=1048576)(hH:∀ (x:Qu) (k:Int),x∈moQ m->Pu 24 [.sl 4 [prL (quB x)],.int .i64 k] (.ret (.int .i64 (cpF [quB x] k))))(n:Int)(e:Ext)(hN:(moQ m).length<=1000000000)  : (Ob.loop 303 (loopF f8 7) (sl7_I m 0 n e) (sl7_q m e (sl7_f  ((moQ m))  n)).1 (sl7_q m e (sl7_f  ((moQ m))  n)).2).ok prog:=by
 refine rng ((moQ m).length) (fun j n=>sl7_I m j n e) (fun i n=>sl7_f  (List.drop i ((moQ m)))  n) (sl7_q m e) (fun i n=>True) kR ?_ n trivial
 rintro i n hi -
 rcases Nat.lt_or_ge i ((moQ m).length) with hlt | hge
 ·have hd:=drop_at hlt
  by_cases h0:n<=4000
  ·exact lN mdL [sl (Qu.cs_len (moQ m)),rp 3 (dt ((i:Int)<((moQ m).length:Int))),dt1 h0,kp,am ((0:Int)<=(i:Int)/\(i:Int)<((Qu.cs (moQ m)).length:Int)) (by (simp only [Qu.cs_len]; omega)),xQu (moQ m) i hlt,sl (Vr.cs_len (quW (List.getD (moQ m) i default))),kp,am ((0:Int)<=(i:Int)/\(i:Int)<((Qu.cs (moQ m)).length:Int)) (by (simp only [Qu.cs_len]; omega)),xQu (moQ m) i hlt,cl (@hH (List.getD (moQ m) i default) (4000) (by simp_all [List.length_map,List.length_append,List.length_cons,List.length_nil,nmsC_len,Pr.cs_len,Tp.cs_len,Pm.cs_len,Ex.cs_len,Al.cs_len,Vr.cs_len,Cn.cs_len,Da.cs_len,Cl.cs_len,Bo.cs_len,Df.cs_len,In.cs_len,Cs.cs_len,Ms.cs_len,Qu.cs_len,Sy.cs_len,Ho.cs_len,Int.toNat_natCast,Bool.cond_true_left,Bool.cond_false_right])),kp,wr ((i:Int)+1)] hlt (IntKind.wrap .i64 (IntKind.wrap .i64 (IntKind.wrap .i64 (n+1)+((quW (List.getD (moQ m) i default)).length:Int))+cpF [quB (List.getD (moQ m) i default)] 4000)) trivial (by rw [hd,sl7_f,iP h0])
  ·exact lX mdL [sl (Qu.cs_len (moQ m)),rp 3 (dt ((i:Int)<((moQ m).length:Int))),df1 h0] (n) (by rw [hd,sl7_f,iN h0])
 ·have he:i=(moQ m).length:=by omega
  exact lX mdL [sl (Qu.cs_len (moQ m)),rp 3 (df ((i:Int)<((moQ m).length:Int))),bf false] (n) (by rw [he,List.drop_length,sl7_f])
section
variable (m:Mo) (hA:∀ (d:Da) (c:Cn) (k:Int),d∈moD m->c∈daC d->Pu 23 [.sl 9 (Tp.cs (cnF c)),.int .i64 k] (.ret (.int .i64 (ctF (cnF c) k)))) (l1:∀c∈moD m,(daC c).length<=1048576) (hI:∀ (k:Int),Pu 22 [.sl 25 (Df.cs (moF m)),.int .i64 k] (.ret (.int .i64 (cdF (moF m) k)))) (hB:∀ (c:Cl) (p:Pm) (k:Int),c∈moC m->p∈clM c->Pu 23 [.sl 9 [tpL (pmT p)],.int .i64 k] (.ret (.int .i64 (ctF [pmT p] k)))) (l2:∀c∈moC m,(clM c).length<=1048576) (hC:∀ (x:In) (k:Int),x∈moI m->Pu 23 [.sl 9 [tpL (inT x)],.int .i64 k] (.ret (.int .i64 (ctF [inT x] k)))) (hD:∀ (x:In) (k:Int),x∈moI m->Pu 22 [.sl 25 (Df.cs (inD x)),.int .i64 k] (.ret (.int .i64 (cdF (inD x) k)))) (hE:∀ (x:Ms) (k:Int),x∈moM m->Pu 24 [.sl 4 [prL (msI x)],.int .i64 k] (.ret (.int .i64 (cpF [msI x] k)))) (hG:∀ (x:Ms) (c:Cs) (k:Int),x∈moM m->c∈msC x->Pu 24 [.sl 4 [prL (csB c)],.int .i64 k] (.ret (.int .i64 (cpF [csB c] k)))) (l3:∀c∈moM m,(msC c).length<=1048576) (hH:∀ (x:Qu) (k:Int),x∈moQ m->Pu 24 [.sl 4 [prL (quB x)],.int .i64 k] (.ret (.int .i64 (cpF [quB x] k))))
include m hA l1 hI hB l2 hC hD hE hG l3 hH
theorem smA_1(hx0:((moD m).length:Int)>80):Pu 8 [.agg (moL m)] (rB false):=
 pm mdL [sl (Da.cs_len (moD m)),rp 5 (dt1 hx0),rp 21 (bt true)] func8
theorem smA_2(hx0:¬((moD m).length:Int)>80)(hx1:((moC m).length:Int)>80):Pu 8 [.agg (moL m)] (rB false):=
 pm mdL [sl (Da.cs_len (moD m)),rp 3 (df1 hx0),sl (Cl.cs_len (moC m)),rp 2 (df1 hx0),rp 5 (dt1 hx1),rp 16 (bt true)] func8
theorem smA_3(hx0:¬((moD m).length:Int)>80)(hx1:¬((moC m).length:Int)>80)(hx2:((moI m).length:Int)>80):Pu 8 [.agg (moL m)] (rB false):=
 pm mdL [sl (Da.cs_len (moD m)),rp 3 (df1 hx0),sl (Cl.cs_len (moC m)),rp 2 (df1 hx0),rp 3 (df1 hx1),sl (In.cs_len (moI m)),rp 2 (df1 hx1),rp 5 (dt1 hx2),rp 11 (bt true)] func8
theorem smA_4(hx0:¬((moD m).length:Int)>80)(hx1:¬((moC m).length:Int)>80)(hx2:¬((moI m).length:Int)>80)(hx3:((moM m).length:Int)>80):Pu 8 [.agg (moL m)] (rB false):=
 pm mdL [sl (Da.cs_len (moD m)),rp 3 (df1 hx0),sl (Cl.cs_len (moC m)),rp 2 (df1 hx0),rp 3 (df1 hx1),sl (In.cs_len (moI m)),rp 2 (df1 hx1),rp 3 (df1 hx2),sl (Ms.cs_len (moM m)),rp 2 (df1 hx2),rp 5 (dt1 hx3),rp 6 (bt true)] func8
theorem smA_5(hx0:¬((moD m).length:Int)>80)(hx1:¬((moC m).length:Int)>80)(hx2:¬((moI m).length:Int)>80)(hx3:¬((moM m).length:Int)>80)(hx4:((moQ m).length:Int)>80):Pu 8 [.agg (moL m)] (rB false):=
 pm mdL [sl (Da.cs_len (moD m)),rp 3 (df1 hx0),sl (Cl.cs_len (moC m)),rp 2 (df1 hx0),rp 3 (df1 hx1),sl (In.cs_len (moI m)),rp 2 (df1 hx1),rp 3 (df1 hx2),sl (Ms.cs_len (moM m)),rp 2 (df1 hx2),rp 3 (df1 hx3),sl (Qu.cs_len (moQ m)),rp 2 (df1 hx3),rp 5 (dt1 hx4),bt true] func8
theorem smA_6(hx0:¬((moD m).length:Int)>80)(hx1:¬((moC m).length:Int)>80)(hx2:¬((moI m).length:Int)>80)(hx3:¬((moM m).length:Int)>80)(hx4:¬((moQ m).length:Int)>80)(hx5:((moF m).length:Int)>80):Pu 8 [.agg (moL m)] (rB false):=
 pm mdL [sl (Da.cs_len (moD m)),rp 3 (df1 hx0),sl (Cl.cs_len (moC m)),rp 2 (df1 hx0),rp 3 (df1 hx1),sl (In.cs_len (moI m)),rp 2 (df1 hx1),rp 3 (df1 hx2),sl (Ms.cs_len (moM m)),rp 2 (df1 hx2),rp 3 (df1 hx3),sl (Qu.cs_len (moQ m)),rp 2 (df1 hx3),rp 3 (df1 hx4),sl (Df.cs_len (moF m)),rp 2 (df1 hx4),dt1 hx5] func8
theorem smA_7(hx0:¬((moD m).length:Int)>80)(hx1:¬((moC m).length:Int)>80)(hx2:¬((moI m).length:Int)>80)(hx3:¬((moM m).length:Int)>80)(hx4:¬((moQ m).length:Int)>80)(hx5:¬((moF m).length:Int)>80):Pu 8 [.agg (moL m)] (rB (decide (sl7_f (moQ m) (sl5_f (moM m) (sl4_f (moI m) (sl2_f (moC m) (sl0_f (moD m) (cdF (moF m) 4000)))))<=4000))):=
 pu mdL (fun e=>[sl (Da.cs_len (moD m)),rp 3 (df1 hx0),sl (Cl.cs_len (moC m)),rp 2 (df1 hx0),rp 3 (df1 hx1),sl (In.cs_len (moI m)),rp 2 (df1 hx1),rp 3 (df1 hx2),sl (Ms.cs_len (moM m)),rp 2 (df1 hx2),rp 3 (df1 hx3),sl (Qu.cs_len (moQ m)),rp 2 (df1 hx3),rp 3 (df1 hx4),sl (Df.cs_len (moF m)),rp 2 (df1 hx4),df1 hx5,cl (@hI (4000)),lp (S.mk [(0,.v (.agg (moL m))),(1,.lp 1 0),(2,.v (.bool false)),(12,.lp 1 0),(13,vL 4 (Da.cs (moD m))),(14,vI6 ((moD m).length:Int)),(15,.v (.bool (decide (((moD m).length:Int)>80)))),(16,.v (.bool (decide (((moD m).length:Int)>80)))),(17,.lp 1 1),(18,vL 3 (Cl.cs (moC m))),(19,vI6 ((moC m).length:Int)),(20,.v (.bool (decide (((moC m).length:Int)>80)))),(21,.v (.bool (decide (((moC m).length:Int)>80)))),(22,.v (.bool (decide (((moC m).length:Int)>80)))),(23,.lp 1 2),(24,vL 12 (In.cs (moI m))),(25,vI6 ((moI m).length:Int)),(26,.v (.bool (decide (((moI m).length:Int)>80)))),(27,.v (.bool (decide (((moI m).length:Int)>80)))),(28,.v (.bool (decide (((moI m).length:Int)>80)))),(29,.lp 1 3),(30,vL 8 (Ms.cs (moM m))),(31,vI6 ((moM m).length:Int)),(32,.v (.bool (decide (((moM m).length:Int)>80)))),(33,.v (.bool (decide (((moM m).length:Int)>80)))),(34,.v (.bool (decide (((moM m).length:Int)>80)))),(35,.lp 1 4),(36,vL 6 (Qu.cs (moQ m))),(37,vI6 ((moQ m).length:Int)),(38,.v (.bool (decide (((moQ m).length:Int)>80)))),(39,.v (.bool (decide (((moQ m).length:Int)>80)))),(40,.v (.bool (decide (((moQ m).length:Int)>80)))),(41,.lp 1 5),(42,vL 25 (Df.cs (moF m))),(43,vI6 ((moF m).length:Int)),(44,.v (.bool (decide (((moF m).length:Int)>80)))),(45,.v (.bool (decide (((moF m).length:Int)>80)))),(46,.lp 1 5),(47,vL 25 (Df.cs (moF m))),(48,vI6 (cdF (moF m) 4000)),(3,vI6 (cdF (moF m) 4000)),(4,vI6 0)] [(1,moV m)] e) (@sl0 (m) hx0 hx1 hx2 hx3 hx4 hx5 hA l1 hI (cdF (moF m) 4000) (e) oM) xr,lq (@sl2 (m) hx0 hx1 hx2 hx3 hx4 hx5 hA l1 hI hB l2 (sl0_f (moD m) (cdF (moF m) 4000)) (e) oM),lq (@sl4 (m) hx0 hx1 hx2 hx3 hx4 hx5 hA l1 hI hB l2 hC hD (sl2_f (moC m) (sl0_f (moD m) (cdF (moF m) 4000))) (e) oM),lq (@sl5 (m) hx0 hx1 hx2 hx3 hx4 hx5 hA l1 hI hB l2 hC hD hE hG l3 (sl4_f (moI m) (sl2_f (moC m) (sl0_f (moD m) (cdF (moF m) 4000)))) (e) oM),lq (@sl7 (m) hx0 hx1 hx2 hx3 hx4 hx5 hA l1 hI hB l2 hC hD hE hG l3 hH (sl5_f (moM m) (sl4_f (moI m) (sl2_f (moC m) (sl0_f (moD m) (cdF (moF m) 4000))))) (e) oM)]) func8
end
theorem mo_bulk(m:Mo):bulkPss (Da.cs (moD m))+bulkPss (Cl.cs (moC m))+bulkPss (In.cs (moI m))+bulkPss (Ms.cs (moM m))+bulkPss (Qu.cs (moQ m))+bulkPss (Df.cs (moF m))<=bulkPs (moL m):=by simp only [bulkPs,bulkP]; omega
theorem da_bulk(x:Da):bulkPss (Cn.cs (daC x))+bulkPss (Vr.cs (daP x))+bulkPss (nmsC (daVs x))<bulkPs (daL x):=by simp only [bulkPs,bulkP]; omega
theorem cn_bulk(x:Cn):bulkPss (Tp.cs (cnF x))+bulkPss (nmsC (cnNs x))<bulkPs (cnL x):=by simp only [bulkPs,bulkP]; omega
theorem cl_bulk(x:Cl):bulkPss (Pm.cs (clM x))<bulkPs (clL x):=by simp only [bulkPs,bulkP]; omega
theorem in_bulk(x:In):bulkPs (tpL (inT x))+bulkPss (Df.cs (inD x))<bulkPs (inL x):=by simp only [bulkPs,bulkP]; omega
theorem ms_bulk(x:Ms):bulkPs (prL (msI x))+bulkPss (Cs.cs (msC x))<bulkPs (msL x):=by simp only [bulkPs,bulkP]; omega
theorem cs_bulk(x:Cs):bulkPs (prL (csB x))<bulkPs (csL x):=by simp only [bulkPs,bulkP]; omega
theorem qu_bulk(x:Qu):bulkPs (prL (quB x))<bulkPs (quL x):=by simp only [bulkPs,bulkP]; omega
theorem cdT2(l:List Df)(mx:Int)(hs:bulkPss (Df.cs l)<=100000000):Pu 22 [.sl 25 (Df.cs l),.int .i64 mx] (.ret (.int .i64 (cdF l mx))):=
 cdL l mx (fun d k hd=>ctT1 _ k (by have:=df_bulk d; have:=Df.mem hd; omega)) (fun d k hd=>cpT _ k (by have:=df_bulk d; have:=Df.mem hd; omega)) (fun d b k hd hb=>cpT2 _ _ k (by have:=df_bulk d; have:=Df.mem hd; have:=bo_bulk b; have:=Bo.mem hb; omega)) (fun d k hd=>paT _ k (by have:=df_bulk d; have:=Df.mem hd; omega)) (fun d hd=>by have:=df_bulk d; have:=Df.mem hd; have:=Bo.bulk (dfBo d); omega) (by have:=Df.bulk l; omega)
theorem smX(m:Mo)(hA:∀ (d:Da) (c:Cn) (k:Int),d∈moD m->c∈daC d->Pu 23 [.sl 9 (Tp.cs (cnF c)),.int .i64 k] (.ret (.int .i64 (ctF (cnF c) k))))(l1:∀c∈moD m,(daC c).length<=1048576)(hI:∀ (k:Int),Pu 22 [.sl 25 (Df.cs (moF m)),.int .i64 k] (.ret (.int .i64 (cdF (moF m) k))))(hB:∀ (c:Cl) (p:Pm) (k:Int),c∈moC m->p∈clM c->Pu 23 [.sl 9 [tpL (pmT p)],.int .i64 k] (.ret (.int .i64 (ctF [pmT p] k))))(l2:∀c∈moC m,(clM c).length<=1048576)(hC:∀ (x:In) (k:Int),x∈moI m->Pu 23 [.sl 9 [tpL (inT x)],.int .i64 k] (.ret (.int .i64 (ctF [inT x] k))))(hD:∀ (x:In) (k:Int),x∈moI m->Pu 22 [.sl 25 (Df.cs (inD x)),.int .i64 k] (.ret (.int .i64 (cdF (inD x) k))))(hE:∀ (x:Ms) (k:Int),x∈moM m->Pu 24 [.sl 4 [prL (msI x)],.int .i64 k] (.ret (.int .i64 (cpF [msI x] k))))(hG:∀ (x:Ms) (c:Cs) (k:Int),x∈moM m->c∈msC x->Pu 24 [.sl 4 [prL (csB c)],.int .i64 k] (.ret (.int .i64 (cpF [csB c] k))))(l3:∀c∈moM m,(msC c).length<=1048576)(hH:∀ (x:Qu) (k:Int),x∈moQ m->Pu 24 [.sl 4 [prL (quB x)],.int .i64 k] (.ret (.int .i64 (cpF [quB x] k)))):∃b,Pu 8 [.agg (moL m)] (.ret (.bool b)):=by
 by_cases h0:(((moD m).length:Nat):Int)>80
 ·exact ⟨_,smA_1 m hA l1 hI hB l2 hC hD hE hG l3 hH h0⟩
 by_cases h1:(((moC m).length:Nat):Int)>80
 ·exact ⟨_,smA_2 m hA l1 hI hB l2 hC hD hE hG l3 hH h0 h1⟩
 by_cases h2:(((moI m).length:Nat):Int)>80
 ·exact ⟨_,smA_3 m hA l1 hI hB l2 hC hD hE hG l3 hH h0 h1 h2⟩
 by_cases h3:(((moM m).length:Nat):Int)>80
 ·exact ⟨_,smA_4 m hA l1 hI hB l2 hC hD hE hG l3 hH h0 h1 h2 h3⟩
 by_cases h4:(((moQ m).length:Nat):Int)>80
 ·exact ⟨_,smA_5 m hA l1 hI hB l2 hC hD hE hG l3 hH h0 h1 h2 h3 h4⟩
 by_cases h5:(((moF m).length:Nat):Int)>80
 ·exact ⟨_,smA_6 m hA l1 hI hB l2 hC hD hE hG l3 hH h0 h1 h2 h3 h4 h5⟩
 exact ⟨_,smA_7 m hA l1 hI hB l2 hC hD hE hG l3 hH h0 h1 h2 h3 h4 h5⟩
theorem small_ok(m:Mo)(hs:bulkPs (moL m)<=1048576):∃b,Pu 8 [.agg (moL m)] (.ret (.bool b)):=by
 have h0:=mo_bulk m
 have w1:=fun {d} (h:d∈moD m)=>Nat.le_trans (Da.mem h) (by omega:bulkPss (Da.cs (moD m))<=1048576)
 have w2:=fun {d} (h:d∈moC m)=>Nat.le_trans (Cl.mem h) (by omega:bulkPss (Cl.cs (moC m))<=1048576)
 have w3:=fun {d} (h:d∈moI m)=>Nat.le_trans (In.mem h) (by omega:bulkPss (In.cs (moI m))<=1048576)
 have w4:=fun {d} (h:d∈moM m)=>Nat.le_trans (Ms.mem h) (by omega:bulkPss (Ms.cs (moM m))<=1048576)
 have w5:=fun {d} (h:d∈moQ m)=>Nat.le_trans (Qu.mem h) (by omega:bulkPss (Qu.cs (moQ m))<=1048576)
 refine smX m (fun d c k hd hc=>ctT _ k (by have:=w1 hd; have:=da_bulk d; have:=Cn.mem hc; have:=cn_bulk c; omega))
  (fun d hd=>by have:=w1 hd; have:=da_bulk d; have:=Cn.bulk (daC d); omega)
  (fun k=>cdT2 _ k oM)
  (fun c p k hc hp=>ctT1 _ k (by have:=w2 hc; have:=cl_bulk c; have:=Pm.mem hp; have:=pm_bulk p; omega))
  (fun c hc=>by have:=w2 hc; have:=cl_bulk c; have:=Pm.bulk (clM c); omega)
  (fun x k hx=>ctT1 _ k (by have:=w3 hx; have:=in_bulk x; omega))
  (fun x k hx=>cdT2 _ k (by have:=w3 hx; have:=in_bulk x; omega))
  (fun x k hx=>cpT1 _ k (by have:=w4 hx; have:=ms_bulk x; omega))
  (fun x c k hx hc=>cpT1 _ k (by have:=w4 hx; have:=ms_bulk x; have:=Cs.mem hc; have:=cs_bulk c; omega))
  (fun x hx=>by have:=w4 hx; have:=ms_bulk x; have:=Cs.bulk (msC x); omega)
  (fun x k hx=>cpT1 _ k (by have:=w5 hx; have:=qu_bulk x; omega))
theorem xt_len(v:Nv):(nvS (xtV v)).length=(nvS v).length+1:=by rw [show nvS (xtV v)=nvS v++[.mk zzS [intS] boolS] from rfl,List.length_append]; rfl
theorem EnvS.xt{v:Nv}(h:EnvS v)(hl:(nvS v).length<=100000000):EnvS (xtV v):=⟨h.w,by have:=xt_len v; omega,h.h,fun w hw=>by
 rcases List.mem_append.1 (show w∈nvS v++[.mk zzS [intS] boolS] from hw) with hw | hw
 ·exact h.sa w hw
 ·simp only [List.mem_singleton] at hw; subst hw; simp [syA],h.hp⟩
theorem wt2(m:Mo)(v:Nv)(t:Tp)(hda:(moD m).length<=1048576)(hE:EnvS v)(hs:bulkPs (tpL t)<=10000000)(hgr:(nvW v).length<=10000000)(hsl:(nvS v).length<=100000000):Pu 14 [.agg [.sl 2 (Vr.cs (nvW v)),.sl 3 (Sy.cs (nvS v)++[[.str zzS,.sl 1 [[.str intS]],.str boolS]]),.sl 2 (Ho.cs (nvH v))],.agg (moL m),.agg (tpL t)] (.ret (.int .i64 (wt_r0 m (xtV v) t))):=by
 have h:=wt m (xtV v) t hda (hE.xt hsl) hs hgr
 have e:nvL (xtV v)=[.sl 2 (Vr.cs (nvW v)),.sl 3 (Sy.cs (nvS v)++[[.str zzS,.sl 1 [[.str intS]],.str boolS]]),.sl 2 (Ho.cs (nvH v))]:=by
  simp only [nvL,xtV,nvW,nvS,nvH,Sy.cs_snoc]; rfl
 rw [e] at h
 exact h
theorem ocT2(name:BA)(t:Tp)(hs:bulkPs (tpL t)<=10000000):Pu 21 [.agg (tpL t),.str name] (.ret (.bool (ocF name t))):=ocT name t oM
theorem smL2(x:Tp)(hs:bulkPs (tpL x)<=10000000):∃b,Pu 9 [.agg (tpL x)] (.ret (.bool b)):=⟨_,smL x oM⟩
section
variable (m:Mo) (v:Nv) (t:Tp) (hda:(moD m).length<=1048576) (hE:EnvS v) (hs:bulkPs (tpL t)<=10000000) (hgr:(nvW v).length<=10000000) (hsl:(nvS v).length<=100000000) (b c:Bool) (hsm:Pu 8 [.agg (moL m)] (.ret (.bool b))) (hst:Pu 9 [.agg (tpL t)] (.ret (.bool c))) (haw:Pu 10 [] (.ret (.bool true)))
include m v t hda hE hs hgr hsl b c hsm hst haw
theorem wsy_1(hx0:fwS_r0 v=false):Pu 6 [.agg (nvL v),.agg (moL m),.agg (tpL t)] (rB true):=
 pm mdL [cl (@fwS (v)),rp 4 (bt1 (bnT hx0)),rp 9 (bt true),cl haw] func6
theorem wsy_2(hx0:fwS_r0 v=true)(hx1:b=false):Pu 6 [.agg (nvL v),.agg (moL m),.agg (tpL t)] (rB true):=
 pm mdL [cl (@fwS (v)),rp 2 (bf1 (bnF hx0)),cl hsm,rp 2 (bf1 (bnF hx0)),rp 4 (bt1 (bnT hx1)),rp 5 (bt true),cl haw] func6
theorem wsy_3(hx0:fwS_r0 v=true)(hx1:b=true)(hx2:c=false):Pu 6 [.agg (nvL v),.agg (moL m),.agg (tpL t)] (rB true):=
 pm mdL [cl (@fwS (v)),rp 2 (bf1 (bnF hx0)),cl hsm,rp 2 (bf1 (bnF hx0)),rp 2 (bf1 (bnF hx1)),cl hst,rp 2 (bf1 (bnF hx1)),rp 4 (bt1 (bnT hx2)),bt true,cl haw] func6
theorem wsy_4(hx0:fwS_r0 v=true)(hx1:b=true)(hx2:c=true)(hx3:tpO t=6):Pu 6 [.agg (nvL v),.agg (moL m),.agg (tpL t)] (rB true):=
 pm mdL [cl (@fwS (v)),rp 2 (bf1 (bnF hx0)),cl hsm,rp 2 (bf1 (bnF hx0)),rp 2 (bf1 (bnF hx1)),cl hst,rp 2 (bf1 (bnF hx1)),rp 4 (bf1 (bnF hx2)),et1 hx3,cl haw] func6
theorem wsy_5(hx0:fwS_r0 v=true)(hx1:b=true)(hx2:c=true)(hx3:¬tpO t=6)(hx4:¬wt_r0 m v t=0):Pu 6 [.agg (nvL v),.agg (moL m),.agg (tpL t)] (rB true):=
 pm mdL [cl (@fwS (v)),rp 2 (bf1 (bnF hx0)),cl hsm,rp 2 (bf1 (bnF hx0)),rp 2 (bf1 (bnF hx1)),cl hst,rp 2 (bf1 (bnF hx1)),rp 4 (bf1 (bnF hx2)),en1 hx3,cl (@wt (m) (v) (t) hda hE hs hgr),rp 3 (nt1 hx4),bt true,cl haw] func6
theorem wsy_6(hx0:fwS_r0 v=true)(hx1:b=true)(hx2:c=true)(hx3:¬tpO t=6)(hx4:wt_r0 m v t=0)(hx5:ocF (ByteArray.mk #[122,122,57]) t=true):Pu 6 [.agg (nvL v),.agg (moL m),.agg (tpL t)] (rB true):=
 pm mdL [cl (@fwS (v)),rp 2 (bf1 (bnF hx0)),cl hsm,rp 2 (bf1 (bnF hx0)),rp 2 (bf1 (bnF hx1)),cl hst,rp 2 (bf1 (bnF hx1)),rp 4 (bf1 (bnF hx2)),en1 hx3,cl (@wt (m) (v) (t) hda hE hs hgr),rp 2 (nn1 hx4),cl (@ocT2 (ByteArray.mk #[122,122,57]) (t) hs),nn1 hx4,bt1 hx5,cl haw] func6
theorem wsy_7(hx0:fwS_r0 v=true)(hx1:b=true)(hx2:c=true)(hx3:¬tpO t=6)(hx4:wt_r0 m v t=0)(hx5:ocF (ByteArray.mk #[122,122,57]) t=false)(hx6:wt_r0 m (xtV v) t=0):Pu 6 [.agg (nvL v),.agg (moL m),.agg (tpL t)] (rB true):=
 pm mdL [cl (@fwS (v)),rp 2 (bf1 (bnF hx0)),cl hsm,rp 2 (bf1 (bnF hx0)),rp 2 (bf1 (bnF hx1)),cl hst,rp 2 (bf1 (bnF hx1)),rp 4 (bf1 (bnF hx2)),en1 hx3,cl (@wt (m) (v) (t) hda hE hs hgr),rp 2 (nn1 hx4),cl (@ocT2 (ByteArray.mk #[122,122,57]) (t) hs),nn1 hx4,bf1 hx5,am (List.length ([]++(fun x=>Prod.snd x) (3,Sy.cs (nvS v))) * (55+1)<=140737488355328) (by (simp only [List.length_append,List.length_nil,Sy.cs_len]; omega)),am (List.length ([]++(fun x=>Prod.snd x) (3,Sy.cs (nvS v))++(fun x=>Prod.snd x) (2+1,[splice (splice (splice [.str nm0,.nilsl,.str nm0] (Field.offset (Field.mk "Name" 9 0 false "" "" 0)) [.str (ByteArray.mk #[122,122,57])]) (Field.offset (Field.mk "Args" 75 1 false "" "" 16)) [.sl (0+1) [[.str (ByteArray.mk #[73,110,116])]]]) (Field.offset (Field.mk "Result" 74 2 false "" "" 40)) [.str (ByteArray.mk #[66,111,111,108])]])) * (55+1)<=140737488355328) (by (simp only [List.length_append,List.length_cons,List.length_nil,Sy.cs_len]; omega)),cl (@wt2 (m) (v) (t) hda hE hs hgr hsl),et1 hx6,cl haw,et1 hx6] func6
end
end Go.Proofs.YthchpmnkecoafaaGreatDoor
