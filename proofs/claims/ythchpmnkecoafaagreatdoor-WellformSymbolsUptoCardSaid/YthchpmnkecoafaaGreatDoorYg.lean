/- Values of Go as plain data, an evaluator over them, and what the functions of the program return; part Yg. -/
import Derived.Test.YthchpmnkecoafaaGreatDoorYb
import Derived.Test.YthchpmnkecoafaaGreatDoorYf
import Derived.Test.YthchpmnkecoafaaGreatDoorYe
import Derived.Test.YthchpmnkecoafaaGreatDoorYa
set_option linter.unusedSectionVars false
set_option linter.unusedSimpArgs false
set_option linter.unusedVariables false
namespace Go.Proofs.YthchpmnkecoafaaGreatDoor
open Go.Proofs.Tryz
open Go.Pv Go.Proofs.Tryz
set_option maxRecDepth 100000
def prP(t:Tp):List Pr:=tpP t::tpPs t
theorem prs1(t:Tp):Pr.cs (prP t)=[prL (tpP t)]++Pr.cs (tpPs t):=by simp [Pr.cs_eq,prP]
theorem plen2(t:Tp):(tpPs t).length+1=(prP t).length:=by simp [prP]
theorem prs_at{t:Tp}{i:Nat}(h:i<(prP t).length):(prL (tpP t)::Pr.cs (tpPs t)).getD i []=prL ((prP t).getD i default):=by
 have:=Pr.cs_at h
 rw [prs1] at this
 exact this
theorem prP_le{t:Tp}(hN0:(tpPs t).length<=100000000):(prP t).length<=1000000000:=by simp [prP]; omega
theorem gPm{l:List Tp}{i:Nat}{a:List PV}(hPl:∀w∈l,(tpPs w).length<=100000000)(h:i<l.length):List.length ([a]++(fun x:Nat × List (List PV)=>Prod.snd x) (4,Pr.cs (tpPs (l.getD i default)))) * (55+1)<=140737488355328:=by have:=hPl _ (getD_mem h); simp only [List.length_append,List.length_cons,List.length_nil,Pr.cs_len]; omega
abbrev bp0_I(l:List Pr)(mx:Int)(pf:List Pr->Int->Int)(j:Int)(n:Int)(e:Ext):S:=S.mk [(0,vL 4 (Pr.cs l)),(1,vI6 mx),(4,vI6 0),(5,vI6 n),(6,vI6 j)] [] e
def bp0_f(mx:Int)(pf:List Pr->Int->Int):List Pr->(Int)->(Int)
 | [],n=>(n)
 | el::r,n=>(if n<=mx then bp0_f mx pf r (IntKind.wrap .i64 (IntKind.wrap .i64 (IntKind.wrap .i64 (n+1)+IntKind.wrap .i64 (Int.tdiv (↑(ByteArray.size (prNm el)):Int) 50))+pf (prK el) (IntKind.wrap .i64 (mx - IntKind.wrap .i64 (IntKind.wrap .i64 (n+1)+IntKind.wrap .i64 (Int.tdiv (↑(ByteArray.size (prNm el)):Int) 50)))))) else (n))
def bp0_q(l:List Pr)(mx:Int)(pf:List Pr->Int->Int)(e:Ext)(p:(Int)):PExit × S:=(.exit 0,S.mk [(0,vL 4 (Pr.cs l)),(1,vI6 mx),(4,vI6 0),(5,vI6 p)] [] e)
theorem bp0(l:List Pr)(mx:Int)(pf:List Pr->Int->Int)(hwk:∀ (w:Pr) (k:Int),w∈l->Pu 120 [.sl 4 (Pr.cs (prK w)),.int .i64 k] (.ret (.int .i64 (pf (prK w) k))))(n:Int)(e:Ext)(hN:l.length<=1000000000)  : (Ob.loop 40 (loopF f120 0) (bp0_I l mx pf 0 n e) (bp0_q l mx pf e (bp0_f mx pf (l)  n)).1 (bp0_q l mx pf e (bp0_f mx pf (l)  n)).2).ok prog:=by
 refine rng l.length (fun j n=>bp0_I l mx pf j n e) (fun i n=>bp0_f mx pf (List.drop i (l))  n) (bp0_q l mx pf e) (fun i n=>True) kR ?_ n trivial
 rintro i n hi -
 rcases Nat.lt_or_ge i (l.length) with hlt | hge
 ·have hd:=drop_at hlt
  by_cases h0:n<=mx
  ·exact lN mdL [sl (Pr.cs_len l),rp 4 (dt ((i:Int)<(l.length:Int))),dt1 h0,kp,am ((0:Int)<=(i:Int)/\(i:Int)<((Pr.cs l).length:Int)) (by (simp only [Pr.cs_len]; omega)),ar (List.getD (Pr.cs l) (Int.toNat (i:Int)) []) (prL (List.getD l i default)) (by simp only [Int.toNat_natCast,Int.toNat_zero]; rw [@Pr.cs_at (l) (i) hlt]; try rfl),rp 3 (kp),ab true,am ((0:Int)<=(i:Int)/\(i:Int)<((Pr.cs l).length:Int)) (by (simp only [Pr.cs_len]; omega)),ar (List.getD (Pr.cs l) (Int.toNat (i:Int)) []) (prL (List.getD l i default)) (by simp only [Int.toNat_natCast,Int.toNat_zero]; rw [@Pr.cs_at (l) (i) hlt]; try rfl),kp,cl (@hwk (List.getD l i default) (IntKind.wrap .i64 (mx - IntKind.wrap .i64 (IntKind.wrap .i64 (n+1)+IntKind.wrap .i64 (Int.tdiv (↑(ByteArray.size (prNm (List.getD l i default))):Int) 50)))) (by simp_all [List.length_map,List.length_append,List.length_cons,List.length_nil,nmsC_len,Pr.cs_len,Tp.cs_len,Pm.cs_len,Ex.cs_len,Al.cs_len,Vr.cs_len,Cn.cs_len,Da.cs_len,Cl.cs_len,Bo.cs_len,Df.cs_len,In.cs_len,Cs.cs_len,Ms.cs_len,Qu.cs_len,Sy.cs_len,Ho.cs_len,Int.toNat_natCast,Bool.cond_true_left,Bool.cond_false_right,Int.toNat_zero,plen2])),kp,wr ((i:Int)+1)] hlt (IntKind.wrap .i64 (IntKind.wrap .i64 (IntKind.wrap .i64 (n+1)+IntKind.wrap .i64 (Int.tdiv (↑(ByteArray.size (prNm (List.getD l i default))):Int) 50))+pf (prK (List.getD l i default)) (IntKind.wrap .i64 (mx - IntKind.wrap .i64 (IntKind.wrap .i64 (n+1)+IntKind.wrap .i64 (Int.tdiv (↑(ByteArray.size (prNm (List.getD l i default))):Int) 50)))))) trivial (by rw [hd,bp0_f,iP h0])
  ·exact lX mdL [sl (Pr.cs_len l),rp 4 (dt ((i:Int)<(l.length:Int))),df1 h0] (n) (by rw [hd,bp0_f,iN h0])
 ·have he:i=l.length:=by omega
  exact lX mdL [sl (Pr.cs_len l),rp 4 (df ((i:Int)<(l.length:Int))),bf false] (n) (by rw [he,List.drop_length,bp0_f])
theorem bpL(l:List Pr)(mx:Int)(pf:List Pr->Int->Int)(hwk:∀ (w:Pr) (k:Int),w∈l->Pu 120 [.sl 4 (Pr.cs (prK w)),.int .i64 k] (.ret (.int .i64 (pf (prK w) k))))(hN:l.length<=1000000000):Pu 120 [.sl 4 (Pr.cs l),pI mx] (rI (bp0_f mx pf l 0)):=
 pu mdL (fun e=>[lq (@bp0 (l) (mx) (pf) hwk (0) (e) hN)]) func120
def bpD:Nat->List Pr->Int->Int
 | 0,_,_=>0
 | d+1,l,mx=>bp0_f mx (bpD d) l 0
theorem prKw_bulk(x:Pr):bulkPss (Pr.cs (prK x))<bulkPs (prL x):=by simp only [bulkPs,bulkP]; omega
theorem bp_ok:∀ (d:Nat) (l:List Pr) (mx:Int),bulkPss (Pr.cs l)<d->bulkPss (Pr.cs l)<=100000000->Pu 120 [.sl 4 (Pr.cs l),.int .i64 mx] (.ret (.int .i64 (bpD d l mx)))
 | 0,_,_,h,_=>by omega
 | d+1,l,mx,h,hs=>bpL l mx (bpD d) (fun w k hw=>bp_ok d (prK w) k (by have:=prKw_bulk w; have:=Pr.mem hw; omega) (by have:=prKw_bulk w; have:=Pr.mem hw; omega)) (by have:=Pr.bulk l; omega)
def bpF(l:List Pr)(mx:Int):Int:=bpD (bulkPss (Pr.cs l)+1) l mx
theorem bpT(l:List Pr)(mx:Int)(hs:bulkPss (Pr.cs l)<=100000000):Pu 120 [.sl 4 (Pr.cs l),.int .i64 mx] (.ret (.int .i64 (bpF l mx))):=bp_ok _ l mx oM hs
theorem bpT1(x:Pr)(r:List Pr)(mx:Int)(hs:bulkPs (prL x)+bulkPss (Pr.cs r)<=100000000):Pu 120 [.sl 4 (prL x::Pr.cs r),.int .i64 mx] (.ret (.int .i64 (bpF (x::r) mx))):=by
 have e:Pr.cs (x::r)=prL x::Pr.cs r:=by simp [Pr.cs_eq]
 have:=bpT (x::r) mx (by rw [e]; simpa only [bulkPss] using hs)
 rwa [e] at this
abbrev bt0_I(l:List Tp)(mx:Int)(pf:List Pr->Int->Int)(tf:List Tp->Int->Int)(j:Int)(n:Int)(e:Ext):S:=S.mk [(0,vL 9 (Tp.cs l)),(1,vI6 mx),(4,vI6 0),(5,vI6 n),(6,vI6 j)] [] e
def bt0_f(mx:Int)(pf:List Pr->Int->Int)(tf:List Tp->Int->Int):List Tp->(Int)->(Int)
 | [],n=>(n)
 | el::r,n=>(if n<=mx then bt0_f mx pf tf r (IntKind.wrap .i64 (IntKind.wrap .i64 (IntKind.wrap .i64 (IntKind.wrap .i64 (IntKind.wrap .i64 (n+1)+IntKind.wrap .i64 (Int.tdiv (↑(ByteArray.size (tpNm el)):Int) 50))+((tpNs el).length:Int))+pf (tpP el::tpPs el) mx)+tf (tpA el) (IntKind.wrap .i64 (mx - IntKind.wrap .i64 (IntKind.wrap .i64 (IntKind.wrap .i64 (IntKind.wrap .i64 (n+1)+IntKind.wrap .i64 (Int.tdiv (↑(ByteArray.size (tpNm el)):Int) 50))+((tpNs el).length:Int))+pf (tpP el::tpPs el) mx))))) else (n))
def bt0_q(l:List Tp)(mx:Int)(pf:List Pr->Int->Int)(tf:List Tp->Int->Int)(e:Ext)(p:(Int)):PExit × S:=(.exit 0,S.mk [(0,vL 9 (Tp.cs l)),(1,vI6 mx),(4,vI6 0),(5,vI6 p)] [] e)
theorem bt0(l:List Tp)(mx:Int)(pf:List Pr->Int->Int)(tf:List Tp->Int->Int)(hPl:∀w∈l,(tpPs w).length<=100000000)(hp:∀ (w:Tp) (k:Int),w∈l->Pu 120 [.sl 4 (prL (tpP w)::Pr.cs (tpPs w)),.int .i64 k] (.ret (.int .i64 (pf (tpP w::tpPs w) k))))(ht:∀ (w:Tp) (k:Int),w∈l->Pu 66 [.sl 9 (Tp.cs (tpA w)),.int .i64 k] (.ret (.int .i64 (tf (tpA w) k))))(n:Int)(e:Ext)(hN:l.length<=1000000000)  : (Ob.loop 62 (loopF f66 0) (bt0_I l mx pf tf 0 n e) (bt0_q l mx pf tf e (bt0_f mx pf tf (l)  n)).1 (bt0_q l mx pf tf e (bt0_f mx pf tf (l)  n)).2).ok prog:=by
 refine rng l.length (fun j n=>bt0_I l mx pf tf j n e) (fun i n=>bt0_f mx pf tf (List.drop i (l))  n) (bt0_q l mx pf tf e) (fun i n=>True) kR ?_ n trivial
 rintro i n hi -
 rcases Nat.lt_or_ge i (l.length) with hlt | hge
 ·have hd:=drop_at hlt
  by_cases h0:n<=mx
  ·exact lN mdL [sl (Tp.cs_len l),rp 4 (dt ((i:Int)<(l.length:Int))),dt1 h0,kp,am ((0:Int)<=(i:Int)/\(i:Int)<((Tp.cs l).length:Int)) (by (simp only [Tp.cs_len]; omega)),ar (List.getD (Tp.cs l) (Int.toNat (i:Int)) []) (tpL (List.getD l i default)) (by simp only [Int.toNat_natCast,Int.toNat_zero]; rw [@Tp.cs_at (l) (i) hlt]; try rfl),rp 3 (kp),ab true,am ((0:Int)<=(i:Int)/\(i:Int)<((Tp.cs l).length:Int)) (by (simp only [Tp.cs_len]; omega)),ar (List.getD (Tp.cs l) (Int.toNat (i:Int)) []) (tpL (List.getD l i default)) (by simp only [Int.toNat_natCast,Int.toNat_zero]; rw [@Tp.cs_at (l) (i) hlt]; try rfl),sl (nmsC_len (tpNs (List.getD l i default))),kp,am ((0:Int)<=(i:Int)/\(i:Int)<((Tp.cs l).length:Int)) (by (simp only [Tp.cs_len]; omega)),ar (List.getD (Tp.cs l) (Int.toNat (i:Int)) []) (tpL (List.getD l i default)) (by simp only [Int.toNat_natCast,Int.toNat_zero]; rw [@Tp.cs_at (l) (i) hlt]; try rfl),am ((0:Int)<=(i:Int)/\(i:Int)<((Tp.cs l).length:Int)) (by (simp only [Tp.cs_len]; omega)),ar (List.getD (Tp.cs l) (Int.toNat (i:Int)) []) (tpL (List.getD l i default)) (by simp only [Int.toNat_natCast,Int.toNat_zero]; rw [@Tp.cs_at (l) (i) hlt]; try rfl),am (List.length ([List.take ((fun x=>TypeInfo.size x) (Tables.types (Program.toTables prog))[41]) (List.drop (0+Field.offset #[Field.mk "Op" 35 0 false "" "" 0,Field.mk "Name" 9 1 false "" "" 8,Field.mk "Args" 36 2 false "" "" 24,Field.mk "Names" 37 3 false "" "" 48,Field.mk "Pred" 41 4 false "" "" 72,Field.mk "Preds" 39 8 false "" "" 128][4]) (tpL (List.getD l i default)))]++(fun x=>Prod.snd x) (4,Pr.cs (tpPs (List.getD l i default)))) * (55+1)<=140737488355328) (by (apply gPm <;> first | assumption | omega | decide)),cl (@hp (List.getD l i default) (mx) (by simp_all [List.length_map,List.length_append,List.length_cons,List.length_nil,nmsC_len,Pr.cs_len,Tp.cs_len,Pm.cs_len,Ex.cs_len,Al.cs_len,Vr.cs_len,Cn.cs_len,Da.cs_len,Cl.cs_len,Bo.cs_len,Df.cs_len,In.cs_len,Cs.cs_len,Ms.cs_len,Qu.cs_len,Sy.cs_len,Ho.cs_len,Int.toNat_natCast,Bool.cond_true_left,Bool.cond_false_right,Int.toNat_zero,plen2])),kp,am ((0:Int)<=(i:Int)/\(i:Int)<((Tp.cs l).length:Int)) (by (simp only [Tp.cs_len]; omega)),ar (List.getD (Tp.cs l) (Int.toNat (i:Int)) []) (tpL (List.getD l i default)) (by simp only [Int.toNat_natCast,Int.toNat_zero]; rw [@Tp.cs_at (l) (i) hlt]; try rfl),kp,cl (@ht (List.getD l i default) (IntKind.wrap .i64 (mx - IntKind.wrap .i64 (IntKind.wrap .i64 (IntKind.wrap .i64 (IntKind.wrap .i64 (n+1)+IntKind.wrap .i64 (Int.tdiv (↑(ByteArray.size (tpNm (List.getD l i default))):Int) 50))+((tpNs (List.getD l i default)).length:Int))+pf (tpP (List.getD l i default)::tpPs (List.getD l i default)) mx))) (by simp_all [List.length_map,List.length_append,List.length_cons,List.length_nil,nmsC_len,Pr.cs_len,Tp.cs_len,Pm.cs_len,Ex.cs_len,Al.cs_len,Vr.cs_len,Cn.cs_len,Da.cs_len,Cl.cs_len,Bo.cs_len,Df.cs_len,In.cs_len,Cs.cs_len,Ms.cs_len,Qu.cs_len,Sy.cs_len,Ho.cs_len,Int.toNat_natCast,Bool.cond_true_left,Bool.cond_false_right,Int.toNat_zero,plen2])),kp,wr ((i:Int)+1)] hlt (IntKind.wrap .i64 (IntKind.wrap .i64 (IntKind.wrap .i64 (IntKind.wrap .i64 (IntKind.wrap .i64 (n+1)+IntKind.wrap .i64 (Int.tdiv (↑(ByteArray.size (tpNm (List.getD l i default))):Int) 50))+((tpNs (List.getD l i default)).length:Int))+pf (tpP (List.getD l i default)::tpPs (List.getD l i default)) mx)+tf (tpA (List.getD l i default)) (IntKind.wrap .i64 (mx - IntKind.wrap .i64 (IntKind.wrap .i64 (IntKind.wrap .i64 (IntKind.wrap .i64 (n+1)+IntKind.wrap .i64 (Int.tdiv (↑(ByteArray.size (tpNm (List.getD l i default))):Int) 50))+((tpNs (List.getD l i default)).length:Int))+pf (tpP (List.getD l i default)::tpPs (List.getD l i default)) mx))))) trivial (by rw [hd,bt0_f,iP h0])
  ·exact lX mdL [sl (Tp.cs_len l),rp 4 (dt ((i:Int)<(l.length:Int))),df1 h0] (n) (by rw [hd,bt0_f,iN h0])
 ·have he:i=l.length:=by omega
  exact lX mdL [sl (Tp.cs_len l),rp 4 (df ((i:Int)<(l.length:Int))),bf false] (n) (by rw [he,List.drop_length,bt0_f])
theorem btL(l:List Tp)(mx:Int)(pf:List Pr->Int->Int)(tf:List Tp->Int->Int)(hPl:∀w∈l,(tpPs w).length<=100000000)(hp:∀ (w:Tp) (k:Int),w∈l->Pu 120 [.sl 4 (prL (tpP w)::Pr.cs (tpPs w)),.int .i64 k] (.ret (.int .i64 (pf (tpP w::tpPs w) k))))(ht:∀ (w:Tp) (k:Int),w∈l->Pu 66 [.sl 9 (Tp.cs (tpA w)),.int .i64 k] (.ret (.int .i64 (tf (tpA w) k))))(hN:l.length<=1000000000):Pu 66 [.sl 9 (Tp.cs l),pI mx] (rI (bt0_f mx pf tf l 0)):=
 pu mdL (fun e=>[lq (@bt0 (l) (mx) (pf) (tf) hPl hp ht (0) (e) hN)]) func66
def btD:Nat->List Tp->Int->Int
 | 0,_,_=>0
 | d+1,l,mx=>bt0_f mx bpF (btD d) l 0
theorem bt_ok:∀ (d:Nat) (l:List Tp) (mx:Int),bulkPss (Tp.cs l)<d->bulkPss (Tp.cs l)<=100000000->Pu 66 [.sl 9 (Tp.cs l),.int .i64 mx] (.ret (.int .i64 (btD d l mx)))
 | 0,_,_,h,_=>by omega
 | d+1,l,mx,h,hs=>btL l mx bpF (btD d) (fun w hw=>by have:=tpw_bulk w; have:=Tp.mem hw; have:=Pr.bulk (tpPs w); omega) (fun w k hw=>bpT1 _ _ k (by have:=tpw_bulk w; have:=Tp.mem hw; omega)) (fun w k hw=>bt_ok d (tpA w) k (by have:=tpw_bulk w; have:=Tp.mem hw; omega) (by have:=tpw_bulk w; have:=Tp.mem hw; omega)) (by have:=Tp.bulk l; omega)
def btF(x:Tp)(mx:Int):Int:=btD (bulkPss [tpL x]+1) [x] mx
theorem btT1(x:Tp)(mx:Int)(hs:bulkPs (tpL x)<=100000000):Pu 66 [.sl 9 [tpL x],.int .i64 mx] (.ret (.int .i64 (btF x mx))):=by
 have e:Tp.cs [x]=[tpL x]:=by simp [Tp.cs_eq]
 have:=bt_ok (bulkPss (Tp.cs [x])+1) [x] mx oM (by rw [e]; simpa [bulkPss] using hs)
 rwa [e] at this
theorem bkL(x:Tp)(hs:bulkPs (tpL x)<=100000000):Pu 25 [.agg [pI 0,.str nm0,pI 0,.nilsl,.nilsl,.nilsl,.sl 9 [tpL x]],pI 200] (rI (IntKind.wrap .i64 (IntKind.wrap .i64 (1+IntKind.wrap .i64 (Int.tdiv (↑(ByteArray.size nm0):Int) 50))+btF x 200))):=
 pm mdL [rp 3 (kp),ab true,cl (@btT1 (x) (200) hs),kp,ur,kp,rp 5 (bf false),ur,kp,rp 5 (bf false),ur,kp,rp 5 (bf false)] func25
theorem smL(x:Tp)(hs:bulkPs (tpL x)<=100000000):Pu 9 [.agg (tpL x)] (rB (decide (IntKind.wrap .i64 (IntKind.wrap .i64 (1+IntKind.wrap .i64 (Int.tdiv (↑(ByteArray.size nm0):Int) 50))+btF x 200)<=200))):=
 pm mdL [cl (@bkL (x) hs)] func9
def fwS_r0(v:Nv):Bool:=(if ((nvW v).length:Int)<=30 then (if ((nvS v).length:Int)<=30 then (decide (((nvH v).length:Int)<=30)) else false) else false)
theorem fwS(v:Nv):Pu 7 [.agg (nvL v)] (rB (fwS_r0 v)):=by
 by_cases h0:((nvW v).length:Int)<=30
 ·by_cases h1:((nvS v).length:Int)<=30
  ·simp only [fwS_r0,iP h0,iP h1]; exact pm mdL [sl (Vr.cs_len (nvW v)),rp 3 (dt1 h0),sl (Sy.cs_len (nvS v)),rp 2 (dt1 h0),rp 3 (dt1 h1),sl (Ho.cs_len (nvH v)),rp 2 (dt1 h1)] func7
  ·simp only [fwS_r0,iP h0,iN h1]; exact pm mdL [sl (Vr.cs_len (nvW v)),rp 3 (dt1 h0),sl (Sy.cs_len (nvS v)),rp 2 (dt1 h0),rp 5 (df1 h1)] func7
 ·simp only [fwS_r0,iN h0]; exact pm mdL [sl (Vr.cs_len (nvW v)),rp 5 (df1 h0),rp 5 (bf false)] func7
abbrev mn0_I(p:Pr)(name:BA)(mf:Pr->Bool)(j:Int)(e:Ext):S:=S.mk [(1,vS name),(2,.lp 2 0),(5,vI6 j)] [(2,prV p)] e
inductive mn0_R where
 | e0
 | e1
def mn0_f(mf:Pr->Bool):List Pr->mn0_R
 | []=>(mn0_R.e1)
 | el::r=>(if mf el=true then (mn0_R.e0) else mn0_f mf r)
def mn0_q(p:Pr)(name:BA)(mf:Pr->Bool)(e:Ext):mn0_R->PExit × S
 | .e0=>(.ret,S.mk [(1,vS name),(2,.lp 2 0),(4,.v (.bool true))] [(2,prV p)] e)
 | .e1=>(.exit 0,S.mk [(1,vS name),(2,.lp 2 0)] [(2,prV p)] e)
theorem mn0_lp(p:Pr)(name:BA)(mf:Pr->Bool)(hq1:¬prNm p=name)(hwk:∀w:Pr,w∈prK p->Pu 64 [.agg (prL w),.str name] (.ret (.bool (mf w))))(e:Ext)(hN:(prK p).length<=1000000000):(Ob.loop 24 (loopF f64 0) (mn0_I p name mf 0  e) (mn0_q p name mf e (mn0_f mf (List.drop 0 ((prK p))))).1 (mn0_q p name mf e (mn0_f mf (List.drop 0 ((prK p))))).2).ok prog:=by
 refine rng ((prK p).length) (fun j _=>mn0_I p name mf j  e) (fun i _=>mn0_f mf (List.drop i ((prK p)))) (mn0_q p name mf e) (fun i _=>True) kR ?_ () trivial
 rintro i u hi -
 rcases Nat.lt_or_ge i ((prK p).length) with hlt | hge
 ·have hd:=drop_at hlt
  by_cases h0:mf (List.getD (prK p) i default)=true
  ·exact lX mdL [sl (Pr.cs_len (prK p)),dt ((i:Int)<((prK p).length:Int)),am ((0:Int)<=(i:Int)/\(i:Int)<((Pr.cs (prK p)).length:Int)) (by (simp only [Pr.cs_len]; omega)),ar (List.getD (Pr.cs (prK p)) (Int.toNat (i:Int)) []) (prL (List.getD (prK p) i default)) (by simp only [Int.toNat_natCast,Int.toNat_zero]; rw [@Pr.cs_at (prK p) (i) hlt]; try rfl),cl (@hwk (List.getD (prK p) i default) (by simp_all [List.length_map,List.length_append,List.length_cons,List.length_nil,nmsC_len,Pr.cs_len,Tp.cs_len,Pm.cs_len,Ex.cs_len,Al.cs_len,Vr.cs_len,Cn.cs_len,Da.cs_len,Cl.cs_len,Bo.cs_len,Df.cs_len,In.cs_len,Cs.cs_len,Ms.cs_len,Qu.cs_len,Sy.cs_len,Ho.cs_len,Int.toNat_natCast,Bool.cond_true_left,Bool.cond_false_right,Int.toNat_zero,plen2])),bt1 h0] (mn0_R.e0) (by rw [hd,mn0_f,iP h0])
  ·exact lN mdL [sl (Pr.cs_len (prK p)),dt ((i:Int)<((prK p).length:Int)),am ((0:Int)<=(i:Int)/\(i:Int)<((Pr.cs (prK p)).length:Int)) (by (simp only [Pr.cs_len]; omega)),ar (List.getD (Pr.cs (prK p)) (Int.toNat (i:Int)) []) (prL (List.getD (prK p) i default)) (by simp only [Int.toNat_natCast,Int.toNat_zero]; rw [@Pr.cs_at (prK p) (i) hlt]; try rfl),cl (@hwk (List.getD (prK p) i default) (by simp_all [List.length_map,List.length_append,List.length_cons,List.length_nil,nmsC_len,Pr.cs_len,Tp.cs_len,Pm.cs_len,Ex.cs_len,Al.cs_len,Vr.cs_len,Cn.cs_len,Da.cs_len,Cl.cs_len,Bo.cs_len,Df.cs_len,In.cs_len,Cs.cs_len,Ms.cs_len,Qu.cs_len,Sy.cs_len,Ho.cs_len,Int.toNat_natCast,Bool.cond_true_left,Bool.cond_false_right,Int.toNat_zero,plen2])),bf1 (bFT h0),wr ((i:Int)+1)] hlt () trivial (by rw [hd,mn0_f,iN h0])
 ·have he:i=(prK p).length:=by omega
  exact lX mdL [sl (Pr.cs_len (prK p)),df ((i:Int)<((prK p).length:Int))] (mn0_R.e1) (by rw [he,List.drop_length,mn0_f])
theorem mn0_0(p:Pr)(name:BA)(mf:Pr->Bool)(hq1:¬prNm p=name)(hwk:∀w:Pr,w∈prK p->Pu 64 [.agg (prL w),.str name] (.ret (.bool (mf w))))(e:Ext)(hN:(prK p).length<=1000000000)(hres:(mn0_f mf ((prK p)))=(mn0_R.e0)):(Ob.loop 24 (loopF f64 0) (mn0_I p name mf 0  e) (mn0_q p name mf e (mn0_R.e0)).1 (mn0_q p name mf e (mn0_R.e0)).2).ok prog:=
 rz (mn0_lp p name mf hq1 hwk e hN) hres
theorem mn0_1(p:Pr)(name:BA)(mf:Pr->Bool)(hq1:¬prNm p=name)(hwk:∀w:Pr,w∈prK p->Pu 64 [.agg (prL w),.str name] (.ret (.bool (mf w))))(e:Ext)(hN:(prK p).length<=1000000000)(hres:(mn0_f mf ((prK p)))=(mn0_R.e1)):(Ob.loop 24 (loopF f64 0) (mn0_I p name mf 0  e) (mn0_q p name mf e (mn0_R.e1)).1 (mn0_q p name mf e (mn0_R.e1)).2).ok prog:=
 rz (mn0_lp p name mf hq1 hwk e hN) hres
theorem mn0_e(mf:Pr->Bool):∀l:List Pr,mn0_f mf l=if l.any mf=true then .e0 else .e1
 | []=>rfl
 | c::r=>by cases h:mf c <;> simp [mn0_f,h,mn0_e mf r]
section
variable (p:Pr) (name:BA) (mf:Pr->Bool) (hwk:∀w:Pr,w∈prK p->Pu 64 [.agg (prL w),.str name] (.ret (.bool (mf w)))) (hN:(prK p).length<=1000000000)
include p name mf hwk hN
theorem mnL_1(hx0:prNm p=name):Pu 64 [.agg (prL p),.str name] (rB true):=
 pm mdL [bt (ByteArray.toList (prNm p)==ByteArray.toList name) (bsT hx0)] func64
theorem mnL_2(hx0:¬prNm p=name)(hx1:mn0_f mf (prK p)=mn0_R.e0):Pu 64 [.agg (prL p),.str name] (rB true):=
 pu mdL (fun e=>[bf (ByteArray.toList (prNm p)==ByteArray.toList name) (bsF hx0),lp (S.mk [(0,.v (.agg (prL p))),(1,vS name),(2,.lp 2 0),(4,.v (.bool false)),(6,.lp 2 1),(7,vS (prNm p)),(8,vS name),(9,.v (.bool (ByteArray.toList (prNm p)==ByteArray.toList name))),(5,vI6 0)] [(2,prV p)] e) (@mn0_0 (p) (name) (mf) hx0 hwk (e) hN hx1) xr]) func64
theorem mnL_3(hx0:¬prNm p=name)(hx1:mn0_f mf (prK p)=mn0_R.e1):Pu 64 [.agg (prL p),.str name] (rB false):=
 pu mdL (fun e=>[bf (ByteArray.toList (prNm p)==ByteArray.toList name) (bsF hx0),lp (S.mk [(0,.v (.agg (prL p))),(1,vS name),(2,.lp 2 0),(4,.v (.bool false)),(6,.lp 2 1),(7,vS (prNm p)),(8,vS name),(9,.v (.bool (ByteArray.toList (prNm p)==ByteArray.toList name))),(5,vI6 0)] [(2,prV p)] e) (@mn0_1 (p) (name) (mf) hx0 hwk (e) hN hx1) xr]) func64
end
def mnD(name:BA):Nat->Pr->Bool
 | 0,_=>false
 | d+1,p=>decide (prNm p=name)||(prK p).any (mnD name d)
theorem mn_ok(name:BA):∀ (d:Nat) (p:Pr),bulkPs (prL p)<d->d<=100000001->Pu 64 [.agg (prL p),.str name] (.ret (.bool (mnD name d p)))
 | 0,_,h,_=>by omega
 | d+1,p,h,hd=>by
  have h1:=prKw_bulk p
  have h2:=Pr.bulk (prK p)
  have hk:∀w:Pr,w∈prK p->Pu 64 [.agg (prL w),.str name] (.ret (.bool (mnD name d w))):=fun w hw=>mn_ok name d w (by have:=Pr.mem hw; omega) oM
  rw [mnD]
  by_cases h0:prNm p=name
  ·rw [decide_eq_true h0,Bool.true_or]; exact mnL_1 p name _ hk oM h0
  ·rw [decide_eq_false h0,Bool.false_or]
   cases ha:(prK p).any (mnD name d) with
   | true=>exact mnL_2 p name _ hk oM h0 (by rw [mn0_e,iP ha])
   | false=>exact mnL_3 p name _ hk oM h0 (by rw [mn0_e,iN (by rw [ha]; decide)])
def mnF(name:BA)(p:Pr):Bool:=mnD name (bulkPs (prL p)+1) p
theorem mnT(name:BA)(p:Pr)(hs:bulkPs (prL p)<=100000000):Pu 64 [.agg (prL p),.str name] (.ret (.bool (mnF name p))):=mn_ok name _ p oM oM
abbrev oc0_I(t:Tp)(name:BA)(j:Int)(e:Ext):S:=S.mk [(1,vS name),(2,.lp 2 0),(5,.uniq 41 4 (prL (tpP t)::Pr.cs (tpPs t))),(6,vI6 j)] [(2,tpV t)] e
inductive oc0_R where
 | e0
 | e1
def oc0_f(name:BA):List Pr->oc0_R
 | []=>(oc0_R.e1)
 | el::r=>(if mnF name el=true then (oc0_R.e0) else oc0_f name r)
def oc0_q(t:Tp)(name:BA)(e:Ext):oc0_R->PExit × S
 | .e0=>(.ret,S.mk [(1,vS name),(2,.lp 2 0),(5,.uniq 41 4 (prL (tpP t)::Pr.cs (tpPs t))),(4,.v (.bool true))] [(2,tpV t)] e)
 | .e1=>(.exit 0,S.mk [(1,vS name),(2,.lp 2 0),(5,.uniq 41 4 (prL (tpP t)::Pr.cs (tpPs t)))] [(2,tpV t)] e)
theorem oc0_lp(t:Tp)(name:BA)(hN0:(tpPs t).length<=100000000)(hwk:∀w:Pr,w∈prP t->Pu 64 [.agg (prL w),.str name] (.ret (.bool (mnF name w))))(e:Ext)(hN:(prP t).length<=1000000000):(Ob.loop 40 (loopF f21 0) (oc0_I t name 0  e) (oc0_q t name e (oc0_f name (List.drop 0 ((prP t))))).1 (oc0_q t name e (oc0_f name (List.drop 0 ((prP t))))).2).ok prog:=by
 refine rng ((prP t).length) (fun j _=>oc0_I t name j  e) (fun i _=>oc0_f name (List.drop i ((prP t)))) (oc0_q t name e) (fun i _=>True) kR ?_ () trivial
 rintro i u hi -
 rcases Nat.lt_or_ge i ((prP t).length) with hlt | hge
 ·have hd:=drop_at hlt
  by_cases h0:mnF name (List.getD (prP t) i default)=true
  ·exact lX mdL [ai (↑((fun x=>List.length (Prod.snd x)) (4,prL (tpP t)::Pr.cs (tpPs t))):Int) ((prP t).length:Int) (by (simp only [List.length_map,List.length_append,List.length_cons,List.length_nil,nmsC_len,Pr.cs_len,Tp.cs_len,Pm.cs_len,Ex.cs_len,Al.cs_len,Vr.cs_len,Cn.cs_len,Da.cs_len,Cl.cs_len,Bo.cs_len,Df.cs_len,In.cs_len,Cs.cs_len,Ms.cs_len,Qu.cs_len,Sy.cs_len,Ho.cs_len,Int.toNat_natCast,Bool.cond_true_left,Bool.cond_false_right,Int.toNat_zero,plen2]; done)),dt ((i:Int)<((prP t).length:Int)),am ((0:Int)<=(i:Int)/\(i:Int)<((prL (tpP t)::Pr.cs (tpPs t)).length:Int)) (by (simp only [List.length_map,List.length_append,List.length_cons,List.length_nil,nmsC_len,Pr.cs_len,Tp.cs_len,Pm.cs_len,Ex.cs_len,Al.cs_len,Vr.cs_len,Cn.cs_len,Da.cs_len,Cl.cs_len,Bo.cs_len,Df.cs_len,In.cs_len,Cs.cs_len,Ms.cs_len,Qu.cs_len,Sy.cs_len,Ho.cs_len,Int.toNat_natCast,Bool.cond_true_left,Bool.cond_false_right,Int.toNat_zero,plen2]; omega)),ar (List.getD (prL (tpP t)::Pr.cs (tpPs t)) (Int.toNat (i:Int)) []) (prL (List.getD (prP t) i default)) (by simp only [Int.toNat_natCast,Int.toNat_zero]; rw [@prs_at (t) (i) hlt]; try rfl),cl (@hwk (List.getD (prP t) i default) (by simp_all [List.length_map,List.length_append,List.length_cons,List.length_nil,nmsC_len,Pr.cs_len,Tp.cs_len,Pm.cs_len,Ex.cs_len,Al.cs_len,Vr.cs_len,Cn.cs_len,Da.cs_len,Cl.cs_len,Bo.cs_len,Df.cs_len,In.cs_len,Cs.cs_len,Ms.cs_len,Qu.cs_len,Sy.cs_len,Ho.cs_len,Int.toNat_natCast,Bool.cond_true_left,Bool.cond_false_right,Int.toNat_zero,plen2])),bt1 h0] (oc0_R.e0) (by rw [hd,oc0_f,iP h0])
  ·exact lN mdL [ai (↑((fun x=>List.length (Prod.snd x)) (4,prL (tpP t)::Pr.cs (tpPs t))):Int) ((prP t).length:Int) (by (simp only [List.length_map,List.length_append,List.length_cons,List.length_nil,nmsC_len,Pr.cs_len,Tp.cs_len,Pm.cs_len,Ex.cs_len,Al.cs_len,Vr.cs_len,Cn.cs_len,Da.cs_len,Cl.cs_len,Bo.cs_len,Df.cs_len,In.cs_len,Cs.cs_len,Ms.cs_len,Qu.cs_len,Sy.cs_len,Ho.cs_len,Int.toNat_natCast,Bool.cond_true_left,Bool.cond_false_right,Int.toNat_zero,plen2]; done)),dt ((i:Int)<((prP t).length:Int)),am ((0:Int)<=(i:Int)/\(i:Int)<((prL (tpP t)::Pr.cs (tpPs t)).length:Int)) (by (simp only [List.length_map,List.length_append,List.length_cons,List.length_nil,nmsC_len,Pr.cs_len,Tp.cs_len,Pm.cs_len,Ex.cs_len,Al.cs_len,Vr.cs_len,Cn.cs_len,Da.cs_len,Cl.cs_len,Bo.cs_len,Df.cs_len,In.cs_len,Cs.cs_len,Ms.cs_len,Qu.cs_len,Sy.cs_len,Ho.cs_len,Int.toNat_natCast,Bool.cond_true_left,Bool.cond_false_right,Int.toNat_zero,plen2]; omega)),ar (List.getD (prL (tpP t)::Pr.cs (tpPs t)) (Int.toNat (i:Int)) []) (prL (List.getD (prP t) i default)) (by simp only [Int.toNat_natCast,Int.toNat_zero]; rw [@prs_at (t) (i) hlt]; try rfl),cl (@hwk (List.getD (prP t) i default) (by simp_all [List.length_map,List.length_append,List.length_cons,List.length_nil,nmsC_len,Pr.cs_len,Tp.cs_len,Pm.cs_len,Ex.cs_len,Al.cs_len,Vr.cs_len,Cn.cs_len,Da.cs_len,Cl.cs_len,Bo.cs_len,Df.cs_len,In.cs_len,Cs.cs_len,Ms.cs_len,Qu.cs_len,Sy.cs_len,Ho.cs_len,Int.toNat_natCast,Bool.cond_true_left,Bool.cond_false_right,Int.toNat_zero,plen2])),bf1 (bFT h0),wr ((i:Int)+1)] hlt () trivial (by rw [hd,oc0_f,iN h0])
 ·have he:i=(prP t).length:=by omega
  exact lX mdL [ai (↑((fun x=>List.length (Prod.snd x)) (4,prL (tpP t)::Pr.cs (tpPs t))):Int) ((prP t).length:Int) (by (simp only [List.length_map,List.length_append,List.length_cons,List.length_nil,nmsC_len,Pr.cs_len,Tp.cs_len,Pm.cs_len,Ex.cs_len,Al.cs_len,Vr.cs_len,Cn.cs_len,Da.cs_len,Cl.cs_len,Bo.cs_len,Df.cs_len,In.cs_len,Cs.cs_len,Ms.cs_len,Qu.cs_len,Sy.cs_len,Ho.cs_len,Int.toNat_natCast,Bool.cond_true_left,Bool.cond_false_right,Int.toNat_zero,plen2]; done)),df ((i:Int)<((prP t).length:Int))] (oc0_R.e1) (by rw [he,List.drop_length,oc0_f])
theorem oc0_0(t:Tp)(name:BA)(hN0:(tpPs t).length<=100000000)(hwk:∀w:Pr,w∈prP t->Pu 64 [.agg (prL w),.str name] (.ret (.bool (mnF name w))))(e:Ext)(hN:(prP t).length<=1000000000)(hres:(oc0_f name ((prP t)))=(oc0_R.e0)):(Ob.loop 40 (loopF f21 0) (oc0_I t name 0  e) (oc0_q t name e (oc0_R.e0)).1 (oc0_q t name e (oc0_R.e0)).2).ok prog:=
 rz (oc0_lp t name hN0 hwk e hN) hres
theorem oc0_1(t:Tp)(name:BA)(hN0:(tpPs t).length<=100000000)(hwk:∀w:Pr,w∈prP t->Pu 64 [.agg (prL w),.str name] (.ret (.bool (mnF name w))))(e:Ext)(hN:(prP t).length<=1000000000)(hres:(oc0_f name ((prP t)))=(oc0_R.e1)):(Ob.loop 40 (loopF f21 0) (oc0_I t name 0  e) (oc0_q t name e (oc0_R.e1)).1 (oc0_q t name e (oc0_R.e1)).2).ok prog:=
 rz (oc0_lp t name hN0 hwk e hN) hres
theorem oc0_e(t:Tp)(name:BA):∀l:List Pr,oc0_f name l=if l.any (mnF name)=true then .e0 else .e1
 | []=>rfl
 | c::r=>by cases h:mnF name c <;> simp [oc0_f,h,oc0_e t name r]
abbrev oc1_I(t:Tp)(name:BA)(of:Tp->Bool)(j:Int)(e:Ext):S:=S.mk [(1,vS name),(2,.lp 2 0),(7,vI6 j)] [(2,tpV t)] e
inductive oc1_R where
 | e0
 | e1
def oc1_f(of:Tp->Bool):List Tp->oc1_R
 | []=>(oc1_R.e1)
 | el::r=>(if of el=true then (oc1_R.e0) else oc1_f of r)
def oc1_q(t:Tp)(name:BA)(of:Tp->Bool)(e:Ext):oc1_R->PExit × S
 | .e0=>(.ret,S.mk [(1,vS name),(2,.lp 2 0),(4,.v (.bool true))] [(2,tpV t)] e)
 | .e1=>(.exit 2,S.mk [(1,vS name),(2,.lp 2 0)] [(2,tpV t)] e)
theorem oc1_lp(t:Tp)(name:BA)(hN0:(tpPs t).length<=100000000)(hwk:∀w:Pr,w∈prP t->Pu 64 [.agg (prL w),.str name] (.ret (.bool (mnF name w))))(hz0:oc0_f name (prP t) = .e1)(of:Tp->Bool)(hwt:∀w:Tp,w∈tpA t->Pu 21 [.agg (tpL w),.str name] (.ret (.bool (of w))))(e:Ext)(hN:(tpA t).length<=1000000000):(Ob.loop 40 (loopF f21 1) (oc1_I t name of 0  e) (oc1_q t name of e (oc1_f of (List.drop 0 ((tpA t))))).1 (oc1_q t name of e (oc1_f of (List.drop 0 ((tpA t))))).2).ok prog:=by
 refine rng ((tpA t).length) (fun j _=>oc1_I t name of j  e) (fun i _=>oc1_f of (List.drop i ((tpA t)))) (oc1_q t name of e) (fun i _=>True) kR ?_ () trivial
 rintro i u hi -
 rcases Nat.lt_or_ge i ((tpA t).length) with hlt | hge
 ·have hd:=drop_at hlt
  by_cases h0:of (List.getD (tpA t) i default)=true
  ·exact lX mdL [sl (Tp.cs_len (tpA t)),dt ((i:Int)<((tpA t).length:Int)),am ((0:Int)<=(i:Int)/\(i:Int)<((Tp.cs (tpA t)).length:Int)) (by (simp only [Tp.cs_len]; omega)),ar (List.getD (Tp.cs (tpA t)) (Int.toNat (i:Int)) []) (tpL (List.getD (tpA t) i default)) (by simp only [Int.toNat_natCast,Int.toNat_zero]; rw [@Tp.cs_at (tpA t) (i) hlt]; try rfl),cl (@hwt (List.getD (tpA t) i default) (by simp_all [List.length_map,List.length_append,List.length_cons,List.length_nil,nmsC_len,Pr.cs_len,Tp.cs_len,Pm.cs_len,Ex.cs_len,Al.cs_len,Vr.cs_len,Cn.cs_len,Da.cs_len,Cl.cs_len,Bo.cs_len,Df.cs_len,In.cs_len,Cs.cs_len,Ms.cs_len,Qu.cs_len,Sy.cs_len,Ho.cs_len,Int.toNat_natCast,Bool.cond_true_left,Bool.cond_false_right,Int.toNat_zero,plen2])),bt1 h0] (oc1_R.e0) (by rw [hd,oc1_f,iP h0])
  ·exact lN mdL [sl (Tp.cs_len (tpA t)),dt ((i:Int)<((tpA t).length:Int)),am ((0:Int)<=(i:Int)/\(i:Int)<((Tp.cs (tpA t)).length:Int)) (by (simp only [Tp.cs_len]; omega)),ar (List.getD (Tp.cs (tpA t)) (Int.toNat (i:Int)) []) (tpL (List.getD (tpA t) i default)) (by simp only [Int.toNat_natCast,Int.toNat_zero]; rw [@Tp.cs_at (tpA t) (i) hlt]; try rfl),cl (@hwt (List.getD (tpA t) i default) (by simp_all [List.length_map,List.length_append,List.length_cons,List.length_nil,nmsC_len,Pr.cs_len,Tp.cs_len,Pm.cs_len,Ex.cs_len,Al.cs_len,Vr.cs_len,Cn.cs_len,Da.cs_len,Cl.cs_len,Bo.cs_len,Df.cs_len,In.cs_len,Cs.cs_len,Ms.cs_len,Qu.cs_len,Sy.cs_len,Ho.cs_len,Int.toNat_natCast,Bool.cond_true_left,Bool.cond_false_right,Int.toNat_zero,plen2])),bf1 (bFT h0),wr ((i:Int)+1)] hlt () trivial (by rw [hd,oc1_f,iN h0])
 ·have he:i=(tpA t).length:=by omega
  exact lX mdL [sl (Tp.cs_len (tpA t)),df ((i:Int)<((tpA t).length:Int))] (oc1_R.e1) (by rw [he,List.drop_length,oc1_f])
theorem oc1_0(t:Tp)(name:BA)(hN0:(tpPs t).length<=100000000)(hwk:∀w:Pr,w∈prP t->Pu 64 [.agg (prL w),.str name] (.ret (.bool (mnF name w))))(hz0:oc0_f name (prP t) = .e1)(of:Tp->Bool)(hwt:∀w:Tp,w∈tpA t->Pu 21 [.agg (tpL w),.str name] (.ret (.bool (of w))))(e:Ext)(hN:(tpA t).length<=1000000000)(hres:(oc1_f of ((tpA t)))=(oc1_R.e0)):(Ob.loop 40 (loopF f21 1) (oc1_I t name of 0  e) (oc1_q t name of e (oc1_R.e0)).1 (oc1_q t name of e (oc1_R.e0)).2).ok prog:=
 rz (oc1_lp t name hN0 hwk hz0 of hwt e hN) hres
theorem oc1_1(t:Tp)(name:BA)(hN0:(tpPs t).length<=100000000)(hwk:∀w:Pr,w∈prP t->Pu 64 [.agg (prL w),.str name] (.ret (.bool (mnF name w))))(hz0:oc0_f name (prP t) = .e1)(of:Tp->Bool)(hwt:∀w:Tp,w∈tpA t->Pu 21 [.agg (tpL w),.str name] (.ret (.bool (of w))))(e:Ext)(hN:(tpA t).length<=1000000000)(hres:(oc1_f of ((tpA t)))=(oc1_R.e1)):(Ob.loop 40 (loopF f21 1) (oc1_I t name of 0  e) (oc1_q t name of e (oc1_R.e1)).1 (oc1_q t name of e (oc1_R.e1)).2).ok prog:=
 rz (oc1_lp t name hN0 hwk hz0 of hwt e hN) hres
theorem oc1_e(name:BA)(of:Tp->Bool):∀l:List Tp,oc1_f of l=if l.any of=true then .e0 else .e1
 | []=>rfl
 | c::r=>by cases h:of c <;> simp [oc1_f,h,oc1_e name of r]
section
variable (t:Tp) (name:BA) (hN0:(tpPs t).length<=100000000) (hwk:∀w:Pr,w∈prP t->Pu 64 [.agg (prL w),.str name] (.ret (.bool (mnF name w)))) (of:Tp->Bool) (hwt:∀w:Tp,w∈tpA t->Pu 21 [.agg (tpL w),.str name] (.ret (.bool (of w)))) (hNt:(tpA t).length<=1000000000)
include t name hN0 hwk of hwt hNt
theorem ocL_1(hx0:oc0_f name (prP t)=oc0_R.e0):Pu 21 [.agg (tpL t),.str name] (rB true):=
 pu mdL (fun e=>[am (List.length ([prL (tpP t)]++(fun x=>Prod.snd x) (4,Pr.cs (tpPs t))) * (55+1)<=140737488355328) (by (simp only [List.length_append,List.length_cons,List.length_nil,Pr.cs_len]; omega)),lp (S.mk [(0,.v (.agg (tpL t))),(1,vS name),(2,.lp 2 0),(4,.v (.bool false)),(8,.lp 2 4),(9,.v (.agg (prL (tpP t)))),(10,LV.full 4 [prL (tpP t)]),(11,.lp 2 8),(12,vL 4 (Pr.cs (tpPs t))),(13,vL 4 (prL (tpP t)::List.append [] (Pr.cs (tpPs t)))),(5,.uniq 41 4 (prL (tpP t)::List.append [] (Pr.cs (tpPs t)))),(6,vI6 0)] [(2,tpV t)] e) (@oc0_0 (t) (name) hN0 hwk (e) (by (apply prP_le <;> first | assumption | omega | decide)) hx0) ⟨⟨W,W,(by first | exact .inl rfl | exact .inr ⟨rfl,rfl⟩ | exact .inr rfl | exact .inr trivial | exact .inl (by first | (simp only [List.nil_append,nmsC_app,nmsC_snoc,Pr.cs_snoc,Tp.cs_snoc,Ex.cs_snoc,Vr.cs_snoc,Df.cs_snoc]; done) | (simp only [List.nil_append,nmsC_app,nmsC_snoc,Pr.cs_snoc,Tp.cs_snoc,Ex.cs_snoc,Vr.cs_snoc,Df.cs_snoc]; rfl))),W,tVv⟩,⟨⟨W,W,W,W,W,W,W,W,W,tVv⟩,tVv⟩,rfl⟩]) func21
theorem ocL_2(hx0:oc0_f name (prP t)=oc0_R.e1)(hx1:oc1_f of (tpA t)=oc1_R.e0):Pu 21 [.agg (tpL t),.str name] (rB true):=
 pu mdL (fun e=>[am (List.length ([prL (tpP t)]++(fun x=>Prod.snd x) (4,Pr.cs (tpPs t))) * (55+1)<=140737488355328) (by (simp only [List.length_append,List.length_cons,List.length_nil,Pr.cs_len]; omega)),lp (S.mk [(0,.v (.agg (tpL t))),(1,vS name),(2,.lp 2 0),(4,.v (.bool false)),(8,.lp 2 4),(9,.v (.agg (prL (tpP t)))),(10,LV.full 4 [prL (tpP t)]),(11,.lp 2 8),(12,vL 4 (Pr.cs (tpPs t))),(13,vL 4 (prL (tpP t)::List.append [] (Pr.cs (tpPs t)))),(5,.uniq 41 4 (prL (tpP t)::List.append [] (Pr.cs (tpPs t)))),(6,vI6 0)] [(2,tpV t)] e) (@oc0_1 (t) (name) hN0 hwk (e) (by (apply prP_le <;> first | assumption | omega | decide)) hx0) ⟨⟨W,W,(by first | exact .inl rfl | exact .inr ⟨rfl,rfl⟩ | exact .inr rfl | exact .inr trivial | exact .inl (by first | (simp only [List.nil_append,nmsC_app,nmsC_snoc,Pr.cs_snoc,Tp.cs_snoc,Ex.cs_snoc,Vr.cs_snoc,Df.cs_snoc]; done) | (simp only [List.nil_append,nmsC_app,nmsC_snoc,Pr.cs_snoc,Tp.cs_snoc,Ex.cs_snoc,Vr.cs_snoc,Df.cs_snoc]; rfl))),W,tVv⟩,⟨⟨W,W,W,W,W,W,W,W,W,tVv⟩,tVv⟩,rfl⟩,lp (S.mk [(1,vS name),(2,.lp 2 0),(5,.uniq 41 4 (prL (tpP t)::Pr.cs (tpPs t))),(7,vI6 0)] [(2,tpV t)] e) (@oc1_0 (t) (name) hN0 hwk hx0 (of) hwt (e) hNt hx1) xr]) func21
theorem ocL_3(hx0:oc0_f name (prP t)=oc0_R.e1)(hx1:oc1_f of (tpA t)=oc1_R.e1):Pu 21 [.agg (tpL t),.str name] (rB false):=
 pu mdL (fun e=>[am (List.length ([prL (tpP t)]++(fun x=>Prod.snd x) (4,Pr.cs (tpPs t))) * (55+1)<=140737488355328) (by (simp only [List.length_append,List.length_cons,List.length_nil,Pr.cs_len]; omega)),lp (S.mk [(0,.v (.agg (tpL t))),(1,vS name),(2,.lp 2 0),(4,.v (.bool false)),(8,.lp 2 4),(9,.v (.agg (prL (tpP t)))),(10,LV.full 4 [prL (tpP t)]),(11,.lp 2 8),(12,vL 4 (Pr.cs (tpPs t))),(13,vL 4 (prL (tpP t)::List.append [] (Pr.cs (tpPs t)))),(5,.uniq 41 4 (prL (tpP t)::List.append [] (Pr.cs (tpPs t)))),(6,vI6 0)] [(2,tpV t)] e) (@oc0_1 (t) (name) hN0 hwk (e) (by (apply prP_le <;> first | assumption | omega | decide)) hx0) ⟨⟨W,W,(by first | exact .inl rfl | exact .inr ⟨rfl,rfl⟩ | exact .inr rfl | exact .inr trivial | exact .inl (by first | (simp only [List.nil_append,nmsC_app,nmsC_snoc,Pr.cs_snoc,Tp.cs_snoc,Ex.cs_snoc,Vr.cs_snoc,Df.cs_snoc]; done) | (simp only [List.nil_append,nmsC_app,nmsC_snoc,Pr.cs_snoc,Tp.cs_snoc,Ex.cs_snoc,Vr.cs_snoc,Df.cs_snoc]; rfl))),W,tVv⟩,⟨⟨W,W,W,W,W,W,W,W,W,tVv⟩,tVv⟩,rfl⟩,lp (S.mk [(1,vS name),(2,.lp 2 0),(5,.uniq 41 4 (prL (tpP t)::Pr.cs (tpPs t))),(7,vI6 0)] [(2,tpV t)] e) (@oc1_1 (t) (name) hN0 hwk hx0 (of) hwt (e) hNt hx1) xr]) func21
end
def ocD(name:BA):Nat->Tp->Bool
 | 0,_=>false
 | d+1,t=>(prP t).any (mnF name)||(tpA t).any (ocD name d)
theorem prP_bulk{t:Tp}{w:Pr}(h:w∈prP t):bulkPs (prL w)<bulkPs (tpL t):=by
 have h1:=tpw_bulk t
 rcases List.mem_cons.1 (show w∈tpP t::tpPs t by unfold prP at h; exact h) with rfl | h
 ·omega
 ·have:=Pr.mem h; omega
theorem oc_ok(name:BA):∀ (d:Nat) (t:Tp),bulkPs (tpL t)<d->d<=100000001->Pu 21 [.agg (tpL t),.str name] (.ret (.bool (ocD name d t)))
 | 0,_,h,_=>by omega
 | d+1,t,h,hd=>by
  have h1:=tpw_bulk t
  have h2:=Pr.bulk (tpPs t)
  have h3:=Tp.bulk (tpA t)
  have hk:∀w:Pr,w∈prP t->Pu 64 [.agg (prL w),.str name] (.ret (.bool (mnF name w))):=fun w hw=>mnT name w (by have:=prP_bulk hw; omega)
  have ht:∀w:Tp,w∈tpA t->Pu 21 [.agg (tpL w),.str name] (.ret (.bool (ocD name d w))):=fun w hw=>oc_ok name d w (by have:=Tp.mem hw; omega) oM
  rw [ocD]
  cases ha:(prP t).any (mnF name) with
  | true=>exact ocL_1 t name oM hk _ ht oM (by rw [oc0_e t,iP ha])
  | false=>
   rw [Bool.false_or]
   cases hb:(tpA t).any (ocD name d) with
   | true=>exact ocL_2 t name oM hk _ ht oM (by rw [oc0_e t,iN (by rw [ha]; decide)]) (by rw [oc1_e name,iP hb])
   | false=>exact ocL_3 t name oM hk _ ht oM (by rw [oc0_e t,iN (by rw [ha]; decide)]) (by rw [oc1_e name,iN (by rw [hb]; decide)])
def ocF(name:BA)(t:Tp):Bool:=ocD name (bulkPs (tpL t)+1) t
theorem ocT(name:BA)(t:Tp)(hs:bulkPs (tpL t)<=100000000):Pu 21 [.agg (tpL t),.str name] (.ret (.bool (ocF name t))):=oc_ok name _ t oM oM
theorem plen3(t:Tp):0+1+(tpPs t).length=(prP t).length:=by simp [prP]; omega
theorem zr(u:Pr):Pu 171 [.agg (prL u)] (rB (psz_r0 u)):=
 pm mdL [cl (@psz (u))] func171
abbrev pa1I(t:Tp)(xe:Ext):S:=⟨[(1,.lp 1 0),(2,.v (.int .i64 0))],[(1,tpV t)],xe⟩
section
variable (t:Tp) (xe:Ext)
include t xe
theorem pr1_1(hx0:tpO t=6)(hx1:psz_r0 (tpP t)=false)(cx:Cx)(hcx:cx.n=68){Q:PExit->S->Prop}(hq:Q (.normal) (S.mk [(1,.lp 1 0),(2,vI6 0),(33,.v (.bool true))] [(1,tpV t)] xe)):PW prog cx (regF f123 1) (pa1I t xe) Q:=
 pw mdL 68 [rp 3 (et1 hx0),cl (@zr (tpP t)),rp 2 (et1 hx0),rp 4 (bt1 (bnT hx1)),et1 hx0,bt1 (bnT hx1),et1 hx0,rp 6 (bt true)] [1,2,33] [1] hcx hq
theorem pr1_2(hx0:tpO t=6)(hx1:psz_r0 (tpP t)=true)(hx2:((tpPs t).length:Int)>0)(cx:Cx)(hcx:cx.n=68){Q:PExit->S->Prop}(hq:Q (.normal) (S.mk [(1,.lp 1 0),(2,vI6 0),(33,.v (.bool true))] [(1,tpV t)] xe)):PW prog cx (regF f123 1) (pa1I t xe) Q:=
 pw mdL 68 [rp 3 (et1 hx0),cl (@zr (tpP t)),rp 2 (et1 hx0),rp 3 (bf1 (bnF hx1)),sl (Pr.cs_len (tpPs t)),bf1 (bnF hx1),et1 hx0,bf1 (bnF hx1),et1 hx0,rp 6 (dt1 hx2)] [1,2,33] [1] hcx hq
theorem pr1_3(hx0:tpO t=6)(hx1:psz_r0 (tpP t)=true)(hx2:¬((tpPs t).length:Int)>0)(cx:Cx)(hcx:cx.n=68){Q:PExit->S->Prop}(hq:Q (.normal) (S.mk [(1,.lp 1 0),(2,vI6 0),(33,.v (.bool (decide (((tpPs t).length:Int)>0))))] [(1,tpV t)] xe)):PW prog cx (regF f123 1) (pa1I t xe) Q:=
 pw mdL 68 [rp 3 (et1 hx0),cl (@zr (tpP t)),rp 2 (et1 hx0),rp 3 (bf1 (bnF hx1)),sl (Pr.cs_len (tpPs t)),bf1 (bnF hx1),et1 hx0,bf1 (bnF hx1),et1 hx0,rp 4 (df1 hx2),rp 3 (nt (tpO t) 4),sl (Pr.cs_len (tpPs t)),nt (tpO t) 4,df1 hx2,nt (tpO t) 4,df1 hx2] [1,2,33] [1] hcx hq
theorem pr1_4(hx0:¬tpO t=6)(hx1:¬tpO t=4)(cx:Cx)(hcx:cx.n=68){Q:PExit->S->Prop}(hq:Q (.normal) (S.mk [(1,.lp 1 0),(2,vI6 0),(33,.v (.bool (decide (((tpPs t).length:Int)>0))))] [(1,tpV t)] xe)):PW prog cx (regF f123 1) (pa1I t xe) Q:=
 pw mdL 68 [rp 7 (en1 hx0),rp 4 (bf false),rp 3 (nt1 hx1),sl (Pr.cs_len (tpPs t)),nt1 hx1,bf false,nt1 hx1,bf false] [1,2,33] [1] hcx hq
theorem pr1_5(hx0:¬tpO t=6)(hx1:tpO t=4)(cx:Cx)(hcx:cx.n=68){Q:PExit->S->Prop}(hq:Q (.normal) (S.mk [(1,.lp 1 0),(2,vI6 0),(33,.v (.bool false))] [(1,tpV t)] xe)):PW prog cx (regF f123 1) (pa1I t xe) Q:=
 pw mdL 68 [rp 7 (en1 hx0),rp 4 (bf false),rp 4 (nn1 hx1),bf false,nn1 hx1,bf false] [1,2,33] [1] hcx hq
end
def pr1_v33(t:Tp):Bool:=(if tpO t=6 then (if psz_r0 (tpP t)=true then (if ((tpPs t).length:Int)>0 then (true) else ((decide (((tpPs t).length:Int)>0)))) else (true)) else (if tpO t=4 then (false) else ((decide (((tpPs t).length:Int)>0)))))
theorem pr1J(t:Tp)(xe:Ext):(Ob.frag 68 (regF f123 1) (pa1I t xe) (.normal) (S.mk [(1,.lp 1 0),(2,vI6 0),(33,.v (.bool (pr1_v33 t)))] [(1,tpV t)] xe)).ok prog:=by
 intro cx hcx
 by_cases g0:tpO t=6
 ·by_cases g1:psz_r0 (tpP t)=true
  ·by_cases g2:((tpPs t).length:Int)>0
   ·exact pr1_2 t xe g0 g1 g2 cx hcx ⟨rfl,by rw [show pr1_v33 t=(true) by unfold pr1_v33; rw [iP g0,iP g1,iP g2]]⟩
   ·exact pr1_3 t xe g0 g1 g2 cx hcx ⟨rfl,by rw [show pr1_v33 t=((decide (((tpPs t).length:Int)>0))) by unfold pr1_v33; rw [iP g0,iP g1,iN g2]]⟩
  ·exact pr1_1 t xe g0 (Bool.eq_false_iff.2 g1) cx hcx ⟨rfl,by rw [show pr1_v33 t=(true) by unfold pr1_v33; rw [iP g0,iN g1]]⟩
 ·by_cases g1:tpO t=4
  ·exact pr1_5 t xe g0 g1 cx hcx ⟨rfl,by rw [show pr1_v33 t=(false) by unfold pr1_v33; rw [iN g0,iP g1]]⟩
  ·exact pr1_4 t xe g0 g1 cx hcx ⟨rfl,by rw [show pr1_v33 t=((decide (((tpPs t).length:Int)>0))) by unfold pr1_v33; rw [iN g0,iN g1]]⟩
def mdT:Md:=⟨fun _=>some false,fun t=>t==1000001⟩
abbrev pn0_I(t:Tp)(j:Int)(e:Ext):S:=S.mk [(1,.lp 1 0),(2,vI6 0),(35,vL 1 (nmsC (tpNs t))),(36,vI6 ((tpNs t).length:Int)),(37,vI6 j)] [(1,tpV t)] e
inductive pn0_R where
 | e0
 | e1
def pn0_f  : List BA->pn0_R
 | []=>(pn0_R.e1)
 | el::r=>(if erN (nameB el)=0 then pn0_f  r  else (pn0_R.e0))
def pn0_q(t:Tp)(e:Ext):pn0_R->PExit × S
 | .e0=>(.ret,S.mk [(1,.lp 1 0),(2,vI6 3),(35,vL 1 (nmsC (tpNs t))),(36,vI6 ((tpNs t).length:Int))] [(1,tpV t)] e)
 | .e1=>(.exit 0,S.mk [(1,.lp 1 0),(2,vI6 0),(35,vL 1 (nmsC (tpNs t))),(36,vI6 ((tpNs t).length:Int))] [(1,tpV t)] e)
theorem pn0_lp(t:Tp)(hq1:pr1_v33 t=false)(e:Ext)(hN:(tpNs t).length<=1000000000):(Ob.loop 68 (loopF f123 0) (pn0_I t 0  e) (pn0_q t e (pn0_f  (List.drop 0 ((tpNs t))))).1 (pn0_q t e (pn0_f  (List.drop 0 ((tpNs t))))).2).ok prog:=by
 refine rng ((tpNs t).length) (fun j _=>pn0_I t j  e) (fun i _=>pn0_f  (List.drop i ((tpNs t)))) (pn0_q t e) (fun i _=>True) kR ?_ () trivial
 rintro i u hi -
 rcases Nat.lt_or_ge i ((tpNs t).length) with hlt | hge
 ·have hd:=drop_at0 hlt
  by_cases h0:erN (nameB (List.getD (tpNs t) i nm0))=0
  ·exact lN mdT [dt ((i:Int)<((tpNs t).length:Int)),am ((0:Int)<=(i:Int)/\(i:Int)<((nmsC (tpNs t)).length:Int)) (by (simp only [nmsC_len]; omega)),ar (List.getD (nmsC (tpNs t)) (Int.toNat (i:Int)) []) [.str (List.getD (tpNs t) i nm0)] (by simp only [Int.toNat_natCast,Int.toNat_zero]; rw [@nmsC_at (tpNs t) (i) hlt]; try rfl),cl (@nCkT (List.getD (tpNs t) i nm0)),nn1 h0,wr ((i:Int)+1)] hlt () trivial (by rw [hd,pn0_f,iP h0])
  ·exact lX mdT [dt ((i:Int)<((tpNs t).length:Int)),am ((0:Int)<=(i:Int)/\(i:Int)<((nmsC (tpNs t)).length:Int)) (by (simp only [nmsC_len]; omega)),ar (List.getD (nmsC (tpNs t)) (Int.toNat (i:Int)) []) [.str (List.getD (tpNs t) i nm0)] (by simp only [Int.toNat_natCast,Int.toNat_zero]; rw [@nmsC_at (tpNs t) (i) hlt]; try rfl),cl (@nCkT (List.getD (tpNs t) i nm0)),nt1 h0] (pn0_R.e0) (by rw [hd,pn0_f,iN h0])
 ·have he:i=(tpNs t).length:=by omega
  exact lX mdT [df ((i:Int)<((tpNs t).length:Int))] (pn0_R.e1) (by rw [he,List.drop_length,pn0_f])
theorem pn0_0(t:Tp)(hq1:pr1_v33 t=false)(e:Ext)(hN:(tpNs t).length<=1000000000)(hres:(pn0_f  ((tpNs t)))=(pn0_R.e0)):(Ob.loop 68 (loopF f123 0) (pn0_I t 0  e) (pn0_q t e (pn0_R.e0)).1 (pn0_q t e (pn0_R.e0)).2).ok prog:=
 rz (pn0_lp t hq1 e hN) hres
theorem pn0_1(t:Tp)(hq1:pr1_v33 t=false)(e:Ext)(hN:(tpNs t).length<=1000000000)(hres:(pn0_f  ((tpNs t)))=(pn0_R.e1)):(Ob.loop 68 (loopF f123 0) (pn0_I t 0  e) (pn0_q t e (pn0_R.e1)).1 (pn0_q t e (pn0_R.e1)).2).ok prog:=
 rz (pn0_lp t hq1 e hN) hres
theorem pn0_e:∀l:List BA,pn0_f l=if frE (fun s=>erN (nameB s)) l=0 then .e1 else .e0
 | []=>by simp [pn0_f,frE]
 | c::r=>by
  by_cases h:erN (nameB c)=0
  ·simp [pn0_f,frE,h,pn0_e r]
  ·simp [pn0_f,frE,h]
theorem pn0G(t:Tp)(hq1:pr1_v33 t=false)(e:Ext)(hN:(tpNs t).length<=1000000000)(hx:frE (fun s=>erN (nameB s)) (tpNs t)=0):(Ob.loop 68 (loopF f123 0) (pn0_I t 0 e) (pn0_q t e .e1).1 (pn0_q t e .e1).2).ok prog:=pn0_1 t hq1 e hN (by rw [pn0_e,iP hx])
theorem pn0B(t:Tp)(hq1:pr1_v33 t=false)(e:Ext)(hN:(tpNs t).length<=1000000000)(hx:¬frE (fun s=>erN (nameB s)) (tpNs t)=0):(Ob.loop 68 (loopF f123 0) (pn0_I t 0 e) (pn0_q t e .e0).1 (pn0_q t e .e0).2).ok prog:=pn0_0 t hq1 e hN (by rw [pn0_e,iN hx])
abbrev pn1_I(t:Tp)(j:Int)(e:Ext):S:=S.mk [(2,vI6 0),(54,.uniq 41 4 (prL (tpP t)::Pr.cs (tpPs t))),(55,vI6 ((prP t).length:Int)),(56,vI6 j)] [] e
inductive pn1_R where
 | e0 (el:Pr)
 | e1
def pn1_f  : List Pr->pn1_R
 | []=>(pn1_R.e1)
 | el::r=>(if psz_r0 el=true then pn1_f  r  else (if pcE el=0 then pn1_f  r  else (pn1_R.e0 el)))
def pn1_q(t:Tp)(e:Ext):pn1_R->PExit × S
 | .e0 el=>(.ret,S.mk [(2,vI6 (pcE el)),(54,.uniq 41 4 (prL (tpP t)::Pr.cs (tpPs t))),(55,vI6 ((prP t).length:Int))] [] e)
 | .e1=>(.exit 2,S.mk [(2,vI6 0),(54,.uniq 41 4 (prL (tpP t)::Pr.cs (tpPs t))),(55,vI6 ((prP t).length:Int))] [] e)
theorem pn1_lp(t:Tp)(hq1:pr1_v33 t=false)(hNn:(tpNs t).length<=1000000000)(hq2:frE (fun s=>erN (nameB s)) (tpNs t)=0)(hq3:disB (tpNs t)=true)(hwk:∀w:Pr,w∈prP t->Pu 173 [.agg (prL w)] (.ret (.int .i64 (pcE w))))(hNp:(tpPs t).length<=100000000)(e:Ext)(hN:(prP t).length<=1000000000):(Ob.loop 68 (loopF f123 1) (pn1_I t 0  e) (pn1_q t e (pn1_f  (List.drop 0 ((prP t))))).1 (pn1_q t e (pn1_f  (List.drop 0 ((prP t))))).2).ok prog:=by
 refine rng ((prP t).length) (fun j _=>pn1_I t j  e) (fun i _=>pn1_f  (List.drop i ((prP t)))) (pn1_q t e) (fun i _=>True) kR ?_ () trivial
 rintro i u hi -
 rcases Nat.lt_or_ge i ((prP t).length) with hlt | hge
 ·have hd:=drop_at hlt
  by_cases h0:psz_r0 (List.getD (prP t) i default)=true
  ·exact lN mdT [dt ((i:Int)<((prP t).length:Int)),am ((0:Int)<=(i:Int)/\(i:Int)<((prL (tpP t)::Pr.cs (tpPs t)).length:Int)) (by (simp only [List.length_map,List.length_append,List.length_cons,List.length_nil,nmsC_len,Pr.cs_len,Tp.cs_len,Pm.cs_len,Ex.cs_len,Al.cs_len,Vr.cs_len,Cn.cs_len,Da.cs_len,Cl.cs_len,Bo.cs_len,Df.cs_len,In.cs_len,Cs.cs_len,Ms.cs_len,Qu.cs_len,Sy.cs_len,Ho.cs_len,Int.toNat_natCast,Bool.cond_true_left,Bool.cond_false_right,Int.toNat_zero,tn1,plen2,plen3]; omega)),ar (List.getD (prL (tpP t)::Pr.cs (tpPs t)) (Int.toNat (i:Int)) []) (prL (List.getD (prP t) i default)) (by simp only [Int.toNat_natCast,Int.toNat_zero]; rw [@prs_at (t) (i) hlt]; try rfl),cl (@zr (List.getD (prP t) i default)),bt1 h0,wr ((i:Int)+1)] hlt () trivial (by rw [hd,pn1_f,iP h0])
  ·by_cases h1:pcE (List.getD (prP t) i default)=0
   ·exact lN mdT [dt ((i:Int)<((prP t).length:Int)),am ((0:Int)<=(i:Int)/\(i:Int)<((prL (tpP t)::Pr.cs (tpPs t)).length:Int)) (by (simp only [List.length_map,List.length_append,List.length_cons,List.length_nil,nmsC_len,Pr.cs_len,Tp.cs_len,Pm.cs_len,Ex.cs_len,Al.cs_len,Vr.cs_len,Cn.cs_len,Da.cs_len,Cl.cs_len,Bo.cs_len,Df.cs_len,In.cs_len,Cs.cs_len,Ms.cs_len,Qu.cs_len,Sy.cs_len,Ho.cs_len,Int.toNat_natCast,Bool.cond_true_left,Bool.cond_false_right,Int.toNat_zero,tn1,plen2,plen3]; omega)),ar (List.getD (prL (tpP t)::Pr.cs (tpPs t)) (Int.toNat (i:Int)) []) (prL (List.getD (prP t) i default)) (by simp only [Int.toNat_natCast,Int.toNat_zero]; rw [@prs_at (t) (i) hlt]; try rfl),cl (@zr (List.getD (prP t) i default)),bf1 (bFT h0),cl (@hwk (List.getD (prP t) i default) (by simp_all [List.length_map,List.length_append,List.length_cons,List.length_nil,nmsC_len,Pr.cs_len,Tp.cs_len,Pm.cs_len,Ex.cs_len,Al.cs_len,Vr.cs_len,Cn.cs_len,Da.cs_len,Cl.cs_len,Bo.cs_len,Df.cs_len,In.cs_len,Cs.cs_len,Ms.cs_len,Qu.cs_len,Sy.cs_len,Ho.cs_len,Int.toNat_natCast,Bool.cond_true_left,Bool.cond_false_right,Int.toNat_zero,tn1,plen2,plen3])),nn1 h1,wr ((i:Int)+1)] hlt () trivial (by rw [hd,pn1_f,iN h0,iP h1])
   ·exact lX mdT [dt ((i:Int)<((prP t).length:Int)),am ((0:Int)<=(i:Int)/\(i:Int)<((prL (tpP t)::Pr.cs (tpPs t)).length:Int)) (by (simp only [List.length_map,List.length_append,List.length_cons,List.length_nil,nmsC_len,Pr.cs_len,Tp.cs_len,Pm.cs_len,Ex.cs_len,Al.cs_len,Vr.cs_len,Cn.cs_len,Da.cs_len,Cl.cs_len,Bo.cs_len,Df.cs_len,In.cs_len,Cs.cs_len,Ms.cs_len,Qu.cs_len,Sy.cs_len,Ho.cs_len,Int.toNat_natCast,Bool.cond_true_left,Bool.cond_false_right,Int.toNat_zero,tn1,plen2,plen3]; omega)),ar (List.getD (prL (tpP t)::Pr.cs (tpPs t)) (Int.toNat (i:Int)) []) (prL (List.getD (prP t) i default)) (by simp only [Int.toNat_natCast,Int.toNat_zero]; rw [@prs_at (t) (i) hlt]; try rfl),cl (@zr (List.getD (prP t) i default)),bf1 (bFT h0),cl (@hwk (List.getD (prP t) i default) (by simp_all [List.length_map,List.length_append,List.length_cons,List.length_nil,nmsC_len,Pr.cs_len,Tp.cs_len,Pm.cs_len,Ex.cs_len,Al.cs_len,Vr.cs_len,Cn.cs_len,Da.cs_len,Cl.cs_len,Bo.cs_len,Df.cs_len,In.cs_len,Cs.cs_len,Ms.cs_len,Qu.cs_len,Sy.cs_len,Ho.cs_len,Int.toNat_natCast,Bool.cond_true_left,Bool.cond_false_right,Int.toNat_zero,tn1,plen2,plen3])),nt1 h1] (pn1_R.e0 (List.getD ((prP t)) i default)) (by rw [hd,pn1_f,iN h0,iN h1])
 ·have he:i=(prP t).length:=by omega
  exact lX mdT [df ((i:Int)<((prP t).length:Int))] (pn1_R.e1) (by rw [he,List.drop_length,pn1_f])
theorem pn1_0(t:Tp)(hq1:pr1_v33 t=false)(hNn:(tpNs t).length<=1000000000)(hq2:frE (fun s=>erN (nameB s)) (tpNs t)=0)(hq3:disB (tpNs t)=true)(hwk:∀w:Pr,w∈prP t->Pu 173 [.agg (prL w)] (.ret (.int .i64 (pcE w))))(hNp:(tpPs t).length<=100000000)(e:Ext)(hN:(prP t).length<=1000000000)(p0:Pr)(hres:(pn1_f  ((prP t)))=(pn1_R.e0 p0)):(Ob.loop 68 (loopF f123 1) (pn1_I t 0  e) (pn1_q t e (pn1_R.e0 p0)).1 (pn1_q t e (pn1_R.e0 p0)).2).ok prog:=
 rz (pn1_lp t hq1 hNn hq2 hq3 hwk hNp e hN) hres
theorem pn1_1(t:Tp)(hq1:pr1_v33 t=false)(hNn:(tpNs t).length<=1000000000)(hq2:frE (fun s=>erN (nameB s)) (tpNs t)=0)(hq3:disB (tpNs t)=true)(hwk:∀w:Pr,w∈prP t->Pu 173 [.agg (prL w)] (.ret (.int .i64 (pcE w))))(hNp:(tpPs t).length<=100000000)(e:Ext)(hN:(prP t).length<=1000000000)(hres:(pn1_f  ((prP t)))=(pn1_R.e1)):(Ob.loop 68 (loopF f123 1) (pn1_I t 0  e) (pn1_q t e (pn1_R.e1)).1 (pn1_q t e (pn1_R.e1)).2).ok prog:=
 rz (pn1_lp t hq1 hNn hq2 hq3 hwk hNp e hN) hres
def pzE(w:Pr):Int:=if psz_r0 w=true then 0 else pcE w
theorem pn1_e:∀l:List Pr,(frE pzE l=0->pn1_f l = .e1)/\(¬frE pzE l=0->∃w,pn1_f l = .e0 w/\pcE w=frE pzE l)
 | []=>⟨fun _=>rfl,fun h=>absurd rfl h⟩
 | c::r=>by
  have ih:=pn1_e r
  by_cases hz:psz_r0 c=true
  ·have e:pzE c=0:=by unfold pzE; rw [iP hz]
   simp only [frE,pn1_f,e,hz,if_true]; exact ih
  ·by_cases hp:pcE c=0
   ·have e:pzE c=0:=by unfold pzE; rw [iN hz,hp]
    simp only [frE,pn1_f,e,hz,hp,if_true,if_false]; exact ih
   ·have e:pzE c=pcE c:=by unfold pzE; rw [iN hz]
    simp only [frE,pn1_f,e,hz,hp,if_false]
    exact ⟨fun h=>h.elim,fun _=>⟨c,rfl,rfl⟩⟩
section
variable (t:Tp) (hwk:∀w:Pr,w∈prP t->Pu 173 [.agg (prL w)] (.ret (.int .i64 (pcE w)))) (hNp:(tpPs t).length<=100000000) (hNn:(tpNs t).length<=1000000000)
include t hwk hNp hNn
theorem rpL_1(hx0:pr1_v33 t=true):Pu 123 [.agg (tpL t)] (rI 1):=
 pu mdT (fun e=>[lf (S.mk [(0,.v (.agg (tpL t))),(1,.lp 1 0),(2,vI6 0)] [(1,tpV t)] e) (@pr1J (t) (e)) ⟨⟨W,W,tVv⟩,⟨⟨W,W,W,W,W,W,W,W,W,tVv⟩,tVv⟩,rfl⟩,bt1 hx0]) func123
theorem rpL_2(hx0:pr1_v33 t=false)(hx1:frE (fun s=>erN (nameB s)) (tpNs t)=0)(hx2:disB (tpNs t)=false):Pu 123 [.agg (tpL t)] (rI 4):=
 pu mdT (fun e=>[lf (S.mk [(0,.v (.agg (tpL t))),(1,.lp 1 0),(2,vI6 0)] [(1,tpV t)] e) (@pr1J (t) (e)) ⟨⟨W,W,tVv⟩,⟨⟨W,W,W,W,W,W,W,W,W,tVv⟩,tVv⟩,rfl⟩,bf1 hx0,sl (nmsC_len (tpNs t)),lp (S.mk [(1,.lp 1 0),(2,vI6 0),(33,.v (.bool (pr1_v33 t))),(34,.lp 1 3),(35,vL 1 (nmsC (tpNs t))),(36,vI6 ((tpNs t).length:Int)),(37,vI6 0)] [(1,tpV t)] e) (@pn0G (t) hx0 (e) hNn hx1) xr,cl (@dsT (tpNs t) hNn),bt1 (bnT hx2)]) func123
theorem rpL_3(hx0:pr1_v33 t=false)(hx1:frE (fun s=>erN (nameB s)) (tpNs t)=0)(hx2:disB (tpNs t)=true)(hy3:Pr)(hx4:pn1_f (prP t)=pn1_R.e0 hy3):Pu 123 [.agg (tpL t)] (rI (pcE hy3)):=
 pu mdT (fun e=>[lf (S.mk [(0,.v (.agg (tpL t))),(1,.lp 1 0),(2,vI6 0)] [(1,tpV t)] e) (@pr1J (t) (e)) ⟨⟨W,W,tVv⟩,⟨⟨W,W,W,W,W,W,W,W,W,tVv⟩,tVv⟩,rfl⟩,bf1 hx0,sl (nmsC_len (tpNs t)),lp (S.mk [(1,.lp 1 0),(2,vI6 0),(33,.v (.bool (pr1_v33 t))),(34,.lp 1 3),(35,vL 1 (nmsC (tpNs t))),(36,vI6 ((tpNs t).length:Int)),(37,vI6 0)] [(1,tpV t)] e) (@pn0G (t) hx0 (e) hNn hx1) xr,cl (@dsT (tpNs t) hNn),bf1 (bnF hx2),am (List.length ([prL (tpP t)]++(fun x=>Prod.snd x) (4,Pr.cs (tpPs t))) * (55+1)<=140737488355328) (by (simp only [List.length_append,List.length_cons,List.length_nil,Pr.cs_len]; omega)),ai (↑((fun x=>List.length (Prod.snd x)) (3+1,[prL (tpP t)]++(fun x=>Prod.snd x) (4,Pr.cs (tpPs t)))):Int) ((prP t).length:Int) (by (simp only [List.length_append,List.length_cons,List.length_nil,Pr.cs_len,plen2,plen3]; done)),lp (S.mk [(1,.lp 1 0),(2,vI6 0),(35,vL 1 (nmsC (tpNs t))),(36,vI6 ((tpNs t).length:Int)),(45,.lp 1 3),(46,vL 1 (nmsC (tpNs t))),(47,.v (.bool (disB (tpNs t)))),(48,.v (.bool !disB (tpNs t))),(49,.lp 1 4),(50,.v (.agg (prL (tpP t)))),(51,LV.full 4 [prL (tpP t)]),(52,.lp 1 8),(53,vL 4 (Pr.cs (tpPs t))),(54,.uniq 41 4 (prL (tpP t)::List.append [] (Pr.cs (tpPs t)))),(55,vI6 ((prP t).length:Int)),(56,vI6 0)] [(1,tpV t)] e) (@pn1_0 (t) hx0 hNn hx1 hx2 hwk hNp (e) (by (apply prP_le <;> first | assumption | omega | decide)) hy3 hx4) ⟨⟨W,(by first | exact .inl rfl | exact .inr ⟨rfl,rfl⟩ | exact .inr rfl | exact .inr trivial | exact .inl (by first | (simp only [List.nil_append,nmsC_app,nmsC_snoc,Pr.cs_snoc,Tp.cs_snoc,Ex.cs_snoc,Vr.cs_snoc,Df.cs_snoc]; done) | (simp only [List.nil_append,nmsC_app,nmsC_snoc,Pr.cs_snoc,Tp.cs_snoc,Ex.cs_snoc,Vr.cs_snoc,Df.cs_snoc]; rfl))),W,W,tVv⟩,trivial,rfl⟩]) func123
theorem rpL_4(hx0:pr1_v33 t=false)(hx1:frE (fun s=>erN (nameB s)) (tpNs t)=0)(hx2:disB (tpNs t)=true)(hx3:pn1_f (prP t)=pn1_R.e1):Pu 123 [.agg (tpL t)] (rI 0):=
 pu mdT (fun e=>[lf (S.mk [(0,.v (.agg (tpL t))),(1,.lp 1 0),(2,vI6 0)] [(1,tpV t)] e) (@pr1J (t) (e)) ⟨⟨W,W,tVv⟩,⟨⟨W,W,W,W,W,W,W,W,W,tVv⟩,tVv⟩,rfl⟩,bf1 hx0,sl (nmsC_len (tpNs t)),lp (S.mk [(1,.lp 1 0),(2,vI6 0),(33,.v (.bool (pr1_v33 t))),(34,.lp 1 3),(35,vL 1 (nmsC (tpNs t))),(36,vI6 ((tpNs t).length:Int)),(37,vI6 0)] [(1,tpV t)] e) (@pn0G (t) hx0 (e) hNn hx1) xr,cl (@dsT (tpNs t) hNn),bf1 (bnF hx2),am (List.length ([prL (tpP t)]++(fun x=>Prod.snd x) (4,Pr.cs (tpPs t))) * (55+1)<=140737488355328) (by (simp only [List.length_append,List.length_cons,List.length_nil,Pr.cs_len]; omega)),ai (↑((fun x=>List.length (Prod.snd x)) (3+1,[prL (tpP t)]++(fun x=>Prod.snd x) (4,Pr.cs (tpPs t)))):Int) ((prP t).length:Int) (by (simp only [List.length_append,List.length_cons,List.length_nil,Pr.cs_len,plen2,plen3]; done)),lp (S.mk [(1,.lp 1 0),(2,vI6 0),(35,vL 1 (nmsC (tpNs t))),(36,vI6 ((tpNs t).length:Int)),(45,.lp 1 3),(46,vL 1 (nmsC (tpNs t))),(47,.v (.bool (disB (tpNs t)))),(48,.v (.bool !disB (tpNs t))),(49,.lp 1 4),(50,.v (.agg (prL (tpP t)))),(51,LV.full 4 [prL (tpP t)]),(52,.lp 1 8),(53,vL 4 (Pr.cs (tpPs t))),(54,.uniq 41 4 (prL (tpP t)::List.append [] (Pr.cs (tpPs t)))),(55,vI6 ((prP t).length:Int)),(56,vI6 0)] [(1,tpV t)] e) (@pn1_1 (t) hx0 hNn hx1 hx2 hwk hNp (e) (by (apply prP_le <;> first | assumption | omega | decide)) hx3) ⟨⟨W,(by first | exact .inl rfl | exact .inr ⟨rfl,rfl⟩ | exact .inr rfl | exact .inr trivial | exact .inl (by first | (simp only [List.nil_append,nmsC_app,nmsC_snoc,Pr.cs_snoc,Tp.cs_snoc,Ex.cs_snoc,Vr.cs_snoc,Df.cs_snoc]; done) | (simp only [List.nil_append,nmsC_app,nmsC_snoc,Pr.cs_snoc,Tp.cs_snoc,Ex.cs_snoc,Vr.cs_snoc,Df.cs_snoc]; rfl))),W,W,tVv⟩,trivial,rfl⟩]) func123
theorem rpL_5(hx0:pr1_v33 t=false)(hx1:¬frE (fun s=>erN (nameB s)) (tpNs t)=0):Pu 123 [.agg (tpL t)] (rI 3):=
 pu mdT (fun e=>[lf (S.mk [(0,.v (.agg (tpL t))),(1,.lp 1 0),(2,vI6 0)] [(1,tpV t)] e) (@pr1J (t) (e)) ⟨⟨W,W,tVv⟩,⟨⟨W,W,W,W,W,W,W,W,W,tVv⟩,tVv⟩,rfl⟩,bf1 hx0,sl (nmsC_len (tpNs t)),lp (S.mk [(1,.lp 1 0),(2,vI6 0),(33,.v (.bool (pr1_v33 t))),(34,.lp 1 3),(35,vL 1 (nmsC (tpNs t))),(36,vI6 ((tpNs t).length:Int)),(37,vI6 0)] [(1,tpV t)] e) (@pn0B (t) hx0 (e) hNn hx1) xr]) func123
end
def rpE(t:Tp):Int:=if pr1_v33 t=true then 1 else if frE (fun s=>erN (nameB s)) (tpNs t)=0 then (if disB (tpNs t)=false then 4 else frE pzE (prP t)) else 3
theorem rpT(t:Tp)(hs:bulkPs (tpL t)<=100000000):Pu 123 [.agg (tpL t)] (.ret (.int .i64 (rpE t))):=by
 have h1:=tpw_bulk t
 have h2:=Pr.bulk (tpPs t)
 have hk:∀w:Pr,w∈prP t->Pu 173 [.agg (prL w)] (.ret (.int .i64 (pcE w))):=fun w hw=>pcT w (by have:=prP_bulk hw; omega)
 have hn:(tpNs t).length<=1000000000:=by have:=nms_bulk (tpNs t); have h8:bulkPss (nmsC (tpNs t))<bulkPs (tpL t):=(by simp only [bulkPs,bulkP]; omega); omega
 unfold rpE
 cases h0:pr1_v33 t with
 | true=>rw [iP rfl]; exact rpL_1 t hk oM hn h0
 | false=>
  rw [iN dD]
  by_cases h3:frE (fun s=>erN (nameB s)) (tpNs t)=0
  ·rw [iP h3]
   cases h4:disB (tpNs t) with
   | false=>rw [iP rfl]; exact rpL_2 t hk oM hn h0 h3 h4
   | true=>
    rw [iN dD]
    by_cases h5:frE pzE (prP t)=0
    ·rw [h5]; exact rpL_4 t hk oM hn h0 h3 h4 ((pn1_e _).1 h5)
    ·obtain ⟨w,e1,e2⟩:=(pn1_e _).2 h5
     rw [<-e2]; exact rpL_3 t hk oM hn h0 h3 h4 w e1
  ·rw [iN h3]; exact rpL_5 t hk oM hn h0 h3
abbrev ps0_I(t:Tp)(pf:Tp->Int)(j:Int)(e:Ext):S:=S.mk [(2,vI6 0),(13,vL 9 (Tp.cs (tpA t))),(14,vI6 ((tpA t).length:Int)),(15,vI6 j)] [] e
inductive ps0_R where
 | e0 (el:Tp)
 | e1
def ps0_f(pf:Tp->Int):List Tp->ps0_R
 | []=>(ps0_R.e1)
 | el::r=>(if pf el=0 then ps0_f pf r  else (ps0_R.e0 el))
def ps0_q(t:Tp)(pf:Tp->Int)(e:Ext):ps0_R->PExit × S
 | .e0 el=>(.ret,S.mk [(2,vI6 (pf el)),(13,vL 9 (Tp.cs (tpA t))),(14,vI6 ((tpA t).length:Int))] [] e)
 | .e1=>(.exit 0,S.mk [(2,vI6 0),(13,vL 9 (Tp.cs (tpA t))),(14,vI6 ((tpA t).length:Int))] [] e)
theorem ps0_lp(t:Tp)(pf:Tp->Int)(hwk:∀w:Tp,w∈tpA t->Pu 71 [.agg (tpL w)] (.ret (.int .i64 (pf w))))(hsz:bulkPs (tpL t)<=100000000)(hq1:rpE t=0)(e:Ext)(hN:(tpA t).length<=1000000000):(Ob.loop 25 (loopF f71 0) (ps0_I t pf 0  e) (ps0_q t pf e (ps0_f pf (List.drop 0 ((tpA t))))).1 (ps0_q t pf e (ps0_f pf (List.drop 0 ((tpA t))))).2).ok prog:=by
 refine rng ((tpA t).length) (fun j _=>ps0_I t pf j  e) (fun i _=>ps0_f pf (List.drop i ((tpA t)))) (ps0_q t pf e) (fun i _=>True) kR ?_ () trivial
 rintro i u hi -
 rcases Nat.lt_or_ge i ((tpA t).length) with hlt | hge
 ·have hd:=drop_at hlt
  by_cases h0:pf (List.getD (tpA t) i default)=0
  ·exact lN mdL [dt ((i:Int)<((tpA t).length:Int)),am ((0:Int)<=(i:Int)/\(i:Int)<((Tp.cs (tpA t)).length:Int)) (by (simp only [Tp.cs_len]; omega)),ar (List.getD (Tp.cs (tpA t)) (Int.toNat (i:Int)) []) (tpL (List.getD (tpA t) i default)) (by simp only [Int.toNat_natCast,Int.toNat_zero]; rw [@Tp.cs_at (tpA t) (i) hlt]; try rfl),cl (@hwk (List.getD (tpA t) i default) (by simp_all [List.length_map,List.length_append,List.length_cons,List.length_nil,nmsC_len,Pr.cs_len,Tp.cs_len,Pm.cs_len,Ex.cs_len,Al.cs_len,Vr.cs_len,Cn.cs_len,Da.cs_len,Cl.cs_len,Bo.cs_len,Df.cs_len,In.cs_len,Cs.cs_len,Ms.cs_len,Qu.cs_len,Sy.cs_len,Ho.cs_len,Int.toNat_natCast,Bool.cond_true_left,Bool.cond_false_right,Int.toNat_zero,tn1])),nn1 h0,wr ((i:Int)+1)] hlt () trivial (by rw [hd,ps0_f,iP h0])
  ·exact lX mdL [dt ((i:Int)<((tpA t).length:Int)),am ((0:Int)<=(i:Int)/\(i:Int)<((Tp.cs (tpA t)).length:Int)) (by (simp only [Tp.cs_len]; omega)),ar (List.getD (Tp.cs (tpA t)) (Int.toNat (i:Int)) []) (tpL (List.getD (tpA t) i default)) (by simp only [Int.toNat_natCast,Int.toNat_zero]; rw [@Tp.cs_at (tpA t) (i) hlt]; try rfl),cl (@hwk (List.getD (tpA t) i default) (by simp_all [List.length_map,List.length_append,List.length_cons,List.length_nil,nmsC_len,Pr.cs_len,Tp.cs_len,Pm.cs_len,Ex.cs_len,Al.cs_len,Vr.cs_len,Cn.cs_len,Da.cs_len,Cl.cs_len,Bo.cs_len,Df.cs_len,In.cs_len,Cs.cs_len,Ms.cs_len,Qu.cs_len,Sy.cs_len,Ho.cs_len,Int.toNat_natCast,Bool.cond_true_left,Bool.cond_false_right,Int.toNat_zero,tn1])),nt1 h0] (ps0_R.e0 (List.getD ((tpA t)) i default)) (by rw [hd,ps0_f,iN h0])
 ·have he:i=(tpA t).length:=by omega
  exact lX mdL [df ((i:Int)<((tpA t).length:Int))] (ps0_R.e1) (by rw [he,List.drop_length,ps0_f])
theorem ps0_0(t:Tp)(pf:Tp->Int)(hwk:∀w:Tp,w∈tpA t->Pu 71 [.agg (tpL w)] (.ret (.int .i64 (pf w))))(hsz:bulkPs (tpL t)<=100000000)(hq1:rpE t=0)(e:Ext)(hN:(tpA t).length<=1000000000)(p0:Tp)(hres:(ps0_f pf ((tpA t)))=(ps0_R.e0 p0)):(Ob.loop 25 (loopF f71 0) (ps0_I t pf 0  e) (ps0_q t pf e (ps0_R.e0 p0)).1 (ps0_q t pf e (ps0_R.e0 p0)).2).ok prog:=
 rz (ps0_lp t pf hwk hsz hq1 e hN) hres
theorem ps0_1(t:Tp)(pf:Tp->Int)(hwk:∀w:Tp,w∈tpA t->Pu 71 [.agg (tpL w)] (.ret (.int .i64 (pf w))))(hsz:bulkPs (tpL t)<=100000000)(hq1:rpE t=0)(e:Ext)(hN:(tpA t).length<=1000000000)(hres:(ps0_f pf ((tpA t)))=(ps0_R.e1)):(Ob.loop 25 (loopF f71 0) (ps0_I t pf 0  e) (ps0_q t pf e (ps0_R.e1)).1 (ps0_q t pf e (ps0_R.e1)).2).ok prog:=
 rz (ps0_lp t pf hwk hsz hq1 e hN) hres
theorem ps0_e(pf:Tp->Int):∀l:List Tp,(frE pf l=0->ps0_f pf l = .e1)/\(¬frE pf l=0->∃w,ps0_f pf l = .e0 w/\pf w=frE pf l)
 | []=>⟨fun _=>rfl,fun h=>absurd rfl h⟩
 | c::r=>by
  have ih:=ps0_e pf r
  by_cases hp:pf c=0
  ·simp only [frE,ps0_f,hp,if_true]; exact ih
  ·simp only [frE,ps0_f,hp,if_false]
   exact ⟨fun h=>h.elim,fun _=>⟨c,rfl,rfl⟩⟩
section
variable (t:Tp) (pf:Tp->Int) (hwk:∀w:Tp,w∈tpA t->Pu 71 [.agg (tpL w)] (.ret (.int .i64 (pf w)))) (hsz:bulkPs (tpL t)<=100000000) (hNa:(tpA t).length<=1000000000)
include t pf hwk hsz hNa
theorem psL_1(hx0:¬rpE t=0):Pu 71 [.agg (tpL t)] (rI (rpE t)):=
 pm mdL [cl (@rpT (t) hsz),nt1 hx0] func71
theorem psL_2(hx0:rpE t=0)(hy1:Tp)(hx2:ps0_f pf (tpA t)=ps0_R.e0 hy1):Pu 71 [.agg (tpL t)] (rI (pf hy1)):=
 pu mdL (fun e=>[cl (@rpT (t) hsz),nn1 hx0,sl (Tp.cs_len (tpA t)),lp (S.mk [(0,.v (.agg (tpL t))),(1,.lp 1 0),(2,vI6 0),(7,.v (.agg (tpL t))),(8,vI6 (rpE t)),(3,vI6 (rpE t)),(9,vI6 (rpE t)),(10,.v (.bool (rpE t != 0))),(12,.lp 1 2),(13,vL 9 (Tp.cs (tpA t))),(14,vI6 ((tpA t).length:Int)),(15,vI6 0)] [(1,tpV t)] e) (@ps0_0 (t) (pf) hwk hsz hx0 (e) hNa hy1 hx2) xr]) func71
theorem psL_3(hx0:rpE t=0)(hx1:ps0_f pf (tpA t)=ps0_R.e1):Pu 71 [.agg (tpL t)] (rI 0):=
 pu mdL (fun e=>[cl (@rpT (t) hsz),nn1 hx0,sl (Tp.cs_len (tpA t)),lp (S.mk [(0,.v (.agg (tpL t))),(1,.lp 1 0),(2,vI6 0),(7,.v (.agg (tpL t))),(8,vI6 (rpE t)),(3,vI6 (rpE t)),(9,vI6 (rpE t)),(10,.v (.bool (rpE t != 0))),(12,.lp 1 2),(13,vL 9 (Tp.cs (tpA t))),(14,vI6 ((tpA t).length:Int)),(15,vI6 0)] [(1,tpV t)] e) (@ps0_1 (t) (pf) hwk hsz hx0 (e) hNa hx1) xr]) func71
end
def rsD:Nat->Tp->Int
 | 0,_=>0
 | d+1,t=>if rpE t=0 then frE (rsD d) (tpA t) else rpE t
theorem rs_ok:∀ (d:Nat) (t:Tp),bulkPs (tpL t)<d->d<=100000001->Pu 71 [.agg (tpL t)] (.ret (.int .i64 (rsD d t)))
 | 0,_,h,_=>by omega
 | d+1,t,h,hd=>by
  have h1:=tpw_bulk t
  have h3:=Tp.bulk (tpA t)
  have ht:∀w:Tp,w∈tpA t->Pu 71 [.agg (tpL w)] (.ret (.int .i64 (rsD d w))):=fun w hw=>rs_ok d w (by have:=Tp.mem hw; omega) oM
  rw [rsD]
  by_cases h0:rpE t=0
  ·rw [iP h0]
   by_cases h5:frE (rsD d) (tpA t)=0
   ·rw [h5]; exact psL_3 t _ ht oM oM h0 ((ps0_e _ _).1 h5)
   ·obtain ⟨w,e1,e2⟩:=(ps0_e _ _).2 h5
    rw [<-e2]; exact psL_2 t _ ht oM oM h0 w e1
  ·rw [iN h0]; exact psL_1 t _ ht oM oM h0
def rsF(t:Tp):Int:=rsD (bulkPs (tpL t)+1) t
theorem rsT(t:Tp)(hs:bulkPs (tpL t)<=100000000):Pu 71 [.agg (tpL t)] (.ret (.int .i64 (rsF t))):=rs_ok _ t oM oM
def rcS_r0(t:Tp):Int:=(if tyC_r0 t=0 then (rsF t) else (tyC_r0 t))
theorem rcS(t:Tp)(hs:bulkPs (tpL t)<=100000000):Pu 33 [.agg (tpL t)] (rI (rcS_r0 t)):=by
 by_cases h0:tyC_r0 t=0
 ·simp only [rcS_r0,iP h0]; exact pm mdL [cl (@tyC (t) hs),nn1 h0,cl (@rsT (t) hs)] func33
 ·simp only [rcS_r0,iN h0]; exact pm mdL [cl (@tyC (t) hs),nt1 h0] func33
def soE(v:Nv)(p:Pr):BA × Int:=if pcE p=0 then ofF v p else (nm0,pcE p)
theorem soT(v:Nv)(p:Pr)(hW:EnvS v)(hs:bulkPs (prL p)<=100000000):Pu 125 [.agg (nvL v),.agg (prL p)] (.ret (.tup [.str (soE v p).1,.int .i64 (soE v p).2])):=by
 have hx:noXs [.agg (nvL v),.agg (prL p)]=true:=by have h1:=noX_nv v; have h2:=pr_nx p; simp only [noXs,PV.noX,Bool.and_true,Bool.true_and] at h1 h2 ⊢; simp_all
 unfold soE
 by_cases h:pcE p=0
 ·rw [iP h]; exact Ob.pur_of_eff hx rfl (soL_2 v p hW hs h)
 ·rw [iN h]; exact Ob.pur_of_eff hx rfl (soL_1 v p hW hs h)
def sb_r0(v:Nv)(p:Pr):Int:=(if psz_r0 p=true then 0 else (if (Prod.snd (soE v p)==0 && !ByteArray.toList (Prod.fst (soE v p))==ByteArray.toList (ByteArray.mk #[66,111,111,108]))=true then 11 else (Prod.snd (soE v p))))
theorem sb(v:Nv)(p:Pr)(hW:EnvS v)(hs:bulkPs (prL p)<=100000000):Pu 74 [.agg (nvL v),.agg (prL p)] (rI (sb_r0 v p)):=by
 by_cases h0:psz_r0 p=true
 ·simp only [sb_r0,iP h0]; exact pm mdL [cl (@psz (p)),bt1 h0] func74
 ·by_cases h1:(Prod.snd (soE v p)==0 && !ByteArray.toList (Prod.fst (soE v p))==ByteArray.toList (ByteArray.mk #[66,111,111,108]))=true
  ·simp only [sb_r0,iN h0,iP h1]; exact pm mdL [cl (@psz (p)),bf1 (bFT h0),cl (@soT (v) (p) hW hs),mg,av (.v (.bool (bif Prod.snd (soE v p)==0 then !ByteArray.toList (Prod.fst (soE v p))==ByteArray.toList (ByteArray.mk #[66,111,111,108]) else false))) (.v (.bool (Prod.snd (soE v p)==0 && !ByteArray.toList (Prod.fst (soE v p))==ByteArray.toList (ByteArray.mk #[66,111,111,108])))) (by (simp only [Bool.cond_false_right]; done)),bt1 h1] func74
  ·simp only [sb_r0,iN h0,iN h1]; exact pm mdL [cl (@psz (p)),bf1 (bFT h0),cl (@soT (v) (p) hW hs),mg,av (.v (.bool (bif Prod.snd (soE v p)==0 then !ByteArray.toList (Prod.fst (soE v p))==ByteArray.toList (ByteArray.mk #[66,111,111,108]) else false))) (.v (.bool (Prod.snd (soE v p)==0 && !ByteArray.toList (Prod.fst (soE v p))==ByteArray.toList (ByteArray.mk #[66,111,111,108])))) (by (simp only [Bool.cond_false_right]; done)),bf1 (bFT h1)] func74
abbrev ek0_I(l:List Tp)(m:Mo)(v:Nv)(ff:Tp->Int)(j:Int)(e:Ext):S:=S.mk [(1,.v (.fn (.func 34) [.agg (.sl 4 (Da.cs (moD m)) :: .sl 3 (Cl.cs (moC m)) :: .sl 12 (In.cs (moI m)) :: .sl 8 (Ms.cs (moM m)) :: .sl 6 (Qu.cs (moQ m)) :: .sl 25 (Df.cs (moF m))::nvL v)] [])),(4,vI6 0),(8,vL 9 (Tp.cs l)),(9,vI6 (l.length:Int)),(10,vI6 j)] [] e
inductive ek0_R where
 | e0 (el:Tp)
 | e1
def ek0_f(ff:Tp->Int):List Tp->ek0_R
 | []=>(ek0_R.e1)
 | el::r=>(if ff el=0 then ek0_f ff r  else (ek0_R.e0 el))
def ek0_q(l:List Tp)(m:Mo)(v:Nv)(ff:Tp->Int)(e:Ext):ek0_R->PExit × S
 | .e0 el=>(.ret,S.mk [(1,.v (.fn (.func 34) [.agg (.sl 4 (Da.cs (moD m)) :: .sl 3 (Cl.cs (moC m)) :: .sl 12 (In.cs (moI m)) :: .sl 8 (Ms.cs (moM m)) :: .sl 6 (Qu.cs (moQ m)) :: .sl 25 (Df.cs (moF m))::nvL v)] [])),(4,vI6 (ff el)),(8,vL 9 (Tp.cs l)),(9,vI6 (l.length:Int))] [] e)
 | .e1=>(.exit 0,S.mk [(1,.v (.fn (.func 34) [.agg (.sl 4 (Da.cs (moD m)) :: .sl 3 (Cl.cs (moC m)) :: .sl 12 (In.cs (moI m)) :: .sl 8 (Ms.cs (moM m)) :: .sl 6 (Qu.cs (moQ m)) :: .sl 25 (Df.cs (moF m))::nvL v)] [])),(4,vI6 0),(8,vL 9 (Tp.cs l)),(9,vI6 (l.length:Int))] [] e)
theorem ek0_lp(l:List Tp)(m:Mo)(v:Nv)(ff:Tp->Int)(hwk:∀w:Tp,w∈l->Pu 34 [.agg (pcL m v),.agg (tpL w)] (.ret (.int .i64 (ff w))))(e:Ext)(hN:l.length<=1000000000):(Ob.loop 21 (loopF f73 0) (ek0_I l m v ff 0  e) (ek0_q l m v ff e (ek0_f ff (List.drop 0 (l)))).1 (ek0_q l m v ff e (ek0_f ff (List.drop 0 (l)))).2).ok prog:=by
 refine rng l.length (fun j _=>ek0_I l m v ff j  e) (fun i _=>ek0_f ff (List.drop i (l))) (ek0_q l m v ff e) (fun i _=>True) kR ?_ () trivial
 rintro i u hi -
 rcases Nat.lt_or_ge i (l.length) with hlt | hge
 ·have hd:=drop_at hlt
  by_cases h0:ff (List.getD l i default)=0
  ·exact lN mdL [dt ((i:Int)<(l.length:Int)),am ((0:Int)<=(i:Int)/\(i:Int)<((Tp.cs l).length:Int)) (by (simp only [Tp.cs_len]; omega)),ar (List.getD (Tp.cs l) (Int.toNat (i:Int)) []) (tpL (List.getD l i default)) (by simp only [Int.toNat_natCast,Int.toNat_zero]; rw [@Tp.cs_at (l) (i) hlt]; try rfl),cl (@hwk (List.getD l i default) (by simp_all [List.length_map,List.length_append,List.length_cons,List.length_nil,nmsC_len,Pr.cs_len,Tp.cs_len,Pm.cs_len,Ex.cs_len,Al.cs_len,Vr.cs_len,Cn.cs_len,Da.cs_len,Cl.cs_len,Bo.cs_len,Df.cs_len,In.cs_len,Cs.cs_len,Ms.cs_len,Qu.cs_len,Sy.cs_len,Ho.cs_len,Int.toNat_natCast,Bool.cond_true_left,Bool.cond_false_right,Int.toNat_zero])),nn1 h0,wr ((i:Int)+1)] hlt () trivial (by rw [hd,ek0_f,iP h0])
  ·exact lX mdL [dt ((i:Int)<(l.length:Int)),am ((0:Int)<=(i:Int)/\(i:Int)<((Tp.cs l).length:Int)) (by (simp only [Tp.cs_len]; omega)),ar (List.getD (Tp.cs l) (Int.toNat (i:Int)) []) (tpL (List.getD l i default)) (by simp only [Int.toNat_natCast,Int.toNat_zero]; rw [@Tp.cs_at (l) (i) hlt]; try rfl),cl (@hwk (List.getD l i default) (by simp_all [List.length_map,List.length_append,List.length_cons,List.length_nil,nmsC_len,Pr.cs_len,Tp.cs_len,Pm.cs_len,Ex.cs_len,Al.cs_len,Vr.cs_len,Cn.cs_len,Da.cs_len,Cl.cs_len,Bo.cs_len,Df.cs_len,In.cs_len,Cs.cs_len,Ms.cs_len,Qu.cs_len,Sy.cs_len,Ho.cs_len,Int.toNat_natCast,Bool.cond_true_left,Bool.cond_false_right,Int.toNat_zero])),nt1 h0] (ek0_R.e0 (List.getD (l) i default)) (by rw [hd,ek0_f,iN h0])
 ·have he:i=l.length:=by omega
  exact lX mdL [df ((i:Int)<(l.length:Int))] (ek0_R.e1) (by rw [he,List.drop_length,ek0_f])
theorem ek0_0(l:List Tp)(m:Mo)(v:Nv)(ff:Tp->Int)(hwk:∀w:Tp,w∈l->Pu 34 [.agg (pcL m v),.agg (tpL w)] (.ret (.int .i64 (ff w))))(e:Ext)(hN:l.length<=1000000000)(p0:Tp)(hres:(ek0_f ff (l))=(ek0_R.e0 p0)):(Ob.loop 21 (loopF f73 0) (ek0_I l m v ff 0  e) (ek0_q l m v ff e (ek0_R.e0 p0)).1 (ek0_q l m v ff e (ek0_R.e0 p0)).2).ok prog:=
 rz (ek0_lp l m v ff hwk e hN) hres
theorem ek0_1(l:List Tp)(m:Mo)(v:Nv)(ff:Tp->Int)(hwk:∀w:Tp,w∈l->Pu 34 [.agg (pcL m v),.agg (tpL w)] (.ret (.int .i64 (ff w))))(e:Ext)(hN:l.length<=1000000000)(hres:(ek0_f ff (l))=(ek0_R.e1)):(Ob.loop 21 (loopF f73 0) (ek0_I l m v ff 0  e) (ek0_q l m v ff e (ek0_R.e1)).1 (ek0_q l m v ff e (ek0_R.e1)).2).ok prog:=
 rz (ek0_lp l m v ff hwk e hN) hres
theorem ek0_e(ff:Tp->Int):∀l:List Tp,(frE ff l=0->ek0_f ff l = .e1)/\(¬frE ff l=0->∃w,ek0_f ff l = .e0 w/\ff w=frE ff l)
 | []=>⟨fun _=>rfl,fun h=>absurd rfl h⟩
 | c::r=>by
  have ih:=ek0_e ff r
  by_cases hp:ff c=0
  ·simp only [frE,ek0_f,hp,if_true]; exact ih
  ·simp only [frE,ek0_f,hp,if_false]
   exact ⟨fun h=>h.elim,fun _=>⟨c,rfl,rfl⟩⟩
theorem ekL_2(l:List Tp)(m:Mo)(v:Nv)(ff:Tp->Int)(hwk:∀w:Tp,w∈l->Pu 34 [.agg (pcL m v),.agg (tpL w)] (.ret (.int .i64 (ff w))))(hNl:l.length<=1000000000)(hx0:ek0_f ff l=ek0_R.e1):Pu 73 [.sl 9 (Tp.cs l),.fn (.func 34) [.agg (pcL m v)] []] (rI 0):=
 pu mdL (fun e=>[sl (Tp.cs_len l),lp (S.mk [(0,vL 9 (Tp.cs l)),(1,.v (.fn (.func 34) [.agg (.sl 4 (Da.cs (moD m)) :: .sl 3 (Cl.cs (moC m)) :: .sl 12 (In.cs (moI m)) :: .sl 8 (Ms.cs (moM m)) :: .sl 6 (Qu.cs (moQ m)) :: .sl 25 (Df.cs (moF m))::nvL v)] [])),(4,vI6 0),(8,vL 9 (Tp.cs l)),(9,vI6 (l.length:Int)),(10,vI6 0)] [] e) (@ek0_1 (l) (m) (v) (ff) hwk (e) hNl hx0) xr]) func73
theorem ekT(l:List Tp)(m:Mo)(v:Nv)(ff:Tp->Int)(hwk:∀w:Tp,w∈l->Pu 34 [.agg (pcL m v),.agg (tpL w)] (.ret (.int .i64 (ff w))))(hNl:l.length<=1000000000):Pu 73 [.sl 9 (Tp.cs l),.fn (.func 34) [.agg (pcL m v)] []] (.ret (.int .i64 (frE ff l))):=by
 by_cases h5:frE ff l=0
 ·rw [h5]; exact ekL_2 l m v ff hwk hNl ((ek0_e _ _).1 h5)
 ·obtain ⟨w,e1,e2⟩:=(ek0_e _ _).2 h5
  rw [<-e2]; exact pu mdL (fun e=>[sl (Tp.cs_len l),lp (S.mk [(0,vL 9 (Tp.cs l)),(1,.v (.fn (.func 34) [.agg (.sl 4 (Da.cs (moD m)) :: .sl 3 (Cl.cs (moC m)) :: .sl 12 (In.cs (moI m)) :: .sl 8 (Ms.cs (moM m)) :: .sl 6 (Qu.cs (moQ m)) :: .sl 25 (Df.cs (moF m))::nvL v)] [])),(4,vI6 0),(8,vL 9 (Tp.cs l)),(9,vI6 (l.length:Int)),(10,vI6 0)] [] e) (@ek0_0 (l) (m) (v) (ff) hwk (e) hNl w e1) xr]) func73
abbrev et0_I(l:List Tp)(m:Mo)(v:Nv)(ff:Tp->Int)(j:Int)(e:Ext):S:=S.mk [(1,.v (.fn (.func 35) [.agg (.sl 4 (Da.cs (moD m)) :: .sl 3 (Cl.cs (moC m)) :: .sl 12 (In.cs (moI m)) :: .sl 8 (Ms.cs (moM m)) :: .sl 6 (Qu.cs (moQ m)) :: .sl 25 (Df.cs (moF m))::nvL v)] [])),(4,vI6 0),(8,vL 9 (Tp.cs l)),(9,vI6 (l.length:Int)),(10,vI6 j)] [] e
inductive et0_R where
 | e0 (el:Tp)
 | e1
def et0_f(ff:Tp->Int):List Tp->et0_R
 | []=>(et0_R.e1)
 | el::r=>(if ff el=0 then et0_f ff r  else (et0_R.e0 el))
def et0_q(l:List Tp)(m:Mo)(v:Nv)(ff:Tp->Int)(e:Ext):et0_R->PExit × S
 | .e0 el=>(.ret,S.mk [(1,.v (.fn (.func 35) [.agg (.sl 4 (Da.cs (moD m)) :: .sl 3 (Cl.cs (moC m)) :: .sl 12 (In.cs (moI m)) :: .sl 8 (Ms.cs (moM m)) :: .sl 6 (Qu.cs (moQ m)) :: .sl 25 (Df.cs (moF m))::nvL v)] [])),(4,vI6 (ff el)),(8,vL 9 (Tp.cs l)),(9,vI6 (l.length:Int))] [] e)
 | .e1=>(.exit 0,S.mk [(1,.v (.fn (.func 35) [.agg (.sl 4 (Da.cs (moD m)) :: .sl 3 (Cl.cs (moC m)) :: .sl 12 (In.cs (moI m)) :: .sl 8 (Ms.cs (moM m)) :: .sl 6 (Qu.cs (moQ m)) :: .sl 25 (Df.cs (moF m))::nvL v)] [])),(4,vI6 0),(8,vL 9 (Tp.cs l)),(9,vI6 (l.length:Int))] [] e)
theorem et0_lp(l:List Tp)(m:Mo)(v:Nv)(ff:Tp->Int)(hwk:∀w:Tp,w∈l->Pu 35 [.agg (pcL m v),.agg (tpL w)] (.ret (.int .i64 (ff w))))(e:Ext)(hN:l.length<=1000000000):(Ob.loop 21 (loopF f73 0) (et0_I l m v ff 0  e) (et0_q l m v ff e (et0_f ff (List.drop 0 (l)))).1 (et0_q l m v ff e (et0_f ff (List.drop 0 (l)))).2).ok prog:=by
 refine rng l.length (fun j _=>et0_I l m v ff j  e) (fun i _=>et0_f ff (List.drop i (l))) (et0_q l m v ff e) (fun i _=>True) kR ?_ () trivial
 rintro i u hi -
 rcases Nat.lt_or_ge i (l.length) with hlt | hge
 ·have hd:=drop_at hlt
  by_cases h0:ff (List.getD l i default)=0
  ·exact lN mdL [dt ((i:Int)<(l.length:Int)),am ((0:Int)<=(i:Int)/\(i:Int)<((Tp.cs l).length:Int)) (by (simp only [Tp.cs_len]; omega)),ar (List.getD (Tp.cs l) (Int.toNat (i:Int)) []) (tpL (List.getD l i default)) (by simp only [Int.toNat_natCast,Int.toNat_zero]; rw [@Tp.cs_at (l) (i) hlt]; try rfl),cl (@hwk (List.getD l i default) (by simp_all [List.length_map,List.length_append,List.length_cons,List.length_nil,nmsC_len,Pr.cs_len,Tp.cs_len,Pm.cs_len,Ex.cs_len,Al.cs_len,Vr.cs_len,Cn.cs_len,Da.cs_len,Cl.cs_len,Bo.cs_len,Df.cs_len,In.cs_len,Cs.cs_len,Ms.cs_len,Qu.cs_len,Sy.cs_len,Ho.cs_len,Int.toNat_natCast,Bool.cond_true_left,Bool.cond_false_right,Int.toNat_zero])),nn1 h0,wr ((i:Int)+1)] hlt () trivial (by rw [hd,et0_f,iP h0])
  ·exact lX mdL [dt ((i:Int)<(l.length:Int)),am ((0:Int)<=(i:Int)/\(i:Int)<((Tp.cs l).length:Int)) (by (simp only [Tp.cs_len]; omega)),ar (List.getD (Tp.cs l) (Int.toNat (i:Int)) []) (tpL (List.getD l i default)) (by simp only [Int.toNat_natCast,Int.toNat_zero]; rw [@Tp.cs_at (l) (i) hlt]; try rfl),cl (@hwk (List.getD l i default) (by simp_all [List.length_map,List.length_append,List.length_cons,List.length_nil,nmsC_len,Pr.cs_len,Tp.cs_len,Pm.cs_len,Ex.cs_len,Al.cs_len,Vr.cs_len,Cn.cs_len,Da.cs_len,Cl.cs_len,Bo.cs_len,Df.cs_len,In.cs_len,Cs.cs_len,Ms.cs_len,Qu.cs_len,Sy.cs_len,Ho.cs_len,Int.toNat_natCast,Bool.cond_true_left,Bool.cond_false_right,Int.toNat_zero])),nt1 h0] (et0_R.e0 (List.getD (l) i default)) (by rw [hd,et0_f,iN h0])
 ·have he:i=l.length:=by omega
  exact lX mdL [df ((i:Int)<(l.length:Int))] (et0_R.e1) (by rw [he,List.drop_length,et0_f])
theorem et0_0(l:List Tp)(m:Mo)(v:Nv)(ff:Tp->Int)(hwk:∀w:Tp,w∈l->Pu 35 [.agg (pcL m v),.agg (tpL w)] (.ret (.int .i64 (ff w))))(e:Ext)(hN:l.length<=1000000000)(p0:Tp)(hres:(et0_f ff (l))=(et0_R.e0 p0)):(Ob.loop 21 (loopF f73 0) (et0_I l m v ff 0  e) (et0_q l m v ff e (et0_R.e0 p0)).1 (et0_q l m v ff e (et0_R.e0 p0)).2).ok prog:=
 rz (et0_lp l m v ff hwk e hN) hres
theorem et0_1(l:List Tp)(m:Mo)(v:Nv)(ff:Tp->Int)(hwk:∀w:Tp,w∈l->Pu 35 [.agg (pcL m v),.agg (tpL w)] (.ret (.int .i64 (ff w))))(e:Ext)(hN:l.length<=1000000000)(hres:(et0_f ff (l))=(et0_R.e1)):(Ob.loop 21 (loopF f73 0) (et0_I l m v ff 0  e) (et0_q l m v ff e (et0_R.e1)).1 (et0_q l m v ff e (et0_R.e1)).2).ok prog:=
 rz (et0_lp l m v ff hwk e hN) hres
theorem et0_e(ff:Tp->Int):∀l:List Tp,(frE ff l=0->et0_f ff l = .e1)/\(¬frE ff l=0->∃w,et0_f ff l = .e0 w/\ff w=frE ff l)
 | []=>⟨fun _=>rfl,fun h=>absurd rfl h⟩
 | c::r=>by
  have ih:=et0_e ff r
  by_cases hp:ff c=0
  ·simp only [frE,et0_f,hp,if_true]; exact ih
  ·simp only [frE,et0_f,hp,if_false]
   exact ⟨fun h=>h.elim,fun _=>⟨c,rfl,rfl⟩⟩
theorem etL_2(l:List Tp)(m:Mo)(v:Nv)(ff:Tp->Int)(hwk:∀w:Tp,w∈l->Pu 35 [.agg (pcL m v),.agg (tpL w)] (.ret (.int .i64 (ff w))))(hNl:l.length<=1000000000)(hx0:et0_f ff l=et0_R.e1):Pu 73 [.sl 9 (Tp.cs l),.fn (.func 35) [.agg (pcL m v)] []] (rI 0):=
 pu mdL (fun e=>[sl (Tp.cs_len l),lp (S.mk [(0,vL 9 (Tp.cs l)),(1,.v (.fn (.func 35) [.agg (.sl 4 (Da.cs (moD m)) :: .sl 3 (Cl.cs (moC m)) :: .sl 12 (In.cs (moI m)) :: .sl 8 (Ms.cs (moM m)) :: .sl 6 (Qu.cs (moQ m)) :: .sl 25 (Df.cs (moF m))::nvL v)] [])),(4,vI6 0),(8,vL 9 (Tp.cs l)),(9,vI6 (l.length:Int)),(10,vI6 0)] [] e) (@et0_1 (l) (m) (v) (ff) hwk (e) hNl hx0) xr]) func73
theorem etT(l:List Tp)(m:Mo)(v:Nv)(ff:Tp->Int)(hwk:∀w:Tp,w∈l->Pu 35 [.agg (pcL m v),.agg (tpL w)] (.ret (.int .i64 (ff w))))(hNl:l.length<=1000000000):Pu 73 [.sl 9 (Tp.cs l),.fn (.func 35) [.agg (pcL m v)] []] (.ret (.int .i64 (frE ff l))):=by
 by_cases h5:frE ff l=0
 ·rw [h5]; exact etL_2 l m v ff hwk hNl ((et0_e _ _).1 h5)
 ·obtain ⟨w,e1,e2⟩:=(et0_e _ _).2 h5
  rw [<-e2]; exact pu mdL (fun e=>[sl (Tp.cs_len l),lp (S.mk [(0,vL 9 (Tp.cs l)),(1,.v (.fn (.func 35) [.agg (.sl 4 (Da.cs (moD m)) :: .sl 3 (Cl.cs (moC m)) :: .sl 12 (In.cs (moI m)) :: .sl 8 (Ms.cs (moM m)) :: .sl 6 (Qu.cs (moQ m)) :: .sl 25 (Df.cs (moF m))::nvL v)] [])),(4,vI6 0),(8,vL 9 (Tp.cs l)),(9,vI6 (l.length:Int)),(10,vI6 0)] [] e) (@et0_0 (l) (m) (v) (ff) hwk (e) hNl w e1) xr]) func73
def knS_r0(m:Mo)(t:Tp)(k:Int):Int:=(if tpO t=5 then 5 else (if tpO t=4 then (if optB daNm (tpNm t) (moD m)=false then 5 else (if ((tpA t).length:Int)=((daVs (optD daNm (tpNm t) (moD m))).length:Int) then k else 13)) else k))
theorem knS(m:Mo)(v:Nv)(t:Tp)(k:Int)(hda:(moD m).length<=1048576)(hea:Pu 73 [.sl 9 (Tp.cs (tpA t)),.fn (.func 34) [.agg (pcL m v)] []] (.ret (.int .i64 k))):Pu 34 [.agg (pcL m v),.agg (tpL t)] (rI (knS_r0 m t k)):=by
 by_cases h0:tpO t=5
 ·simp only [knS_r0,iP h0]; exact pm mdL [et1 h0] func34
 ·by_cases h1:tpO t=4
  ·by_cases h2:optB daNm (tpNm t) (moD m)=false
   ·simp only [knS_r0,iN h0,iP h1,iP h2]; exact pm mdL [en1 h0,et1 h1,cl (@dTT (m) (tpNm t) hda),bt1 (bnT h2)] func34
   ·by_cases h3:((tpA t).length:Int)=((daVs (optD daNm (tpNm t) (moD m))).length:Int)
    ·simp only [knS_r0,iN h0,iP h1,iN h2,iP h3]; exact pm mdL [en1 h0,et1 h1,cl (@dTT (m) (tpNm t) hda),bf1 (bnF (bTF h2)),sl (Tp.cs_len (tpA t)),sl (nmsC_len (daVs (optD daNm (tpNm t) (moD m)))),nn1 h3,cl hea] func34
    ·simp only [knS_r0,iN h0,iP h1,iN h2,iN h3]; exact pm mdL [en1 h0,et1 h1,cl (@dTT (m) (tpNm t) hda),bf1 (bnF (bTF h2)),sl (Tp.cs_len (tpA t)),sl (nmsC_len (daVs (optD daNm (tpNm t) (moD m)))),nt1 h3] func34
  ·simp only [knS_r0,iN h0,iN h1]; exact pm mdL [en1 h0,en1 h1,cl hea] func34
end Go.Proofs.YthchpmnkecoafaaGreatDoor
