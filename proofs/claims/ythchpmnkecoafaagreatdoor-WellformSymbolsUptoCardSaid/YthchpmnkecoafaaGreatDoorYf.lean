/- Values of Go as plain data, an evaluator over them, and what the functions of the program return; part Yf. -/
import Derived.Test.YthchpmnkecoafaaGreatDoorYe
import Derived.Test.YthchpmnkecoafaaGreatDoorYc
import Derived.Test.YthchpmnkecoafaaGreatDoorYa
set_option linter.unusedSectionVars false
set_option linter.unusedSimpArgs false
set_option linter.unusedVariables false
namespace Go.Proofs.YthchpmnkecoafaaGreatDoor
open Go.Proofs.Tryz
open Go.Pv Go.Proofs.Tryz
set_option maxRecDepth 100000
theorem pr_bulk(x:Pr):bulkPss (Pr.cs (prK x))<bulkPs (prL x):=by simp only [bulkPs,bulkP]; omega
def pkS_r0(o:Int):Int:=(if o=1 then 0 else (if o=2 then 0 else (if o=3 then 0 else (if o=4 then 1 else (if o=5 then 1 else (if o=9 then 1 else (if o=14 then 1 else 2)))))))
def pkS_r1(o:Int):Int:=(if o=1 then 0 else (if o=2 then 0 else (if o=3 then 0 else (if o=4 then 24 else (if o=5 then 24 else (if o=9 then 1 else (if o=14 then 1 else 2)))))))
theorem pkS(o:Int):Pu 269 [pI o] (.ret (.tup [pI (pkS_r0 o),pI (pkS_r1 o)])):=by
 by_cases h0:o=1
 ·simp only [pkS_r0,pkS_r1,iP h0]; exact pm mdL [rp 2 (et1 h0)] func269
 ·by_cases h1:o=2
  ·simp only [pkS_r0,pkS_r1,iN h0,iP h1]; exact pm mdL [en1 h0,rp 2 (et1 h1)] func269
  ·by_cases h2:o=3
   ·simp only [pkS_r0,pkS_r1,iN h0,iN h1,iP h2]; exact pm mdL [en1 h0,en1 h1,et1 h2] func269
   ·by_cases h3:o=4
    ·simp only [pkS_r0,pkS_r1,iN h0,iN h1,iN h2,iP h3]; exact pm mdL [en1 h0,en1 h1,en1 h2,rp 2 (et1 h3)] func269
    ·by_cases h4:o=5
     ·simp only [pkS_r0,pkS_r1,iN h0,iN h1,iN h2,iN h3,iP h4]; exact pm mdL [en1 h0,en1 h1,en1 h2,en1 h3,et1 h4] func269
     ·by_cases h5:o=9
      ·simp only [pkS_r0,pkS_r1,iN h0,iN h1,iN h2,iN h3,iN h4,iP h5]; exact pm mdL [en1 h0,en1 h1,en1 h2,en1 h3,en1 h4,rp 2 (et1 h5)] func269
      ·by_cases h6:o=14
       ·simp only [pkS_r0,pkS_r1,iN h0,iN h1,iN h2,iN h3,iN h4,iN h5,iP h6]; exact pm mdL [en1 h0,en1 h1,en1 h2,en1 h3,en1 h4,en1 h5,et1 h6] func269
       ·simp only [pkS_r0,pkS_r1,iN h0,iN h1,iN h2,iN h3,iN h4,iN h5,iN h6]; exact pm mdL [en1 h0,en1 h1,en1 h2,en1 h3,en1 h4,en1 h5,en1 h6] func269
def pnS_r0(o:Int):Bool:=(if o=3 then true else (if o=4 then true else (o==5)))
theorem pnS(o:Int):Pu 270 [pI o] (rB (pnS_r0 o)):=by
 by_cases h0:o=3
 ·simp only [pnS_r0,iP h0]; exact pm mdL [rp 3 (et1 h0),rp 3 (bt true)] func270
 ·by_cases h1:o=4
  ·simp only [pnS_r0,iN h0,iP h1]; exact pm mdL [rp 3 (en1 h0),rp 3 (et1 h1)] func270
  ·simp only [pnS_r0,iN h0,iN h1]; exact pm mdL [rp 3 (en1 h0),rp 3 (en1 h1)] func270
def niS_r0(n:Int):Bool:=(if n >= -1000000000000 then (decide (n<=1000000000000)) else false)
theorem niS(n:Int):Pu 271 [pI n] (rB (niS_r0 n)):=by
 by_cases h0:n >= -1000000000000
 ·simp only [niS_r0,iP h0]; exact pm mdL [rp 3 (dt1 h0)] func271
 ·simp only [niS_r0,iN h0]; exact pm mdL [rp 3 (df1 h0)] func271
abbrev pqA_I(u:Pr)(dfz:Pr->Int)(j:Int)(n:Int)(e:Ext):S:=S.mk [(2,vI6 0),(3,vI6 n),(7,vL 4 (Pr.cs (prK u))),(8,vI6 ((prK u).length:Int)),(9,vI6 j)] [] e
def pqA_f(dfz:Pr->Int):List Pr->(Int)->(Int)
 | [],n=>(n)
 | el::r,n=>pqA_f dfz r (IntKind.wrap .i64 (n+dfz el))
def pqA_q(u:Pr)(dfz:Pr->Int)(e:Ext)(p:(Int)):PExit × S:=(.exit 0,S.mk [(2,vI6 0),(3,vI6 p),(7,vL 4 (Pr.cs (prK u))),(8,vI6 ((prK u).length:Int))] [] e)
theorem pqA(u:Pr)(dfz:Pr->Int)(hwk:∀w:Pr,w∈prK u->Pu 223 [.agg (prL w)] (.ret (.int .i64 (dfz w))))(n:Int)(e:Ext)(hN:(prK u).length<=1000000000)  : (Ob.loop 19 (loopF f223 0) (pqA_I u dfz 0 n e) (pqA_q u dfz e (pqA_f dfz ((prK u))  n)).1 (pqA_q u dfz e (pqA_f dfz ((prK u))  n)).2).ok prog:=by
 refine rng ((prK u).length) (fun j n=>pqA_I u dfz j n e) (fun i n=>pqA_f dfz (List.drop i ((prK u)))  n) (pqA_q u dfz e) (fun i n=>True) kR ?_ n trivial
 rintro i n hi -
 rcases Nat.lt_or_ge i ((prK u).length) with hlt | hge
 ·have hd:=drop_at hlt
  exact lN mdL [dt ((i:Int)<((prK u).length:Int)),am ((0:Int)<=(i:Int)/\(i:Int)<((Pr.cs (prK u)).length:Int)) (by (simp only [Pr.cs_len]; omega)),ar (List.getD (Pr.cs (prK u)) (Int.toNat (i:Int)) []) (prL (List.getD (prK u) i default)) (by simp only [Int.toNat_natCast,Int.toNat_zero]; rw [@Pr.cs_at (prK u) (i) hlt]; try rfl),cl (@hwk (List.getD (prK u) i default) (by simp_all [List.length_map,List.length_append,List.length_cons,List.length_nil,nmsC_len,Pr.cs_len,Tp.cs_len,Pm.cs_len,Ex.cs_len,Al.cs_len,Vr.cs_len,Cn.cs_len,Da.cs_len,Cl.cs_len,Bo.cs_len,Df.cs_len,In.cs_len,Cs.cs_len,Ms.cs_len,Qu.cs_len,Sy.cs_len,Ho.cs_len,Int.toNat_natCast,Bool.cond_true_left,Bool.cond_false_right,Int.toNat_zero,tn1])),kp,wr ((i:Int)+1)] hlt (IntKind.wrap .i64 (n+dfz (List.getD (prK u) i default))) trivial (by rw [hd,pqA_f])
 ·have he:i=(prK u).length:=by omega
  exact lX mdL [df ((i:Int)<((prK u).length:Int))] (n) (by rw [he,List.drop_length,pqA_f])
theorem pqL(u:Pr)(dfz:Pr->Int)(hwk:∀w:Pr,w∈prK u->Pu 223 [.agg (prL w)] (.ret (.int .i64 (dfz w))))(hN:(prK u).length<=1000000000):Pu 223 [.agg (prL u)] (rI (pqA_f dfz (prK u) 1)):=
 pu mdL (fun e=>[sl (Pr.cs_len (prK u)),lp (S.mk [(0,.v (.agg (prL u))),(1,.lp 1 0),(2,vI6 0),(3,vI6 1),(6,.lp 1 3),(7,vL 4 (Pr.cs (prK u))),(8,vI6 ((prK u).length:Int)),(9,vI6 0)] [(1,prV u)] e) (@pqA (u) (dfz) hwk (1) (e) hN) xr]) func223
def pqD:Nat->Pr->Int
 | 0,_=>0
 | d+1,u=>pqA_f (pqD d) (prK u) 1
theorem pq_ok:∀ (d:Nat) (u:Pr),bulkPs (prL u)<d->d<=100000001->Pu 223 [.agg (prL u)] (.ret (.int .i64 (pqD d u)))
 | 0,_,h,_=>by omega
 | d+1,u,h,hs=>pqL u (pqD d) (fun w hw=>pq_ok d w (by have:=pr_bulk u; have:=Pr.mem hw; omega) oM) (by have:=pr_bulk u; have:=Pr.bulk (prK u); omega)
def pqF(u:Pr):Int:=pqD (bulkPs (prL u)+1) u
theorem pqT(u:Pr)(hs:bulkPs (prL u)<=100000000):Pu 223 [.agg (prL u)] (.ret (.int .i64 (pqF u))):=pq_ok _ u oM oM
abbrev peA_I(u:Pr)(dfz:Pr->Int)(j:Int)(n:Int)(e:Ext):S:=S.mk [(2,vI6 0),(3,vI6 n),(7,vL 4 (Pr.cs (prK u))),(8,vI6 ((prK u).length:Int)),(9,vI6 j)] [] e
def peA_f(dfz:Pr->Int):List Pr->(Int)->(Int)
 | [],n=>(n)
 | el::r,n=>peA_f dfz r (mxI true n (dfz el))
def peA_q(u:Pr)(dfz:Pr->Int)(e:Ext)(p:(Int)):PExit × S:=(.exit 0,S.mk [(2,vI6 0),(3,vI6 p),(7,vL 4 (Pr.cs (prK u))),(8,vI6 ((prK u).length:Int))] [] e)
theorem peA(u:Pr)(dfz:Pr->Int)(hwk:∀w:Pr,w∈prK u->Pu 224 [.agg (prL w)] (.ret (.int .i64 (dfz w))))(n:Int)(e:Ext)(hN:(prK u).length<=1000000000)  : (Ob.loop 20 (loopF f224 0) (peA_I u dfz 0 n e) (peA_q u dfz e (peA_f dfz ((prK u))  n)).1 (peA_q u dfz e (peA_f dfz ((prK u))  n)).2).ok prog:=by
 refine rng ((prK u).length) (fun j n=>peA_I u dfz j n e) (fun i n=>peA_f dfz (List.drop i ((prK u)))  n) (peA_q u dfz e) (fun i n=>True) kR ?_ n trivial
 rintro i n hi -
 rcases Nat.lt_or_ge i ((prK u).length) with hlt | hge
 ·have hd:=drop_at hlt
  exact lN mdL [dt ((i:Int)<((prK u).length:Int)),am ((0:Int)<=(i:Int)/\(i:Int)<((Pr.cs (prK u)).length:Int)) (by (simp only [Pr.cs_len]; omega)),ar (List.getD (Pr.cs (prK u)) (Int.toNat (i:Int)) []) (prL (List.getD (prK u) i default)) (by simp only [Int.toNat_natCast,Int.toNat_zero]; rw [@Pr.cs_at (prK u) (i) hlt]; try rfl),cl (@hwk (List.getD (prK u) i default) (by simp_all [List.length_map,List.length_append,List.length_cons,List.length_nil,nmsC_len,Pr.cs_len,Tp.cs_len,Pm.cs_len,Ex.cs_len,Al.cs_len,Vr.cs_len,Cn.cs_len,Da.cs_len,Cl.cs_len,Bo.cs_len,Df.cs_len,In.cs_len,Cs.cs_len,Ms.cs_len,Qu.cs_len,Sy.cs_len,Ho.cs_len,Int.toNat_natCast,Bool.cond_true_left,Bool.cond_false_right,Int.toNat_zero,tn1])),wr ((i:Int)+1)] hlt (mxI true n (dfz (List.getD (prK u) i default))) trivial (by rw [hd,peA_f])
 ·have he:i=(prK u).length:=by omega
  exact lX mdL [df ((i:Int)<((prK u).length:Int))] (n) (by rw [he,List.drop_length,peA_f])
theorem peL(u:Pr)(dfz:Pr->Int)(hwk:∀w:Pr,w∈prK u->Pu 224 [.agg (prL w)] (.ret (.int .i64 (dfz w))))(hN:(prK u).length<=1000000000):Pu 224 [.agg (prL u)] (rI (IntKind.wrap .i64 (peA_f dfz (prK u) 0+1))):=
 pu mdL (fun e=>[sl (Pr.cs_len (prK u)),lp (S.mk [(0,.v (.agg (prL u))),(1,.lp 1 0),(2,vI6 0),(3,vI6 0),(6,.lp 1 3),(7,vL 4 (Pr.cs (prK u))),(8,vI6 ((prK u).length:Int)),(9,vI6 0)] [(1,prV u)] e) (@peA (u) (dfz) hwk (0) (e) hN) xr,kp]) func224
def peD:Nat->Pr->Int
 | 0,_=>0
 | d+1,u=>IntKind.i64.wrap (peA_f (peD d) (prK u) 0+1)
theorem pe_ok:∀ (d:Nat) (u:Pr),bulkPs (prL u)<d->d<=100000001->Pu 224 [.agg (prL u)] (.ret (.int .i64 (peD d u)))
 | 0,_,h,_=>by omega
 | d+1,u,h,hs=>peL u (peD d) (fun w hw=>pe_ok d w (by have:=pr_bulk u; have:=Pr.mem hw; omega) oM) (by have:=pr_bulk u; have:=Pr.bulk (prK u); omega)
def peF(u:Pr):Int:=peD (bulkPs (prL u)+1) u
theorem peT(u:Pr)(hs:bulkPs (prL u)<=100000000):Pu 224 [.agg (prL u)] (.ret (.int .i64 (peF u))):=pe_ok _ u oM oM
abbrev nd0(u:Pr)(xe:Ext):S:=⟨[(1,.lp 1 0),(2,.v (.int .i64 0))],[(1,prV u)],xe⟩
abbrev nd1(u:Pr)(a b:Int)(xe:Ext):S:=⟨[(1,.lp 1 0),(2,.v (.int .i64 0)),(3,.v (.int .i64 a)),(4,.v (.int .i64 b))],[(1,prV u)],xe⟩
abbrev nd2(u:Pr)(a b:Int)(x y:Bool)(xe:Ext):S:=⟨[(1,.lp 1 0),(2,.v (.int .i64 0)),(3,.v (.int .i64 a)),(4,.v (.int .i64 b)),(5,.v (.bool x)),(6,.v (.bool y))],[(1,prV u)],xe⟩
abbrev nd3(u:Pr)(a b:Int)(x:Bool)(xe:Ext):S:=⟨[(1,.lp 1 0),(2,.v (.int .i64 0)),(3,.v (.int .i64 a)),(4,.v (.int .i64 b)),(5,.v (.bool x))],[(1,prV u)],xe⟩
theorem nd_1_1(u:Pr)(xe:Ext)(hx0:prO u<1)(cx:Cx)(hcx:cx.n=130){Q:PExit->S->Prop}(hq:Q (.normal) (S.mk [(1,.lp 1 0),(2,vI6 0),(14,.v (.bool true))] [(1,prV u)] xe)):PW prog cx (regF f226 1) (nd0 u xe) Q:=
 pw mdL 130 [rp 4 (dt1 hx0)] [1,2,14] [1] hcx hq
theorem nd_1_2(u:Pr)(xe:Ext)(hx0:¬prO u<1)(cx:Cx)(hcx:cx.n=130){Q:PExit->S->Prop}(hq:Q (.normal) (S.mk [(1,.lp 1 0),(2,vI6 0),(14,.v (.bool (decide (prO u>18))))] [(1,prV u)] xe)):PW prog cx (regF f226 1) (nd0 u xe) Q:=
 pw mdL 130 [rp 4 (df1 hx0)] [1,2,14] [1] hcx hq
def nd_1_v14(u:Pr):Bool:=(if prO u<1 then (true) else ((decide (prO u>18))))
theorem nd_1J(u:Pr)(xe:Ext):(Ob.frag 130 (regF f226 1) (nd0 u xe) (.normal) (S.mk [(1,.lp 1 0),(2,vI6 0),(14,.v (.bool (nd_1_v14 u)))] [(1,prV u)] xe)).ok prog:=by
 intro cx hcx
 by_cases g0:prO u<1
 ·exact nd_1_1 u xe g0 cx hcx ⟨rfl,by rw [show nd_1_v14 u=(true) by unfold nd_1_v14; rw [iP g0]]⟩
 ·exact nd_1_2 u xe g0 cx hcx ⟨rfl,by rw [show nd_1_v14 u=((decide (prO u>18))) by unfold nd_1_v14; rw [iN g0]]⟩
section
variable (u:Pr) (a b:Int) (xe:Ext)
include u a b xe
theorem nd_4_1(hx0:pnS_r0 (prO u)=false)(hx1:¬prNm u=ByteArray.mk #[])(cx:Cx)(hcx:cx.n=130){Q:PExit->S->Prop}(hq:Q (.normal) (S.mk [(1,.lp 1 0),(2,vI6 0),(3,vI6 a),(4,vI6 b),(58,.v (.bool true))] [(1,prV u)] xe)):PW prog cx (regF f226 4) (nd1 u a b xe) Q:=
 pw mdL 130 [cl (@pnS (prO u)),rp 4 (bt1 (bnT hx0)),rp 8 (bt (!ByteArray.toList (prNm u)==ByteArray.toList nm0) (bnT (bsF hx1))),rp 12 (bt true)] [1,2,3,4,58] [1] hcx hq
theorem nd_4_2(hx0:pnS_r0 (prO u)=false)(hx1:prNm u=ByteArray.mk #[])(hx2:¬prO u=1)(hx3:¬prO u=2)(hx4:¬prN u=0)(cx:Cx)(hcx:cx.n=130){Q:PExit->S->Prop}(hq:Q (.normal) (S.mk [(1,.lp 1 0),(2,vI6 0),(3,vI6 a),(4,vI6 b),(58,.v (.bool true))] [(1,prV u)] xe)):PW prog cx (regF f226 4) (nd1 u a b xe) Q:=
 pw mdL 130 [cl (@pnS (prO u)),rp 4 (bt1 (bnT hx0)),rp 4 (bf (!ByteArray.toList (prNm u)==ByteArray.toList nm0) (bnF (bsT hx1))),rp 3 (nt1 hx2),bf (!ByteArray.toList (prNm u)==ByteArray.toList nm0) (bnF (bsT hx1)),nt1 hx2,bf (!ByteArray.toList (prNm u)==ByteArray.toList nm0) (bnF (bsT hx1)),rp 3 (nt1 hx3),bf (!ByteArray.toList (prNm u)==ByteArray.toList nm0) (bnF (bsT hx1)),nt1 hx3,bf (!ByteArray.toList (prNm u)==ByteArray.toList nm0) (bnF (bsT hx1)),rp 6 (nt1 hx4),rp 6 (bt true)] [1,2,3,4,58] [1] hcx hq
theorem nd_4_3(hx0:pnS_r0 (prO u)=false)(hx1:prNm u=ByteArray.mk #[])(hx2:¬prO u=1)(hx3:¬prO u=2)(hx4:prN u=0)(hx5:((prK u).length:Int)<a)(cx:Cx)(hcx:cx.n=130){Q:PExit->S->Prop}(hq:Q (.normal) (S.mk [(1,.lp 1 0),(2,vI6 0),(3,vI6 a),(4,vI6 b),(58,.v (.bool true))] [(1,prV u)] xe)):PW prog cx (regF f226 4) (nd1 u a b xe) Q:=
 pw mdL 130 [cl (@pnS (prO u)),rp 4 (bt1 (bnT hx0)),rp 4 (bf (!ByteArray.toList (prNm u)==ByteArray.toList nm0) (bnF (bsT hx1))),rp 3 (nt1 hx2),bf (!ByteArray.toList (prNm u)==ByteArray.toList nm0) (bnF (bsT hx1)),nt1 hx2,bf (!ByteArray.toList (prNm u)==ByteArray.toList nm0) (bnF (bsT hx1)),rp 3 (nt1 hx3),bf (!ByteArray.toList (prNm u)==ByteArray.toList nm0) (bnF (bsT hx1)),nt1 hx3,bf (!ByteArray.toList (prNm u)==ByteArray.toList nm0) (bnF (bsT hx1)),rp 3 (nn1 hx4),sl (Pr.cs_len (prK u)),rp 3 (nn1 hx4),rp 6 (dt1 hx5)] [1,2,3,4,58] [1] hcx hq
theorem nd_4_4(hx0:pnS_r0 (prO u)=false)(hx1:prNm u=ByteArray.mk #[])(hx2:¬prO u=1)(hx3:¬prO u=2)(hx4:prN u=0)(hx5:¬((prK u).length:Int)<a)(cx:Cx)(hcx:cx.n=130){Q:PExit->S->Prop}(hq:Q (.normal) (S.mk [(1,.lp 1 0),(2,vI6 0),(3,vI6 a),(4,vI6 b),(58,.v (.bool (decide (((prK u).length:Int)>b))))] [(1,prV u)] xe)):PW prog cx (regF f226 4) (nd1 u a b xe) Q:=
 pw mdL 130 [cl (@pnS (prO u)),rp 4 (bt1 (bnT hx0)),rp 4 (bf (!ByteArray.toList (prNm u)==ByteArray.toList nm0) (bnF (bsT hx1))),rp 3 (nt1 hx2),bf (!ByteArray.toList (prNm u)==ByteArray.toList nm0) (bnF (bsT hx1)),nt1 hx2,bf (!ByteArray.toList (prNm u)==ByteArray.toList nm0) (bnF (bsT hx1)),rp 3 (nt1 hx3),bf (!ByteArray.toList (prNm u)==ByteArray.toList nm0) (bnF (bsT hx1)),nt1 hx3,bf (!ByteArray.toList (prNm u)==ByteArray.toList nm0) (bnF (bsT hx1)),rp 3 (nn1 hx4),sl (Pr.cs_len (prK u)),rp 3 (nn1 hx4),rp 3 (df1 hx5),sl (Pr.cs_len (prK u)),rp 3 (df1 hx5)] [1,2,3,4,58] [1] hcx hq
theorem nd_4_5(hx0:pnS_r0 (prO u)=false)(hx1:prNm u=ByteArray.mk #[])(hx2:¬prO u=1)(hx3:prO u=2)(hx4:((prK u).length:Int)<a)(cx:Cx)(hcx:cx.n=130){Q:PExit->S->Prop}(hq:Q (.normal) (S.mk [(1,.lp 1 0),(2,vI6 0),(3,vI6 a),(4,vI6 b),(58,.v (.bool true))] [(1,prV u)] xe)):PW prog cx (regF f226 4) (nd1 u a b xe) Q:=
 pw mdL 130 [cl (@pnS (prO u)),rp 4 (bt1 (bnT hx0)),rp 4 (bf (!ByteArray.toList (prNm u)==ByteArray.toList nm0) (bnF (bsT hx1))),rp 3 (nt1 hx2),bf (!ByteArray.toList (prNm u)==ByteArray.toList nm0) (bnF (bsT hx1)),nt1 hx2,bf (!ByteArray.toList (prNm u)==ByteArray.toList nm0) (bnF (bsT hx1)),rp 3 (nn1 hx3),bf (!ByteArray.toList (prNm u)==ByteArray.toList nm0) (bnF (bsT hx1)),nn1 hx3,bf (!ByteArray.toList (prNm u)==ByteArray.toList nm0) (bnF (bsT hx1)),rp 3 (bf false),sl (Pr.cs_len (prK u)),rp 3 (bf false),rp 6 (dt1 hx4)] [1,2,3,4,58] [1] hcx hq
theorem nd_4_6(hx0:pnS_r0 (prO u)=false)(hx1:prNm u=ByteArray.mk #[])(hx2:¬prO u=1)(hx3:prO u=2)(hx4:¬((prK u).length:Int)<a)(cx:Cx)(hcx:cx.n=130){Q:PExit->S->Prop}(hq:Q (.normal) (S.mk [(1,.lp 1 0),(2,vI6 0),(3,vI6 a),(4,vI6 b),(58,.v (.bool (decide (((prK u).length:Int)>b))))] [(1,prV u)] xe)):PW prog cx (regF f226 4) (nd1 u a b xe) Q:=
 pw mdL 130 [cl (@pnS (prO u)),rp 4 (bt1 (bnT hx0)),rp 4 (bf (!ByteArray.toList (prNm u)==ByteArray.toList nm0) (bnF (bsT hx1))),rp 3 (nt1 hx2),bf (!ByteArray.toList (prNm u)==ByteArray.toList nm0) (bnF (bsT hx1)),nt1 hx2,bf (!ByteArray.toList (prNm u)==ByteArray.toList nm0) (bnF (bsT hx1)),rp 3 (nn1 hx3),bf (!ByteArray.toList (prNm u)==ByteArray.toList nm0) (bnF (bsT hx1)),nn1 hx3,bf (!ByteArray.toList (prNm u)==ByteArray.toList nm0) (bnF (bsT hx1)),rp 3 (bf false),sl (Pr.cs_len (prK u)),rp 3 (bf false),rp 3 (df1 hx4),sl (Pr.cs_len (prK u)),rp 3 (df1 hx4)] [1,2,3,4,58] [1] hcx hq
theorem nd_4_7(hx0:pnS_r0 (prO u)=false)(hx1:prNm u=ByteArray.mk #[])(hx2:prO u=1)(hx3:((prK u).length:Int)<a)(cx:Cx)(hcx:cx.n=130){Q:PExit->S->Prop}(hq:Q (.normal) (S.mk [(1,.lp 1 0),(2,vI6 0),(3,vI6 a),(4,vI6 b),(58,.v (.bool true))] [(1,prV u)] xe)):PW prog cx (regF f226 4) (nd1 u a b xe) Q:=
 pw mdL 130 [cl (@pnS (prO u)),rp 4 (bt1 (bnT hx0)),rp 4 (bf (!ByteArray.toList (prNm u)==ByteArray.toList nm0) (bnF (bsT hx1))),rp 3 (nn1 hx2),bf (!ByteArray.toList (prNm u)==ByteArray.toList nm0) (bnF (bsT hx1)),nn1 hx2,bf (!ByteArray.toList (prNm u)==ByteArray.toList nm0) (bnF (bsT hx1)),rp 3 (bf false),bf (!ByteArray.toList (prNm u)==ByteArray.toList nm0) (bnF (bsT hx1)),bf false,bf (!ByteArray.toList (prNm u)==ByteArray.toList nm0) (bnF (bsT hx1)),rp 3 (bf false),sl (Pr.cs_len (prK u)),rp 3 (bf false),rp 6 (dt1 hx3)] [1,2,3,4,58] [1] hcx hq
theorem nd_4_8(hx0:pnS_r0 (prO u)=false)(hx1:prNm u=ByteArray.mk #[])(hx2:prO u=1)(hx3:¬((prK u).length:Int)<a)(cx:Cx)(hcx:cx.n=130){Q:PExit->S->Prop}(hq:Q (.normal) (S.mk [(1,.lp 1 0),(2,vI6 0),(3,vI6 a),(4,vI6 b),(58,.v (.bool (decide (((prK u).length:Int)>b))))] [(1,prV u)] xe)):PW prog cx (regF f226 4) (nd1 u a b xe) Q:=
 pw mdL 130 [cl (@pnS (prO u)),rp 4 (bt1 (bnT hx0)),rp 4 (bf (!ByteArray.toList (prNm u)==ByteArray.toList nm0) (bnF (bsT hx1))),rp 3 (nn1 hx2),bf (!ByteArray.toList (prNm u)==ByteArray.toList nm0) (bnF (bsT hx1)),nn1 hx2,bf (!ByteArray.toList (prNm u)==ByteArray.toList nm0) (bnF (bsT hx1)),rp 3 (bf false),bf (!ByteArray.toList (prNm u)==ByteArray.toList nm0) (bnF (bsT hx1)),bf false,bf (!ByteArray.toList (prNm u)==ByteArray.toList nm0) (bnF (bsT hx1)),rp 3 (bf false),sl (Pr.cs_len (prK u)),rp 3 (bf false),rp 3 (df1 hx3),sl (Pr.cs_len (prK u)),rp 3 (df1 hx3)] [1,2,3,4,58] [1] hcx hq
theorem nd_4_9(hx0:pnS_r0 (prO u)=true)(hx1:¬prO u=1)(hx2:¬prO u=2)(hx3:¬prN u=0)(cx:Cx)(hcx:cx.n=130){Q:PExit->S->Prop}(hq:Q (.normal) (S.mk [(1,.lp 1 0),(2,vI6 0),(3,vI6 a),(4,vI6 b),(58,.v (.bool true))] [(1,prV u)] xe)):PW prog cx (regF f226 4) (nd1 u a b xe) Q:=
 pw mdL 130 [cl (@pnS (prO u)),rp 4 (bf1 (bnF hx0)),rp 4 (bf false),rp 3 (nt1 hx1),bf false,nt1 hx1,bf false,rp 3 (nt1 hx2),bf false,nt1 hx2,bf false,rp 6 (nt1 hx3),rp 6 (bt true)] [1,2,3,4,58] [1] hcx hq
theorem nd_4_10(hx0:pnS_r0 (prO u)=true)(hx1:¬prO u=1)(hx2:¬prO u=2)(hx3:prN u=0)(hx4:((prK u).length:Int)<a)(cx:Cx)(hcx:cx.n=130){Q:PExit->S->Prop}(hq:Q (.normal) (S.mk [(1,.lp 1 0),(2,vI6 0),(3,vI6 a),(4,vI6 b),(58,.v (.bool true))] [(1,prV u)] xe)):PW prog cx (regF f226 4) (nd1 u a b xe) Q:=
 pw mdL 130 [cl (@pnS (prO u)),rp 4 (bf1 (bnF hx0)),rp 4 (bf false),rp 3 (nt1 hx1),bf false,nt1 hx1,bf false,rp 3 (nt1 hx2),bf false,nt1 hx2,bf false,rp 3 (nn1 hx3),sl (Pr.cs_len (prK u)),rp 3 (nn1 hx3),rp 6 (dt1 hx4)] [1,2,3,4,58] [1] hcx hq
theorem nd_4_11(hx0:pnS_r0 (prO u)=true)(hx1:¬prO u=1)(hx2:¬prO u=2)(hx3:prN u=0)(hx4:¬((prK u).length:Int)<a)(cx:Cx)(hcx:cx.n=130){Q:PExit->S->Prop}(hq:Q (.normal) (S.mk [(1,.lp 1 0),(2,vI6 0),(3,vI6 a),(4,vI6 b),(58,.v (.bool (decide (((prK u).length:Int)>b))))] [(1,prV u)] xe)):PW prog cx (regF f226 4) (nd1 u a b xe) Q:=
 pw mdL 130 [cl (@pnS (prO u)),rp 4 (bf1 (bnF hx0)),rp 4 (bf false),rp 3 (nt1 hx1),bf false,nt1 hx1,bf false,rp 3 (nt1 hx2),bf false,nt1 hx2,bf false,rp 3 (nn1 hx3),sl (Pr.cs_len (prK u)),rp 3 (nn1 hx3),rp 3 (df1 hx4),sl (Pr.cs_len (prK u)),rp 3 (df1 hx4)] [1,2,3,4,58] [1] hcx hq
theorem nd_4_12(hx0:pnS_r0 (prO u)=true)(hx1:¬prO u=1)(hx2:prO u=2)(hx3:((prK u).length:Int)<a)(cx:Cx)(hcx:cx.n=130){Q:PExit->S->Prop}(hq:Q (.normal) (S.mk [(1,.lp 1 0),(2,vI6 0),(3,vI6 a),(4,vI6 b),(58,.v (.bool true))] [(1,prV u)] xe)):PW prog cx (regF f226 4) (nd1 u a b xe) Q:=
 pw mdL 130 [cl (@pnS (prO u)),rp 4 (bf1 (bnF hx0)),rp 4 (bf false),rp 3 (nt1 hx1),bf false,nt1 hx1,bf false,rp 3 (nn1 hx2),bf false,nn1 hx2,rp 4 (bf false),sl (Pr.cs_len (prK u)),rp 3 (bf false),rp 6 (dt1 hx3)] [1,2,3,4,58] [1] hcx hq
theorem nd_4_13(hx0:pnS_r0 (prO u)=true)(hx1:¬prO u=1)(hx2:prO u=2)(hx3:¬((prK u).length:Int)<a)(cx:Cx)(hcx:cx.n=130){Q:PExit->S->Prop}(hq:Q (.normal) (S.mk [(1,.lp 1 0),(2,vI6 0),(3,vI6 a),(4,vI6 b),(58,.v (.bool (decide (((prK u).length:Int)>b))))] [(1,prV u)] xe)):PW prog cx (regF f226 4) (nd1 u a b xe) Q:=
 pw mdL 130 [cl (@pnS (prO u)),rp 4 (bf1 (bnF hx0)),rp 4 (bf false),rp 3 (nt1 hx1),bf false,nt1 hx1,bf false,rp 3 (nn1 hx2),bf false,nn1 hx2,rp 4 (bf false),sl (Pr.cs_len (prK u)),rp 3 (bf false),rp 3 (df1 hx3),sl (Pr.cs_len (prK u)),rp 3 (df1 hx3)] [1,2,3,4,58] [1] hcx hq
theorem nd_4_14(hx0:pnS_r0 (prO u)=true)(hx1:prO u=1)(hx2:((prK u).length:Int)<a)(cx:Cx)(hcx:cx.n=130){Q:PExit->S->Prop}(hq:Q (.normal) (S.mk [(1,.lp 1 0),(2,vI6 0),(3,vI6 a),(4,vI6 b),(58,.v (.bool true))] [(1,prV u)] xe)):PW prog cx (regF f226 4) (nd1 u a b xe) Q:=
 pw mdL 130 [cl (@pnS (prO u)),rp 4 (bf1 (bnF hx0)),rp 4 (bf false),rp 3 (nn1 hx1),bf false,nn1 hx1,rp 10 (bf false),sl (Pr.cs_len (prK u)),rp 3 (bf false),rp 6 (dt1 hx2)] [1,2,3,4,58] [1] hcx hq
theorem nd_4_15(hx0:pnS_r0 (prO u)=true)(hx1:prO u=1)(hx2:¬((prK u).length:Int)<a)(cx:Cx)(hcx:cx.n=130){Q:PExit->S->Prop}(hq:Q (.normal) (S.mk [(1,.lp 1 0),(2,vI6 0),(3,vI6 a),(4,vI6 b),(58,.v (.bool (decide (((prK u).length:Int)>b))))] [(1,prV u)] xe)):PW prog cx (regF f226 4) (nd1 u a b xe) Q:=
 pw mdL 130 [cl (@pnS (prO u)),rp 4 (bf1 (bnF hx0)),rp 4 (bf false),rp 3 (nn1 hx1),bf false,nn1 hx1,rp 10 (bf false),sl (Pr.cs_len (prK u)),rp 3 (bf false),rp 3 (df1 hx2),sl (Pr.cs_len (prK u)),rp 3 (df1 hx2)] [1,2,3,4,58] [1] hcx hq
end
def nd_4_v58(u:Pr)(a b:Int):Bool:=(if pnS_r0 (prO u)=true then (if prO u=1 then (if ((prK u).length:Int)<a then (true) else ((decide (((prK u).length:Int)>b)))) else (if prO u=2 then (if ((prK u).length:Int)<a then (true) else ((decide (((prK u).length:Int)>b)))) else (if prN u=0 then (if ((prK u).length:Int)<a then (true) else ((decide (((prK u).length:Int)>b)))) else (true)))) else (if prNm u=ByteArray.mk #[] then (if prO u=1 then (if ((prK u).length:Int)<a then (true) else ((decide (((prK u).length:Int)>b)))) else (if prO u=2 then (if ((prK u).length:Int)<a then (true) else ((decide (((prK u).length:Int)>b)))) else (if prN u=0 then (if ((prK u).length:Int)<a then (true) else ((decide (((prK u).length:Int)>b)))) else (true)))) else (true)))
theorem nd_4J(u:Pr)(a b:Int)(xe:Ext):(Ob.frag 130 (regF f226 4) (nd1 u a b xe) (.normal) (S.mk [(1,.lp 1 0),(2,vI6 0),(3,vI6 a),(4,vI6 b),(58,.v (.bool (nd_4_v58 u a b)))] [(1,prV u)] xe)).ok prog:=by
 intro cx hcx
 by_cases g0:pnS_r0 (prO u)=true
 ·by_cases g1:prO u=1
  ·by_cases g2:((prK u).length:Int)<a
   ·exact nd_4_14 u a b xe g0 g1 g2 cx hcx ⟨rfl,by rw [show nd_4_v58 u a b=(true) by unfold nd_4_v58; rw [iP g0,iP g1,iP g2]]⟩
   ·exact nd_4_15 u a b xe g0 g1 g2 cx hcx ⟨rfl,by rw [show nd_4_v58 u a b=((decide (((prK u).length:Int)>b))) by unfold nd_4_v58; rw [iP g0,iP g1,iN g2]]⟩
  ·by_cases g2:prO u=2
   ·by_cases g3:((prK u).length:Int)<a
    ·exact nd_4_12 u a b xe g0 g1 g2 g3 cx hcx ⟨rfl,by rw [show nd_4_v58 u a b=(true) by unfold nd_4_v58; rw [iP g0,iN g1,iP g2,iP g3]]⟩
    ·exact nd_4_13 u a b xe g0 g1 g2 g3 cx hcx ⟨rfl,by rw [show nd_4_v58 u a b=((decide (((prK u).length:Int)>b))) by unfold nd_4_v58; rw [iP g0,iN g1,iP g2,iN g3]]⟩
   ·by_cases g3:prN u=0
    ·by_cases g4:((prK u).length:Int)<a
     ·exact nd_4_10 u a b xe g0 g1 g2 g3 g4 cx hcx ⟨rfl,by rw [show nd_4_v58 u a b=(true) by unfold nd_4_v58; rw [iP g0,iN g1,iN g2,iP g3,iP g4]]⟩
     ·exact nd_4_11 u a b xe g0 g1 g2 g3 g4 cx hcx ⟨rfl,by rw [show nd_4_v58 u a b=((decide (((prK u).length:Int)>b))) by unfold nd_4_v58; rw [iP g0,iN g1,iN g2,iP g3,iN g4]]⟩
    ·exact nd_4_9 u a b xe g0 g1 g2 g3 cx hcx ⟨rfl,by rw [show nd_4_v58 u a b=(true) by unfold nd_4_v58; rw [iP g0,iN g1,iN g2,iN g3]]⟩
 ·by_cases g1:prNm u=ByteArray.mk #[]
  ·by_cases g2:prO u=1
   ·by_cases g3:((prK u).length:Int)<a
    ·exact nd_4_7 u a b xe (Bool.eq_false_iff.2 g0) g1 g2 g3 cx hcx ⟨rfl,by rw [show nd_4_v58 u a b=(true) by unfold nd_4_v58; rw [iN g0,iP g1,iP g2,iP g3]]⟩
    ·exact nd_4_8 u a b xe (Bool.eq_false_iff.2 g0) g1 g2 g3 cx hcx ⟨rfl,by rw [show nd_4_v58 u a b=((decide (((prK u).length:Int)>b))) by unfold nd_4_v58; rw [iN g0,iP g1,iP g2,iN g3]]⟩
   ·by_cases g3:prO u=2
    ·by_cases g4:((prK u).length:Int)<a
     ·exact nd_4_5 u a b xe (Bool.eq_false_iff.2 g0) g1 g2 g3 g4 cx hcx ⟨rfl,by rw [show nd_4_v58 u a b=(true) by unfold nd_4_v58; rw [iN g0,iP g1,iN g2,iP g3,iP g4]]⟩
     ·exact nd_4_6 u a b xe (Bool.eq_false_iff.2 g0) g1 g2 g3 g4 cx hcx ⟨rfl,by rw [show nd_4_v58 u a b=((decide (((prK u).length:Int)>b))) by unfold nd_4_v58; rw [iN g0,iP g1,iN g2,iP g3,iN g4]]⟩
    ·by_cases g4:prN u=0
     ·by_cases g5:((prK u).length:Int)<a
      ·exact nd_4_3 u a b xe (Bool.eq_false_iff.2 g0) g1 g2 g3 g4 g5 cx hcx ⟨rfl,by rw [show nd_4_v58 u a b=(true) by unfold nd_4_v58; rw [iN g0,iP g1,iN g2,iN g3,iP g4,iP g5]]⟩
      ·exact nd_4_4 u a b xe (Bool.eq_false_iff.2 g0) g1 g2 g3 g4 g5 cx hcx ⟨rfl,by rw [show nd_4_v58 u a b=((decide (((prK u).length:Int)>b))) by unfold nd_4_v58; rw [iN g0,iP g1,iN g2,iN g3,iP g4,iN g5]]⟩
     ·exact nd_4_2 u a b xe (Bool.eq_false_iff.2 g0) g1 g2 g3 g4 cx hcx ⟨rfl,by rw [show nd_4_v58 u a b=(true) by unfold nd_4_v58; rw [iN g0,iP g1,iN g2,iN g3,iN g4]]⟩
  ·exact nd_4_1 u a b xe (Bool.eq_false_iff.2 g0) g1 cx hcx ⟨rfl,by rw [show nd_4_v58 u a b=(true) by unfold nd_4_v58; rw [iN g0,iN g1]]⟩
section
variable (u:Pr) (a b:Int) (xe:Ext)
include u a b xe
theorem nd_6_1(hx0:prO u=1)(hx1:niS_r0 (prN u)=false)(cx:Cx)(hcx:cx.n=130){Q:PExit->S->Prop}(hq:Q (.normal) (S.mk [(1,.lp 1 0),(2,vI6 0),(3,vI6 a),(4,vI6 b),(82,.v (.bool true))] [(1,prV u)] xe)):PW prog cx (regF f226 6) (nd1 u a b xe) Q:=
 pw mdL 130 [rp 3 (et1 hx0),cl (@niS (prN u)),rp 2 (et1 hx0),rp 8 (bt1 (bnT hx1))] [1,2,3,4,82] [1] hcx hq
theorem nd_6_2(hx0:prO u=1)(hx1:niS_r0 (prN u)=true)(cx:Cx)(hcx:cx.n=130){Q:PExit->S->Prop}(hq:Q (.normal) (S.mk [(1,.lp 1 0),(2,vI6 0),(3,vI6 a),(4,vI6 b),(82,.v (.bool false))] [(1,prV u)] xe)):PW prog cx (regF f226 6) (nd1 u a b xe) Q:=
 pw mdL 130 [rp 3 (et1 hx0),cl (@niS (prN u)),rp 2 (et1 hx0),rp 4 (bf1 (bnF hx1)),rp 3 (en (prO u) 2),bf1 (bnF hx1),en (prO u) 2,bf1 (bnF hx1),rp 3 (bf false),bf1 (bnF hx1),bf false,bf1 (bnF hx1)] [1,2,3,4,82] [1] hcx hq
theorem nd_6_3(hx0:¬prO u=1)(hx1:prO u=2)(hx2:¬prN u=0)(cx:Cx)(hcx:cx.n=130){Q:PExit->S->Prop}(hq:Q (.normal) (S.mk [(1,.lp 1 0),(2,vI6 0),(3,vI6 a),(4,vI6 b),(82,.v (.bool (prN u != 1)))] [(1,prV u)] xe)):PW prog cx (regF f226 6) (nd1 u a b xe) Q:=
 pw mdL 130 [rp 5 (en1 hx0),rp 4 (bf false),rp 3 (et1 hx1),bf false,et1 hx1,bf false,rp 3 (nt1 hx2),bf false,nt1 hx2,bf false] [1,2,3,4,82] [1] hcx hq
theorem nd_6_4(hx0:¬prO u=1)(hx1:prO u=2)(hx2:prN u=0)(cx:Cx)(hcx:cx.n=130){Q:PExit->S->Prop}(hq:Q (.normal) (S.mk [(1,.lp 1 0),(2,vI6 0),(3,vI6 a),(4,vI6 b),(82,.v (.bool false))] [(1,prV u)] xe)):PW prog cx (regF f226 6) (nd1 u a b xe) Q:=
 pw mdL 130 [rp 5 (en1 hx0),rp 4 (bf false),rp 3 (et1 hx1),bf false,et1 hx1,bf false,rp 3 (nn1 hx2),bf false,nn1 hx2,bf false] [1,2,3,4,82] [1] hcx hq
theorem nd_6_5(hx0:¬prO u=1)(hx1:¬prO u=2)(cx:Cx)(hcx:cx.n=130){Q:PExit->S->Prop}(hq:Q (.normal) (S.mk [(1,.lp 1 0),(2,vI6 0),(3,vI6 a),(4,vI6 b),(82,.v (.bool false))] [(1,prV u)] xe)):PW prog cx (regF f226 6) (nd1 u a b xe) Q:=
 pw mdL 130 [rp 5 (en1 hx0),rp 4 (bf false),rp 3 (en1 hx1),bf false,en1 hx1,rp 7 (bf false)] [1,2,3,4,82] [1] hcx hq
end
def nd_6_v82(u:Pr)(a b:Int):Bool:=(if prO u=1 then (if niS_r0 (prN u)=true then (false) else (true)) else (if prO u=2 then (if prN u=0 then (false) else ((prN u != 1))) else (false)))
theorem nd_6J(u:Pr)(a b:Int)(xe:Ext):(Ob.frag 130 (regF f226 6) (nd1 u a b xe) (.normal) (S.mk [(1,.lp 1 0),(2,vI6 0),(3,vI6 a),(4,vI6 b),(82,.v (.bool (nd_6_v82 u a b)))] [(1,prV u)] xe)).ok prog:=by
 intro cx hcx
 by_cases g0:prO u=1
 ·by_cases g1:niS_r0 (prN u)=true
  ·exact nd_6_2 u a b xe g0 g1 cx hcx ⟨rfl,by rw [show nd_6_v82 u a b=(false) by unfold nd_6_v82; rw [iP g0,iP g1]]⟩
  ·exact nd_6_1 u a b xe g0 (Bool.eq_false_iff.2 g1) cx hcx ⟨rfl,by rw [show nd_6_v82 u a b=(true) by unfold nd_6_v82; rw [iP g0,iN g1]]⟩
 ·by_cases g1:prO u=2
  ·by_cases g2:prN u=0
   ·exact nd_6_4 u a b xe g0 g1 g2 cx hcx ⟨rfl,by rw [show nd_6_v82 u a b=(false) by unfold nd_6_v82; rw [iN g0,iP g1,iP g2]]⟩
   ·exact nd_6_3 u a b xe g0 g1 g2 cx hcx ⟨rfl,by rw [show nd_6_v82 u a b=((prN u != 1)) by unfold nd_6_v82; rw [iN g0,iP g1,iN g2]]⟩
  ·exact nd_6_5 u a b xe g0 g1 cx hcx ⟨rfl,by rw [show nd_6_v82 u a b=(false) by unfold nd_6_v82; rw [iN g0,iN g1]]⟩
theorem nd_8_1(u:Pr)(a b:Int)(xe:Ext)(hx0:pnS_r0 (prO u)=true)(cx:Cx)(hcx:cx.n=130){Q:PExit->S->Prop}(hq:Q (.normal) (S.mk [(1,.lp 1 0),(2,vI6 0),(3,vI6 a),(4,vI6 b),(91,.v (.bool (erN (coreB (prNm u)) != 0)))] [(1,prV u)] xe)):PW prog cx (regF f226 8) (nd1 u a b xe) Q:=
 pw mdL 130 [cl (@pnS (prO u)),rp 3 (bt1 hx0),cl (@nCoT (prNm u)),rp 2 (bt1 hx0)] [1,2,3,4,91] [1] hcx hq
theorem nd_8_2(u:Pr)(a b:Int)(xe:Ext)(hx0:pnS_r0 (prO u)=false)(cx:Cx)(hcx:cx.n=130){Q:PExit->S->Prop}(hq:Q (.normal) (S.mk [(1,.lp 1 0),(2,vI6 0),(3,vI6 a),(4,vI6 b),(91,.v (.bool false))] [(1,prV u)] xe)):PW prog cx (regF f226 8) (nd1 u a b xe) Q:=
 pw mdL 130 [cl (@pnS (prO u)),rp 5 (bf1 hx0)] [1,2,3,4,91] [1] hcx hq
def nd_8_v91(u:Pr)(a b:Int):Bool:=(if pnS_r0 (prO u)=true then ((erN (coreB (prNm u)) != 0)) else (false))
theorem nd_8J(u:Pr)(a b:Int)(xe:Ext):(Ob.frag 130 (regF f226 8) (nd1 u a b xe) (.normal) (S.mk [(1,.lp 1 0),(2,vI6 0),(3,vI6 a),(4,vI6 b),(91,.v (.bool (nd_8_v91 u a b)))] [(1,prV u)] xe)).ok prog:=by
 intro cx hcx
 by_cases g0:pnS_r0 (prO u)=true
 ·exact nd_8_1 u a b xe g0 cx hcx ⟨rfl,by rw [show nd_8_v91 u a b=((erN (coreB (prNm u)) != 0)) by unfold nd_8_v91; rw [iP g0]]⟩
 ·exact nd_8_2 u a b xe (Bool.eq_false_iff.2 g0) cx hcx ⟨rfl,by rw [show nd_8_v91 u a b=(false) by unfold nd_8_v91; rw [iN g0]]⟩
theorem nd_9_1(u:Pr)(a b:Int)(xe:Ext)(hx0:prO u=3)(cx:Cx)(hcx:cx.n=130){Q:PExit->S->Prop}(hq:Q (.normal) (S.mk [(1,.lp 1 0),(2,vI6 0),(3,vI6 a),(4,vI6 b),(5,.v (.bool (ByteArray.toList (prNm u)==ByteArray.toList (bM 118))))] [(1,prV u)] xe)):PW prog cx (regF f226 9) (nd1 u a b xe) Q:=
 pw mdL 130 [rp 4 (et1 hx0)] [1,2,3,4,5] [1] hcx hq
theorem nd_9_2(u:Pr)(a b:Int)(xe:Ext)(hx0:¬prO u=3)(cx:Cx)(hcx:cx.n=130){Q:PExit->S->Prop}(hq:Q (.normal) (S.mk [(1,.lp 1 0),(2,vI6 0),(3,vI6 a),(4,vI6 b),(5,.v (.bool false))] [(1,prV u)] xe)):PW prog cx (regF f226 9) (nd1 u a b xe) Q:=
 pw mdL 130 [rp 4 (en1 hx0)] [1,2,3,4,5] [1] hcx hq
def nd_9_v5(u:Pr)(a b:Int):Bool:=(if prO u=3 then ((ByteArray.toList (prNm u)==ByteArray.toList (bM 118))) else (false))
theorem nd_9J(u:Pr)(a b:Int)(xe:Ext):(Ob.frag 130 (regF f226 9) (nd1 u a b xe) (.normal) (S.mk [(1,.lp 1 0),(2,vI6 0),(3,vI6 a),(4,vI6 b),(5,.v (.bool (nd_9_v5 u a b)))] [(1,prV u)] xe)).ok prog:=by
 intro cx hcx
 by_cases g0:prO u=3
 ·exact nd_9_1 u a b xe g0 cx hcx ⟨rfl,by rw [show nd_9_v5 u a b=((ByteArray.toList (prNm u)==ByteArray.toList (bM 118))) by unfold nd_9_v5; rw [iP g0]]⟩
 ·exact nd_9_2 u a b xe g0 cx hcx ⟨rfl,by rw [show nd_9_v5 u a b=(false) by unfold nd_9_v5; rw [iN g0]]⟩
section
variable (u:Pr) (a b:Int) (x:Bool) (xe:Ext)
include u a b x xe
theorem nd_10_1(hx0:prO u=4)(hx1:prNm u=ByteArray.mk #[116,97,103])(cx:Cx)(hcx:cx.n=130){Q:PExit->S->Prop}(hq:Q (.normal) (S.mk [(1,.lp 1 0),(2,vI6 0),(3,vI6 a),(4,vI6 b),(5,.v (.bool x)),(6,.v (.bool true))] [(1,prV u)] xe)):PW prog cx (regF f226 10) (nd3 u a b x xe) Q:=
 pw mdL 130 [rp 4 (et1 hx0),rp 3 (bt (ByteArray.toList (prNm u)==ByteArray.toList (ByteArray.mk #[116,97,103])) (bsT hx1)),et1 hx0,bt (ByteArray.toList (prNm u)==ByteArray.toList (ByteArray.mk #[116,97,103])) (bsT hx1),et1 hx0] [1,2,3,4,5,6] [1] hcx hq
theorem nd_10_2(hx0:prO u=4)(hx1:¬prNm u=ByteArray.mk #[116,97,103])(cx:Cx)(hcx:cx.n=130){Q:PExit->S->Prop}(hq:Q (.normal) (S.mk [(1,.lp 1 0),(2,vI6 0),(3,vI6 a),(4,vI6 b),(5,.v (.bool x)),(6,.v (.bool (ByteArray.toList (prNm u)==ByteArray.toList (ByteArray.mk #[118,97,108]))))] [(1,prV u)] xe)):PW prog cx (regF f226 10) (nd3 u a b x xe) Q:=
 pw mdL 130 [rp 4 (et1 hx0),rp 3 (bf (ByteArray.toList (prNm u)==ByteArray.toList (ByteArray.mk #[116,97,103])) (bsF hx1)),et1 hx0,bf (ByteArray.toList (prNm u)==ByteArray.toList (ByteArray.mk #[116,97,103])) (bsF hx1),et1 hx0] [1,2,3,4,5,6] [1] hcx hq
theorem nd_10_3(hx0:¬prO u=4)(cx:Cx)(hcx:cx.n=130){Q:PExit->S->Prop}(hq:Q (.normal) (S.mk [(1,.lp 1 0),(2,vI6 0),(3,vI6 a),(4,vI6 b),(5,.v (.bool x)),(6,.v (.bool false))] [(1,prV u)] xe)):PW prog cx (regF f226 10) (nd3 u a b x xe) Q:=
 pw mdL 130 [rp 6 (en1 hx0)] [1,2,3,4,5,6] [1] hcx hq
end
def nd_10_v6(u:Pr)(a b:Int)(x:Bool):Bool:=(if prO u=4 then (if prNm u=ByteArray.mk #[116,97,103] then (true) else ((ByteArray.toList (prNm u)==ByteArray.toList (ByteArray.mk #[118,97,108])))) else (false))
theorem nd_10J(u:Pr)(a b:Int)(x:Bool)(xe:Ext):(Ob.frag 130 (regF f226 10) (nd3 u a b x xe) (.normal) (S.mk [(1,.lp 1 0),(2,vI6 0),(3,vI6 a),(4,vI6 b),(5,.v (.bool x)),(6,.v (.bool (nd_10_v6 u a b x)))] [(1,prV u)] xe)).ok prog:=by
 intro cx hcx
 by_cases g0:prO u=4
 ·by_cases g1:prNm u=ByteArray.mk #[116,97,103]
  ·exact nd_10_1 u a b x xe g0 g1 cx hcx ⟨rfl,by rw [show nd_10_v6 u a b x=(true) by unfold nd_10_v6; rw [iP g0,iP g1]]⟩
  ·exact nd_10_2 u a b x xe g0 g1 cx hcx ⟨rfl,by rw [show nd_10_v6 u a b x=((ByteArray.toList (prNm u)==ByteArray.toList (ByteArray.mk #[118,97,108]))) by unfold nd_10_v6; rw [iP g0,iN g1]]⟩
 ·exact nd_10_3 u a b x xe g0 cx hcx ⟨rfl,by rw [show nd_10_v6 u a b x=(false) by unfold nd_10_v6; rw [iN g0]]⟩
theorem nd_11_1(u:Pr)(a b:Int)(x y:Bool)(xe:Ext)(hx0:x=false)(cx:Cx)(hcx:cx.n=130){Q:PExit->S->Prop}(hq:Q (.normal) (S.mk [(1,.lp 1 0),(2,vI6 0),(3,vI6 a),(4,vI6 b),(5,.v (.bool x)),(6,.v (.bool y)),(118,.v (.bool !y))] [(1,prV u)] xe)):PW prog cx (regF f226 11) (nd2 u a b x y xe) Q:=
 pw mdL 130 [rp 3 (bt1 (bnT hx0))] [1,2,3,4,5,6,118] [1] hcx hq
theorem nd_11_2(u:Pr)(a b:Int)(x y:Bool)(xe:Ext)(hx0:x=true)(cx:Cx)(hcx:cx.n=130){Q:PExit->S->Prop}(hq:Q (.normal) (S.mk [(1,.lp 1 0),(2,vI6 0),(3,vI6 a),(4,vI6 b),(5,.v (.bool x)),(6,.v (.bool y)),(118,.v (.bool false))] [(1,prV u)] xe)):PW prog cx (regF f226 11) (nd2 u a b x y xe) Q:=
 pw mdL 130 [rp 3 (bf1 (bnF hx0))] [1,2,3,4,5,6,118] [1] hcx hq
def nd_11_v118(u:Pr)(a b:Int)(x y:Bool):Bool:=(if x=true then (false) else (!y))
theorem nd_11J(u:Pr)(a b:Int)(x y:Bool)(xe:Ext):(Ob.frag 130 (regF f226 11) (nd2 u a b x y xe) (.normal) (S.mk [(1,.lp 1 0),(2,vI6 0),(3,vI6 a),(4,vI6 b),(5,.v (.bool x)),(6,.v (.bool y)),(118,.v (.bool (nd_11_v118 u a b x y)))] [(1,prV u)] xe)).ok prog:=by
 intro cx hcx
 by_cases g0:x=true
 ·exact nd_11_2 u a b x y xe g0 cx hcx ⟨rfl,by rw [show nd_11_v118 u a b x y=(false) by unfold nd_11_v118; rw [iP g0]]⟩
 ·exact nd_11_1 u a b x y xe (Bool.eq_false_iff.2 g0) cx hcx ⟨rfl,by rw [show nd_11_v118 u a b x y=(!y) by unfold nd_11_v118; rw [iN g0]]⟩
abbrev nd4(u:Pr)(a b:Int)(x:Bool)(xe:Ext):S:=⟨[(1,.lp 1 0),(2,.v (.int .i64 0)),(3,.v (.int .i64 a)),(4,.v (.int .i64 b)),(91,.v (.bool x))],[(1,prV u)],xe⟩
section
variable (u:Pr) (a b:Int) (x y:Bool) (h13:prO u=8->0<(prK u).length) (xe:Ext)
include u a b x y h13 xe
theorem nd_13a_1(hx0:prO u=8)(cx:Cx)(hcx:cx.n=130){Q:PExit->S->Prop}(hq:Q (.normal) (S.mk [(1,.lp 1 0),(2,vI6 0),(3,vI6 a),(4,vI6 b),(5,.v (.bool x)),(6,.v (.bool y)),(129,.v (.bool (prO (List.getD (prK u) 0 default) != 1)))] [(1,prV u)] xe)):PW prog cx (regF f226 13) (nd2 u a b x y xe) Q:=
 pw mdL 130 [rp 3 (et1 hx0),am ((0:Int)<=0/\0<((Pr.cs (prK u)).length:Int)) (by (simp only [Pr.cs_len]; omega)),xPr (prK u) 0,rp 4 (et1 hx0)] [1,2,3,4,5,6,129] [1] hcx hq
theorem nd_13a_2(hx0:¬prO u=8)(cx:Cx)(hcx:cx.n=130){Q:PExit->S->Prop}(hq:Q (.normal) (S.mk [(1,.lp 1 0),(2,vI6 0),(3,vI6 a),(4,vI6 b),(5,.v (.bool x)),(6,.v (.bool y)),(129,.v (.bool false))] [(1,prV u)] xe)):PW prog cx (regF f226 13) (nd2 u a b x y xe) Q:=
 pw mdL 130 [rp 7 (en1 hx0)] [1,2,3,4,5,6,129] [1] hcx hq
end
def nd_13a_v129(u:Pr)(a b:Int)(x y:Bool):Bool:=(if prO u=8 then ((prO (List.getD (prK u) 0 default) != 1)) else (false))
theorem nd_13aJ(u:Pr)(a b:Int)(x y:Bool)(h13:prO u=8->0<(prK u).length)(xe:Ext):(Ob.frag 130 (regF f226 13) (nd2 u a b x y xe) (.normal) (S.mk [(1,.lp 1 0),(2,vI6 0),(3,vI6 a),(4,vI6 b),(5,.v (.bool x)),(6,.v (.bool y)),(129,.v (.bool (nd_13a_v129 u a b x y)))] [(1,prV u)] xe)).ok prog:=by
 intro cx hcx
 by_cases g0:prO u=8
 ·exact nd_13a_1 u a b x y h13 xe g0 cx hcx ⟨rfl,by rw [show nd_13a_v129 u a b x y=((prO (List.getD (prK u) 0 default) != 1)) by unfold nd_13a_v129; rw [iP g0]]⟩
 ·exact nd_13a_2 u a b x y h13 xe g0 cx hcx ⟨rfl,by rw [show nd_13a_v129 u a b x y=(false) by unfold nd_13a_v129; rw [iN g0]]⟩
section
variable (u:Pr) (a b:Int) (x:Bool) (h13:prO u=8->0<(prK u).length) (xe:Ext)
include u a b x h13 xe
theorem nd_13b_1(hx0:prO u=8)(cx:Cx)(hcx:cx.n=130){Q:PExit->S->Prop}(hq:Q (.normal) (S.mk [(1,.lp 1 0),(2,vI6 0),(3,vI6 a),(4,vI6 b),(91,.v (.bool x)),(129,.v (.bool (prO (List.getD (prK u) 0 default) != 1)))] [(1,prV u)] xe)):PW prog cx (regF f226 13) (nd4 u a b x xe) Q:=
 pw mdL 130 [rp 3 (et1 hx0),am ((0:Int)<=0/\0<((Pr.cs (prK u)).length:Int)) (by (simp only [Pr.cs_len]; omega)),xPr (prK u) 0,rp 4 (et1 hx0)] [1,2,3,4,91,129] [1] hcx hq
theorem nd_13b_2(hx0:¬prO u=8)(cx:Cx)(hcx:cx.n=130){Q:PExit->S->Prop}(hq:Q (.normal) (S.mk [(1,.lp 1 0),(2,vI6 0),(3,vI6 a),(4,vI6 b),(91,.v (.bool x)),(129,.v (.bool false))] [(1,prV u)] xe)):PW prog cx (regF f226 13) (nd4 u a b x xe) Q:=
 pw mdL 130 [rp 7 (en1 hx0)] [1,2,3,4,91,129] [1] hcx hq
end
def nd_13b_v129(u:Pr)(a b:Int)(x:Bool):Bool:=(if prO u=8 then ((prO (List.getD (prK u) 0 default) != 1)) else (false))
theorem nd_13bJ(u:Pr)(a b:Int)(x:Bool)(h13:prO u=8->0<(prK u).length)(xe:Ext):(Ob.frag 130 (regF f226 13) (nd4 u a b x xe) (.normal) (S.mk [(1,.lp 1 0),(2,vI6 0),(3,vI6 a),(4,vI6 b),(91,.v (.bool x)),(129,.v (.bool (nd_13b_v129 u a b x)))] [(1,prV u)] xe)).ok prog:=by
 intro cx hcx
 by_cases g0:prO u=8
 ·exact nd_13b_1 u a b x h13 xe g0 cx hcx ⟨rfl,by rw [show nd_13b_v129 u a b x=((prO (List.getD (prK u) 0 default) != 1)) by unfold nd_13b_v129; rw [iP g0]]⟩
 ·exact nd_13b_2 u a b x h13 xe g0 cx hcx ⟨rfl,by rw [show nd_13b_v129 u a b x=(false) by unfold nd_13b_v129; rw [iN g0]]⟩
theorem n13_h{u:Pr}(h:¬nd_4_v58 u (pkS_r0 (prO u)) (pkS_r1 (prO u))=true):prO u=8->0<(prK u).length:=fun h8=>by
 rcases Nat.eq_zero_or_pos (prK u).length with h0 | h0
 ·exfalso; apply h
  simp only [nd_4_v58,pnS_r0,pkS_r0,pkS_r1,h8,h0]
  simp
 ·exact h0
theorem n13_h2{u:Pr}(h:nd_4_v58 u (pkS_r0 (prO u)) (pkS_r1 (prO u))=false):prO u=8->0<(prK u).length:=n13_h (by rw [h]; decide)
def mdP:Md:=⟨fun _=>some false,fun t=>t==1000001||t==1000004||t==1000006||t==1000008||t==1000009||t==1000010||t==1000011||t==1000013⟩
section
variable (u:Pr) (hx0:nd_1_v14 u=false) (hx1:nd_4_v58 u (pkS_r0 (prO u)) (pkS_r1 (prO u))=false) (hx2:nd_6_v82 u (pkS_r0 (prO u)) (pkS_r1 (prO u))=false)
include u hx0 hx1 hx2
theorem pnd_5(hx3:nd_8_v91 u (pkS_r0 (prO u)) (pkS_r1 (prO u))=true)(hx4:nd_11_v118 u (pkS_r0 (prO u)) (pkS_r1 (prO u)) (nd_9_v5 u (pkS_r0 (prO u)) (pkS_r1 (prO u))) (nd_10_v6 u (pkS_r0 (prO u)) (pkS_r1 (prO u)) (nd_9_v5 u (pkS_r0 (prO u)) (pkS_r1 (prO u))))=false)(hx5:nd_13a_v129 u (pkS_r0 (prO u)) (pkS_r1 (prO u)) (nd_9_v5 u (pkS_r0 (prO u)) (pkS_r1 (prO u))) (nd_10_v6 u (pkS_r0 (prO u)) (pkS_r1 (prO u)) (nd_9_v5 u (pkS_r0 (prO u)) (pkS_r1 (prO u))))=true):Pu 226 [.agg (prL u)] (rI 6):=
 pu mdP (fun e=>[lf (S.mk [(0,.v (.agg (prL u))),(1,.lp 1 0),(2,vI6 0)] [(1,prV u)] e) (@nd_1J (u) (e)) ⟨⟨W,W,tVv⟩,⟨⟨W,W,W,W,tVv⟩,tVv⟩,rfl⟩,bf1 hx0,cl (@pkS (prO u)),lf (S.mk [(1,.lp 1 0),(2,vI6 0),(14,.v (.bool (nd_1_v14 u))),(16,.lp 1 0),(17,vI6 (prO u)),(18,.v (.tup [pI (pkS_r0 (prO u)),pI (pkS_r1 (prO u))])),(15,.v (.tup [pI (pkS_r0 (prO u)),pI (pkS_r1 (prO u))])),(19,vI6 (pkS_r0 (prO u))),(20,vI6 (pkS_r1 (prO u))),(3,vI6 (pkS_r0 (prO u))),(4,vI6 (pkS_r1 (prO u)))] [(1,prV u)] e) (@nd_4J (u) (pkS_r0 (prO u)) (pkS_r1 (prO u)) (e)) ⟨⟨W,W,W,W,tVv⟩,⟨⟨W,W,W,W,tVv⟩,tVv⟩,rfl⟩,bf1 hx1,lf (S.mk [(1,.lp 1 0),(2,vI6 0),(3,vI6 (pkS_r0 (prO u))),(4,vI6 (pkS_r1 (prO u))),(58,.v (.bool (nd_4_v58 u (pkS_r0 (prO u)) (pkS_r1 (prO u)))))] [(1,prV u)] e) (@nd_6J (u) (pkS_r0 (prO u)) (pkS_r1 (prO u)) (e)) ⟨⟨W,W,W,W,tVv⟩,⟨⟨W,W,W,W,tVv⟩,tVv⟩,rfl⟩,bf1 hx2,lf (S.mk [(1,.lp 1 0),(2,vI6 0),(3,vI6 (pkS_r0 (prO u))),(4,vI6 (pkS_r1 (prO u))),(82,.v (.bool (nd_6_v82 u (pkS_r0 (prO u)) (pkS_r1 (prO u)))))] [(1,prV u)] e) (@nd_8J (u) (pkS_r0 (prO u)) (pkS_r1 (prO u)) (e)) ⟨⟨W,W,W,W,tVv⟩,⟨⟨W,W,W,W,tVv⟩,tVv⟩,rfl⟩,bt1 hx3,lf (S.mk [(1,.lp 1 0),(2,vI6 0),(3,vI6 (pkS_r0 (prO u))),(4,vI6 (pkS_r1 (prO u))),(91,.v (.bool (nd_8_v91 u (pkS_r0 (prO u)) (pkS_r1 (prO u)))))] [(1,prV u)] e) (@nd_9J (u) (pkS_r0 (prO u)) (pkS_r1 (prO u)) (e)) ⟨⟨W,W,W,W,tVv⟩,⟨⟨W,W,W,W,tVv⟩,tVv⟩,rfl⟩,lf (S.mk [(1,.lp 1 0),(2,vI6 0),(3,vI6 (pkS_r0 (prO u))),(4,vI6 (pkS_r1 (prO u))),(5,.v (.bool (nd_9_v5 u (pkS_r0 (prO u)) (pkS_r1 (prO u)))))] [(1,prV u)] e) (@nd_10J (u) (pkS_r0 (prO u)) (pkS_r1 (prO u)) (nd_9_v5 u (pkS_r0 (prO u)) (pkS_r1 (prO u))) (e)) ⟨⟨W,W,W,W,W,tVv⟩,⟨⟨W,W,W,W,tVv⟩,tVv⟩,rfl⟩,lf (S.mk [(1,.lp 1 0),(2,vI6 0),(3,vI6 (pkS_r0 (prO u))),(4,vI6 (pkS_r1 (prO u))),(5,.v (.bool (nd_9_v5 u (pkS_r0 (prO u)) (pkS_r1 (prO u))))),(6,.v (.bool (nd_10_v6 u (pkS_r0 (prO u)) (pkS_r1 (prO u)) (nd_9_v5 u (pkS_r0 (prO u)) (pkS_r1 (prO u))))))] [(1,prV u)] e) (@nd_11J (u) (pkS_r0 (prO u)) (pkS_r1 (prO u)) (nd_9_v5 u (pkS_r0 (prO u)) (pkS_r1 (prO u))) (nd_10_v6 u (pkS_r0 (prO u)) (pkS_r1 (prO u)) (nd_9_v5 u (pkS_r0 (prO u)) (pkS_r1 (prO u)))) (e)) ⟨⟨W,W,W,W,W,W,tVv⟩,⟨⟨W,W,W,W,tVv⟩,tVv⟩,rfl⟩,bf1 hx4,lf (S.mk [(1,.lp 1 0),(2,vI6 0),(3,vI6 (pkS_r0 (prO u))),(4,vI6 (pkS_r1 (prO u))),(5,.v (.bool (nd_9_v5 u (pkS_r0 (prO u)) (pkS_r1 (prO u))))),(6,.v (.bool (nd_10_v6 u (pkS_r0 (prO u)) (pkS_r1 (prO u)) (nd_9_v5 u (pkS_r0 (prO u)) (pkS_r1 (prO u)))))),(118,.v (.bool (nd_11_v118 u (pkS_r0 (prO u)) (pkS_r1 (prO u)) (nd_9_v5 u (pkS_r0 (prO u)) (pkS_r1 (prO u))) (nd_10_v6 u (pkS_r0 (prO u)) (pkS_r1 (prO u)) (nd_9_v5 u (pkS_r0 (prO u)) (pkS_r1 (prO u)))))))] [(1,prV u)] e) (@nd_13aJ (u) (pkS_r0 (prO u)) (pkS_r1 (prO u)) (nd_9_v5 u (pkS_r0 (prO u)) (pkS_r1 (prO u))) (nd_10_v6 u (pkS_r0 (prO u)) (pkS_r1 (prO u)) (nd_9_v5 u (pkS_r0 (prO u)) (pkS_r1 (prO u)))) (by (apply n13_h2 <;> first | assumption | omega | decide)) (e)) ⟨⟨W,W,W,W,W,W,tVv⟩,⟨⟨W,W,W,W,tVv⟩,tVv⟩,rfl⟩,bt1 hx5]) func226
theorem pnd_6(hx3:nd_8_v91 u (pkS_r0 (prO u)) (pkS_r1 (prO u))=true)(hx4:nd_11_v118 u (pkS_r0 (prO u)) (pkS_r1 (prO u)) (nd_9_v5 u (pkS_r0 (prO u)) (pkS_r1 (prO u))) (nd_10_v6 u (pkS_r0 (prO u)) (pkS_r1 (prO u)) (nd_9_v5 u (pkS_r0 (prO u)) (pkS_r1 (prO u))))=false)(hx5:nd_13a_v129 u (pkS_r0 (prO u)) (pkS_r1 (prO u)) (nd_9_v5 u (pkS_r0 (prO u)) (pkS_r1 (prO u))) (nd_10_v6 u (pkS_r0 (prO u)) (pkS_r1 (prO u)) (nd_9_v5 u (pkS_r0 (prO u)) (pkS_r1 (prO u))))=false):Pu 226 [.agg (prL u)] (rI 0):=
 pu mdP (fun e=>[lf (S.mk [(0,.v (.agg (prL u))),(1,.lp 1 0),(2,vI6 0)] [(1,prV u)] e) (@nd_1J (u) (e)) ⟨⟨W,W,tVv⟩,⟨⟨W,W,W,W,tVv⟩,tVv⟩,rfl⟩,bf1 hx0,cl (@pkS (prO u)),lf (S.mk [(1,.lp 1 0),(2,vI6 0),(14,.v (.bool (nd_1_v14 u))),(16,.lp 1 0),(17,vI6 (prO u)),(18,.v (.tup [pI (pkS_r0 (prO u)),pI (pkS_r1 (prO u))])),(15,.v (.tup [pI (pkS_r0 (prO u)),pI (pkS_r1 (prO u))])),(19,vI6 (pkS_r0 (prO u))),(20,vI6 (pkS_r1 (prO u))),(3,vI6 (pkS_r0 (prO u))),(4,vI6 (pkS_r1 (prO u)))] [(1,prV u)] e) (@nd_4J (u) (pkS_r0 (prO u)) (pkS_r1 (prO u)) (e)) ⟨⟨W,W,W,W,tVv⟩,⟨⟨W,W,W,W,tVv⟩,tVv⟩,rfl⟩,bf1 hx1,lf (S.mk [(1,.lp 1 0),(2,vI6 0),(3,vI6 (pkS_r0 (prO u))),(4,vI6 (pkS_r1 (prO u))),(58,.v (.bool (nd_4_v58 u (pkS_r0 (prO u)) (pkS_r1 (prO u)))))] [(1,prV u)] e) (@nd_6J (u) (pkS_r0 (prO u)) (pkS_r1 (prO u)) (e)) ⟨⟨W,W,W,W,tVv⟩,⟨⟨W,W,W,W,tVv⟩,tVv⟩,rfl⟩,bf1 hx2,lf (S.mk [(1,.lp 1 0),(2,vI6 0),(3,vI6 (pkS_r0 (prO u))),(4,vI6 (pkS_r1 (prO u))),(82,.v (.bool (nd_6_v82 u (pkS_r0 (prO u)) (pkS_r1 (prO u)))))] [(1,prV u)] e) (@nd_8J (u) (pkS_r0 (prO u)) (pkS_r1 (prO u)) (e)) ⟨⟨W,W,W,W,tVv⟩,⟨⟨W,W,W,W,tVv⟩,tVv⟩,rfl⟩,bt1 hx3,lf (S.mk [(1,.lp 1 0),(2,vI6 0),(3,vI6 (pkS_r0 (prO u))),(4,vI6 (pkS_r1 (prO u))),(91,.v (.bool (nd_8_v91 u (pkS_r0 (prO u)) (pkS_r1 (prO u)))))] [(1,prV u)] e) (@nd_9J (u) (pkS_r0 (prO u)) (pkS_r1 (prO u)) (e)) ⟨⟨W,W,W,W,tVv⟩,⟨⟨W,W,W,W,tVv⟩,tVv⟩,rfl⟩,lf (S.mk [(1,.lp 1 0),(2,vI6 0),(3,vI6 (pkS_r0 (prO u))),(4,vI6 (pkS_r1 (prO u))),(5,.v (.bool (nd_9_v5 u (pkS_r0 (prO u)) (pkS_r1 (prO u)))))] [(1,prV u)] e) (@nd_10J (u) (pkS_r0 (prO u)) (pkS_r1 (prO u)) (nd_9_v5 u (pkS_r0 (prO u)) (pkS_r1 (prO u))) (e)) ⟨⟨W,W,W,W,W,tVv⟩,⟨⟨W,W,W,W,tVv⟩,tVv⟩,rfl⟩,lf (S.mk [(1,.lp 1 0),(2,vI6 0),(3,vI6 (pkS_r0 (prO u))),(4,vI6 (pkS_r1 (prO u))),(5,.v (.bool (nd_9_v5 u (pkS_r0 (prO u)) (pkS_r1 (prO u))))),(6,.v (.bool (nd_10_v6 u (pkS_r0 (prO u)) (pkS_r1 (prO u)) (nd_9_v5 u (pkS_r0 (prO u)) (pkS_r1 (prO u))))))] [(1,prV u)] e) (@nd_11J (u) (pkS_r0 (prO u)) (pkS_r1 (prO u)) (nd_9_v5 u (pkS_r0 (prO u)) (pkS_r1 (prO u))) (nd_10_v6 u (pkS_r0 (prO u)) (pkS_r1 (prO u)) (nd_9_v5 u (pkS_r0 (prO u)) (pkS_r1 (prO u)))) (e)) ⟨⟨W,W,W,W,W,W,tVv⟩,⟨⟨W,W,W,W,tVv⟩,tVv⟩,rfl⟩,bf1 hx4,lf (S.mk [(1,.lp 1 0),(2,vI6 0),(3,vI6 (pkS_r0 (prO u))),(4,vI6 (pkS_r1 (prO u))),(5,.v (.bool (nd_9_v5 u (pkS_r0 (prO u)) (pkS_r1 (prO u))))),(6,.v (.bool (nd_10_v6 u (pkS_r0 (prO u)) (pkS_r1 (prO u)) (nd_9_v5 u (pkS_r0 (prO u)) (pkS_r1 (prO u)))))),(118,.v (.bool (nd_11_v118 u (pkS_r0 (prO u)) (pkS_r1 (prO u)) (nd_9_v5 u (pkS_r0 (prO u)) (pkS_r1 (prO u))) (nd_10_v6 u (pkS_r0 (prO u)) (pkS_r1 (prO u)) (nd_9_v5 u (pkS_r0 (prO u)) (pkS_r1 (prO u)))))))] [(1,prV u)] e) (@nd_13aJ (u) (pkS_r0 (prO u)) (pkS_r1 (prO u)) (nd_9_v5 u (pkS_r0 (prO u)) (pkS_r1 (prO u))) (nd_10_v6 u (pkS_r0 (prO u)) (pkS_r1 (prO u)) (nd_9_v5 u (pkS_r0 (prO u)) (pkS_r1 (prO u)))) (by (apply n13_h2 <;> first | assumption | omega | decide)) (e)) ⟨⟨W,W,W,W,W,W,tVv⟩,⟨⟨W,W,W,W,tVv⟩,tVv⟩,rfl⟩,bf1 hx5]) func226
theorem pnd_7(hx3:nd_8_v91 u (pkS_r0 (prO u)) (pkS_r1 (prO u))=false)(hx4:nd_13b_v129 u (pkS_r0 (prO u)) (pkS_r1 (prO u)) (nd_8_v91 u (pkS_r0 (prO u)) (pkS_r1 (prO u)))=true):Pu 226 [.agg (prL u)] (rI 6):=
 pu mdP (fun e=>[lf (S.mk [(0,.v (.agg (prL u))),(1,.lp 1 0),(2,vI6 0)] [(1,prV u)] e) (@nd_1J (u) (e)) ⟨⟨W,W,tVv⟩,⟨⟨W,W,W,W,tVv⟩,tVv⟩,rfl⟩,bf1 hx0,cl (@pkS (prO u)),lf (S.mk [(1,.lp 1 0),(2,vI6 0),(14,.v (.bool (nd_1_v14 u))),(16,.lp 1 0),(17,vI6 (prO u)),(18,.v (.tup [pI (pkS_r0 (prO u)),pI (pkS_r1 (prO u))])),(15,.v (.tup [pI (pkS_r0 (prO u)),pI (pkS_r1 (prO u))])),(19,vI6 (pkS_r0 (prO u))),(20,vI6 (pkS_r1 (prO u))),(3,vI6 (pkS_r0 (prO u))),(4,vI6 (pkS_r1 (prO u)))] [(1,prV u)] e) (@nd_4J (u) (pkS_r0 (prO u)) (pkS_r1 (prO u)) (e)) ⟨⟨W,W,W,W,tVv⟩,⟨⟨W,W,W,W,tVv⟩,tVv⟩,rfl⟩,bf1 hx1,lf (S.mk [(1,.lp 1 0),(2,vI6 0),(3,vI6 (pkS_r0 (prO u))),(4,vI6 (pkS_r1 (prO u))),(58,.v (.bool (nd_4_v58 u (pkS_r0 (prO u)) (pkS_r1 (prO u)))))] [(1,prV u)] e) (@nd_6J (u) (pkS_r0 (prO u)) (pkS_r1 (prO u)) (e)) ⟨⟨W,W,W,W,tVv⟩,⟨⟨W,W,W,W,tVv⟩,tVv⟩,rfl⟩,bf1 hx2,lf (S.mk [(1,.lp 1 0),(2,vI6 0),(3,vI6 (pkS_r0 (prO u))),(4,vI6 (pkS_r1 (prO u))),(82,.v (.bool (nd_6_v82 u (pkS_r0 (prO u)) (pkS_r1 (prO u)))))] [(1,prV u)] e) (@nd_8J (u) (pkS_r0 (prO u)) (pkS_r1 (prO u)) (e)) ⟨⟨W,W,W,W,tVv⟩,⟨⟨W,W,W,W,tVv⟩,tVv⟩,rfl⟩,bf1 hx3,lf (S.mk [(1,.lp 1 0),(2,vI6 0),(3,vI6 (pkS_r0 (prO u))),(4,vI6 (pkS_r1 (prO u))),(91,.v (.bool (nd_8_v91 u (pkS_r0 (prO u)) (pkS_r1 (prO u)))))] [(1,prV u)] e) (@nd_13bJ (u) (pkS_r0 (prO u)) (pkS_r1 (prO u)) (nd_8_v91 u (pkS_r0 (prO u)) (pkS_r1 (prO u))) (by (apply n13_h2 <;> first | assumption | omega | decide)) (e)) ⟨⟨W,W,W,W,W,tVv⟩,⟨⟨W,W,W,W,tVv⟩,tVv⟩,rfl⟩,bt1 hx4]) func226
theorem pnd_8(hx3:nd_8_v91 u (pkS_r0 (prO u)) (pkS_r1 (prO u))=false)(hx4:nd_13b_v129 u (pkS_r0 (prO u)) (pkS_r1 (prO u)) (nd_8_v91 u (pkS_r0 (prO u)) (pkS_r1 (prO u)))=false):Pu 226 [.agg (prL u)] (rI 0):=
 pu mdP (fun e=>[lf (S.mk [(0,.v (.agg (prL u))),(1,.lp 1 0),(2,vI6 0)] [(1,prV u)] e) (@nd_1J (u) (e)) ⟨⟨W,W,tVv⟩,⟨⟨W,W,W,W,tVv⟩,tVv⟩,rfl⟩,bf1 hx0,cl (@pkS (prO u)),lf (S.mk [(1,.lp 1 0),(2,vI6 0),(14,.v (.bool (nd_1_v14 u))),(16,.lp 1 0),(17,vI6 (prO u)),(18,.v (.tup [pI (pkS_r0 (prO u)),pI (pkS_r1 (prO u))])),(15,.v (.tup [pI (pkS_r0 (prO u)),pI (pkS_r1 (prO u))])),(19,vI6 (pkS_r0 (prO u))),(20,vI6 (pkS_r1 (prO u))),(3,vI6 (pkS_r0 (prO u))),(4,vI6 (pkS_r1 (prO u)))] [(1,prV u)] e) (@nd_4J (u) (pkS_r0 (prO u)) (pkS_r1 (prO u)) (e)) ⟨⟨W,W,W,W,tVv⟩,⟨⟨W,W,W,W,tVv⟩,tVv⟩,rfl⟩,bf1 hx1,lf (S.mk [(1,.lp 1 0),(2,vI6 0),(3,vI6 (pkS_r0 (prO u))),(4,vI6 (pkS_r1 (prO u))),(58,.v (.bool (nd_4_v58 u (pkS_r0 (prO u)) (pkS_r1 (prO u)))))] [(1,prV u)] e) (@nd_6J (u) (pkS_r0 (prO u)) (pkS_r1 (prO u)) (e)) ⟨⟨W,W,W,W,tVv⟩,⟨⟨W,W,W,W,tVv⟩,tVv⟩,rfl⟩,bf1 hx2,lf (S.mk [(1,.lp 1 0),(2,vI6 0),(3,vI6 (pkS_r0 (prO u))),(4,vI6 (pkS_r1 (prO u))),(82,.v (.bool (nd_6_v82 u (pkS_r0 (prO u)) (pkS_r1 (prO u)))))] [(1,prV u)] e) (@nd_8J (u) (pkS_r0 (prO u)) (pkS_r1 (prO u)) (e)) ⟨⟨W,W,W,W,tVv⟩,⟨⟨W,W,W,W,tVv⟩,tVv⟩,rfl⟩,bf1 hx3,lf (S.mk [(1,.lp 1 0),(2,vI6 0),(3,vI6 (pkS_r0 (prO u))),(4,vI6 (pkS_r1 (prO u))),(91,.v (.bool (nd_8_v91 u (pkS_r0 (prO u)) (pkS_r1 (prO u)))))] [(1,prV u)] e) (@nd_13bJ (u) (pkS_r0 (prO u)) (pkS_r1 (prO u)) (nd_8_v91 u (pkS_r0 (prO u)) (pkS_r1 (prO u))) (by (apply n13_h2 <;> first | assumption | omega | decide)) (e)) ⟨⟨W,W,W,W,W,tVv⟩,⟨⟨W,W,W,W,tVv⟩,tVv⟩,rfl⟩,bf1 hx4]) func226
end
def pnd_r0(u:Pr):Int:=(if nd_1_v14 u=true then 1 else (if nd_4_v58 u (pkS_r0 (prO u)) (pkS_r1 (prO u))=true then 1 else (if nd_6_v82 u (pkS_r0 (prO u)) (pkS_r1 (prO u))=true then 2 else (if nd_8_v91 u (pkS_r0 (prO u)) (pkS_r1 (prO u))=true then (if nd_11_v118 u (pkS_r0 (prO u)) (pkS_r1 (prO u)) (nd_9_v5 u (pkS_r0 (prO u)) (pkS_r1 (prO u))) (nd_10_v6 u (pkS_r0 (prO u)) (pkS_r1 (prO u)) (nd_9_v5 u (pkS_r0 (prO u)) (pkS_r1 (prO u))))=true then 3 else (if nd_13a_v129 u (pkS_r0 (prO u)) (pkS_r1 (prO u)) (nd_9_v5 u (pkS_r0 (prO u)) (pkS_r1 (prO u))) (nd_10_v6 u (pkS_r0 (prO u)) (pkS_r1 (prO u)) (nd_9_v5 u (pkS_r0 (prO u)) (pkS_r1 (prO u))))=true then 6 else 0)) else (if nd_13b_v129 u (pkS_r0 (prO u)) (pkS_r1 (prO u)) (nd_8_v91 u (pkS_r0 (prO u)) (pkS_r1 (prO u)))=true then 6 else 0)))))
theorem pnd(u:Pr):Pu 226 [.agg (prL u)] (rI (pnd_r0 u)):=by
 by_cases h0:nd_1_v14 u=true
 ·simp only [pnd_r0,iP h0]; exact pu mdP (fun e=>[lf (S.mk [(0,.v (.agg (prL u))),(1,.lp 1 0),(2,vI6 0)] [(1,prV u)] e) (@nd_1J (u) (e)) ⟨⟨W,W,tVv⟩,⟨⟨W,W,W,W,tVv⟩,tVv⟩,rfl⟩,bt1 h0]) func226
 ·by_cases h1:nd_4_v58 u (pkS_r0 (prO u)) (pkS_r1 (prO u))=true
  ·simp only [pnd_r0,iN h0,iP h1]; exact pu mdP (fun e=>[lf (S.mk [(0,.v (.agg (prL u))),(1,.lp 1 0),(2,vI6 0)] [(1,prV u)] e) (@nd_1J (u) (e)) ⟨⟨W,W,tVv⟩,⟨⟨W,W,W,W,tVv⟩,tVv⟩,rfl⟩,bf1 (bFT h0),cl (@pkS (prO u)),lf (S.mk [(1,.lp 1 0),(2,vI6 0),(14,.v (.bool (nd_1_v14 u))),(16,.lp 1 0),(17,vI6 (prO u)),(18,.v (.tup [pI (pkS_r0 (prO u)),pI (pkS_r1 (prO u))])),(15,.v (.tup [pI (pkS_r0 (prO u)),pI (pkS_r1 (prO u))])),(19,vI6 (pkS_r0 (prO u))),(20,vI6 (pkS_r1 (prO u))),(3,vI6 (pkS_r0 (prO u))),(4,vI6 (pkS_r1 (prO u)))] [(1,prV u)] e) (@nd_4J (u) (pkS_r0 (prO u)) (pkS_r1 (prO u)) (e)) ⟨⟨W,W,W,W,tVv⟩,⟨⟨W,W,W,W,tVv⟩,tVv⟩,rfl⟩,bt1 h1]) func226
  ·by_cases h2:nd_6_v82 u (pkS_r0 (prO u)) (pkS_r1 (prO u))=true
   ·simp only [pnd_r0,iN h0,iN h1,iP h2]; exact pu mdP (fun e=>[lf (S.mk [(0,.v (.agg (prL u))),(1,.lp 1 0),(2,vI6 0)] [(1,prV u)] e) (@nd_1J (u) (e)) ⟨⟨W,W,tVv⟩,⟨⟨W,W,W,W,tVv⟩,tVv⟩,rfl⟩,bf1 (bFT h0),cl (@pkS (prO u)),lf (S.mk [(1,.lp 1 0),(2,vI6 0),(14,.v (.bool (nd_1_v14 u))),(16,.lp 1 0),(17,vI6 (prO u)),(18,.v (.tup [pI (pkS_r0 (prO u)),pI (pkS_r1 (prO u))])),(15,.v (.tup [pI (pkS_r0 (prO u)),pI (pkS_r1 (prO u))])),(19,vI6 (pkS_r0 (prO u))),(20,vI6 (pkS_r1 (prO u))),(3,vI6 (pkS_r0 (prO u))),(4,vI6 (pkS_r1 (prO u)))] [(1,prV u)] e) (@nd_4J (u) (pkS_r0 (prO u)) (pkS_r1 (prO u)) (e)) ⟨⟨W,W,W,W,tVv⟩,⟨⟨W,W,W,W,tVv⟩,tVv⟩,rfl⟩,bf1 (bFT h1),lf (S.mk [(1,.lp 1 0),(2,vI6 0),(3,vI6 (pkS_r0 (prO u))),(4,vI6 (pkS_r1 (prO u))),(58,.v (.bool (nd_4_v58 u (pkS_r0 (prO u)) (pkS_r1 (prO u)))))] [(1,prV u)] e) (@nd_6J (u) (pkS_r0 (prO u)) (pkS_r1 (prO u)) (e)) ⟨⟨W,W,W,W,tVv⟩,⟨⟨W,W,W,W,tVv⟩,tVv⟩,rfl⟩,bt1 h2]) func226
   ·by_cases h3:nd_8_v91 u (pkS_r0 (prO u)) (pkS_r1 (prO u))=true
    ·by_cases h4:nd_11_v118 u (pkS_r0 (prO u)) (pkS_r1 (prO u)) (nd_9_v5 u (pkS_r0 (prO u)) (pkS_r1 (prO u))) (nd_10_v6 u (pkS_r0 (prO u)) (pkS_r1 (prO u)) (nd_9_v5 u (pkS_r0 (prO u)) (pkS_r1 (prO u))))=true
     ·simp only [pnd_r0,iN h0,iN h1,iN h2,iP h3,iP h4]; exact pu mdP (fun e=>[lf (S.mk [(0,.v (.agg (prL u))),(1,.lp 1 0),(2,vI6 0)] [(1,prV u)] e) (@nd_1J (u) (e)) ⟨⟨W,W,tVv⟩,⟨⟨W,W,W,W,tVv⟩,tVv⟩,rfl⟩,bf1 (bFT h0),cl (@pkS (prO u)),lf (S.mk [(1,.lp 1 0),(2,vI6 0),(14,.v (.bool (nd_1_v14 u))),(16,.lp 1 0),(17,vI6 (prO u)),(18,.v (.tup [pI (pkS_r0 (prO u)),pI (pkS_r1 (prO u))])),(15,.v (.tup [pI (pkS_r0 (prO u)),pI (pkS_r1 (prO u))])),(19,vI6 (pkS_r0 (prO u))),(20,vI6 (pkS_r1 (prO u))),(3,vI6 (pkS_r0 (prO u))),(4,vI6 (pkS_r1 (prO u)))] [(1,prV u)] e) (@nd_4J (u) (pkS_r0 (prO u)) (pkS_r1 (prO u)) (e)) ⟨⟨W,W,W,W,tVv⟩,⟨⟨W,W,W,W,tVv⟩,tVv⟩,rfl⟩,bf1 (bFT h1),lf (S.mk [(1,.lp 1 0),(2,vI6 0),(3,vI6 (pkS_r0 (prO u))),(4,vI6 (pkS_r1 (prO u))),(58,.v (.bool (nd_4_v58 u (pkS_r0 (prO u)) (pkS_r1 (prO u)))))] [(1,prV u)] e) (@nd_6J (u) (pkS_r0 (prO u)) (pkS_r1 (prO u)) (e)) ⟨⟨W,W,W,W,tVv⟩,⟨⟨W,W,W,W,tVv⟩,tVv⟩,rfl⟩,bf1 (bFT h2),lf (S.mk [(1,.lp 1 0),(2,vI6 0),(3,vI6 (pkS_r0 (prO u))),(4,vI6 (pkS_r1 (prO u))),(82,.v (.bool (nd_6_v82 u (pkS_r0 (prO u)) (pkS_r1 (prO u)))))] [(1,prV u)] e) (@nd_8J (u) (pkS_r0 (prO u)) (pkS_r1 (prO u)) (e)) ⟨⟨W,W,W,W,tVv⟩,⟨⟨W,W,W,W,tVv⟩,tVv⟩,rfl⟩,bt1 h3,lf (S.mk [(1,.lp 1 0),(2,vI6 0),(3,vI6 (pkS_r0 (prO u))),(4,vI6 (pkS_r1 (prO u))),(91,.v (.bool (nd_8_v91 u (pkS_r0 (prO u)) (pkS_r1 (prO u)))))] [(1,prV u)] e) (@nd_9J (u) (pkS_r0 (prO u)) (pkS_r1 (prO u)) (e)) ⟨⟨W,W,W,W,tVv⟩,⟨⟨W,W,W,W,tVv⟩,tVv⟩,rfl⟩,lf (S.mk [(1,.lp 1 0),(2,vI6 0),(3,vI6 (pkS_r0 (prO u))),(4,vI6 (pkS_r1 (prO u))),(5,.v (.bool (nd_9_v5 u (pkS_r0 (prO u)) (pkS_r1 (prO u)))))] [(1,prV u)] e) (@nd_10J (u) (pkS_r0 (prO u)) (pkS_r1 (prO u)) (nd_9_v5 u (pkS_r0 (prO u)) (pkS_r1 (prO u))) (e)) ⟨⟨W,W,W,W,W,tVv⟩,⟨⟨W,W,W,W,tVv⟩,tVv⟩,rfl⟩,lf (S.mk [(1,.lp 1 0),(2,vI6 0),(3,vI6 (pkS_r0 (prO u))),(4,vI6 (pkS_r1 (prO u))),(5,.v (.bool (nd_9_v5 u (pkS_r0 (prO u)) (pkS_r1 (prO u))))),(6,.v (.bool (nd_10_v6 u (pkS_r0 (prO u)) (pkS_r1 (prO u)) (nd_9_v5 u (pkS_r0 (prO u)) (pkS_r1 (prO u))))))] [(1,prV u)] e) (@nd_11J (u) (pkS_r0 (prO u)) (pkS_r1 (prO u)) (nd_9_v5 u (pkS_r0 (prO u)) (pkS_r1 (prO u))) (nd_10_v6 u (pkS_r0 (prO u)) (pkS_r1 (prO u)) (nd_9_v5 u (pkS_r0 (prO u)) (pkS_r1 (prO u)))) (e)) ⟨⟨W,W,W,W,W,W,tVv⟩,⟨⟨W,W,W,W,tVv⟩,tVv⟩,rfl⟩,bt1 h4]) func226
     ·by_cases h5:nd_13a_v129 u (pkS_r0 (prO u)) (pkS_r1 (prO u)) (nd_9_v5 u (pkS_r0 (prO u)) (pkS_r1 (prO u))) (nd_10_v6 u (pkS_r0 (prO u)) (pkS_r1 (prO u)) (nd_9_v5 u (pkS_r0 (prO u)) (pkS_r1 (prO u))))=true
      ·simp only [pnd_r0,iN h0,iN h1,iN h2,iP h3,iN h4,iP h5]; exact pnd_5 u (bFT h0) (bFT h1) (bFT h2) h3 (bFT h4) h5
      ·simp only [pnd_r0,iN h0,iN h1,iN h2,iP h3,iN h4,iN h5]; exact pnd_6 u (bFT h0) (bFT h1) (bFT h2) h3 (bFT h4) (bFT h5)
    ·by_cases h4:nd_13b_v129 u (pkS_r0 (prO u)) (pkS_r1 (prO u)) (nd_8_v91 u (pkS_r0 (prO u)) (pkS_r1 (prO u)))=true
     ·simp only [pnd_r0,iN h0,iN h1,iN h2,iN h3,iP h4]; exact pnd_7 u (bFT h0) (bFT h1) (bFT h2) (bFT h3) h4
     ·simp only [pnd_r0,iN h0,iN h1,iN h2,iN h3,iN h4]; exact pnd_8 u (bFT h0) (bFT h1) (bFT h2) (bFT h3) (bFT h4)
theorem pez_1(l:List Pr)(hx0:¬(l.length:Int)=(0:Int)):Pu 174 [.sl 4 (Pr.cs l),.nilsl,.fn (.func 124) [] []] (rB false):=
 pm mdL [sl (Pr.cs_len l),kp,nt1 hx0] func174
theorem pez_2(l:List Pr)(hx0:(l.length:Int)=(0:Int)):Pu 174 [.sl 4 (Pr.cs l),.nilsl,.fn (.func 124) [] []] (rB true):=
 pm mdL [sl (Pr.cs_len l),kp,nn1 hx0,sl (Pr.cs_len l),ur,df (0<(l.length:Int))] func174
def isNil(l:List Pr):Bool:=decide ((l.length:Int)=0)
theorem pezT(l:List Pr):Pu 174 [.sl 4 (Pr.cs l),.nilsl,.fn (.func 124) [] []] (.ret (.bool (isNil l))):=by
 unfold isNil
 by_cases h:(l.length:Int)=0
 ·rw [decide_eq_true h]; first | exact pez_2 l h | exact pez_1 l h
 ·rw [decide_eq_false h]; first | exact pez_1 l h | exact pez_2 l h
def psz_r0(u:Pr):Bool:=(if prO u=0 then (if prNm u=nm0 then (if prN u=0 then (isNil (prK u)) else false) else false) else false)
theorem psz(u:Pr):Pu 124 [.agg (prL u),.agg [pI 0,.str nm0,pI 0,.nilsl]] (rB (psz_r0 u)):=by
 by_cases h0:prO u=0
 ·by_cases h1:prNm u=nm0
  ·by_cases h2:prN u=0
   ·simp only [psz_r0,iP h0,iP h1,iP h2]; exact pm mdL [rp 6 (et1 h0),rp 6 (bt (ByteArray.toList (prNm u)==ByteArray.toList nm0) (bsT h1)),rp 5 (et1 h2),cl (@pezT (prK u)),et1 h2] func124
   ·simp only [psz_r0,iP h0,iP h1,iN h2]; exact pm mdL [rp 6 (et1 h0),rp 6 (bt (ByteArray.toList (prNm u)==ByteArray.toList nm0) (bsT h1)),rp 6 (en1 h2)] func124
  ·simp only [psz_r0,iP h0,iN h1]; exact pm mdL [rp 6 (et1 h0),rp 6 (bf (ByteArray.toList (prNm u)==ByteArray.toList nm0) (bsF h1)),rp 6 (bf false)] func124
 ·simp only [psz_r0,iN h0]; exact pm mdL [rp 6 (en1 h0),rp 12 (bf false)] func124
open Go.RowKit Go.Shelf Go.Pv
attribute [local go_sem] Oper.semAt_some
set_option maxRecDepth 100000
theorem room_of_none{F:Fence}(hd:F.depth=none)(k:Nat):F.room k:=fun d h=>by rw [hd] at h; cases h
theorem RoundIn.anyDepth{F:Fence}(hd:F.depth=none){m m':Nat}{P:Program}{l:Nat}{f:FuncId}{tmps:Array Value}{assign body:Code}{w:World}{R:Ending->World->Prop}
  (h:RoundIn F m P l f tmps assign body w R):RoundIn F m' P l f tmps assign body w R:=⟨h.1,fun c cs _=>h.2 c cs (room_of_none hd _)⟩
theorem YieldAt.anyDepth{F:Fence}(hd:F.depth=none){m:Nat}(m':Nat){P:Program}{l:Nat}{args:Array Value}{W:World}{R:Ending->World->Prop}(h:YieldAt F m P l args W R):YieldAt F m' P l args W R:=by
 obtain ⟨fn,tmps,assign,body,hy,hR⟩:=h
 exact ⟨fn,tmps,assign,body,hy,RoundIn.anyDepth hd hR⟩
theorem mono_below{g:Gh}{w w':World}(hb:Below w.heap.size w w'):Mono g w g w':=by
 refine ⟨fun _ _ h=>h,fun b o v hc hf=>⟨?_,hf⟩,fun b cur e hh=>⟨cur,?_,rfl⟩,fun _ _ _ h=>h⟩
 ·have hlt:b<w.heap.size:=by
   unfold World.cell? at hc
   cases hh:w.heap[b]? with
   | none=>simp [hh] at hc
   | some x=>exact (Array.getElem?_eq_some_iff.1 hh).1
  rw [<-hc]
  exact World.cell?_of_block (hb.block b hlt)
 ·exact (hb.block b (Array.getElem?_eq_some_iff.1 hh).1).trans hh
theorem ent_below{e:Ext}{g:Gh}{l:LG}{w w':World}(he:Ent e g l w)(hb:Below w.heap.size w w'):Ent e g l w' where
 ex x cs hx:=by
  obtain ⟨b,h1,h2,hE⟩:=he.ex x cs hx
  refine ⟨b,h1.mono (mono_below hb),h2,?_⟩
  have hm:Mono g w g w':=mono_below hb
  have hh:=hb.block b (he.olt b _ h2)
  rcases hE with ⟨h3,cur,te,h4,h5,h6⟩ | hE
  ·refine .inl ⟨h3,cur,te,hh.trans h4,h5,fun j hj=>⟨(h6 j hj).1,(h6 j hj).2.1,?_⟩⟩
   exact (h6 j hj).2.2.keep hm (fun _ _ _=>rfl) fun b' hu=>⟨hu,rfl,hb.block b' (he.olt b' _ (he.uo _ b' hu))⟩
  ·exact .inr (hE.keep hm (fun _ _ _ h=>h) rfl hh)
 olt b o ho:=Nat.lt_of_lt_of_le (he.olt b o ho) hb.size
 uo:=he.uo
 fresh:=⟨fun b h=>he.fresh.1 b (Nat.le_trans hb.size h),he.fresh.2⟩
 xlt n b h:=Nat.lt_of_lt_of_le (he.xlt n b h) hb.size
 only:=he.only
 glb:=he.glb.mono (mono_below hb)
theorem calls_pur{P:Program}{f:FuncId}{args:List PV}{vs:List Value}{k:Int}{g:Gh}{l:LG}{w:World}(h:(Ob.pur f args (.ret (.int .i64 k))).ok P)(ha:RepAll g w args vs)(he:Ent [] g l w) :
  Calls P f vs.toArray w fun enz w'=>enz = .returned (.int .i64 k)/\Below w.heap.size w w':=by
 refine (h.2 [] vs g ⟨fun _=>none,fun _=>none,fun _=>none⟩ w ha ⟨fun x cs hx=>(by simp [lk] at hx),fun b o ho=>(by cases ho),fun p b hb=>(by cases hb),he.fresh,he.xlt,fun b o ho=>(by cases ho),he.glb⟩).mono ?_
 rintro enz w' ⟨r,e2,g',l',⟨rfl,rfl⟩,hres,hent',hmono,hsz,hfr,hown,os,tape,output⟩
 refine ⟨?_,os,tape,output,hsz,fun b hb=>(hfr b hb rfl).1⟩
 cases enz <;> first | exact hres.elim | skip
 rename_i v
 have h1:Rep g' w' (.int .i64 k) v:=hres
 cases h1
 rfl
theorem KC.of_below{w W:World}(h:Below w.heap.size w W):KC w W:=⟨h.size,fun k o hk _=>(h.block k (Array.getElem?_eq_some_iff.1 hk).1).trans hk⟩
theorem before_stops(F:Fence)(hd:F.depth=none)(n:Nat)(h142:F.fn 267)(h143:F.fn 268)(hro:F.round=none)(g:Gh)(W0 w:World)(Bs:Nat)(x:Nd g W0)(hk0:KC W0 w)(hBs:Bs<w.heap.size)
  (h1:w.cell? ⟨Bs,0,none⟩=some (.int .i64 (prO x.1.1))) (h2:w.cell? ⟨Bs,1,none⟩=some (.string (prNm x.1.1))) (h3:w.cell? ⟨Bs,2,none⟩=some (.int .i64 (prN x.1.1))) (h4:w.cell? ⟨Bs,3,none⟩=some (.slice x.1.2.1 x.1.2.2.1 x.1.2.2.2)) :
  SeqStopsK F n prog 267 #[.pointer (some ⟨Bs,0,none⟩)] (fun y:Nd g W0=>#[y.enc]) KC (fun ys=>ys.map (·.1.1)=nodesP x.1.1) (fun ys=>ys.map (·.1.1) <+: nodesP x.1.1) (nodesP x.1.1).length w:=fun l J Jx W hW hJ _ hY h0=>
 before1_in F hd h142 h143 hro g W0 l Bs x n J Jx (fun s W W' hs hg=>hJ s W W' none hs hg (fun r e=>by cases e))
  (fun m pre y W hj hl=>YieldAt.anyDepth hd m (hY pre y W hj hl)) W (hk0.trans (KC.of_below hW)) ((hW.cell (p:=⟨Bs,0,none⟩) hBs).trans h1) ((hW.cell (p:=⟨Bs,1,none⟩) hBs).trans h2) ((hW.cell (p:=⟨Bs,2,none⟩) hBs).trans h3) ((hW.cell (p:=⟨Bs,3,none⟩) hBs).trans h4) h0
def pcE(p:Pr):Int:=if pqF p>400 then 7 else if peF p>40 then 8 else frE pnd_r0 (nodesP p)
theorem nd_rep{g:Gh}{W0:World}(x:Nd g W0):RepAll g W0 [.agg (prL x.1.1)] [x.enc]:=by
 refine .cons ?_ .nil
 refine .agg _ [_,_,_,_] rfl (fun v hv=>?_) fun j hj hj'=>?_
 ·simp only [List.mem_cons,List.not_mem_nil,or_false] at hv
  rcases hv with rfl | rfl | rfl | rfl <;> rfl
 ·match j with
  | 0=>exact .int _ _
  | 1=>exact .str _
  | 2=>exact .int _ _
  | 3=>exact x.2
theorem below_alloc{w W:World}(h:Below w.heap.size w W)(o:Obj):Below w.heap.size w (W.alloc o):=h.alloc h.size o
def Fr(p:Pr)(oa:Option Addr)(m c:Nat)(w W:World):Prop:=
 W.cell? ⟨w.heap.size,0,none⟩=some (.int .i64 (prO p))/\W.cell? ⟨w.heap.size,1,none⟩=some (.string (prNm p))/\W.cell? ⟨w.heap.size,2,none⟩=some (.int .i64 (prN p))/\W.cell? ⟨w.heap.size,3,none⟩=some (.slice oa m c) /\
 W.cell? ⟨w.heap.size+1,0,none⟩=some (.int .i64 0)/\W.frozen? ⟨w.heap.size+1,0,none⟩=false
theorem fr_new(p:Pr)(oa:Option Addr)(m c:Nat)(w:World):Fr p oa m c w ((w.alloc (.cells #[.int .i64 (prO p),.string (prNm p),.int .i64 (prN p),.slice oa m c] 41)).alloc (.cells #[.int .i64 0] 50)):=by
 have h1:((w.alloc (.cells #[.int .i64 (prO p),.string (prNm p),.int .i64 (prN p),.slice oa m c] 41)).alloc (.cells #[.int .i64 0] 50)).heap[w.heap.size]?=some (.cells #[.int .i64 (prO p),.string (prNm p),.int .i64 (prN p),.slice oa m c] 41):=
  (Below.heap_alloc _ _ _ sM).trans (World.alloc_heap_new w _)
 have h2:((w.alloc (.cells #[.int .i64 (prO p),.string (prNm p),.int .i64 (prN p),.slice oa m c] 41)).alloc (.cells #[.int .i64 0] 50)).heap[w.heap.size+1]?=some (.cells #[.int .i64 0] 50):=by
  have:=World.alloc_heap_new (w.alloc (.cells #[.int .i64 (prO p),.string (prNm p),.int .i64 (prN p),.slice oa m c] 41)) (.cells #[.int .i64 0] 50)
  rwa [World.size_alloc] at this
 unfold Fr World.cell? World.frozen?
 rw [h1,h2]
 exact ⟨rfl,rfl,rfl,rfl,rfl,rfl⟩
theorem Fr.kept{p:Pr}{oa:Option Addr}{m c:Nat}{w A B:World}(h:Fr p oa m c w A)(hl:w.heap.size+2<=A.heap.size)(hb:Below A.heap.size A B):Fr p oa m c w B:=by
 have k1:=hb.block w.heap.size oM
 have k2:=hb.block (w.heap.size+1) oM
 unfold Fr World.cell? World.frozen? at h ⊢
 rw [k1,k2]
 exact h
set_option maxHeartbeats 4000000 in
theorem check_in(p:Pr)(hs:bulkPs (prL p)<=100000000)(g:Gh)(l0:LG)(w:World)(oa:Option Addr)(m c:Nat)(hr:Rep g w (.sl 4 (Pr.cs (prK p))) (.slice oa m c))(he:Ent [] g l0 w) :
  Calls prog 173 #[encP p (.slice oa m c)] w fun e w'=>e = .returned (.int .i64 (pcE p))/\Below w.heap.size w w':=by
 refine (callsIn_wide (n:=6)).1 ?_
 obtain ⟨x,hx⟩:∃x:Nd g w,x.1=(p,oa,m,c):=⟨⟨(p,oa,m,c),hr⟩,rfl⟩
 have hrep:RepAll g w [.agg (prL p)] [encP p (.slice oa m c)]:=by have:=nd_rep x; rw [Nd.enc,hx] at this; exact this
 refine callsIn_of_wp_marks func173 rfl trivial ?_ rfl
 simp only [Tryz.ntmps173,List.size_toArray,List.length_cons,List.length_nil,Nat.reduceAdd,Nat.reduceSub,Array.replicate_succ,Array.replicate_zero,List.push_toArray,List.append_toArray,List.nil_append,List.cons_append]
 have hf1:=fr_new p oa m c w
 have hb1:Below w.heap.size w ((w.alloc (.cells #[.int .i64 (prO p),.string (prNm p),.int .i64 (prN p),.slice oa m c] 41)).alloc (.cells #[.int .i64 0] 50)):=below_alloc (below_alloc (Below.refl _ _) _) _
 have hz1:w.heap.size+2<=((w.alloc (.cells #[.int .i64 (prO p),.string (prNm p),.int .i64 (prN p),.slice oa m c] 41)).alloc (.cells #[.int .i64 0] 50)).heap.size:=by simp
 generalize hw1:(w.alloc (.cells #[.int .i64 (prO p),.string (prNm p),.int .i64 (prN p),.slice oa m c] 41)).alloc (.cells #[.int .i64 0] 50)=w1 at hf1 hb1 hz1
 have hall:∀ (f:FuncId) (k:Int),Pu f [.agg (prL p)] (.ret (.int .i64 k))->∀ (W:World),Fr p oa m c w W->Below w.heap.size w W->w.heap.size+2<=W.heap.size->CallsIn Fence.wide 5 prog f #[encP p (.slice oa m c)] W fun e W'=>e = .returned (.int .i64 k)/\Fr p oa m c w W'/\Below w.heap.size w W'/\w.heap.size+2<=W'.heap.size:=by
  intro f k hk W hF hB hS
  refine callsIn_wide.2 ?_
  refine (calls_pur hk (hrep.mono (mono_below hB)) (ent_below he hB)).mono ?_
  rintro e W' ⟨h1,h2⟩
  exact ⟨h1,hF.kept hS h2,hB.trans (h2.mono hB.size),Nat.le_trans hS h2.size⟩
 obtain ⟨c0,c1,c2,c3,r0,rf⟩:=id hf1
 have k98:=hall 223 _ (pqT p hs) w1 hf1 hb1 hz1
 gi_wp2_with (first
  | (refine ⟨trivial,?_⟩; gi_at_call 223; refine k98.mono ?_; clear k98; rintro e W2 ⟨rfl,hf2,hb2,hz2⟩; clear c0 c1 c2 c3 r0 rf; obtain ⟨c0,c1,c2,c3,r0,rf⟩:=id hf2; have k99:=hall 224 _ (peT p hs) W2 hf2 hb2 hz2)
  | (refine ⟨trivial,?_⟩; gi_at_call 224; refine k99.mono ?_; clear k99; rintro e W3 ⟨rfl,hf3,hb3,hz3⟩; clear c0 c1 c2 c3 r0 rf; obtain ⟨c0,c1,c2,c3,r0,rf⟩:=id hf3)
  | (refine ⟨trivial,?_⟩; gi_at_call 225; refine (before_in Fence.wide 5 trivial rfl p oa m c _).mono ?_; rintro e W4 ⟨rfl,rfl⟩))
 ·have hgt:pqF p>400:=by omega
  have hc5:=World.cell?_setCell_same' W2 ⟨w.heap.size+1,0,none⟩ (.int .i64 7) (by rw [r0]; rfl)
  refine ⟨.int .i64 7,by simp [results,f173,go_sem,hc5],?_,hb2.setCell (p:=⟨w.heap.size+1,0,none⟩) sM _⟩
  unfold pcE; rw [iP hgt]
 ·have hgt:¬pqF p>400:=by omega
  have hgt2:peF p>40:=by omega
  have hc5:=World.cell?_setCell_same' W3 ⟨w.heap.size+1,0,none⟩ (.int .i64 8) (by rw [r0]; rfl)
  refine ⟨.int .i64 8,by simp [results,f173,go_sem,hc5],?_,hb3.setCell (p:=⟨w.heap.size+1,0,none⟩) sM _⟩
  unfold pcE; rw [iN hgt,iP hgt2]
 ·have hgt:¬pqF p>400:=by omega
  have hgt2:¬peF p>40:=by omega
  have hpc:pcE p=frE pnd_r0 (nodesP p):=by unfold pcE; rw [iN hgt,iN hgt2]
  have hzW:W3.heap.size<(W3.alloc (.cells #[.int .i64 (prO p),.string (prNm p),.int .i64 (prN p),.slice oa m c] 41)).heap.size:=by simp
  have hb4:Below w.heap.size w (W3.alloc (.cells #[.int .i64 (prO p),.string (prNm p),.int .i64 (prN p),.slice oa m c] 41)):=hb3.alloc hb3.size _
  have hz4:w.heap.size+2<=(W3.alloc (.cells #[.int .i64 (prO p),.string (prNm p),.int .i64 (prN p),.slice oa m c] 41)).heap.size:=by simp; omega
  have hbox:(W3.alloc (.cells #[.int .i64 (prO p),.string (prNm p),.int .i64 (prN p),.slice oa m c] 41)).heap[W3.heap.size]?=some (.cells #[.int .i64 (prO p),.string (prNm p),.int .i64 (prN p),.slice oa m c] 41):=World.alloc_heap_new _ _
  have hf4:Fr p oa m c w (W3.alloc (.cells #[.int .i64 (prO p),.string (prNm p),.int .i64 (prN p),.slice oa m c] 41)):=hf3.kept hz3 ((Below.refl _ _).alloc (Nat.le_refl _) _)
  clear hall c0 c1 c2 c3 r0 rf hf1 hb1 hz1 hw1 hf2 hb2 hz2
  generalize hW4:W3.alloc (.cells #[.int .i64 (prO p),.string (prNm p),.int .i64 (prN p),.slice oa m c] 41)=W4 at hzW hb4 hz4 hbox hf4 ⊢
  generalize hBs:W3.heap.size=Bs at hzW hbox ⊢
  have hcell:∀j,W4.cell? ⟨Bs,j,none⟩ = #[Value.int .i64 (prO p),.string (prNm p),.int .i64 (prN p),.slice oa m c][j]?:=fun j=>by unfold World.cell?; rw [hbox]; rfl
  have hst:=before_stops Fence.wide rfl 5 trivial trivial rfl g w W4 Bs x (KC.of_below hb4) hzW (by rw [hx]; exact hcell 0) (by rw [hx]; exact hcell 1) (by rw [hx]; exact hcell 2) (by rw [hx]; exact hcell 3)
  obtain ⟨_,_,_,_,r0,rf⟩:=hf4
  refine wpIn_rangeFunc_ownH rfl oM (gf:=267) (lb:=#[.pointer (some ⟨Bs,0,none⟩)]) rfl trivial (enters_of func267 kR rfl) hst KC.trans
   (fun W l o o' hl hh ho _=>⟨by simp,fun k o2 hk hc2=>(World.putObj_heap_other (fun e=>by subst e; rw [hh] at hk; cases hk; rw [ho] at hc2; cases hc2)).trans hk⟩) (Below.refl _ _) (fun _=>rfl)
   (fun pre W=>((∀y∈pre,pnd_r0 y.1.1=0)/\W.cell? ⟨w.heap.size+1,0,none⟩=some (.int .i64 0)/\W.frozen? ⟨w.heap.size+1,0,none⟩=false)/\Below w.heap.size w W)
   (fun cdz pre W=>(cdz = .ret/\∃ps y,pre=ps++[y]/\(∀z∈ps,pnd_r0 z.1.1=0)/\¬pnd_r0 y.1.1=0/\W.cell? ⟨w.heap.size+1,0,none⟩=some (.int .i64 (pnd_r0 y.1.1)))/\Below w.heap.size w W)
   (OwnFrom.and (Own.from (fun s A B row hs hg hr=>⟨hs.1,cell_kept hs.2.1 hg hr,(frozen_kept hs.2.1 hg hr).trans hs.2.2⟩) _) (ownFrom_below (Nat.le_refl _) oM))
   (fun cdz=>OwnFrom.and (Own.from (fun s A B row hs hg hr=>⟨hs.1,let ⟨ps,y,k1,k2,k3,k4⟩:=hs.2; ⟨ps,y,k1,k2,k3,cell_kept k4 hg hr⟩⟩) _) (ownFrom_below (Nat.le_refl _) oM))
   ⟨⟨fun y hy=>(by cases hy),r0,rf⟩,hb4⟩
   (fun y a' W=>∃Bx,w.heap.size+2<=Bx/\W.heap[Bx]?=some (.cells #[.int .i64 (prO y.1.1),.string (prNm y.1.1),.int .i64 (prN y.1.1),.slice y.1.2.1 y.1.2.2.1 y.1.2.2.2] 41) /\
    a'={ tmps:=#[encP p (.slice oa m c),.pointer (some ⟨w.heap.size,0,none⟩),.pointer (some ⟨w.heap.size+1,0,none⟩),.pointer (some ⟨Bx,0,none⟩),undef,encP p (.slice oa m c),.int .i64 (pqF p),.bool false,encP p (.slice oa m c),.int .i64 (peF p),.bool false,encP p (.slice oa m c),.func (.func 267) #[] #[.pointer (some ⟨Bs,0,none⟩)],y.enc,undef,undef,undef,undef,undef],defers:=[] })
   (fun y a' s A B row hs hg hr=>by
    obtain ⟨Bx,h1,h2,h3⟩:=hs
    refine ⟨Bx,h1,(hg.block Bx (Array.getElem?_eq_some_iff.1 h2).1 (fun e=>?_)).trans h2,h3⟩
    obtain ⟨_,o,ho,hc⟩:=hr Bx e.symm
    rw [h2] at ho; cases ho; cases hc) ?assign ?body ?done ?stop
  case assign=>
   rintro l pre y W K ⟨⟨hz,q0,qf⟩,hB⟩ hK
   have hrc:w.heap.size+1<W.heap.size:=by
    unfold World.cell? at q0
    cases hh:W.heap[w.heap.size+1]? with
    | none=>simp [hh] at q0
    | some o=>exact (Array.getElem?_eq_some_iff.1 hh).1
   simp only [Nd.enc]
   obtain ⟨q,oa',m',c',hyx⟩:∃q oa' m' c',y.1=(q,oa',m',c'):=⟨_,_,_,_,rfl⟩
   simp only [Nd.enc,hyx] at hK ⊢
   gi_wp2
   exact hK _ _ ((KeepsOthers.alloc _ _).from _) ((KC.refl W).alloc _) ⟨⟨hz,cell_kept q0 (World.grownBy_alloc W _ none) (fun r e=>by cases e),(frozen_kept q0 (World.grownBy_alloc W _ none) (fun r e=>by cases e)).trans qf⟩,hB.alloc hB.size _⟩ ⟨W.heap.size,by omega,World.alloc_heap_new _ _,rfl⟩
  case body=>
   rintro l pre y a' W hl ⟨r,hr0⟩ ⟨⟨hz,q0,qf⟩,hB⟩ ⟨Bx,hBx,hbx,rfl⟩ hlt
   have hrc:w.heap.size+1<W.heap.size:=by
    unfold World.cell? at q0
    cases hh:W.heap[w.heap.size+1]? with
    | none=>simp [hh] at q0
    | some o=>exact (Array.getElem?_eq_some_iff.1 hh).1
   have k101:CallsIn (Fence.wide.inRound l) (6 - 1 - 1 - 1) prog 226 #[y.enc] W fun e W'=>e = .returned (.int .i64 (pnd_r0 y.1.1))/\Below W.heap.size W W'/\W'.cell? ⟨w.heap.size+1,0,none⟩=some (.int .i64 0)/\W'.frozen? ⟨w.heap.size+1,0,none⟩=false:=by
    refine CallsIn.inRound l (callsIn_wide.2 ((calls_pur (pnd y.1.1) ((nd_rep y).mono (mono_below hB)) (ent_below he hB)).mono ?_))
    rintro e W' ⟨h1,h2⟩
    have hblk:=h2.block (w.heap.size+1) hrc
    refine ⟨h1,h2,?_,?_⟩
    ·unfold World.cell? at q0 ⊢; rw [hblk]; exact q0
    ·unfold World.frozen? at qf ⊢; rw [hblk]; exact qf
   simp only [Nd.enc] at k101 ⊢
   have hxB:∀j,W.cell? ⟨Bx,j,none⟩ = #[Value.int .i64 (prO y.1.1),.string (prNm y.1.1),.int .i64 (prN y.1.1),.slice y.1.2.1 y.1.2.2.1 y.1.2.2.2][j]?:=fun j=>by unfold World.cell?; rw [hbx]; rfl
   have c0:=hxB 0
   have c1:=hxB 1
   have c2:=hxB 2
   have c3:=hxB 3
   clear hxB hbx hst hcell
   generalize hpn:pnd_r0 y.1.1=k at k101
   obtain ⟨q,oa',m',c',hyx⟩:∃q oa' m' c',y.1=(q,oa',m',c'):=⟨_,_,_,_,rfl⟩
   simp only [hyx,List.getElem?_toArray,List.getElem?_cons_zero,List.getElem?_cons_succ] at k101 c0 c1 c2 c3 ⊢
   clear hyx
   by_cases hk0:k=0
   ·subst hk0
    gi_wp2_with (refine ⟨trivial,?_⟩; gi_at_call 226; refine k101.mono ?_; clear k101; rintro e W2 ⟨rfl,hB2,p0,pf⟩)
    refine ⟨⟨hB2.size,fun k o _ hk _=>(hB2.block k (Array.getElem?_eq_some_iff.1 hk).1).trans hk⟩,KC.of_below hB2,⟨fun z hz'=>?_,p0,pf⟩,hB.trans (hB2.mono hB.size)⟩
    rcases List.mem_append.1 hz' with h | h
    ·exact hz z h
    ·simp only [List.mem_singleton] at h; subst h; exact hpn
   ·gi_wp2_with (refine ⟨trivial,?_⟩; gi_at_call 226; refine k101.mono ?_; clear k101; rintro e W2 ⟨rfl,hB2,p0,pf⟩)
    have hw2:=World.cell?_setCell_same' W2 ⟨w.heap.size+1,0,none⟩ (.int .i64 k) (by rw [p0]; rfl)
    exact ⟨(show KeepsFrom W4.heap.size W W2 from ⟨hB2.size,fun k o _ hk _=>(hB2.block k (Array.getElem?_eq_some_iff.1 hk).1).trans hk⟩).trans ((KeepsOthers.setCell W2 _ _).from _),
     ⟨rfl,pre,y,rfl,hz,by rw [hpn]; exact hk0,by rw [hpn]; exact hw2⟩,(hB.trans (hB2.mono hB.size)).setCell (p:=⟨w.heap.size+1,0,none⟩) sM _⟩
  case done=>
   rintro D ys W hD hS ⟨⟨hz,q0,qf⟩,hB⟩ hK
   gi_wp2
   have hK':=(KeepsOthers.setCell W ⟨w.heap.size+1,0,none⟩ (.int .i64 0)).same D _ hK rfl
   refine ⟨by simp,.inl ⟨_,_,rfl,run_takeDeferred hK',?_⟩⟩
   have hc5:=cell_kept (World.cell?_setCell_same' W ⟨w.heap.size+1,0,none⟩ (.int .i64 0) (by rw [q0]; rfl)) (grownBy_putObj' _ D (.deferred none)) (fun r e=>by cases e; exact ⟨_,hK',rfl⟩)
   refine ⟨.int .i64 0,by simp [results,f173,go_sem,hc5],?_,?_⟩
   ·have:∀zs:List (Nd g w),(∀z∈zs,pnd_r0 z.1.1=0)->frE pnd_r0 (zs.map (·.1.1))=0:=fun zs=>by
     induction zs with
     | nil=>intro _; rfl
     | cons a r ih=>intro h; simp only [List.map_cons,frE]; rw [iP (h a sM)]; exact ih fun z hz=>h z (List.mem_cons_of_mem _ hz)
    have h1:=this ys hz
    rw [hS,hx] at h1
    rw [h1]
   ·exact (hB.setCell (p:=⟨w.heap.size+1,0,none⟩) sM _).trans (belowK_b (w:=w) (Nat.le_refl _) _ D _ _ oM hK' rfl rfl)
  case stop=>
   rintro D cdz pre W hD hS ⟨⟨rfl,ps,y,rfl,hz,hne,q0⟩,hB⟩ hK
   gi_wp2
   refine ⟨by simp,.inl ⟨_,_,rfl,run_takeDeferred hK,?_⟩⟩
   have hc5:=cell_kept q0 (grownBy_putObj' _ D (.deferred none)) (fun r e=>by cases e; exact ⟨_,hK,rfl⟩)
   refine ⟨.int .i64 (pnd_r0 y.1.1),by simp [results,f173,go_sem,hc5],?_,hB.trans (belowK_b (w:=w) (Nat.le_refl _) _ D _ _ oM hK rfl rfl)⟩
   have:∀ (zs:List (Nd g w)) (rest:List Pr),(∀z∈zs,pnd_r0 z.1.1=0)->frE pnd_r0 ((zs++[y]).map (·.1.1)++rest)=pnd_r0 y.1.1:=fun zs rest=>by
    induction zs with
    | nil=>intro _; simp only [List.nil_append,List.map_cons,List.map_nil,List.cons_append,frE]; rw [iN hne]
    | cons a r ih=>intro h; simp only [List.cons_append,List.map_cons,frE]; rw [iP (h a sM)]; exact ih fun z hz=>h z (List.mem_cons_of_mem _ hz)
   obtain ⟨rest,hrest⟩:=hS
   have h1:=this ps rest hz
   rw [hrest,hx] at h1
   rw [h1]
mutual
theorem pr_nx:∀p:Pr,noXs (prL p)=true
 | .mk o s n ks=>by simp only [prK,noXs,PV.noX,prs_nx ks,Bool.and_self]
theorem prs_nx:∀l:List Pr,noXss (Pr.cs l)=true
 | []=>rfl
 | x::r=>by rw [show Pr.cs (x::r)=prL x::Pr.cs r by simp [Pr.cs_eq],noXss,prs_nx r,pr_nx x]; rfl
end
theorem pcT(p:Pr)(hs:bulkPs (prL p)<=100000000):Pu 173 [.agg (prL p)] (.ret (.int .i64 (pcE p))):=by
 refine Ob.pur_of_eff (e':=[]) (by have h1:=pr_nx p; simp only [noXs,PV.noX,Bool.and_true,Bool.true_and] at h1 ⊢; exact h1) rfl ⟨by kernel_rfl,fun vs g l w ha he=>?_⟩
 obtain ⟨v,vs',rfl,hr,ha'⟩:=ha.inv_cons
 obtain rfl:=ha'.inv_nil
 obtain ⟨oa,m,c,hk,rfl⟩:∃oa m c,Rep g w (.sl 4 (Pr.cs (prK p))) (.slice oa m c)/\v=encP p (.slice oa m c):=by
  generalize he:prL p=cs at hr
  cases hr with
  | agg _ vs h1 ho h=>
   subst he
   match vs,h1,h with
   | [v0,v1,v2,v3],_,h=>
    have r0:Rep g w (.int .i64 (prO p)) v0:=h 0 sM sM
    have r1:Rep g w (.str (prNm p)) v1:=h 1 sM sM
    have r2:Rep g w (.int .i64 (prN p)) v2:=h 2 sM sM
    have r3:Rep g w (.sl 4 (Pr.cs (prK p))) v3:=h 3 sM sM
    obtain ⟨oa,m,c,rfl⟩:=sl_val r3
    cases r0; cases r1; cases r2
    exact ⟨oa,m,c,r3,rfl⟩
 refine (check_in p hs g l w oa m c hk he).mono ?_
 rintro enz w' ⟨rfl,hbel⟩
 exact ⟨_,[],g,l,⟨rfl,rfl⟩,.int _ _,ent_below he hbel,mono_below hbel,hbel.size,fun b hb _=>⟨hbel.block b hb,rfl⟩,fun b o ho => .inr (by rw [ho]; rfl),hbel.os,hbel.tape,hbel.output⟩
theorem frE_zero{α:Type}{f:α->Int}:∀ {l:List α},frE f l=0->∀x∈l,f x=0
 | [],_,_,h=>by cases h
 | c::r,h,x,hx=>by
  by_cases hc:f c=0
  ·simp only [frE,hc,if_true] at h
   rcases List.mem_cons.1 hx with rfl | hx
   ·exact hc
   ·exact frE_zero h x hx
  ·simp only [frE,hc,if_false] at h
theorem pnd_ar{u:Pr}(h:pnd_r0 u=0)(ho:prO u=10∨prO u=11):2<=(prK u).length:=by
 rcases Nat.lt_or_ge (prK u).length 2 with hl | hl
 ·exfalso
  have hb:((prK u).length:Int)<2:=by omega
  have h4:nd_4_v58 u (pkS_r0 (prO u)) (pkS_r1 (prO u))=true:=by
   rcases ho with ho | ho <;> simp [nd_4_v58,pnS_r0,pkS_r0,pkS_r1,ho,hb]
  unfold pnd_r0 at h
  by_cases h1:nd_1_v14 u=true
  ·simp [h1] at h
  ·simp [h1,h4] at h
 ·exact hl
mutual
theorem nodes_kid:∀ (p:Pr) (w:Pr),w∈prK p->∀x∈nodesP w,x∈nodesP p
 | .mk o s n ks,w,hw,x,hx=>by
  rw [nodesP]
  exact List.mem_cons_of_mem _ (nodes_kids ks w hw x hx)
theorem nodes_kids:∀ (l:List Pr) (w:Pr),w∈l->∀x∈nodesP w,x∈nodesPs l
 | [],w,hw,x,hx=>by cases hw
 | c::r,w,hw,x,hx=>by
  rw [nodesPs,List.mem_append]
  rcases List.mem_cons.1 hw with rfl | hw
  ·exact .inl hx
  ·exact .inr (nodes_kids r w hw x hx)
end
theorem ar_of(d:Nat):∀ (p:Pr),bulkPs (prL p)<d->(∀x∈nodesP p,pnd_r0 x=0)->ArOK p:=by
 induction d with
 | zero=>intro p h; omega
 | succ d ih=>
  intro p h hn
  refine .mk p (fun ho=>pnd_ar (hn p (by rw [nodesP_e]; simp)) ho) fun w hw=>ih w (by have:=prw_bulk p; have:=Pr.mem hw; omega) fun x hx=>hn x (nodes_kid p w hw x hx)
theorem ar_pc{p:Pr}(h:pcE p=0):ArOK p:=by
 unfold pcE at h
 split at h
 ·cases h
 ·split at h
  ·cases h
  ·exact ar_of _ p (Nat.lt_succ_self _) (frE_zero h)
def mdO:Md:=⟨fun t=>if t=215 then none else some false,fun _=>false⟩
theorem ofC2(v:Nv)(p:Pr)(hW:EnvS v)(hs:bulkPs (prL p)<=100000000)(hpc:pcE p=0):Ef 175 [.agg (prL p),.xp 0 0,.ro (nvL v) 0] [(0,[.v (.fn (.func 175) [] [.xp 0 0,.ro (nvL v) 0])])] (.ret (.tup [.str (ofF v p).1,.int .i64 (ofF v p).2])) [(0,[.v (.fn (.func 175) [] [.xp 0 0,.ro (nvL v) 0])])]:=ofC v p hW (ar_pc hpc) oM
section
variable (v:Nv) (p:Pr) (hW:EnvS v) (hs:bulkPs (prL p)<=100000000)
include v p hW hs
theorem soL_1(hx0:¬pcE p=0):Ef 125 [.agg (nvL v),.agg (prL p)] ([]) (.ret (.tup [.str nm0,pI (pcE p)])) ([]):=
 ef mdO [cl (@pcT (p) hs),nt1 hx0] func125
theorem soL_2(hx0:pcE p=0):Ef 125 [.agg (nvL v),.agg (prL p)] ([]) (.ret (.tup [.str (Prod.fst (ofF v p)),pI (Prod.snd (ofF v p))])) ([(0,[.v (.fn (.func 175) [] [.xp 0 0,.ro (nvL v) 0])])]):=
 ef mdO [cl (@pcT (p) hs),nn1 hx0,ce (@ofC2 (v) (p) hW hs hx0)] func125
end
theorem nms_nx:∀l:List BA,noXss (nmsC l)=true
 | []=>rfl
 | x::r=>by rw [show nmsC (x::r)=[.str x]::nmsC r by simp [nmsC],noXss,nms_nx r]; rfl
abbrev dsA_I(l:List BA)(j:Int)(ks:List BA)  : S:=S.mk [(2,.v (.bool false)),(3,.v (PV.mp 0)),(7,vL 1 (nmsC l)),(8,vI6 (l.length:Int)),(9,vI6 j)] [] [(0,[LV.mm (MM.s (mks ks))])]
inductive dsA_R where
 | e0 (ks:List BA)
 | e1 (ks:List BA)
def dsA_f  : List BA->(List BA)->dsA_R
 | [],ks=>(dsA_R.e1 ks)
 | el::r,ks=>(if memB el ks=true then (dsA_R.e0 ks) else dsA_f  r (adN el ks))
noncomputable def dsA_q (l:List BA)  : dsA_R->PExit × S
 | .e0 ks=>(.ret,S.mk [(2,.v (.bool false)),(3,.v (PV.mp 0)),(7,vL 1 (nmsC l)),(8,vI6 (l.length:Int))] [] [(0,[LV.mm (MM.s (mks ks))])])
 | .e1 ks=>(.exit 0,S.mk [(2,.v (.bool false)),(3,.v (PV.mp 0)),(7,vL 1 (nmsC l)),(8,vI6 (l.length:Int))] [] [(0,[LV.mm (MM.s (mks ks))])])
theorem dsA_lp(l:List BA)(hN:l.length<=1000000000)(ks:List BA):(Ob.loop 19 (loopF f88 0) (dsA_I l 0 ks) (dsA_q l  (dsA_f  (List.drop 0 (l))  ks)).1 (dsA_q l  (dsA_f  (List.drop 0 (l))  ks)).2).ok prog:=by
 refine rng l.length (fun j ks=>dsA_I l j ks) (fun i ks=>dsA_f  (List.drop i (l))  ks) (dsA_q l) (fun i ks=>True) kR ?_ ks trivial
 rintro i ks hi -
 rcases Nat.lt_or_ge i (l.length) with hlt | hge
 ·have hd:=drop_at0 hlt
  by_cases h0:memB (List.getD l i nm0) ks=true
  ·exact lX mdW [dt ((i:Int)<(l.length:Int)),am ((0:Int)<=(i:Int)/\(i:Int)<((nmsC l).length:Int)) (by (simp only [nmsC_len]; omega)),ar (List.getD (nmsC l) (Int.toNat (i:Int)) []) [.str (List.getD l i nm0)] (by simp only [Int.toNat_natCast,Int.toNat_zero]; rw [@nmsC_at (l) (i) hlt]; try rfl),av (.v (luRes false (mget (List.getD l i nm0) (mks ks)) (.bool false))) (.v (.bool (memB (List.getD l i nm0) ks))) (by (simp only [lu_mks]; done)),bt1 h0] (dsA_R.e0 ks) (by rw [hd,dsA_f,iP h0])
  ·exact lS mdW [dt ((i:Int)<(l.length:Int)),am ((0:Int)<=(i:Int)/\(i:Int)<((nmsC l).length:Int)) (by (simp only [nmsC_len]; omega)),ar (List.getD (nmsC l) (Int.toNat (i:Int)) []) [.str (List.getD l i nm0)] (by simp only [Int.toNat_natCast,Int.toNat_zero]; rw [@nmsC_at (l) (i) hlt]; try rfl),av (.v (luRes false (mget (List.getD l i nm0) (mks ks)) (.bool false))) (.v (.bool (memB (List.getD l i nm0) ks))) (by (simp only [lu_mks]; done)),bf1 (bFT h0),wr ((i:Int)+1)] [2,3,7,8,9] [] hlt (adN (List.getD l i nm0) ks) (S.mk [(2,.v (.bool false)),(3,.v (PV.mp 0)),(7,vL 1 (nmsC l)),(8,vI6 (l.length:Int)),(9,vI6 ((i:Int)+1))] [] [(0,[LV.mm (MM.s (mupd (List.getD l i nm0) (.bool true) (mks ks)))])]) ⟨⟨W,W,W,W,W,tVv⟩,trivial,(by first | rfl | (simp only [List.nil_append,nmsC_app,nmsC_snoc,Pr.cs_snoc,Tp.cs_snoc,Ex.cs_snoc,Vr.cs_snoc,Df.cs_snoc,mks_ad]; done) | (simp only [List.nil_append,nmsC_app,nmsC_snoc,Pr.cs_snoc,Tp.cs_snoc,Ex.cs_snoc,Vr.cs_snoc,Df.cs_snoc,mks_ad]; rfl))⟩ trivial (by rw [hd,dsA_f,iN h0])
 ·have he:i=l.length:=by omega
  exact lX mdW [df ((i:Int)<(l.length:Int))] (dsA_R.e1 ks) (by rw [he,List.drop_length,dsA_f])
theorem dsA_0(l:List BA)(ks:List BA)(hN:l.length<=1000000000)(p0:List BA)(hres:(dsA_f  (l)  ks)=(dsA_R.e0 p0)):(Ob.loop 19 (loopF f88 0) (dsA_I l 0 ks) (dsA_q l  (dsA_R.e0 p0)).1 (dsA_q l  (dsA_R.e0 p0)).2).ok prog:=
 rz (dsA_lp l hN ks) hres
theorem dsA_1(l:List BA)(ks:List BA)(hN:l.length<=1000000000)(p0:List BA)(hres:(dsA_f  (l)  ks)=(dsA_R.e1 p0)):(Ob.loop 19 (loopF f88 0) (dsA_I l 0 ks) (dsA_q l  (dsA_R.e1 p0)).1 (dsA_q l  (dsA_R.e1 p0)).2).ok prog:=
 rz (dsA_lp l hN ks) hres
def disB(l:List BA):Bool:=match dsA_f l [] with
 | .e0 _=>false
 | .e1 _=>true
theorem ds0(l:List BA)(hN:l.length<=1000000000)(k0:List BA)(hres:dsA_f l [] = .e0 k0):(Ob.loop 19 (loopF f88 0) (dsA_I l 0 []) (dsA_q l (.e0 k0)).1 (dsA_q l (.e0 k0)).2).ok prog:=dsA_0 l [] hN k0 hres
theorem ds1(l:List BA)(hN:l.length<=1000000000)(k0:List BA)(hres:dsA_f l [] = .e1 k0):(Ob.loop 19 (loopF f88 0) (dsA_I l 0 []) (dsA_q l (.e1 k0)).1 (dsA_q l (.e1 k0)).2).ok prog:=dsA_1 l [] hN k0 hres
section
variable (l:List BA) (hN:l.length<=1000000000) (hy0:List BA)
include l hN hy0
theorem dsL_1(hx1:dsA_f l []=dsA_R.e0 hy0):Ef 88 [.sl 1 (nmsC l)] ([]) (rB false) ([(0,[LV.mm (MM.s (mks hy0))])]):=
 ef mdW [sl (nmsC_len l),lp (S.mk [(0,vL 1 (nmsC l)),(2,.v (.bool false)),(6,.v (PV.mp 0)),(3,.v (PV.mp 0)),(7,vL 1 (nmsC l)),(8,vI6 (l.length:Int)),(9,vI6 0)] [] [(0,[LV.mm (newS (strK prog 194))])]) (@ds0 (l) hN hy0 hx1) xr] func88
theorem dsL_2(hx1:dsA_f l []=dsA_R.e1 hy0):Ef 88 [.sl 1 (nmsC l)] ([]) (rB true) ([(0,[LV.mm (MM.s (mks hy0))])]):=
 ef mdW [sl (nmsC_len l),lp (S.mk [(0,vL 1 (nmsC l)),(2,.v (.bool false)),(6,.v (PV.mp 0)),(3,.v (PV.mp 0)),(7,vL 1 (nmsC l)),(8,vI6 (l.length:Int)),(9,vI6 0)] [] [(0,[LV.mm (newS (strK prog 194))])]) (@ds1 (l) hN hy0 hx1) xr] func88
end
theorem dsT(l:List BA)(hN:l.length<=1000000000):Pu 88 [.sl 1 (nmsC l)] (.ret (.bool (disB l))):=by
 have hx:noXs [.sl 1 (nmsC l)]=true:=by rw [noXs,PV.noX,nms_nx]; rfl
 unfold disB
 cases h:dsA_f l [] with
 | e0 k=>first | exact Ob.pur_of_eff hx rfl (dsL_1 l hN k h) | exact Ob.pur_of_eff hx rfl (dsL_2 l hN k h)
 | e1 k=>first | exact Ob.pur_of_eff hx rfl (dsL_1 l hN k h) | exact Ob.pur_of_eff hx rfl (dsL_2 l hN k h)
end Go.Proofs.YthchpmnkecoafaaGreatDoor
