/- Values of Go as plain data, an evaluator over them, and what the functions of the program return; part Yd. -/
import Derived.Test.YtaakmholhliodaaGreatDoorYc
import Derived.Test.YtaakmholhliodaaGreatDoorYb
import Derived.Test.YtaakmholhliodaaGreatDoorYa
set_option linter.unusedSectionVars false
set_option linter.unusedSimpArgs false
set_option linter.unusedVariables false
namespace Go.Proofs.YtaakmholhliodaaGreatDoor
open Go.Proofs.Tryz
open Go.Pv Go.Proofs.Tryz
set_option maxRecDepth 100000
theorem pr_bulk(x:Pr):bulkPss (Pr.cs (prK x))<bulkPs (prL x):=by simp only [bulkPs,bulkP]; omega
def pkS_r0(o:Int):Int:=(if o=1 then 0 else (if o=2 then 0 else (if o=3 then 0 else (if o=4 then 1 else (if o=5 then 1 else (if o=9 then 1 else (if o=14 then 1 else 2)))))))
def pkS_r1(o:Int):Int:=(if o=1 then 0 else (if o=2 then 0 else (if o=3 then 0 else (if o=4 then 24 else (if o=5 then 24 else (if o=9 then 1 else (if o=14 then 1 else 2)))))))
theorem pkS(o:Int):Pu 105 [pI o] (.ret (.tup [pI (pkS_r0 o),pI (pkS_r1 o)])):=by
 refine t0 ?_;by_cases h0:o=1
 ·simp only [pkS_r0,pkS_r1,iP h0]; exact tM mdL [rp 2 (et1 h0)] func105
 ·refine tp [en1 h0] ?_;by_cases h1:o=2
  ·simp only [pkS_r0,pkS_r1,iN h0,iP h1]; exact tM mdL [rp 2 (et1 h1)] func105
  ·refine tp [en1 h1] ?_;by_cases h2:o=3
   ·simp only [pkS_r0,pkS_r1,iN h0,iN h1,iP h2]; exact tM mdL [et1 h2] func105
   ·refine tp [en1 h2] ?_;by_cases h3:o=4
    ·simp only [pkS_r0,pkS_r1,iN h0,iN h1,iN h2,iP h3]; exact tM mdL [rp 2 (et1 h3)] func105
    ·refine tp [en1 h3] ?_;by_cases h4:o=5
     ·simp only [pkS_r0,pkS_r1,iN h0,iN h1,iN h2,iN h3,iP h4]; exact tM mdL [et1 h4] func105
     ·refine tp [en1 h4] ?_;by_cases h5:o=9
      ·simp only [pkS_r0,pkS_r1,iN h0,iN h1,iN h2,iN h3,iN h4,iP h5]; exact tM mdL [rp 2 (et1 h5)] func105
      ·refine tp [en1 h5] ?_;by_cases h6:o=14
       ·simp only [pkS_r0,pkS_r1,iN h0,iN h1,iN h2,iN h3,iN h4,iN h5,iP h6]; exact tM mdL [et1 h6] func105
       ·simp only [pkS_r0,pkS_r1,iN h0,iN h1,iN h2,iN h3,iN h4,iN h5,iN h6]; exact tM mdL [en1 h6] func105
def pnS_r0(o:Int):Bool:=(if o=3 then true else (if o=4 then true else (o==5)))
theorem pnS(o:Int):Pu 106 [pI o] (rB (pnS_r0 o)):=by
 by_cases h0:o=3
 ·simp only [pnS_r0,iP h0]; exact pm mdL [rp 3 (et1 h0),rp 3 (bt true)] func106
 ·by_cases h1:o=4
  ·simp only [pnS_r0,iN h0,iP h1]; exact pm mdL [rp 3 (en1 h0),rp 3 (et1 h1)] func106
  ·simp only [pnS_r0,iN h0,iN h1]; exact pm mdL [rp 3 (en1 h0),rp 3 (en1 h1)] func106
def niS_r0(n:Int):Bool:=(if n >= -1000000000000 then (decide (n<=1000000000000)) else false)
theorem niS(n:Int):Pu 107 [pI n] (rB (niS_r0 n)):=by
 by_cases h0:n >= -1000000000000
 ·simp only [niS_r0,iP h0]; exact pm mdL [rp 3 (dt1 h0)] func107
 ·simp only [niS_r0,iN h0]; exact pm mdL [rp 3 (df1 h0)] func107
abbrev pqA_I(u:Pr)(dfz:Pr->Int)(j:Int)(n:Int)(e:Ext):S:=S.mk [(2,vI6 0),(3,vI6 n),(7,vL 4 (Pr.cs (prK u))),(8,vI6 ((prK u).length:Int)),(9,vI6 j)] [] e
def pqA_f(dfz:Pr->Int):List Pr->(Int)->(Int)
 | [],n=>(n)
 | el::r,n=>pqA_f dfz r (IntKind.wrap .i64 (n+dfz el))
def pqA_q(u:Pr)(dfz:Pr->Int)(e:Ext)(p:(Int)):PExit × S:=(.exit 0,S.mk [(2,vI6 0),(3,vI6 p),(7,vL 4 (Pr.cs (prK u))),(8,vI6 ((prK u).length:Int))] [] e)
theorem pqA(u:Pr)(dfz:Pr->Int)(hwk:∀w:Pr,w∈prK u->Pu 72 [.agg (prL w)] (.ret (.int .i64 (dfz w))))(n:Int)(e:Ext)(hN:(prK u).length<=1000000000)  : (Ob.loop 19 (loopF f72 0) (pqA_I u dfz 0 n e) (pqA_q u dfz e (pqA_f dfz ((prK u))  n)).1 (pqA_q u dfz e (pqA_f dfz ((prK u))  n)).2).ok prog:=by
 refine rng ((prK u).length) (fun j n=>pqA_I u dfz j n e) (fun i n=>pqA_f dfz (List.drop i ((prK u)))  n) (pqA_q u dfz e) (fun i n=>True) kR ?_ n trivial
 rintro i n hi -
 rcases Nat.lt_or_ge i ((prK u).length) with hlt | hge
 ·have hd:=drop_at hlt
  exact lN mdL [rgPr hlt,cl (@hwk (List.getD (prK u) i default) (by simp_all [tn1])),kp,wr ((i:Int)+1)] hlt (IntKind.wrap .i64 (n+dfz (List.getD (prK u) i default))) trivial (by rw [hd,pqA_f])
 ·have he:i=(prK u).length:=by omega
  exact lX mdL [df ((i:Int)<((prK u).length:Int))] (n) (by rw [he,List.drop_length,pqA_f])
theorem pqL(u:Pr)(dfz:Pr->Int)(hwk:∀w:Pr,w∈prK u->Pu 72 [.agg (prL w)] (.ret (.int .i64 (dfz w))))(hN:(prK u).length<=1000000000):Pu 72 [.agg (prL u)] (rI (pqA_f dfz (prK u) 1)):=
 pu mdL (fun e=>[sl (Pr.cs_len (prK u)),lq (@pqA u dfz hwk 1 e hN)]) func72
def pqD:Nat->Pr->Int
 | 0,_=>0
 | d+1,u=>pqA_f (pqD d) (prK u) 1
def pqF(u:Pr):Int:=pqD (bulkPs (prL u)+1) u
abbrev peA_I(u:Pr)(dfz:Pr->Int)(j:Int)(n:Int)(e:Ext):S:=S.mk [(2,vI6 0),(3,vI6 n),(7,vL 4 (Pr.cs (prK u))),(8,vI6 ((prK u).length:Int)),(9,vI6 j)] [] e
def peA_f(dfz:Pr->Int):List Pr->(Int)->(Int)
 | [],n=>(n)
 | el::r,n=>peA_f dfz r (mxI true n (dfz el))
def peA_q(u:Pr)(dfz:Pr->Int)(e:Ext)(p:(Int)):PExit × S:=(.exit 0,S.mk [(2,vI6 0),(3,vI6 p),(7,vL 4 (Pr.cs (prK u))),(8,vI6 ((prK u).length:Int))] [] e)
theorem peA(u:Pr)(dfz:Pr->Int)(hwk:∀w:Pr,w∈prK u->Pu 73 [.agg (prL w)] (.ret (.int .i64 (dfz w))))(n:Int)(e:Ext)(hN:(prK u).length<=1000000000)  : (Ob.loop 20 (loopF f73 0) (peA_I u dfz 0 n e) (peA_q u dfz e (peA_f dfz ((prK u))  n)).1 (peA_q u dfz e (peA_f dfz ((prK u))  n)).2).ok prog:=by
 refine rng ((prK u).length) (fun j n=>peA_I u dfz j n e) (fun i n=>peA_f dfz (List.drop i ((prK u)))  n) (peA_q u dfz e) (fun i n=>True) kR ?_ n trivial
 rintro i n hi -
 rcases Nat.lt_or_ge i ((prK u).length) with hlt | hge
 ·have hd:=drop_at hlt
  exact lN mdL [rgPr hlt,cl (@hwk (List.getD (prK u) i default) (by simp_all [tn1])),wr ((i:Int)+1)] hlt (mxI true n (dfz (List.getD (prK u) i default))) trivial (by rw [hd,peA_f])
 ·have he:i=(prK u).length:=by omega
  exact lX mdL [df ((i:Int)<((prK u).length:Int))] (n) (by rw [he,List.drop_length,peA_f])
theorem peL(u:Pr)(dfz:Pr->Int)(hwk:∀w:Pr,w∈prK u->Pu 73 [.agg (prL w)] (.ret (.int .i64 (dfz w))))(hN:(prK u).length<=1000000000):Pu 73 [.agg (prL u)] (rI (IntKind.wrap .i64 (peA_f dfz (prK u) 0+1))):=
 pu mdL (fun e=>[sl (Pr.cs_len (prK u)),lq (@peA u dfz hwk 0 e hN),kp]) func73
def peD:Nat->Pr->Int
 | 0,_=>0
 | d+1,u=>IntKind.i64.wrap (peA_f (peD d) (prK u) 0+1)
def peF(u:Pr):Int:=peD (bulkPs (prL u)+1) u
abbrev nd0(u:Pr)(xe:Ext):S:=⟨[(1,.lp 1 0),(2,.v (.int .i64 0))],[(1,prV u)],xe⟩
abbrev nd1(u:Pr)(a b:Int)(xe:Ext):S:=⟨[(1,.lp 1 0),(2,.v (.int .i64 0)),(3,.v (.int .i64 a)),(4,.v (.int .i64 b))],[(1,prV u)],xe⟩
abbrev nd2(u:Pr)(a b:Int)(x y:Bool)(xe:Ext):S:=⟨[(1,.lp 1 0),(2,.v (.int .i64 0)),(3,.v (.int .i64 a)),(4,.v (.int .i64 b)),(5,.v (.bool x)),(6,.v (.bool y))],[(1,prV u)],xe⟩
abbrev nd3(u:Pr)(a b:Int)(x:Bool)(xe:Ext):S:=⟨[(1,.lp 1 0),(2,.v (.int .i64 0)),(3,.v (.int .i64 a)),(4,.v (.int .i64 b)),(5,.v (.bool x))],[(1,prV u)],xe⟩
theorem nd_1_1(u:Pr)(xe:Ext)(hx0:prO u<1)(cx:Cx)(hcx:cx.n=130){Q:PExit->S->Prop}(hq:Q (.normal) (S.mk [(1,.lp 1 0),(2,vI6 0),(14,.v (.bool true))] [(1,prV u)] xe)):PW prog cx (regF f75 1) (nd0 u xe) Q:=
 pw mdL 130 [rp 4 (dt1 hx0)] [1,2,14] [1] hcx hq
theorem nd_1_2(u:Pr)(xe:Ext)(hx0:¬prO u<1)(cx:Cx)(hcx:cx.n=130){Q:PExit->S->Prop}(hq:Q (.normal) (S.mk [(1,.lp 1 0),(2,vI6 0),(14,.v (.bool (decide (prO u>18))))] [(1,prV u)] xe)):PW prog cx (regF f75 1) (nd0 u xe) Q:=
 pw mdL 130 [rp 4 (df1 hx0)] [1,2,14] [1] hcx hq
def nd_1_v14(u:Pr):Bool:=(if prO u<1 then (true) else ((decide (prO u>18))))
theorem nd_1J(u:Pr)(xe:Ext):(Ob.frag 130 (regF f75 1) (nd0 u xe) (.normal) (S.mk [(1,.lp 1 0),(2,vI6 0),(14,.v (.bool (nd_1_v14 u)))] [(1,prV u)] xe)).ok prog:=by
 intro cx hcx
 by_cases g0:prO u<1
 ·exact nd_1_1 u xe g0 cx hcx ⟨rfl,by rw [show nd_1_v14 u=(true) by unfold nd_1_v14; rw [iP g0]]⟩
 ·exact nd_1_2 u xe g0 cx hcx ⟨rfl,by rw [show nd_1_v14 u=((decide (prO u>18))) by unfold nd_1_v14; rw [iN g0]]⟩
section
variable (u:Pr) (a b:Int) (xe:Ext)
include u a b xe
theorem nd_4_1(hx0:pnS_r0 (prO u)=false)(hx1:¬prNm u=ByteArray.mk #[])(cx:Cx)(hcx:cx.n=130){Q:PExit->S->Prop}(hq:Q (.normal) (S.mk [(1,.lp 1 0),(2,vI6 0),(3,vI6 a),(4,vI6 b),(58,.v (.bool true))] [(1,prV u)] xe)):PW prog cx (regF f75 4) (nd1 u a b xe) Q:=
 pw mdL 130 [cl (@pnS (prO u)),rp 4 (bt1 (bnT hx0)),rp 8 (bt (!ByteArray.toList (prNm u)==ByteArray.toList nm0) (bnT (bsF hx1))),rp 12 (bt true)] [1,2,3,4,58] [1] hcx hq
theorem nd_4_2(hx0:pnS_r0 (prO u)=false)(hx1:prNm u=ByteArray.mk #[])(hx2:¬prO u=1)(hx3:¬prO u=2)(hx4:¬prN u=0)(cx:Cx)(hcx:cx.n=130){Q:PExit->S->Prop}(hq:Q (.normal) (S.mk [(1,.lp 1 0),(2,vI6 0),(3,vI6 a),(4,vI6 b),(58,.v (.bool true))] [(1,prV u)] xe)):PW prog cx (regF f75 4) (nd1 u a b xe) Q:=
 pw mdL 130 [cl (@pnS (prO u)),rp 4 (bt1 (bnT hx0)),rp 4 (bf (!ByteArray.toList (prNm u)==ByteArray.toList nm0) (bnF (bsT hx1))),rp 3 (nt1 hx2),bf (!ByteArray.toList (prNm u)==ByteArray.toList nm0) (bnF (bsT hx1)),nt1 hx2,bf (!ByteArray.toList (prNm u)==ByteArray.toList nm0) (bnF (bsT hx1)),rp 3 (nt1 hx3),bf (!ByteArray.toList (prNm u)==ByteArray.toList nm0) (bnF (bsT hx1)),nt1 hx3,bf (!ByteArray.toList (prNm u)==ByteArray.toList nm0) (bnF (bsT hx1)),rp 6 (nt1 hx4),rp 6 (bt true)] [1,2,3,4,58] [1] hcx hq
theorem nd_4_3(hx0:pnS_r0 (prO u)=false)(hx1:prNm u=ByteArray.mk #[])(hx2:¬prO u=1)(hx3:¬prO u=2)(hx4:prN u=0)(hx5:((prK u).length:Int)<a)(cx:Cx)(hcx:cx.n=130){Q:PExit->S->Prop}(hq:Q (.normal) (S.mk [(1,.lp 1 0),(2,vI6 0),(3,vI6 a),(4,vI6 b),(58,.v (.bool true))] [(1,prV u)] xe)):PW prog cx (regF f75 4) (nd1 u a b xe) Q:=
 pw mdL 130 [cl (@pnS (prO u)),rp 4 (bt1 (bnT hx0)),rp 4 (bf (!ByteArray.toList (prNm u)==ByteArray.toList nm0) (bnF (bsT hx1))),rp 3 (nt1 hx2),bf (!ByteArray.toList (prNm u)==ByteArray.toList nm0) (bnF (bsT hx1)),nt1 hx2,bf (!ByteArray.toList (prNm u)==ByteArray.toList nm0) (bnF (bsT hx1)),rp 3 (nt1 hx3),bf (!ByteArray.toList (prNm u)==ByteArray.toList nm0) (bnF (bsT hx1)),nt1 hx3,bf (!ByteArray.toList (prNm u)==ByteArray.toList nm0) (bnF (bsT hx1)),rp 3 (nn1 hx4),sl (Pr.cs_len (prK u)),rp 3 (nn1 hx4),rp 6 (dt1 hx5)] [1,2,3,4,58] [1] hcx hq
theorem nd_4_4(hx0:pnS_r0 (prO u)=false)(hx1:prNm u=ByteArray.mk #[])(hx2:¬prO u=1)(hx3:¬prO u=2)(hx4:prN u=0)(hx5:¬((prK u).length:Int)<a)(cx:Cx)(hcx:cx.n=130){Q:PExit->S->Prop}(hq:Q (.normal) (S.mk [(1,.lp 1 0),(2,vI6 0),(3,vI6 a),(4,vI6 b),(58,.v (.bool (decide (((prK u).length:Int)>b))))] [(1,prV u)] xe)):PW prog cx (regF f75 4) (nd1 u a b xe) Q:=
 pw mdL 130 [cl (@pnS (prO u)),rp 4 (bt1 (bnT hx0)),rp 4 (bf (!ByteArray.toList (prNm u)==ByteArray.toList nm0) (bnF (bsT hx1))),rp 3 (nt1 hx2),bf (!ByteArray.toList (prNm u)==ByteArray.toList nm0) (bnF (bsT hx1)),nt1 hx2,bf (!ByteArray.toList (prNm u)==ByteArray.toList nm0) (bnF (bsT hx1)),rp 3 (nt1 hx3),bf (!ByteArray.toList (prNm u)==ByteArray.toList nm0) (bnF (bsT hx1)),nt1 hx3,bf (!ByteArray.toList (prNm u)==ByteArray.toList nm0) (bnF (bsT hx1)),rp 3 (nn1 hx4),sl (Pr.cs_len (prK u)),rp 3 (nn1 hx4),rp 3 (df1 hx5),sl (Pr.cs_len (prK u)),rp 3 (df1 hx5)] [1,2,3,4,58] [1] hcx hq
theorem nd_4_5(hx0:pnS_r0 (prO u)=false)(hx1:prNm u=ByteArray.mk #[])(hx2:¬prO u=1)(hx3:prO u=2)(hx4:((prK u).length:Int)<a)(cx:Cx)(hcx:cx.n=130){Q:PExit->S->Prop}(hq:Q (.normal) (S.mk [(1,.lp 1 0),(2,vI6 0),(3,vI6 a),(4,vI6 b),(58,.v (.bool true))] [(1,prV u)] xe)):PW prog cx (regF f75 4) (nd1 u a b xe) Q:=
 pw mdL 130 [cl (@pnS (prO u)),rp 4 (bt1 (bnT hx0)),rp 4 (bf (!ByteArray.toList (prNm u)==ByteArray.toList nm0) (bnF (bsT hx1))),rp 3 (nt1 hx2),bf (!ByteArray.toList (prNm u)==ByteArray.toList nm0) (bnF (bsT hx1)),nt1 hx2,bf (!ByteArray.toList (prNm u)==ByteArray.toList nm0) (bnF (bsT hx1)),rp 3 (nn1 hx3),bf (!ByteArray.toList (prNm u)==ByteArray.toList nm0) (bnF (bsT hx1)),nn1 hx3,bf (!ByteArray.toList (prNm u)==ByteArray.toList nm0) (bnF (bsT hx1)),rp 3 (bf false),sl (Pr.cs_len (prK u)),rp 3 (bf false),rp 6 (dt1 hx4)] [1,2,3,4,58] [1] hcx hq
theorem nd_4_6(hx0:pnS_r0 (prO u)=false)(hx1:prNm u=ByteArray.mk #[])(hx2:¬prO u=1)(hx3:prO u=2)(hx4:¬((prK u).length:Int)<a)(cx:Cx)(hcx:cx.n=130){Q:PExit->S->Prop}(hq:Q (.normal) (S.mk [(1,.lp 1 0),(2,vI6 0),(3,vI6 a),(4,vI6 b),(58,.v (.bool (decide (((prK u).length:Int)>b))))] [(1,prV u)] xe)):PW prog cx (regF f75 4) (nd1 u a b xe) Q:=
 pw mdL 130 [cl (@pnS (prO u)),rp 4 (bt1 (bnT hx0)),rp 4 (bf (!ByteArray.toList (prNm u)==ByteArray.toList nm0) (bnF (bsT hx1))),rp 3 (nt1 hx2),bf (!ByteArray.toList (prNm u)==ByteArray.toList nm0) (bnF (bsT hx1)),nt1 hx2,bf (!ByteArray.toList (prNm u)==ByteArray.toList nm0) (bnF (bsT hx1)),rp 3 (nn1 hx3),bf (!ByteArray.toList (prNm u)==ByteArray.toList nm0) (bnF (bsT hx1)),nn1 hx3,bf (!ByteArray.toList (prNm u)==ByteArray.toList nm0) (bnF (bsT hx1)),rp 3 (bf false),sl (Pr.cs_len (prK u)),rp 3 (bf false),rp 3 (df1 hx4),sl (Pr.cs_len (prK u)),rp 3 (df1 hx4)] [1,2,3,4,58] [1] hcx hq
theorem nd_4_7(hx0:pnS_r0 (prO u)=false)(hx1:prNm u=ByteArray.mk #[])(hx2:prO u=1)(hx3:((prK u).length:Int)<a)(cx:Cx)(hcx:cx.n=130){Q:PExit->S->Prop}(hq:Q (.normal) (S.mk [(1,.lp 1 0),(2,vI6 0),(3,vI6 a),(4,vI6 b),(58,.v (.bool true))] [(1,prV u)] xe)):PW prog cx (regF f75 4) (nd1 u a b xe) Q:=
 pw mdL 130 [cl (@pnS (prO u)),rp 4 (bt1 (bnT hx0)),rp 4 (bf (!ByteArray.toList (prNm u)==ByteArray.toList nm0) (bnF (bsT hx1))),rp 3 (nn1 hx2),bf (!ByteArray.toList (prNm u)==ByteArray.toList nm0) (bnF (bsT hx1)),nn1 hx2,bf (!ByteArray.toList (prNm u)==ByteArray.toList nm0) (bnF (bsT hx1)),rp 3 (bf false),bf (!ByteArray.toList (prNm u)==ByteArray.toList nm0) (bnF (bsT hx1)),bf false,bf (!ByteArray.toList (prNm u)==ByteArray.toList nm0) (bnF (bsT hx1)),rp 3 (bf false),sl (Pr.cs_len (prK u)),rp 3 (bf false),rp 6 (dt1 hx3)] [1,2,3,4,58] [1] hcx hq
theorem nd_4_8(hx0:pnS_r0 (prO u)=false)(hx1:prNm u=ByteArray.mk #[])(hx2:prO u=1)(hx3:¬((prK u).length:Int)<a)(cx:Cx)(hcx:cx.n=130){Q:PExit->S->Prop}(hq:Q (.normal) (S.mk [(1,.lp 1 0),(2,vI6 0),(3,vI6 a),(4,vI6 b),(58,.v (.bool (decide (((prK u).length:Int)>b))))] [(1,prV u)] xe)):PW prog cx (regF f75 4) (nd1 u a b xe) Q:=
 pw mdL 130 [cl (@pnS (prO u)),rp 4 (bt1 (bnT hx0)),rp 4 (bf (!ByteArray.toList (prNm u)==ByteArray.toList nm0) (bnF (bsT hx1))),rp 3 (nn1 hx2),bf (!ByteArray.toList (prNm u)==ByteArray.toList nm0) (bnF (bsT hx1)),nn1 hx2,bf (!ByteArray.toList (prNm u)==ByteArray.toList nm0) (bnF (bsT hx1)),rp 3 (bf false),bf (!ByteArray.toList (prNm u)==ByteArray.toList nm0) (bnF (bsT hx1)),bf false,bf (!ByteArray.toList (prNm u)==ByteArray.toList nm0) (bnF (bsT hx1)),rp 3 (bf false),sl (Pr.cs_len (prK u)),rp 3 (bf false),rp 3 (df1 hx3),sl (Pr.cs_len (prK u)),rp 3 (df1 hx3)] [1,2,3,4,58] [1] hcx hq
theorem nd_4_9(hx0:pnS_r0 (prO u)=true)(hx1:¬prO u=1)(hx2:¬prO u=2)(hx3:¬prN u=0)(cx:Cx)(hcx:cx.n=130){Q:PExit->S->Prop}(hq:Q (.normal) (S.mk [(1,.lp 1 0),(2,vI6 0),(3,vI6 a),(4,vI6 b),(58,.v (.bool true))] [(1,prV u)] xe)):PW prog cx (regF f75 4) (nd1 u a b xe) Q:=
 pw mdL 130 [cl (@pnS (prO u)),rp 4 (bf1 (bnF hx0)),rp 4 (bf false),rp 3 (nt1 hx1),bf false,nt1 hx1,bf false,rp 3 (nt1 hx2),bf false,nt1 hx2,bf false,rp 6 (nt1 hx3),rp 6 (bt true)] [1,2,3,4,58] [1] hcx hq
theorem nd_4_10(hx0:pnS_r0 (prO u)=true)(hx1:¬prO u=1)(hx2:¬prO u=2)(hx3:prN u=0)(hx4:((prK u).length:Int)<a)(cx:Cx)(hcx:cx.n=130){Q:PExit->S->Prop}(hq:Q (.normal) (S.mk [(1,.lp 1 0),(2,vI6 0),(3,vI6 a),(4,vI6 b),(58,.v (.bool true))] [(1,prV u)] xe)):PW prog cx (regF f75 4) (nd1 u a b xe) Q:=
 pw mdL 130 [cl (@pnS (prO u)),rp 4 (bf1 (bnF hx0)),rp 4 (bf false),rp 3 (nt1 hx1),bf false,nt1 hx1,bf false,rp 3 (nt1 hx2),bf false,nt1 hx2,bf false,rp 3 (nn1 hx3),sl (Pr.cs_len (prK u)),rp 3 (nn1 hx3),rp 6 (dt1 hx4)] [1,2,3,4,58] [1] hcx hq
theorem nd_4_11(hx0:pnS_r0 (prO u)=true)(hx1:¬prO u=1)(hx2:¬prO u=2)(hx3:prN u=0)(hx4:¬((prK u).length:Int)<a)(cx:Cx)(hcx:cx.n=130){Q:PExit->S->Prop}(hq:Q (.normal) (S.mk [(1,.lp 1 0),(2,vI6 0),(3,vI6 a),(4,vI6 b),(58,.v (.bool (decide (((prK u).length:Int)>b))))] [(1,prV u)] xe)):PW prog cx (regF f75 4) (nd1 u a b xe) Q:=
 pw mdL 130 [cl (@pnS (prO u)),rp 4 (bf1 (bnF hx0)),rp 4 (bf false),rp 3 (nt1 hx1),bf false,nt1 hx1,bf false,rp 3 (nt1 hx2),bf false,nt1 hx2,bf false,rp 3 (nn1 hx3),sl (Pr.cs_len (prK u)),rp 3 (nn1 hx3),rp 3 (df1 hx4),sl (Pr.cs_len (prK u)),rp 3 (df1 hx4)] [1,2,3,4,58] [1] hcx hq
theorem nd_4_12(hx0:pnS_r0 (prO u)=true)(hx1:¬prO u=1)(hx2:prO u=2)(hx3:((prK u).length:Int)<a)(cx:Cx)(hcx:cx.n=130){Q:PExit->S->Prop}(hq:Q (.normal) (S.mk [(1,.lp 1 0),(2,vI6 0),(3,vI6 a),(4,vI6 b),(58,.v (.bool true))] [(1,prV u)] xe)):PW prog cx (regF f75 4) (nd1 u a b xe) Q:=
 pw mdL 130 [cl (@pnS (prO u)),rp 4 (bf1 (bnF hx0)),rp 4 (bf false),rp 3 (nt1 hx1),bf false,nt1 hx1,bf false,rp 3 (nn1 hx2),bf false,nn1 hx2,rp 4 (bf false),sl (Pr.cs_len (prK u)),rp 3 (bf false),rp 6 (dt1 hx3)] [1,2,3,4,58] [1] hcx hq
theorem nd_4_13(hx0:pnS_r0 (prO u)=true)(hx1:¬prO u=1)(hx2:prO u=2)(hx3:¬((prK u).length:Int)<a)(cx:Cx)(hcx:cx.n=130){Q:PExit->S->Prop}(hq:Q (.normal) (S.mk [(1,.lp 1 0),(2,vI6 0),(3,vI6 a),(4,vI6 b),(58,.v (.bool (decide (((prK u).length:Int)>b))))] [(1,prV u)] xe)):PW prog cx (regF f75 4) (nd1 u a b xe) Q:=
 pw mdL 130 [cl (@pnS (prO u)),rp 4 (bf1 (bnF hx0)),rp 4 (bf false),rp 3 (nt1 hx1),bf false,nt1 hx1,bf false,rp 3 (nn1 hx2),bf false,nn1 hx2,rp 4 (bf false),sl (Pr.cs_len (prK u)),rp 3 (bf false),rp 3 (df1 hx3),sl (Pr.cs_len (prK u)),rp 3 (df1 hx3)] [1,2,3,4,58] [1] hcx hq
theorem nd_4_14(hx0:pnS_r0 (prO u)=true)(hx1:prO u=1)(hx2:((prK u).length:Int)<a)(cx:Cx)(hcx:cx.n=130){Q:PExit->S->Prop}(hq:Q (.normal) (S.mk [(1,.lp 1 0),(2,vI6 0),(3,vI6 a),(4,vI6 b),(58,.v (.bool true))] [(1,prV u)] xe)):PW prog cx (regF f75 4) (nd1 u a b xe) Q:=
 pw mdL 130 [cl (@pnS (prO u)),rp 4 (bf1 (bnF hx0)),rp 4 (bf false),rp 3 (nn1 hx1),bf false,nn1 hx1,rp 10 (bf false),sl (Pr.cs_len (prK u)),rp 3 (bf false),rp 6 (dt1 hx2)] [1,2,3,4,58] [1] hcx hq
theorem nd_4_15(hx0:pnS_r0 (prO u)=true)(hx1:prO u=1)(hx2:¬((prK u).length:Int)<a)(cx:Cx)(hcx:cx.n=130){Q:PExit->S->Prop}(hq:Q (.normal) (S.mk [(1,.lp 1 0),(2,vI6 0),(3,vI6 a),(4,vI6 b),(58,.v (.bool (decide (((prK u).length:Int)>b))))] [(1,prV u)] xe)):PW prog cx (regF f75 4) (nd1 u a b xe) Q:=
 pw mdL 130 [cl (@pnS (prO u)),rp 4 (bf1 (bnF hx0)),rp 4 (bf false),rp 3 (nn1 hx1),bf false,nn1 hx1,rp 10 (bf false),sl (Pr.cs_len (prK u)),rp 3 (bf false),rp 3 (df1 hx2),sl (Pr.cs_len (prK u)),rp 3 (df1 hx2)] [1,2,3,4,58] [1] hcx hq
end
def nd_4_v58(u:Pr)(a b:Int):Bool:=(if pnS_r0 (prO u)=true then (if prO u=1 then (if ((prK u).length:Int)<a then (true) else ((decide (((prK u).length:Int)>b)))) else (if prO u=2 then (if ((prK u).length:Int)<a then (true) else ((decide (((prK u).length:Int)>b)))) else (if prN u=0 then (if ((prK u).length:Int)<a then (true) else ((decide (((prK u).length:Int)>b)))) else (true)))) else (if prNm u=ByteArray.mk #[] then (if prO u=1 then (if ((prK u).length:Int)<a then (true) else ((decide (((prK u).length:Int)>b)))) else (if prO u=2 then (if ((prK u).length:Int)<a then (true) else ((decide (((prK u).length:Int)>b)))) else (if prN u=0 then (if ((prK u).length:Int)<a then (true) else ((decide (((prK u).length:Int)>b)))) else (true)))) else (true)))
theorem nd_4J(u:Pr)(a b:Int)(xe:Ext):(Ob.frag 130 (regF f75 4) (nd1 u a b xe) (.normal) (S.mk [(1,.lp 1 0),(2,vI6 0),(3,vI6 a),(4,vI6 b),(58,.v (.bool (nd_4_v58 u a b)))] [(1,prV u)] xe)).ok prog:=by
 intro cx hcx
 by_cases g0:pnS_r0 (prO u)=true
 ·by_cases g1:prO u=1
  ·by_cases g2:((prK u).length:Int)<a
   ·exact nd_4_14 u a b xe g0 g1 g2 cx hcx ⟨rfl,by rw [show nd_4_v58 u a b=(true) by unfold nd_4_v58; rw [iP g0,iP g1,iP g2]]⟩
   ·exact nd_4_15 u a b xe g0 g1 g2 cx hcx ⟨rfl,by rw [show nd_4_v58 u a b=((decide (((prK u).length:Int)>b))) by unfold nd_4_v58; rw [iP g0,iP g1,iN g2]]⟩
  ·by_cases g2:prO u=2
   ·by_cases g3:((prK u).length:Int)<a
    ·exact nd_4_12 u a b xe g0 g1 g2 g3 cx hcx ⟨rfl,by rw [show nd_4_v58 u a b=(true) by unfold nd_4_v58; rw [iP g0,iN g1,iP g2,iP g3]]⟩
    ·exact nd_4_13 u a b xe g0 g1 g2 g3 cx hcx ⟨rfl,by rw [show nd_4_v58 u a b=((decide (((prK u).length:Int)>b))) by unfold nd_4_v58; rw [iP g0,iN g1,iP g2,iN g3]]⟩
   ·by_cases g3:prN u=0
    ·by_cases g4:((prK u).length:Int)<a
     ·exact nd_4_10 u a b xe g0 g1 g2 g3 g4 cx hcx ⟨rfl,by rw [show nd_4_v58 u a b=(true) by unfold nd_4_v58; rw [iP g0,iN g1,iN g2,iP g3,iP g4]]⟩
     ·exact nd_4_11 u a b xe g0 g1 g2 g3 g4 cx hcx ⟨rfl,by rw [show nd_4_v58 u a b=((decide (((prK u).length:Int)>b))) by unfold nd_4_v58; rw [iP g0,iN g1,iN g2,iP g3,iN g4]]⟩
    ·exact nd_4_9 u a b xe g0 g1 g2 g3 cx hcx ⟨rfl,by rw [show nd_4_v58 u a b=(true) by unfold nd_4_v58; rw [iP g0,iN g1,iN g2,iN g3]]⟩
 ·by_cases g1:prNm u=ByteArray.mk #[]
  ·by_cases g2:prO u=1
   ·by_cases g3:((prK u).length:Int)<a
    ·exact nd_4_7 u a b xe (Bool.eq_false_iff.2 g0) g1 g2 g3 cx hcx ⟨rfl,by rw [show nd_4_v58 u a b=(true) by unfold nd_4_v58; rw [iN g0,iP g1,iP g2,iP g3]]⟩
    ·exact nd_4_8 u a b xe (Bool.eq_false_iff.2 g0) g1 g2 g3 cx hcx ⟨rfl,by rw [show nd_4_v58 u a b=((decide (((prK u).length:Int)>b))) by unfold nd_4_v58; rw [iN g0,iP g1,iP g2,iN g3]]⟩
   ·by_cases g3:prO u=2
    ·by_cases g4:((prK u).length:Int)<a
     ·exact nd_4_5 u a b xe (Bool.eq_false_iff.2 g0) g1 g2 g3 g4 cx hcx ⟨rfl,by rw [show nd_4_v58 u a b=(true) by unfold nd_4_v58; rw [iN g0,iP g1,iN g2,iP g3,iP g4]]⟩
     ·exact nd_4_6 u a b xe (Bool.eq_false_iff.2 g0) g1 g2 g3 g4 cx hcx ⟨rfl,by rw [show nd_4_v58 u a b=((decide (((prK u).length:Int)>b))) by unfold nd_4_v58; rw [iN g0,iP g1,iN g2,iP g3,iN g4]]⟩
    ·by_cases g4:prN u=0
     ·by_cases g5:((prK u).length:Int)<a
      ·exact nd_4_3 u a b xe (Bool.eq_false_iff.2 g0) g1 g2 g3 g4 g5 cx hcx ⟨rfl,by rw [show nd_4_v58 u a b=(true) by unfold nd_4_v58; rw [iN g0,iP g1,iN g2,iN g3,iP g4,iP g5]]⟩
      ·exact nd_4_4 u a b xe (Bool.eq_false_iff.2 g0) g1 g2 g3 g4 g5 cx hcx ⟨rfl,by rw [show nd_4_v58 u a b=((decide (((prK u).length:Int)>b))) by unfold nd_4_v58; rw [iN g0,iP g1,iN g2,iN g3,iP g4,iN g5]]⟩
     ·exact nd_4_2 u a b xe (Bool.eq_false_iff.2 g0) g1 g2 g3 g4 cx hcx ⟨rfl,by rw [show nd_4_v58 u a b=(true) by unfold nd_4_v58; rw [iN g0,iP g1,iN g2,iN g3,iN g4]]⟩
  ·exact nd_4_1 u a b xe (Bool.eq_false_iff.2 g0) g1 cx hcx ⟨rfl,by rw [show nd_4_v58 u a b=(true) by unfold nd_4_v58; rw [iN g0,iN g1]]⟩
section
variable (u:Pr) (a b:Int) (xe:Ext)
include u a b xe
theorem nd_6_1(hx0:prO u=1)(hx1:niS_r0 (prN u)=false)(cx:Cx)(hcx:cx.n=130){Q:PExit->S->Prop}(hq:Q (.normal) (S.mk [(1,.lp 1 0),(2,vI6 0),(3,vI6 a),(4,vI6 b),(82,.v (.bool true))] [(1,prV u)] xe)):PW prog cx (regF f75 6) (nd1 u a b xe) Q:=
 pw mdL 130 [rp 3 (et1 hx0),cl (@niS (prN u)),rp 2 (et1 hx0),rp 8 (bt1 (bnT hx1))] [1,2,3,4,82] [1] hcx hq
theorem nd_6_2(hx0:prO u=1)(hx1:niS_r0 (prN u)=true)(cx:Cx)(hcx:cx.n=130){Q:PExit->S->Prop}(hq:Q (.normal) (S.mk [(1,.lp 1 0),(2,vI6 0),(3,vI6 a),(4,vI6 b),(82,.v (.bool false))] [(1,prV u)] xe)):PW prog cx (regF f75 6) (nd1 u a b xe) Q:=
 pw mdL 130 [rp 3 (et1 hx0),cl (@niS (prN u)),rp 2 (et1 hx0),rp 4 (bf1 (bnF hx1)),rp 3 (en (prO u) 2),bf1 (bnF hx1),en (prO u) 2,bf1 (bnF hx1),rp 3 (bf false),bf1 (bnF hx1),bf false,bf1 (bnF hx1)] [1,2,3,4,82] [1] hcx hq
theorem nd_6_3(hx0:¬prO u=1)(hx1:prO u=2)(hx2:¬prN u=0)(cx:Cx)(hcx:cx.n=130){Q:PExit->S->Prop}(hq:Q (.normal) (S.mk [(1,.lp 1 0),(2,vI6 0),(3,vI6 a),(4,vI6 b),(82,.v (.bool (prN u != 1)))] [(1,prV u)] xe)):PW prog cx (regF f75 6) (nd1 u a b xe) Q:=
 pw mdL 130 [rp 5 (en1 hx0),rp 4 (bf false),rp 3 (et1 hx1),bf false,et1 hx1,bf false,rp 3 (nt1 hx2),bf false,nt1 hx2,bf false] [1,2,3,4,82] [1] hcx hq
theorem nd_6_4(hx0:¬prO u=1)(hx1:prO u=2)(hx2:prN u=0)(cx:Cx)(hcx:cx.n=130){Q:PExit->S->Prop}(hq:Q (.normal) (S.mk [(1,.lp 1 0),(2,vI6 0),(3,vI6 a),(4,vI6 b),(82,.v (.bool false))] [(1,prV u)] xe)):PW prog cx (regF f75 6) (nd1 u a b xe) Q:=
 pw mdL 130 [rp 5 (en1 hx0),rp 4 (bf false),rp 3 (et1 hx1),bf false,et1 hx1,bf false,rp 3 (nn1 hx2),bf false,nn1 hx2,bf false] [1,2,3,4,82] [1] hcx hq
theorem nd_6_5(hx0:¬prO u=1)(hx1:¬prO u=2)(cx:Cx)(hcx:cx.n=130){Q:PExit->S->Prop}(hq:Q (.normal) (S.mk [(1,.lp 1 0),(2,vI6 0),(3,vI6 a),(4,vI6 b),(82,.v (.bool false))] [(1,prV u)] xe)):PW prog cx (regF f75 6) (nd1 u a b xe) Q:=
 pw mdL 130 [rp 5 (en1 hx0),rp 4 (bf false),rp 3 (en1 hx1),bf false,en1 hx1,rp 7 (bf false)] [1,2,3,4,82] [1] hcx hq
end
def nd_6_v82(u:Pr)(a b:Int):Bool:=(if prO u=1 then (if niS_r0 (prN u)=true then (false) else (true)) else (if prO u=2 then (if prN u=0 then (false) else ((prN u != 1))) else (false)))
theorem nd_6J(u:Pr)(a b:Int)(xe:Ext):(Ob.frag 130 (regF f75 6) (nd1 u a b xe) (.normal) (S.mk [(1,.lp 1 0),(2,vI6 0),(3,vI6 a),(4,vI6 b),(82,.v (.bool (nd_6_v82 u a b)))] [(1,prV u)] xe)).ok prog:=by
 intro cx hcx
 by_cases g0:prO u=1
 ·by_cases g1:niS_r0 (prN u)=true
  ·exact nd_6_2 u a b xe g0 g1 cx hcx ⟨rfl,by rw [show nd_6_v82 u a b=(false) by unfold nd_6_v82; rw [iP g0,iP g1]]⟩
  ·exact nd_6_1 u a b xe g0 (Bool.eq_false_iff.2 g1) cx hcx ⟨rfl,by rw [show nd_6_v82 u a b=(true) by unfold nd_6_v82; rw [iP g0,iN g1]]⟩
 ·by_cases g1:prO u=2
  ·by_cases g2:prN u=0
   ·exact nd_6_4 u a b xe g0 g1 g2 cx hcx ⟨rfl,by rw [show nd_6_v82 u a b=(false) by unfold nd_6_v82; rw [iN g0,iP g1,iP g2]]⟩
   ·exact nd_6_3 u a b xe g0 g1 g2 cx hcx ⟨rfl,by rw [show nd_6_v82 u a b=((prN u != 1)) by unfold nd_6_v82; rw [iN g0,iP g1,iN g2]]⟩
  ·exact nd_6_5 u a b xe g0 g1 cx hcx ⟨rfl,by rw [show nd_6_v82 u a b=(false) by unfold nd_6_v82; rw [iN g0,iN g1]]⟩
theorem nd_8_1(u:Pr)(a b:Int)(xe:Ext)(hx0:pnS_r0 (prO u)=true)(cx:Cx)(hcx:cx.n=130){Q:PExit->S->Prop}(hq:Q (.normal) (S.mk [(1,.lp 1 0),(2,vI6 0),(3,vI6 a),(4,vI6 b),(91,.v (.bool (erN (coreB (prNm u)) != 0)))] [(1,prV u)] xe)):PW prog cx (regF f75 8) (nd1 u a b xe) Q:=
 pw mdL 130 [cl (@pnS (prO u)),rp 3 (bt1 hx0),cl (@nCoT (prNm u)),rp 2 (bt1 hx0)] [1,2,3,4,91] [1] hcx hq
theorem nd_8_2(u:Pr)(a b:Int)(xe:Ext)(hx0:pnS_r0 (prO u)=false)(cx:Cx)(hcx:cx.n=130){Q:PExit->S->Prop}(hq:Q (.normal) (S.mk [(1,.lp 1 0),(2,vI6 0),(3,vI6 a),(4,vI6 b),(91,.v (.bool false))] [(1,prV u)] xe)):PW prog cx (regF f75 8) (nd1 u a b xe) Q:=
 pw mdL 130 [cl (@pnS (prO u)),rp 5 (bf1 hx0)] [1,2,3,4,91] [1] hcx hq
def nd_8_v91(u:Pr)(a b:Int):Bool:=(if pnS_r0 (prO u)=true then ((erN (coreB (prNm u)) != 0)) else (false))
theorem nd_8J(u:Pr)(a b:Int)(xe:Ext):(Ob.frag 130 (regF f75 8) (nd1 u a b xe) (.normal) (S.mk [(1,.lp 1 0),(2,vI6 0),(3,vI6 a),(4,vI6 b),(91,.v (.bool (nd_8_v91 u a b)))] [(1,prV u)] xe)).ok prog:=by
 intro cx hcx
 by_cases g0:pnS_r0 (prO u)=true
 ·exact nd_8_1 u a b xe g0 cx hcx ⟨rfl,by rw [show nd_8_v91 u a b=((erN (coreB (prNm u)) != 0)) by unfold nd_8_v91; rw [iP g0]]⟩
 ·exact nd_8_2 u a b xe (Bool.eq_false_iff.2 g0) cx hcx ⟨rfl,by rw [show nd_8_v91 u a b=(false) by unfold nd_8_v91; rw [iN g0]]⟩
theorem nd_9_1(u:Pr)(a b:Int)(xe:Ext)(hx0:prO u=3)(cx:Cx)(hcx:cx.n=130){Q:PExit->S->Prop}(hq:Q (.normal) (S.mk [(1,.lp 1 0),(2,vI6 0),(3,vI6 a),(4,vI6 b),(5,.v (.bool (ByteArray.toList (prNm u)==ByteArray.toList (bM 118))))] [(1,prV u)] xe)):PW prog cx (regF f75 9) (nd1 u a b xe) Q:=
 pw mdL 130 [rp 4 (et1 hx0)] [1,2,3,4,5] [1] hcx hq
theorem nd_9_2(u:Pr)(a b:Int)(xe:Ext)(hx0:¬prO u=3)(cx:Cx)(hcx:cx.n=130){Q:PExit->S->Prop}(hq:Q (.normal) (S.mk [(1,.lp 1 0),(2,vI6 0),(3,vI6 a),(4,vI6 b),(5,.v (.bool false))] [(1,prV u)] xe)):PW prog cx (regF f75 9) (nd1 u a b xe) Q:=
 pw mdL 130 [rp 4 (en1 hx0)] [1,2,3,4,5] [1] hcx hq
def nd_9_v5(u:Pr)(a b:Int):Bool:=(if prO u=3 then ((ByteArray.toList (prNm u)==ByteArray.toList (bM 118))) else (false))
theorem nd_9J(u:Pr)(a b:Int)(xe:Ext):(Ob.frag 130 (regF f75 9) (nd1 u a b xe) (.normal) (S.mk [(1,.lp 1 0),(2,vI6 0),(3,vI6 a),(4,vI6 b),(5,.v (.bool (nd_9_v5 u a b)))] [(1,prV u)] xe)).ok prog:=by
 intro cx hcx
 by_cases g0:prO u=3
 ·exact nd_9_1 u a b xe g0 cx hcx ⟨rfl,by rw [show nd_9_v5 u a b=((ByteArray.toList (prNm u)==ByteArray.toList (bM 118))) by unfold nd_9_v5; rw [iP g0]]⟩
 ·exact nd_9_2 u a b xe g0 cx hcx ⟨rfl,by rw [show nd_9_v5 u a b=(false) by unfold nd_9_v5; rw [iN g0]]⟩
section
variable (u:Pr) (a b:Int) (x:Bool) (xe:Ext)
include u a b x xe
theorem nd_10_1(hx0:prO u=4)(hx1:prNm u=ByteArray.mk #[116,97,103])(cx:Cx)(hcx:cx.n=130){Q:PExit->S->Prop}(hq:Q (.normal) (S.mk [(1,.lp 1 0),(2,vI6 0),(3,vI6 a),(4,vI6 b),(5,.v (.bool x)),(6,.v (.bool true))] [(1,prV u)] xe)):PW prog cx (regF f75 10) (nd3 u a b x xe) Q:=
 pw mdL 130 [rp 4 (et1 hx0),rp 3 (bt (ByteArray.toList (prNm u)==ByteArray.toList (ByteArray.mk #[116,97,103])) (bsT hx1)),et1 hx0,bt (ByteArray.toList (prNm u)==ByteArray.toList (ByteArray.mk #[116,97,103])) (bsT hx1),et1 hx0] [1,2,3,4,5,6] [1] hcx hq
theorem nd_10_2(hx0:prO u=4)(hx1:¬prNm u=ByteArray.mk #[116,97,103])(cx:Cx)(hcx:cx.n=130){Q:PExit->S->Prop}(hq:Q (.normal) (S.mk [(1,.lp 1 0),(2,vI6 0),(3,vI6 a),(4,vI6 b),(5,.v (.bool x)),(6,.v (.bool (ByteArray.toList (prNm u)==ByteArray.toList (ByteArray.mk #[118,97,108]))))] [(1,prV u)] xe)):PW prog cx (regF f75 10) (nd3 u a b x xe) Q:=
 pw mdL 130 [rp 4 (et1 hx0),rp 3 (bf (ByteArray.toList (prNm u)==ByteArray.toList (ByteArray.mk #[116,97,103])) (bsF hx1)),et1 hx0,bf (ByteArray.toList (prNm u)==ByteArray.toList (ByteArray.mk #[116,97,103])) (bsF hx1),et1 hx0] [1,2,3,4,5,6] [1] hcx hq
theorem nd_10_3(hx0:¬prO u=4)(cx:Cx)(hcx:cx.n=130){Q:PExit->S->Prop}(hq:Q (.normal) (S.mk [(1,.lp 1 0),(2,vI6 0),(3,vI6 a),(4,vI6 b),(5,.v (.bool x)),(6,.v (.bool false))] [(1,prV u)] xe)):PW prog cx (regF f75 10) (nd3 u a b x xe) Q:=
 pw mdL 130 [rp 6 (en1 hx0)] [1,2,3,4,5,6] [1] hcx hq
end
def nd_10_v6(u:Pr)(a b:Int)(x:Bool):Bool:=(if prO u=4 then (if prNm u=ByteArray.mk #[116,97,103] then (true) else ((ByteArray.toList (prNm u)==ByteArray.toList (ByteArray.mk #[118,97,108])))) else (false))
theorem nd_10J(u:Pr)(a b:Int)(x:Bool)(xe:Ext):(Ob.frag 130 (regF f75 10) (nd3 u a b x xe) (.normal) (S.mk [(1,.lp 1 0),(2,vI6 0),(3,vI6 a),(4,vI6 b),(5,.v (.bool x)),(6,.v (.bool (nd_10_v6 u a b x)))] [(1,prV u)] xe)).ok prog:=by
 intro cx hcx
 by_cases g0:prO u=4
 ·by_cases g1:prNm u=ByteArray.mk #[116,97,103]
  ·exact nd_10_1 u a b x xe g0 g1 cx hcx ⟨rfl,by rw [show nd_10_v6 u a b x=(true) by unfold nd_10_v6; rw [iP g0,iP g1]]⟩
  ·exact nd_10_2 u a b x xe g0 g1 cx hcx ⟨rfl,by rw [show nd_10_v6 u a b x=((ByteArray.toList (prNm u)==ByteArray.toList (ByteArray.mk #[118,97,108]))) by unfold nd_10_v6; rw [iP g0,iN g1]]⟩
 ·exact nd_10_3 u a b x xe g0 cx hcx ⟨rfl,by rw [show nd_10_v6 u a b x=(false) by unfold nd_10_v6; rw [iN g0]]⟩
theorem nd_11_1(u:Pr)(a b:Int)(x y:Bool)(xe:Ext)(hx0:x=false)(cx:Cx)(hcx:cx.n=130){Q:PExit->S->Prop}(hq:Q (.normal) (S.mk [(1,.lp 1 0),(2,vI6 0),(3,vI6 a),(4,vI6 b),(5,.v (.bool x)),(6,.v (.bool y)),(118,.v (.bool !y))] [(1,prV u)] xe)):PW prog cx (regF f75 11) (nd2 u a b x y xe) Q:=
 pw mdL 130 [rp 3 (bt1 (bnT hx0))] [1,2,3,4,5,6,118] [1] hcx hq
theorem nd_11_2(u:Pr)(a b:Int)(x y:Bool)(xe:Ext)(hx0:x=true)(cx:Cx)(hcx:cx.n=130){Q:PExit->S->Prop}(hq:Q (.normal) (S.mk [(1,.lp 1 0),(2,vI6 0),(3,vI6 a),(4,vI6 b),(5,.v (.bool x)),(6,.v (.bool y)),(118,.v (.bool false))] [(1,prV u)] xe)):PW prog cx (regF f75 11) (nd2 u a b x y xe) Q:=
 pw mdL 130 [rp 3 (bf1 (bnF hx0))] [1,2,3,4,5,6,118] [1] hcx hq
def nd_11_v118(u:Pr)(a b:Int)(x y:Bool):Bool:=(if x=true then (false) else (!y))
theorem nd_11J(u:Pr)(a b:Int)(x y:Bool)(xe:Ext):(Ob.frag 130 (regF f75 11) (nd2 u a b x y xe) (.normal) (S.mk [(1,.lp 1 0),(2,vI6 0),(3,vI6 a),(4,vI6 b),(5,.v (.bool x)),(6,.v (.bool y)),(118,.v (.bool (nd_11_v118 u a b x y)))] [(1,prV u)] xe)).ok prog:=by
 intro cx hcx
 by_cases g0:x=true
 ·exact nd_11_2 u a b x y xe g0 cx hcx ⟨rfl,by rw [show nd_11_v118 u a b x y=(false) by unfold nd_11_v118; rw [iP g0]]⟩
 ·exact nd_11_1 u a b x y xe (Bool.eq_false_iff.2 g0) cx hcx ⟨rfl,by rw [show nd_11_v118 u a b x y=(!y) by unfold nd_11_v118; rw [iN g0]]⟩
abbrev nd4(u:Pr)(a b:Int)(x:Bool)(xe:Ext):S:=⟨[(1,.lp 1 0),(2,.v (.int .i64 0)),(3,.v (.int .i64 a)),(4,.v (.int .i64 b)),(91,.v (.bool x))],[(1,prV u)],xe⟩
section
variable (u:Pr) (a b:Int) (x y:Bool) (h13:prO u=8->0<(prK u).length) (xe:Ext)
include u a b x y h13 xe
theorem nd_13a_1(hx0:prO u=8)(cx:Cx)(hcx:cx.n=130){Q:PExit->S->Prop}(hq:Q (.normal) (S.mk [(1,.lp 1 0),(2,vI6 0),(3,vI6 a),(4,vI6 b),(5,.v (.bool x)),(6,.v (.bool y)),(129,.v (.bool (prO (List.getD (prK u) 0 default) != 1)))] [(1,prV u)] xe)):PW prog cx (regF f75 13) (nd2 u a b x y xe) Q:=
 pw mdL 130 [rp 3 (et1 hx0),mxPr (prK u) 0,xPr (prK u) 0,rp 4 (et1 hx0)] [1,2,3,4,5,6,129] [1] hcx hq
theorem nd_13a_2(hx0:¬prO u=8)(cx:Cx)(hcx:cx.n=130){Q:PExit->S->Prop}(hq:Q (.normal) (S.mk [(1,.lp 1 0),(2,vI6 0),(3,vI6 a),(4,vI6 b),(5,.v (.bool x)),(6,.v (.bool y)),(129,.v (.bool false))] [(1,prV u)] xe)):PW prog cx (regF f75 13) (nd2 u a b x y xe) Q:=
 pw mdL 130 [rp 7 (en1 hx0)] [1,2,3,4,5,6,129] [1] hcx hq
end
def nd_13a_v129(u:Pr)(a b:Int)(x y:Bool):Bool:=(if prO u=8 then ((prO (List.getD (prK u) 0 default) != 1)) else (false))
theorem nd_13aJ(u:Pr)(a b:Int)(x y:Bool)(h13:prO u=8->0<(prK u).length)(xe:Ext):(Ob.frag 130 (regF f75 13) (nd2 u a b x y xe) (.normal) (S.mk [(1,.lp 1 0),(2,vI6 0),(3,vI6 a),(4,vI6 b),(5,.v (.bool x)),(6,.v (.bool y)),(129,.v (.bool (nd_13a_v129 u a b x y)))] [(1,prV u)] xe)).ok prog:=by
 intro cx hcx
 by_cases g0:prO u=8
 ·exact nd_13a_1 u a b x y h13 xe g0 cx hcx ⟨rfl,by rw [show nd_13a_v129 u a b x y=((prO (List.getD (prK u) 0 default) != 1)) by unfold nd_13a_v129; rw [iP g0]]⟩
 ·exact nd_13a_2 u a b x y h13 xe g0 cx hcx ⟨rfl,by rw [show nd_13a_v129 u a b x y=(false) by unfold nd_13a_v129; rw [iN g0]]⟩
section
variable (u:Pr) (a b:Int) (x:Bool) (h13:prO u=8->0<(prK u).length) (xe:Ext)
include u a b x h13 xe
theorem nd_13b_1(hx0:prO u=8)(cx:Cx)(hcx:cx.n=130){Q:PExit->S->Prop}(hq:Q (.normal) (S.mk [(1,.lp 1 0),(2,vI6 0),(3,vI6 a),(4,vI6 b),(91,.v (.bool x)),(129,.v (.bool (prO (List.getD (prK u) 0 default) != 1)))] [(1,prV u)] xe)):PW prog cx (regF f75 13) (nd4 u a b x xe) Q:=
 pw mdL 130 [rp 3 (et1 hx0),mxPr (prK u) 0,xPr (prK u) 0,rp 4 (et1 hx0)] [1,2,3,4,91,129] [1] hcx hq
theorem nd_13b_2(hx0:¬prO u=8)(cx:Cx)(hcx:cx.n=130){Q:PExit->S->Prop}(hq:Q (.normal) (S.mk [(1,.lp 1 0),(2,vI6 0),(3,vI6 a),(4,vI6 b),(91,.v (.bool x)),(129,.v (.bool false))] [(1,prV u)] xe)):PW prog cx (regF f75 13) (nd4 u a b x xe) Q:=
 pw mdL 130 [rp 7 (en1 hx0)] [1,2,3,4,91,129] [1] hcx hq
end
def nd_13b_v129(u:Pr)(a b:Int)(x:Bool):Bool:=(if prO u=8 then ((prO (List.getD (prK u) 0 default) != 1)) else (false))
theorem nd_13bJ(u:Pr)(a b:Int)(x:Bool)(h13:prO u=8->0<(prK u).length)(xe:Ext):(Ob.frag 130 (regF f75 13) (nd4 u a b x xe) (.normal) (S.mk [(1,.lp 1 0),(2,vI6 0),(3,vI6 a),(4,vI6 b),(91,.v (.bool x)),(129,.v (.bool (nd_13b_v129 u a b x)))] [(1,prV u)] xe)).ok prog:=by
 intro cx hcx
 by_cases g0:prO u=8
 ·exact nd_13b_1 u a b x h13 xe g0 cx hcx ⟨rfl,by rw [show nd_13b_v129 u a b x=((prO (List.getD (prK u) 0 default) != 1)) by unfold nd_13b_v129; rw [iP g0]]⟩
 ·exact nd_13b_2 u a b x h13 xe g0 cx hcx ⟨rfl,by rw [show nd_13b_v129 u a b x=(false) by unfold nd_13b_v129; rw [iN g0]]⟩
theorem pr_blk(x:Pr):bulkPss (Pr.cs (prK x))<bulkPs (prL x):=by simp only [bulkPs,bulkP]; omega
abbrev cpA_I(v:Pr)(j:Int)(out:List Pr)(e:Ext):S:=S.mk [(2,.lp 2 0),(3,.lp 3 0),(14,vL 4 (Pr.cs (prK v))),(15,vI6 ((prK v).length:Int)),(16,vI6 j)] [(2,[vI6 0,vS nm0,vI6 0,.v .nilsl]),(3,[vI6 (prO v),vS (prNm v),vI6 (prN v),.uniq 46 4 (Pr.cs out)])] e
def cpA_f  : List Pr->(List Pr)->(List Pr)
 | [],out=>(out)
 | el::r,out=>cpA_f  r (out++[el])
def cpA_q(v:Pr)(e:Ext)(p:(List Pr)):PExit × S:=(.exit 0,S.mk [(2,.lp 2 0),(3,.lp 3 0),(14,vL 4 (Pr.cs (prK v))),(15,vI6 ((prK v).length:Int))] [(2,[vI6 0,vS nm0,vI6 0,.v .nilsl]),(3,[vI6 (prO v),vS (prNm v),vI6 (prN v),.uniq 46 4 (Pr.cs p)])] e)
theorem cpA(v:Pr)(hwk:∀w:Pr,w∈prK v->Pu 77 [.agg (prL w)] (.ret (.agg (prL w))))(out:List Pr)(e:Ext)(hN:(prK v).length<=1000000000)(hv:List.length out<=0):(Ob.loop 29 (loopF f77 0) (cpA_I v 0 out e) (cpA_q v e (cpA_f  ((prK v))  out)).1 (cpA_q v e (cpA_f  ((prK v))  out)).2).ok prog:=by
 refine rng ((prK v).length) (fun j out=>cpA_I v j out e) (fun i out=>cpA_f  (List.drop i ((prK v)))  out) (cpA_q v e) (fun i out=>(out.length<=i)) kR ?_ out (by first | exact hv | omega)
 rintro i out hi hv
 try simp only at hv
 rcases Nat.lt_or_ge i ((prK v).length) with hlt | hge
 ·have hd:=drop_at hlt
  exact lS mdL [rgPr hlt,cl (@hwk (List.getD (prK v) i default) (by first | exact getD_mem hlt | simp_all)),am (List.length (Pr.cs out++[prL (List.getD (prK v) i default)]) * (55+1)<=140737488355328) (by (simp only [List.length_append,List.length_cons,List.length_nil,Pr.cs_len]; omega)),wr ((i:Int)+1)] [2,3,14,15,16] [2,3] hlt (out++[List.getD (prK v) i default]) (S.mk [(2,.lp 2 0),(3,.lp 3 0),(14,vL 4 (Pr.cs (prK v))),(15,vI6 ((prK v).length:Int)),(16,vI6 ((i:Int)+1))] [(2,[vI6 0,vS nm0,vI6 0,.v .nilsl]),(3,[vI6 (prO v),vS (prNm v),vI6 (prN v),.uniq 46 4 (Pr.cs out++[prL (List.getD (prK v) i default)])])] e) ⟨⟨W,W,W,W,W,tVv⟩,⟨Ws,⟨W,W,W,(.inl (by first | (simp only [List.nil_append,nmsC_app,nmsC_snoc,Pr.cs_snoc,Tp.cs_snoc,Ex.cs_snoc,Vr.cs_snoc,Df.cs_snoc]; done) | (simp only [List.nil_append,nmsC_app,nmsC_snoc,Pr.cs_snoc,Tp.cs_snoc,Ex.cs_snoc,Vr.cs_snoc,Df.cs_snoc]; rfl))),tVv⟩,tVv⟩,rfl⟩ (by first | assumption | omega | (apply gPr <;> first | assumption | omega | decide) | (simp only [List.length_append,List.length_cons,List.length_nil] at *; omega) | simp_all) (by rw [hd,cpA_f])
 ·have he:i=(prK v).length:=by omega
  exact lX mdL [df ((i:Int)<((prK v).length:Int))] (out) (by rw [he,List.drop_length,cpA_f])
theorem cpL(v:Pr)(hwk:∀w:Pr,w∈prK v->Pu 77 [.agg (prL w)] (.ret (.agg (prL w))))(hN:(prK v).length<=1000000000):Pu 77 [.agg (prL v)] (rA [pI (prO v),.str (prNm v),pI (prN v),.sl 4 (Pr.cs (cpA_f (prK v) []))]):=
 pu mdL (fun e=>[sl (Pr.cs_len (prK v)),lp (S.mk [(2,.lp 2 0),(3,.lp 3 0),(14,vL 4 (Pr.cs (prK v))),(15,vI6 ((prK v).length:Int)),(16,vI6 0)] [(2,[vI6 0,vS nm0,vI6 0,.v .nilsl]),(3,[vI6 (prO v),vS (prNm v),vI6 (prN v),.v .nilsl])] e) (@cpA v hwk ([]) e hN (by (simp only [List.length_nil]; omega))) ⟨⟨W,W,W,W,W,tVv⟩,⟨⟨W,W,W,W,tVv⟩,⟨W,W,W,Wq,tVv⟩,tVv⟩,rfl⟩]) func77
theorem coT:Pu 78 [.bool true] (.ret (.agg [.int .i64 2,.str nm0,.int .i64 1,.nilsl])):=Ob.pur_of_fast (fun _=>mdL) 60 60 mixed kR rfl rfl
theorem coF:Pu 78 [.bool false] (.ret (.agg [.int .i64 2,.str nm0,.int .i64 0,.nilsl])):=Ob.pur_of_fast (fun _=>mdL) 60 60 mixed kR rfl rfl
theorem pey_1(l:List Pr)(hx0:¬(l.length:Int)=(0:Int)):Pu 80 [.sl 4 (Pr.cs l),.nilsl,.fn (.func 43) [] []] (rB false):=
 pm mdL [sl (Pr.cs_len l),kp,nt1 hx0] func80
theorem pey_2(l:List Pr)(hx0:(l.length:Int)=(0:Int)):Pu 80 [.sl 4 (Pr.cs l),.nilsl,.fn (.func 43) [] []] (rB true):=
 pm mdL [sl (Pr.cs_len l),kp,nn1 hx0,sl (Pr.cs_len l),ur,df (0<(l.length:Int))] func80
def isNl(l:List Pr):Bool:=decide ((l.length:Int)=0)
theorem peyT(l:List Pr):Pu 80 [.sl 4 (Pr.cs l),.nilsl,.fn (.func 43) [] []] (.ret (.bool (isNl l))):=by
 unfold isNl
 by_cases h:(l.length:Int)=0
 ·rw [decide_eq_true h]; first | exact pey_2 l h | exact pey_1 l h
 ·rw [decide_eq_false h]; first | exact pey_1 l h | exact pey_2 l h
def pzz_r0(v:Pr):Bool:=(if prO v=0 then (if prNm v=nm0 then (if prN v=0 then (isNl (prK v)) else false) else false) else false)
theorem pzz(v:Pr):Pu 43 [.agg (prL v),.agg [pI 0,.str nm0,pI 0,.nilsl]] (rB (pzz_r0 v)):=by
 refine t0 ?_;by_cases h0:prO v=0
 ·refine tp [rp 6 (et1 h0)] ?_;by_cases h1:prNm v=nm0
  ·refine tp [rp 6 (bt (ByteArray.toList (prNm v)==ByteArray.toList nm0) (bsT h1))] ?_;by_cases h2:prN v=0
   ·simp only [pzz_r0,iP h0,iP h1,iP h2]; exact tM mdL [rp 5 (et1 h2),cl (@peyT (prK v)),et1 h2] func43
   ·simp only [pzz_r0,iP h0,iP h1,iN h2]; exact tM mdL [rp 6 (en1 h2)] func43
  ·simp only [pzz_r0,iP h0,iN h1]; exact tM mdL [rp 6 (bf (ByteArray.toList (prNm v)==ByteArray.toList nm0) (bsF h1)),rp 6 (bf false)] func43
 ·simp only [pzz_r0,iN h0]; exact tM mdL [rp 6 (en1 h0),rp 12 (bf false)] func43
def pst_r0(v:Pr):Bool:=(if prO v=2 then (if prNm v=nm0 then (if prN v=1 then (isNl (prK v)) else false) else false) else false)
theorem pst(v:Pr):Pu 43 [.agg (prL v),.agg [pI 2,.str nm0,pI 1,.nilsl]] (rB (pst_r0 v)):=by
 refine t0 ?_;by_cases h0:prO v=2
 ·refine tp [rp 6 (et1 h0)] ?_;by_cases h1:prNm v=nm0
  ·refine tp [rp 6 (bt (ByteArray.toList (prNm v)==ByteArray.toList nm0) (bsT h1))] ?_;by_cases h2:prN v=1
   ·simp only [pst_r0,iP h0,iP h1,iP h2]; exact tM mdL [rp 5 (et1 h2),cl (@peyT (prK v)),et1 h2] func43
   ·simp only [pst_r0,iP h0,iP h1,iN h2]; exact tM mdL [rp 6 (en1 h2)] func43
  ·simp only [pst_r0,iP h0,iN h1]; exact tM mdL [rp 6 (bf (ByteArray.toList (prNm v)==ByteArray.toList nm0) (bsF h1)),rp 6 (bf false)] func43
 ·simp only [pst_r0,iN h0]; exact tM mdL [rp 6 (en1 h0),rp 12 (bf false)] func43
def psf_r0(v:Pr):Bool:=(if prO v=2 then (if prNm v=nm0 then (if prN v=0 then (isNl (prK v)) else false) else false) else false)
theorem psf(v:Pr):Pu 43 [.agg (prL v),.agg [pI 2,.str nm0,pI 0,.nilsl]] (rB (psf_r0 v)):=by
 refine t0 ?_;by_cases h0:prO v=2
 ·refine tp [rp 6 (et1 h0)] ?_;by_cases h1:prNm v=nm0
  ·refine tp [rp 6 (bt (ByteArray.toList (prNm v)==ByteArray.toList nm0) (bsT h1))] ?_;by_cases h2:prN v=0
   ·simp only [psf_r0,iP h0,iP h1,iP h2]; exact tM mdL [rp 5 (et1 h2),cl (@peyT (prK v)),et1 h2] func43
   ·simp only [psf_r0,iP h0,iP h1,iN h2]; exact tM mdL [rp 6 (en1 h2)] func43
  ·simp only [psf_r0,iP h0,iN h1]; exact tM mdL [rp 6 (bf (ByteArray.toList (prNm v)==ByteArray.toList nm0) (bsF h1)),rp 6 (bf false)] func43
 ·simp only [psf_r0,iN h0]; exact tM mdL [rp 6 (en1 h0),rp 12 (bf false)] func43
def pvo_r0(v:Pr):Bool:=(if pzz_r0 v=true then true else (pst_r0 v))
theorem pvo(v:Pr):Pu 79 [.agg (prL v)] (rB (pvo_r0 v)):=by
 by_cases h0:pzz_r0 v=true
 ·simp only [pvo_r0,iP h0]; exact pm mdL [cl (@pzz v),rp 4 (bt1 h0)] func79
 ·simp only [pvo_r0,iN h0]; exact pm mdL [cl (@pzz v),rp 2 (bf1 (bFT h0)),cl coT,bf1 (bFT h0),cl (@pst v),bf1 (bFT h0)] func79
theorem cpA_e:∀ (l out:List Pr),cpA_f l out=out++l
 | [],out=>by simp [cpA_f]
 | c::r,out=>by simp [cpA_f,cpA_e r]
mutual
/-- All lists of kids are short. -/
def prS:Pr->Prop
 | .mk _ _ _ k=>k.length<=1000000000/\prSs k
def prSs:List Pr->Prop
 | []=>True
 | x::r=>prS x/\prSs r
end
theorem prS_len{u:Pr}(h:prS u):(prK u).length<=1000000000:=by
 cases u with
 | mk o n i k=>exact h.1
theorem prSs_mem:∀ {l:List Pr},prSs l->∀w∈l,prS w
 | x::r,h,w,hw=>by
  rcases List.mem_cons.1 hw with rfl | hw
  ·exact h.1
  ·exact prSs_mem h.2 w hw
theorem prSs_of:∀ {l:List Pr},(∀w∈l,prS w)->prSs l
 | [],_=>trivial
 | x::r,h=>⟨h x sM,prSs_of fun w hw=>h w (by simp [hw])⟩
theorem prS_kid{u w:Pr}(h:prS u)(hw:w∈prK u):prS w:=by
 cases u with
 | mk o n i k=>exact prSs_mem h.2 w hw
theorem prS_mk{o:Int}{n:BA}{i:Int}{k:List Pr}(hl:k.length<=1000000000)(h:∀w∈k,prS w):prS (.mk o n i k):=⟨hl,prSs_of h⟩
mutual
theorem prS_bulk:∀u:Pr,bulkPs (prL u)<=1000000000->prS u
 | .mk o n i k,h=>by
  have h1:bulkPss (Pr.cs k)<bulkPs (prL (.mk o n i k)):=pr_bulk (.mk o n i k)
  have h2:=Pr.bulk k
  exact ⟨by omega,prSs_bulk k oM⟩
theorem prSs_bulk:∀l:List Pr,bulkPss (Pr.cs l)<=1000000000->prSs l
 | [],_=>trivial
 | x::r,h=>by
  have h1:bulkPss (Pr.cs (x::r))=bulkPs (prL x)+bulkPss (Pr.cs r):=by rw [Pr.cs_eq,Pr.cs_eq]; rfl
  exact ⟨prS_bulk x oM,prSs_bulk r oM⟩
end
theorem pqS_ok:∀ (d:Nat) (u:Pr),bulkPs (prL u)<d->prS u->Pu 72 [.agg (prL u)] (.ret (.int .i64 (pqD d u)))
 | 0,_,h,_=>by omega
 | d+1,u,h,hs=>pqL u (pqD d) (fun w hw=>pqS_ok d w (by have:=pr_bulk u; have:=Pr.mem hw; omega) (prS_kid hs hw)) (prS_len hs)
theorem pqS(u:Pr)(hs:prS u):Pu 72 [.agg (prL u)] (.ret (.int .i64 (pqF u))):=pqS_ok _ u oM hs
theorem peS_ok:∀ (d:Nat) (u:Pr),bulkPs (prL u)<d->prS u->Pu 73 [.agg (prL u)] (.ret (.int .i64 (peD d u)))
 | 0,_,h,_=>by omega
 | d+1,u,h,hs=>peL u (peD d) (fun w hw=>peS_ok d w (by have:=pr_bulk u; have:=Pr.mem hw; omega) (prS_kid hs hw)) (prS_len hs)
theorem peS(u:Pr)(hs:prS u):Pu 73 [.agg (prL u)] (.ret (.int .i64 (peF u))):=peS_ok _ u oM hs
theorem cpS_ok:∀ (d:Nat) (v:Pr),bulkPs (prL v)<d->prS v->Pu 77 [.agg (prL v)] (.ret (.agg (prL v)))
 | 0,_,h,_=>by omega
 | d+1,v,h,hs=>by
  have:=cpL v (fun w hw=>cpS_ok d w (by have:=pr_blk v; have:=Pr.mem hw; omega) (prS_kid hs hw)) (prS_len hs)
  rw [cpA_e,List.nil_append] at this
  exact this
theorem cpS(v:Pr)(hs:prS v):Pu 77 [.agg (prL v)] (.ret (.agg (prL v))):=cpS_ok (bulkPs (prL v)+1) v oM hs
theorem cs2(o:Int)(s:BA)(n:Int)(k:List Pr)(b:Pr):Pr.cs [.mk o s n k,b]=[[.int .i64 o,.str s,.int .i64 n,.sl 4 (Pr.cs k)],prL b]:=by rw [Pr.cs_eq]; rfl
def prTr:Pr := .mk 2 nm0 1 []
def prFa:Pr := .mk 2 nm0 0 []
theorem wk_pl(o:Int)(x:BA)(n:Int):Wk (.agg [.int .i64 o,.str x,.int .i64 n,.nilsl]) (.agg (prL (.mk o x n []))) := .agg rfl fun j h h'=>by
 have:j<4:=h
 match j,this with
 | 0,_=>exact .r _
 | 1,_=>exact .r _
 | 2,_=>exact .r _
 | 3,_=>exact .n 4
theorem coTT:Pu 78 [.bool true] (.ret (.agg (prL prTr))):=Ob.pur_wk (wk_pl 2 nm0 1) coT
abbrev anA_I(l:List Pr)(j:Int)(o:Int)(s:BA)(n:Int)(k:List Pr)(b:Bool)(e:Ext):S:=S.mk [(2,.lp 2 0),(3,.lp 3 0),(4,.v (.bool b)),(8,vL 4 (Pr.cs l)),(9,vI6 (l.length:Int)),(10,vI6 j)] [(2,[vI6 0,vS nm0,vI6 0,.v .nilsl]),(3,[vI6 o,vS s,vI6 n,vL 4 (Pr.cs k)])] e
inductive anA_R where
 | e0 (o:Int) (s:BA) (n:Int) (k:List Pr) (b:Bool)
 | e1 (o:Int) (s:BA) (n:Int) (k:List Pr) (b:Bool)
def anA_f  : List Pr->(Int)->(BA)->(Int)->(List Pr)->(Bool)->anA_R
 | [],o,s,n,k,b=>(anA_R.e1 o s n k b)
 | el::r,o,s,n,k,b=>(if pvo_r0 el=true then anA_f  r (o) (s) (n) (k) (b) else (if psf_r0 el=true then (anA_R.e0 o s n k b) else (if b=true then anA_f  r (15) nm0 (0) ([Pr.mk o s n k,el]) (b) else anA_f  r (prO el) (prNm el) (prN el) (prK el) (true))))
def anA_q(l:List Pr)(e:Ext):anA_R->PExit × S
 | .e0 o s n k b=>(.ret,S.mk [(2,.lp 2 0),(3,.lp 3 0),(4,.v (.bool b)),(8,vL 4 (Pr.cs l)),(9,vI6 (l.length:Int))] [(2,[vI6 2,vS nm0,vI6 0,.v .nilsl]),(3,[vI6 o,vS s,vI6 n,vL 4 (Pr.cs k)])] e)
 | .e1 o s n k b=>(.exit 0,S.mk [(2,.lp 2 0),(3,.lp 3 0),(4,.v (.bool b)),(8,vL 4 (Pr.cs l)),(9,vI6 (l.length:Int))] [(2,[vI6 0,vS nm0,vI6 0,.v .nilsl]),(3,[vI6 o,vS s,vI6 n,vL 4 (Pr.cs k)])] e)
theorem anA_lp(l:List Pr)(hcp:∀w:Pr,w∈l->Pu 77 [.agg (prL w)] (.ret (.agg (prL w))))(e:Ext)(hN:l.length<=1000000000)(o:Int)(s:BA)(n:Int)(k:List Pr)(b:Bool):(Ob.loop 33 (loopF f41 0) (anA_I l 0 o s n k b e) (anA_q l e (anA_f  (l)  o s n k b)).1 (anA_q l e (anA_f  (l)  o s n k b)).2).ok prog:=by
 refine rng l.length (fun j zz=>anA_I l j zz.1 zz.2.1 zz.2.2.1 zz.2.2.2.1 zz.2.2.2.2 e) (fun i zz=>anA_f  (List.drop i (l))  zz.1 zz.2.1 zz.2.2.1 zz.2.2.2.1 zz.2.2.2.2) (anA_q l e) (fun i zz=>True) kR ?_ (o,s,n,k,b) trivial
 rintro i ⟨o,s,n,k,b⟩ hi -
 rcases Nat.lt_or_ge i (l.length) with hlt | hge
 ·have hd:=drop_at hlt
  refine t0 ?_;refine tp [rgPr hlt,cl (@pvo (List.getD l i default))] ?_;by_cases h0:pvo_r0 (List.getD l i default)=true
  ·exact tN mdL [bt1 h0,wr ((i:Int)+1)] hlt ((o),(s),(n),(k),(b)) trivial (by rw [hd,anA_f,iP h0])
  ·refine tp [bf1 (bFT h0),cl coF,cl (@psf (List.getD l i default))] ?_;by_cases h1:psf_r0 (List.getD l i default)=true
   ·exact tX mdL [bt1 h1,cl coF] (anA_R.e0 o s n k b) (by rw [hd,anA_f,iN h0,iP h1])
   ·refine tp [bf1 (bFT h1)] ?_;by_cases h2:b=true
    ·exact tS mdL [bt1 h2,cl (@hcp (List.getD l i default) (by simp_all [Bool.not_eq_true,Bool.not_eq_false])),wr ((i:Int)+1)] [2,3,4,8,9,10] [2,3] hlt ((15),nm0,(0),([Pr.mk o s n k,List.getD l i default]),(b)) (S.mk [(2,.lp 2 0),(3,.lp 3 0),(4,.v (.bool b)),(8,vL 4 (Pr.cs l)),(9,vI6 (l.length:Int)),(10,vI6 ((i:Int)+1))] [(2,[vI6 0,vS nm0,vI6 0,.v .nilsl]),(3,[vI6 15,vS nm0,vI6 0,vL 4 [[pI o,.str s,pI n,.sl 4 (Pr.cs k)],prL (List.getD l i default)]])] e) ⟨⟨W,W,W,W,W,W,tVv⟩,⟨Ws,⟨Wq,Wq,Wq,(.inl (by first | (simp only [List.nil_append,nmsC_app,nmsC_snoc,Pr.cs_snoc,Tp.cs_snoc,Ex.cs_snoc,Vr.cs_snoc,Df.cs_snoc,cs2]; done) | (simp only [List.nil_append,nmsC_app,nmsC_snoc,Pr.cs_snoc,Tp.cs_snoc,Ex.cs_snoc,Vr.cs_snoc,Df.cs_snoc,cs2]; rfl))),tVv⟩,tVv⟩,rfl⟩ trivial (by rw [hd,anA_f,iN h0,iN h1,iP h2])
    ·exact tS mdL [bf1 (bFT h2),cl (@hcp (List.getD l i default) (by simp_all [Bool.not_eq_true,Bool.not_eq_false])),wr ((i:Int)+1)] [2,3,4,8,9,10] [2,3] hlt ((prO (List.getD l i default)),(prNm (List.getD l i default)),(prN (List.getD l i default)),(prK (List.getD l i default)),(true)) (S.mk [(2,.lp 2 0),(3,.lp 3 0),(4,.v (.bool true)),(8,vL 4 (Pr.cs l)),(9,vI6 (l.length:Int)),(10,vI6 ((i:Int)+1))] [(2,[vI6 0,vS nm0,vI6 0,.v .nilsl]),(3,prV (List.getD l i default))] e) ⟨⟨W,W,W,W,W,W,tVv⟩,⟨Ws,⟨Wq,Wq,Wq,Wq,tVv⟩,tVv⟩,rfl⟩ trivial (by rw [hd,anA_f,iN h0,iN h1,iN h2])
 ·have he:i=l.length:=by omega
  exact lX mdL [df ((i:Int)<(l.length:Int))] (anA_R.e1 o s n k b) (by rw [he,List.drop_length,anA_f])
theorem anA_0(l:List Pr)(hcp:∀w:Pr,w∈l->Pu 77 [.agg (prL w)] (.ret (.agg (prL w))))(o:Int)(s:BA)(n:Int)(k:List Pr)(b:Bool)(e:Ext)(hN:l.length<=1000000000)(p0:Int)(p1:BA)(p2:Int)(p3:List Pr)(p4:Bool)(hres:(anA_f  (l)  o s n k b)=(anA_R.e0 p0 p1 p2 p3 p4)):(Ob.loop 33 (loopF f41 0) (anA_I l 0 o s n k b e) (anA_q l e (anA_R.e0 p0 p1 p2 p3 p4)).1 (anA_q l e (anA_R.e0 p0 p1 p2 p3 p4)).2).ok prog:=
 rz (anA_lp l hcp e hN o s n k b) hres
theorem anA_1(l:List Pr)(hcp:∀w:Pr,w∈l->Pu 77 [.agg (prL w)] (.ret (.agg (prL w))))(o:Int)(s:BA)(n:Int)(k:List Pr)(b:Bool)(e:Ext)(hN:l.length<=1000000000)(p0:Int)(p1:BA)(p2:Int)(p3:List Pr)(p4:Bool)(hres:(anA_f  (l)  o s n k b)=(anA_R.e1 p0 p1 p2 p3 p4)):(Ob.loop 33 (loopF f41 0) (anA_I l 0 o s n k b e) (anA_q l e (anA_R.e1 p0 p1 p2 p3 p4)).1 (anA_q l e (anA_R.e1 p0 p1 p2 p3 p4)).2).ok prog:=
 rz (anA_lp l hcp e hN o s n k b) hres
theorem coTL:Pu 78 [.bool true] (.ret (.agg [.int .i64 2,.str nm0,.int .i64 1,.sl 4 []])):=coTT
abbrev anI(l:List Pr)(e:Ext):S:=⟨[(2,.lp 2 0),(3,.lp 3 0),(4,.v (.bool false)),(8,.v (.sl 4 (Pr.cs l))),(9,.v (.int .i64 (l.length:Int))),(10,.v (.int .i64 0))],[(2,[.v (.int .i64 0),.v (.str nm0),.v (.int .i64 0),.v .nilsl]),(3,[.v (.int .i64 2),.v (.str nm0),.v (.int .i64 1),.v (.sl 4 [])])],e⟩
theorem an0(l:List Pr)(hcp:∀w:Pr,w∈l->Pu 77 [.agg (prL w)] (.ret (.agg (prL w))))(hN:l.length<=1000000000)(o:Int)(s:BA)(n:Int)(k:List Pr)(b:Bool)(e:Ext)(hres:anA_f l 2 nm0 1 [] false = .e0 o s n k b):(Ob.loop 33 (loopF f41 0) (anI l e) (anA_q l e (.e0 o s n k b)).1 (anA_q l e (.e0 o s n k b)).2).ok prog:=anA_0 l hcp 2 nm0 1 [] false e hN o s n k b hres
theorem an1(l:List Pr)(hcp:∀w:Pr,w∈l->Pu 77 [.agg (prL w)] (.ret (.agg (prL w))))(hN:l.length<=1000000000)(o:Int)(s:BA)(n:Int)(k:List Pr)(b:Bool)(e:Ext)(hres:anA_f l 2 nm0 1 [] false = .e1 o s n k b):(Ob.loop 33 (loopF f41 0) (anI l e) (anA_q l e (.e1 o s n k b)).1 (anA_q l e (.e1 o s n k b)).2).ok prog:=anA_1 l hcp 2 nm0 1 [] false e hN o s n k b hres
theorem anL_1(l:List Pr)(hcp:∀w:Pr,w∈l->Pu 77 [.agg (prL w)] (.ret (.agg (prL w))))(hN:l.length<=1000000000)(hy0:Int)(hy1:BA)(hy2:Int)(hy3:List Pr)(hy4:Bool)(hx5:anA_f l 2 nm0 1 [] false=anA_R.e0 hy0 hy1 hy2 hy3 hy4):Pu 41 [.sl 4 (Pr.cs l)] (rA [pI 2,.str nm0,pI 0,.sl 4 []]):=
 Ob.pur_wk (Wk.a (kr (kr (kr (kn 4 (WkL.r _)))))) (pu mdL (fun e=>[cl coTL,sl (Pr.cs_len l),lq (@an0 l hcp hN hy0 hy1 hy2 hy3 hy4 e hx5)]) func41)
theorem anL_2(l:List Pr)(hcp:∀w:Pr,w∈l->Pu 77 [.agg (prL w)] (.ret (.agg (prL w))))(hN:l.length<=1000000000)(hy0:Int)(hy1:BA)(hy2:Int)(hy3:List Pr)(hy4:Bool)(hx5:anA_f l 2 nm0 1 [] false=anA_R.e1 hy0 hy1 hy2 hy3 hy4):Pu 41 [.sl 4 (Pr.cs l)] (rA [pI hy0,.str hy1,pI hy2,.sl 4 (Pr.cs hy3)]):=
 pu mdL (fun e=>[cl coTL,sl (Pr.cs_len l),lq (@an1 l hcp hN hy0 hy1 hy2 hy3 hy4 e hx5)]) func41
def andF(l:List Pr):Pr:=match anA_f l 2 nm0 1 [] false with
 | .e0 _ _ _ _ _=>prFa
 | .e1 o s n k _ => .mk o s n k
theorem noL_1(u:Pr)(hcp:Pu 77 [.agg (prL u)] (.ret (.agg (prL u))))(hck:∀w:Pr,w∈prK u->Pu 77 [.agg (prL w)] (.ret (.agg (prL w))))(hN:(prK u).length<=1000000000)(hx0:prO u=14)(hx1:((prK u).length:Int)=1):Pu 69 [.agg (prL u)] (rA (prL (List.getD (prK u) 0 default))):=
 pm mdL [rp 3 (et1 hx0),sl (Pr.cs_len (prK u)),rp 2 (et1 hx0),et1 hx1,mxPr (prK u) 0,xPr (prK u) 0,cl (@hck (List.getD (prK u) 0 default) (by (apply gPr <;> first | assumption | omega | decide)))] func69
theorem noL_2(u:Pr)(hcp:Pu 77 [.agg (prL u)] (.ret (.agg (prL u))))(hck:∀w:Pr,w∈prK u->Pu 77 [.agg (prL w)] (.ret (.agg (prL w))))(hN:(prK u).length<=1000000000)(hx0:prO u=14)(hx1:¬((prK u).length:Int)=1)(hx2:pvo_r0 u=true):Pu 69 [.agg (prL u)] (rA [pI 2,.str nm0,pI 0,.sl 4 []]):=
 Ob.pur_wk (Wk.a (kr (kr (kr (kn 4 (WkL.r _)))))) (pm mdL [rp 3 (et1 hx0),sl (Pr.cs_len (prK u)),rp 2 (et1 hx0),en1 hx1,cl (@pvo u),bt1 hx2,cl coF] func69)
theorem noL_3(u:Pr)(hcp:Pu 77 [.agg (prL u)] (.ret (.agg (prL u))))(hck:∀w:Pr,w∈prK u->Pu 77 [.agg (prL w)] (.ret (.agg (prL w))))(hN:(prK u).length<=1000000000)(hx0:prO u=14)(hx1:¬((prK u).length:Int)=1)(hx2:pvo_r0 u=false)(hx3:psf_r0 u=true):Pu 69 [.agg (prL u)] (rA [pI 2,.str nm0,pI 1,.sl 4 []]):=
 Ob.pur_wk (Wk.a (kr (kr (kr (kn 4 (WkL.r _)))))) (pm mdL [rp 3 (et1 hx0),sl (Pr.cs_len (prK u)),rp 2 (et1 hx0),en1 hx1,cl (@pvo u),bf1 hx2,cl coF,cl (@psf u),bt1 hx3,cl coT] func69)
theorem noL_4(u:Pr)(hcp:Pu 77 [.agg (prL u)] (.ret (.agg (prL u))))(hck:∀w:Pr,w∈prK u->Pu 77 [.agg (prL w)] (.ret (.agg (prL w))))(hN:(prK u).length<=1000000000)(hx0:prO u=14)(hx1:¬((prK u).length:Int)=1)(hx2:pvo_r0 u=false)(hx3:psf_r0 u=false):Pu 69 [.agg (prL u)] (rA [pI 14,.str nm0,pI 0,.sl 4 [prL u]]):=
 pm mdL [rp 3 (et1 hx0),sl (Pr.cs_len (prK u)),rp 2 (et1 hx0),en1 hx1,cl (@pvo u),bf1 hx2,cl coF,cl (@psf u),bf1 hx3,cl hcp] func69
theorem noL_6(u:Pr)(hcp:Pu 77 [.agg (prL u)] (.ret (.agg (prL u))))(hck:∀w:Pr,w∈prK u->Pu 77 [.agg (prL w)] (.ret (.agg (prL w))))(hN:(prK u).length<=1000000000)(hx0:¬prO u=14)(hx1:pvo_r0 u=true):Pu 69 [.agg (prL u)] (rA [pI 2,.str nm0,pI 0,.sl 4 []]):=
 Ob.pur_wk (Wk.a (kr (kr (kr (kn 4 (WkL.r _)))))) (pm mdL [rp 5 (en1 hx0),bf false,cl (@pvo u),bt1 hx1,cl coF] func69)
theorem noL_7(u:Pr)(hcp:Pu 77 [.agg (prL u)] (.ret (.agg (prL u))))(hck:∀w:Pr,w∈prK u->Pu 77 [.agg (prL w)] (.ret (.agg (prL w))))(hN:(prK u).length<=1000000000)(hx0:¬prO u=14)(hx1:pvo_r0 u=false)(hx2:psf_r0 u=true):Pu 69 [.agg (prL u)] (rA [pI 2,.str nm0,pI 1,.sl 4 []]):=
 Ob.pur_wk (Wk.a (kr (kr (kr (kn 4 (WkL.r _)))))) (pm mdL [rp 5 (en1 hx0),bf false,cl (@pvo u),bf1 hx1,cl coF,cl (@psf u),bt1 hx2,cl coT] func69)
theorem noL_8(u:Pr)(hcp:Pu 77 [.agg (prL u)] (.ret (.agg (prL u))))(hck:∀w:Pr,w∈prK u->Pu 77 [.agg (prL w)] (.ret (.agg (prL w))))(hN:(prK u).length<=1000000000)(hx0:¬prO u=14)(hx1:pvo_r0 u=false)(hx2:psf_r0 u=false):Pu 69 [.agg (prL u)] (rA [pI 14,.str nm0,pI 0,.sl 4 [prL u]]):=
 pm mdL [rp 5 (en1 hx0),bf false,cl (@pvo u),bf1 hx1,cl coF,cl (@psf u),bf1 hx2,cl hcp] func69
inductive Pa where
 | mk (c t:Pr)
instance:Inhabited Pa:=⟨.mk default default⟩
def paC:Pa->Pr | .mk x _=>x
def paT:Pa->Pr | .mk _ x=>x
abbrev paL(x:Pa):List PV:=[.int .i64 (prO (paC x)),.str (prNm (paC x)),.int .i64 (prN (paC x)),.sl 4 (Pr.cs (prK (paC x))),.int .i64 (prO (paT x)),.str (prNm (paT x)),.int .i64 (prN (paT x)),.sl 4 (Pr.cs (prK (paT x)))]
abbrev paV(x:Pa):List LV:=[.v (.int .i64 (prO (paC x))),.v (.str (prNm (paC x))),.v (.int .i64 (prN (paC x))),.v (.sl 4 (Pr.cs (prK (paC x)))),.v (.int .i64 (prO (paT x))),.v (.str (prNm (paT x))),.v (.int .i64 (prN (paT x))),.v (.sl 4 (Pr.cs (prK (paT x))))]
def Pa.cs:List Pa->List (List PV)
 | []=>[]
 | x::r=>paL x::Pa.cs r
theorem Pa.cs_eq(l:List Pa):Pa.cs l=l.map (paL):=by induction l with | nil=>rfl | cons x r ih=>simp [Pa.cs,ih]
theorem Pa.cs_len(l:List Pa):(Pa.cs l).length=l.length:=by simp [Pa.cs_eq]
theorem Pa.cs_at{l:List Pa}{i:Nat}(h:i<l.length):(Pa.cs l).getD i []=paL (l.getD i default):=by rw [Pa.cs_eq]; simp [List.getD,h]
section
variable {P:Program}
def xPa(l:List Pa)(i:Nat)(h:i<l.length:=by omega):Stp P:=ar ((Pa.cs l).getD i []) (paL (l.getD i default)) (by rw [Pa.cs_at h])
def mxPa(l:List Pa)(e:Int)(h:0≤e∧e<(l.length:Int):=by omega):Stp P:=am ((0:Int)≤e∧e<((Pa.cs l).length:Int)) (by rw [Pa.cs_len]; exact h)
def rgPa{l:List Pa}{i:Nat}(h:i<l.length):Stp P:=s2 (dtl h) (s2 (mxPa l (i:Int)) (xPa l i h))
end
theorem Pa.cs_snoc(l:List Pa)(x:Pa):Pa.cs (l++[x])=Pa.cs l++[paL x]:=by simp [Pa.cs_eq]
def qaC:List (List Pa)->List (List PV)
 | []=>[]
 | x::r=>[.sl 8 (Pa.cs x)]::qaC r
theorem qaC_eq(l:List (List Pa)):qaC l=l.map fun x=>[.sl 8 (Pa.cs x)]:=by induction l with | nil=>rfl | cons x r ih=>simp [qaC,ih]
theorem qaC_len(l:List (List Pa)):(qaC l).length=l.length:=by simp [qaC_eq]
theorem qaC_at{l:List (List Pa)}{i:Nat}(h:i<l.length):(qaC l).getD i []=[.sl 8 (Pa.cs (l.getD i []))]:=by rw [qaC_eq]; simp [List.getD,h]
theorem qaC_snoc(l:List (List Pa))(x:List Pa):qaC (l++[x])=qaC l++[[.sl 8 (Pa.cs x)]]:=by simp [qaC_eq]
theorem gPa{l:List Pa}{i:Nat}(h:i<l.length):l.getD i default∈l:=getD_mem h
def paS(l:List Pa):Prop:=∀p∈l,prS (paC p)/\prS (paT p)
def adL(p:Pa)(l:List Pa)(f:Bool):List Pa:=if f=true then l++[p] else l
def adB(l:List Pa)(f:Bool):Bool:=f&&decide (l.length+1<=16)
def paI(l:List Pa)(f:Bool):Prop:=l.length<=17/\(f=true->l.length<=16)
theorem paI_add{p:Pa}{l:List Pa}{f:Bool}(h:paI l f):paI (adL p l f) (adB l f):=by
 unfold adL adB
 cases f with
 | false=>simpa using h
 | true=>
  have:=h.2 rfl
  refine ⟨by simp; omega,fun h=>?_⟩
  simp at h ⊢
  omega
def inK(f:Bool)(k:List Pa):List Pa:=if f=true then k else []
theorem anT(l:List Pr)(h:∀w∈l,prS w)(hN:l.length<=1000000000):Pu 41 [.sl 4 (Pr.cs l)] (.ret (.agg (prL (andF l)))):=by
 unfold andF
 cases hf:anA_f l 2 nm0 1 [] false with
 | e0 o s n k b=>exact anL_1 l (fun w hw=>cpS w (h w hw)) hN o s n k b hf
 | e1 o s n k b=>exact anL_2 l (fun w hw=>cpS w (h w hw)) hN o s n k b hf
def anR:anA_R->Prop
 | .e0 _ _ _ _ _=>True
 | .e1 o s n k _=>prS (.mk o s n k)
theorem anA_S:∀ (l:List Pr) (o:Int) (s:BA) (n:Int) (k:List Pr) (b:Bool),(∀w∈l,prS w)->prS (.mk o s n k)->anR (anA_f l o s n k b)
 | [],o,s,n,k,b,_,h=>h
 | w::r,o,s,n,k,b,h,h0=>by
  have hw:=h w sM
  have hr:∀w∈r,prS w:=fun v hv=>h v (by simp [hv])
  rw [anA_f]
  split
  ·exact anA_S r o s n k b hr h0
  ·split
   ·trivial
   ·split
    ·exact anA_S r _ _ _ _ _ hr (prS_mk sM fun v hv=>by
      rcases List.mem_cons.1 hv with rfl | hv
      ·exact h0
      ·rw [List.mem_singleton] at hv; subst hv; exact hw)
    ·refine anA_S r _ _ _ _ _ hr ?_
     cases w
     exact hw
theorem prF_S:prS prFa:=prS_mk sM sM
theorem prT_S:prS prTr:=prS_mk sM sM
theorem andF_S{l:List Pr}(h:∀w∈l,prS w):prS (andF l):=by
 have:=anA_S l 2 nm0 1 [] false h prT_S
 unfold andF
 cases hf:anA_f l 2 nm0 1 [] false with
 | e0 o s n k b=>exact prF_S
 | e1 o s n k b=>rw [hf] at this; exact this
theorem an0T:Pu 41 [.nilsl] (.ret (.agg (prL prTr))):=Ob.pur_arg (.c (.n 4) (.r _)) (anT [] sM sM)
theorem csP1(a:Pr):Pr.cs [a]=[prL a]:=by rw [Pr.cs_eq]; rfl
theorem csP2(a b:Pr):Pr.cs [a,b]=[prL a,prL b]:=by rw [Pr.cs_eq]; rfl
theorem csP3(a b c:Pr):Pr.cs [a,b,c]=[prL a,prL b,prL c]:=by rw [Pr.cs_eq]; rfl
def and2(a b:Pr):Pr:=andF [a,b]
def and3(a b c:Pr):Pr:=andF [a,b,c]
theorem an2T(a b:Pr)(ha:prS a)(hb:prS b):Pu 41 [.sl 4 [prL a,prL b]] (.ret (.agg (prL (and2 a b)))):=by
 have:=anT [a,b] (by simp [ha,hb]) sM
 rwa [csP2] at this
theorem an3T(a b c:Pr)(ha:prS a)(hb:prS b)(hc:prS c):Pu 41 [.sl 4 [prL a,prL b,prL c]] (.ret (.agg (prL (and3 a b c)))):=by
 have:=anT [a,b,c] (by simp [ha,hb,hc]) sM
 rwa [csP3] at this
theorem and2_S{a b:Pr}(ha:prS a)(hb:prS b):prS (and2 a b):=andF_S (by simp [ha,hb])
theorem and3_S{a b c:Pr}(ha:prS a)(hb:prS b)(hc:prS c):prS (and3 a b c):=andF_S (by simp [ha,hb,hc])
def notF(u:Pr):Pr:=if prO u=14/\(prK u).length=1 then (prK u).getD 0 default else if pvo_r0 u=true then prFa else if psf_r0 u=true then prTr else .mk 14 nm0 0 [u]
theorem notT(u:Pr)(h:prS u):Pu 69 [.agg (prL u)] (.ret (.agg (prL (notF u)))):=by
 have h1:=cpS u h
 have h2:∀w:Pr,w∈prK u->Pu 77 [.agg (prL w)] (.ret (.agg (prL w))):=fun w hw=>cpS w (prS_kid h hw)
 have h3:=prS_len h
 unfold notF
 by_cases e0:prO u=14
 ·by_cases e1:(prK u).length=1
  ·rw [iP ⟨e0,e1⟩]; exact noL_1 u h1 h2 h3 e0 oM
  ·rw [iN (fun h=>e1 h.2)]
   cases e2:pvo_r0 u with
   | true=>exact noL_2 u h1 h2 h3 e0 oM e2
   | false=>
    cases e3:psf_r0 u with
    | true=>exact noL_3 u h1 h2 h3 e0 oM e2 e3
    | false=>have:=noL_4 u h1 h2 h3 e0 oM e2 e3; rw [<-csP1] at this; exact this
 ·rw [iN (fun h=>e0 h.1)]
  cases e2:pvo_r0 u with
  | true=>exact noL_6 u h1 h2 h3 e0 e2
  | false=>
   cases e3:psf_r0 u with
   | true=>exact noL_7 u h1 h2 h3 e0 e2 e3
   | false=>have:=noL_8 u h1 h2 h3 e0 e2 e3; rw [<-csP1] at this; exact this
theorem notF_S{u:Pr}(h:prS u):prS (notF u):=by
 unfold notF
 split
 ·rename_i e; exact prS_kid h (gPr oM)
 ·split
  ·exact prF_S
  ·split
   ·exact prT_S
   ·exact prS_mk sM (by simp [h])
def okL(x:Ex):Bool:=if exO x=7 then decide ((exK x).length=2)&&decide ((exT x).length=1) else if exO x=8 then decide ((exK x).length=3) else if exO x=12∨exO x=16 then decide ((exK x).length=2) else true
def okD:Nat->Ex->Bool
 | 0,_=>false
 | d+1,x=>okL x&&(exK x).all (okD d)
theorem okD_of(m:Mo):∀ (d:Nat) (x:Ex) (s:Sc),riD m d x s=true->okD d x=true
 | 0,_,_,h=>by cases h
 | d+1,x,s,h=>by
  have ih:=okD_of m d
  have hk:((exK x).all fun w=>riD m d w s)=true->(exK x).all (okD d)=true:=fun hk=>List.all_eq_true.2 fun w hw=>ih w s (List.all_eq_true.1 hk w hw)
  have h0:(exK x).length=0->(exK x).all (okD d)=true:=fun h=>by rw [List.eq_nil_of_length_eq_zero h]; rfl
  have h':riL_r0 m x s (riD m d) ((exK x).all fun w=>riD m d w s)=true:=h
  revert h'
  generalize ((exK x).all fun w=>riD m d w s)=kb at hk
  intro h'
  unfold riL_r0 at h'
  rw [okD]
  unfold okL
  by_cases e1:exO x=1
  ·rw [iP e1] at h'; simp [e1,h0 (by simpa using h')]
  rw [iN e1] at h'
  by_cases e2:exO x=2
  ·rw [iP e2] at h'; simp [e2,h0 (by simpa using h')]
  rw [iN e2] at h'
  by_cases e3:exO x=3
  ·rw [iP e3] at h'
   simp only [Bool.and_eq_true] at h'
   simp [e3,h0 (by simpa using h'.2)]
  rw [iN e3] at h'
  by_cases e4:exO x=12
  ·rw [iP e4] at h'
   split at h'
   ·rename_i hl
    have hb:kb=true:=by
     split at h'
     ·exact h'
     ·split at h'
      ·exact h'
      ·cases h'
    simp [e4,hk hb,show (exK x).length=2 by omega]
   ·cases h'
  rw [iN e4] at h'
  by_cases e5:exO x=15
  ·rw [iP e5] at h'
   split at h'
   ·simp [e5,hk h']
   ·cases h'
  rw [iN e5] at h'
  by_cases e6:exO x=21
  ·rw [iP e6] at h'
   split at h'
   ·simp [e6,hk h']
   ·cases h'
  rw [iN e6] at h'
  by_cases e7:exO x=8
  ·rw [iP e7] at h'
   split at h'
   ·rename_i hl; simp [e7,hk h',show (exK x).length=3 by omega]
   ·cases h'
  rw [iN e7] at h'
  by_cases e8:exO x=7
  ·rw [iP e8] at h'
   split at h'
   ·rename_i hl
    split at h'
    ·rename_i ht
     split at h'
     ·split at h'
      ·rename_i ha
       have hl2:(exK x).length=2:=by omega
       have ha2:(exK x).all (okD d)=true:=by
        refine List.all_eq_true.2 fun w hw=>?_
        obtain ⟨i,hi,rfl⟩:=List.getElem_of_mem hw
        have e:(exK x)[i]=(exK x).getD i default:=by simp [List.getD,hi]
        rw [e]
        rcases (show i=0∨i=1 by omega) with rfl | rfl
        ·exact ih _ _ ha
        ·exact ih _ _ h'
       simp [e8,ha2,hl2,show (exT x).length=1 by omega]
      ·cases h'
     ·cases h'
    ·cases h'
   ·cases h'
  rw [iN e8] at h'
  by_cases e9:exO x=5
  ·rw [iP e9] at h'
   split at h'
   ·simp [e9,hk h']
   ·cases h'
  rw [iN e9] at h'
  split at h'
  ·rename_i hl
   simp only [Bool.and_eq_true,beq_iff_eq] at hl
   rw [iN e8,iN e7]
   split
   ·simp [hk h',show (exK x).length=2 by omega]
   ·simp [hk h']
  ·cases h'
theorem okD_kid{d:Nat}{x w:Ex}(h:okD (d+1) x=true)(hw:w∈exK x):okD d w=true:=by
 rw [okD,Bool.and_eq_true] at h
 exact List.all_eq_true.1 h.2 w hw
theorem okD_7{d:Nat}{x:Ex}(h:okD (d+1) x=true)(e:exO x=7):(exK x).length=2/\(exT x).length=1:=by
 rw [okD,Bool.and_eq_true] at h
 have:=h.1
 unfold okL at this
 rw [iP e] at this
 simpa using this
theorem okD_8{d:Nat}{x:Ex}(h:okD (d+1) x=true)(e:exO x=8):(exK x).length=3:=by
 rw [okD,Bool.and_eq_true] at h
 have:=h.1
 unfold okL at this
 rw [iN oM,iP e] at this
 simpa using this
theorem okD_2{d:Nat}{x:Ex}(h:okD (d+1) x=true)(e:exO x=12∨exO x=16):(exK x).length=2:=by
 rw [okD,Bool.and_eq_true] at h
 have:=h.1
 unfold okL at this
 rw [iN oM,iN oM,iP e] at this
 simpa using this
def rgN(m:Mo)(nm:BA):Int:=reS_r0 (plF (dfT ((sdO nm (moF m)).getD default)))
theorem sdO_mem{nm:BA}{l:List Df}{d:Df}(h:sdO nm l=some d):d∈l:=List.mem_of_find?_eq_some h
theorem moF_blk(m:Mo):bulkPss (Df.cs (moF m))<bulkPs (moL m):=by simp only [bulkPs,bulkP]; omega
theorem rgN_T(m:Mo)(hm:bulkPs (moL m)<=1000000000)(nm:BA):Pu 39 [.agg (dfL ((sdO nm (moF m)).getD default))] (.ret (.int .i64 (rgN m nm))):=by
 have hb:bulkPs (tpL (dfT ((sdO nm (moF m)).getD default)))<=1000000000:=by
  cases h:sdO nm (moF m) with
  | none=>decide
  | some d=>
   have h1:=Df.mem (sdO_mem h)
   have h2:=moF_blk m
   have h3:=df_le d
   show bulkPs (tpL (dfT d))<=_
   omega
 have h1:=plF_bulk (dfT ((sdO nm (moF m)).getD default))
 have h2:=tpw_bulk (plF (dfT ((sdO nm (moF m)).getD default)))
 have h3:=Tp.bulk (tpA (plF (dfT ((sdO nm (moF m)).getD default))))
 exact reS _ _ (plT _ hb) oM
def toD(m:Mo):Nat->Ex->Sc->Int
 | 0,_,_=>0
 | d+1,x,s=>toL_r0 x s (toD m d) (rgN m)
theorem to_ok(m:Mo)(hm:bulkPs (moL m)<=1000000000):∀ (d:Nat) (x:Ex) (s:Sc),bulkPs (exL x)<=1000000000->okD d x=true->(scK s).Nodup->Pu 102 [.agg (moL m),.agg (exL x),.agg (scL s)] (.ret (.int .i64 (toD m d x s)))
 | 0,x,s,_,h,_=>by cases h
 | d+1,x,s,hb,h,hn=>by
  have h1:=exk_bulk x
  have h2:=Ex.bulk (exK x)
  have h3:=Tp.bulk (exT x)
  have h4:=moF_blk m
  have h5:=Df.bulk (moF m)
  refine toL m x s hn (fun e=>?_) (fun e=>?_) (toD m d) (fun w u hw hu=>to_ok m hm d w u (by have:=Ex.mem hw; omega) (okD_kid h hw) hu) (rgN m) (rgN_T m hm) (fun t ht=>plT t (by have:=Tp.mem ht; omega)) oM oM oM
  ·rcases e with e | e
   ·have:=(okD_7 h e).1; omega
   ·have:=okD_8 h e; omega
  ·have:=(okD_7 h e).2; omega
def ndPF(x:Ex)(ty:Int)(l:List Pr):Pr:=
 if exO x=15 then .mk 9 nm0 0 l
 else if exO x=21 then .mk 14 nm0 0 l
 else if exO x=5 then .mk 4 (exNm x) 0 l
 else if exO x=12 then (if exO ((exK x).getD 0 default)=1 then .mk (opS_r0 (exO x)) nm0 0 l else .mk (opS_r0 (exO x)) nm0 0 [l.getD 1 default,l.getD 0 default])
 else if exO x=16/\ty=2 then .mk 18 nm0 0 l else .mk (opS_r0 (exO x)) nm0 0 l
theorem ndPT(m:Mo)(x:Ex)(s:Sc)(l:List Pr)(tg:Ex->Int)(hto:∀w:Ex,w∈exK x->Pu 102 [.agg (moL m),.agg (exL w),.agg (scL s)] (.ret (.int .i64 (tg w))))(hx2:exO x=12∨exO x=16->2<=(exK x).length)(hl2:l.length=(exK x).length)(hK:(exK x).length<=1000000000):Pu 71 [.agg (moL m),.agg (exL x),.agg (scL s),.sl 4 (Pr.cs l)] (.ret (.agg (prL (ndPF x (tg ((exK x).getD 0 default)) l)))):=by
 unfold ndPF
 by_cases e0:exO x=15
 ·rw [iP e0]; exact ndL_1 m x s l tg hto hx2 hl2 hK e0
 rw [iN e0]
 by_cases e1:exO x=21
 ·rw [iP e1]; exact ndL_2 m x s l tg hto hx2 hl2 hK e0 e1
 rw [iN e1]
 by_cases e2:exO x=5
 ·rw [iP e2]; exact ndL_3 m x s l tg hto hx2 hl2 hK e0 e1 e2
 rw [iN e2]
 by_cases e3:exO x=12
 ·rw [iP e3]
  by_cases e4:exO ((exK x).getD 0 default)=1
  ·rw [iP e4]; exact ndL_5 m x s l tg hto hx2 hl2 hK e0 e1 e2 e3 e4
  ·rw [iN e4]; have:=ndL_4 m x s l tg hto hx2 hl2 hK e0 e1 e2 e3 e4; rw [<-csP2] at this; exact this
 rw [iN e3]
 by_cases e4:exO x=16
 ·by_cases e5:tg ((exK x).getD 0 default)=2
  ·rw [iP ⟨e4,e5⟩]; exact ndL_6 m x s l tg hto hx2 hl2 hK e0 e1 e2 e3 e4 e5
  ·rw [iN (fun h=>e5 h.2)]; exact ndL_7 m x s l tg hto hx2 hl2 hK e0 e1 e2 e3 e4 e5
 ·rw [iN (fun h=>e4 h.1)]; exact ndL_8 m x s l tg hto hx2 hl2 hK e0 e1 e2 e3 e4
theorem prS_default:prS default:=prS_mk dD sM
theorem prS_getD{l:List Pr}(h:∀w∈l,prS w)(i:Nat):prS (l.getD i default):=by
 rcases Nat.lt_or_ge i l.length with hi | hi
 ·exact h _ (gPr hi)
 ·have:l.getD i default=default:=by simp [List.getD,List.getElem?_eq_none hi]
  rw [this]; exact prS_default
theorem pr2_S{o n:Int}{x:BA}{a b:Pr}(ha:prS a)(hb:prS b):prS (.mk o x n [a,b]):=prS_mk sM fun v hv=>by
 rcases List.mem_cons.1 hv with rfl | hv
 ·exact ha
 ·rw [List.mem_singleton] at hv; subst hv; exact hb
theorem ndF_S{x:Ex}{ty:Int}{l:List Pr}(hl:l.length<=1000000000)(h:∀w∈l,prS w):prS (ndPF x ty l):=by
 have h0:∀ (o:Int) (n:BA),prS (.mk o n 0 l):=fun o n=>prS_mk hl h
 unfold ndPF
 repeat' split
 all_goals first
  | exact h0 _ _
  | exact pr2_S (prS_getD h 1) (prS_getD h 0)
theorem cloR(l:List Pr)(hn:l.length<=1000000000):Pu 42 [.sl 4 (Pr.cs l)] (.own 46 4 (Pr.cs l)):=by
 refine ⟨by kernel_rfl,fun e=>?_⟩
 refine CallC.enter func42 rfl (show 1<=8 by decide) fun cx hcx hds=>?_
 refine PW_seq ?_
 refine PW_runK mdL 8 50 [] [0] [] (s':=⟨[(0,.v (.sl 4 (Pr.cs l)))],[],e⟩) (pe := .normal) (sc':=[]) (l:=[]) mixed hcx kR kR trivial ?_
 show PW _ _ _ _ _
 refine PW_seq (PW_seq ?_)
 intro g l0 a w hs
 refine wp_region_lit ?_
 have hn':∀k,k<8->k<cx.n:=fun k hk=>by rw [hcx]; exact hk
 refine (PL_moveV (p := .sl 4 (Pr.cs l)) rfl rfl rfl (hn' _ dD) rfl ?_:PL _ _ _ _ _ _) g l0 a w hs
 refine PL_nilcmp (z:=4) (es:=Pr.cs l) (el:=46) rfl rfl rfl (hn' _ dD) kR rfl fun b hb=>?_
 refine PL_nil ?_
 show PW _ _ _ _ _
 cases b with
 | true=>
  have h0:=hb rfl
  refine PW.leX (t:=⟨[(4,.v (.bool true))],[],e⟩) ⟨⟨W,tVv⟩,trivial,rfl⟩ ?_
  refine PW.postLe ?_
  refine PW_runK mdL 8 50 [Ans.bit true] [2] [] (s':=⟨[(2,.v .nilsl)],[],e⟩) (pe := .ret) (sc':=[]) (l:=[.bit true true]) mixed hcx kR kR ⟨rfl,tVv⟩ ?_
  refine ⟨⟨[(2,.uniq 46 4 [])],[],e⟩,⟨⟨.inr rfl,tVv⟩,trivial,rfl⟩,?_⟩
  refine .inr ⟨2,46,4,[],rfl,rfl,?_⟩
  rw [h0]
  exact ⟨rfl,rfl⟩
 | false=>
  refine PW.leX (t:=⟨[(0,.v (.sl 4 (Pr.cs l))),(4,.v (.bool false))],[],e⟩) ⟨⟨W,W,tVv⟩,trivial,rfl⟩ ?_
  refine PW_runK mdL 8 50 [Ans.bit false] [0] [] (s':=⟨[(0,.v (.sl 4 (Pr.cs l)))],[],e⟩) (pe := .normal) (sc':=[]) (l:=[.bit false false]) mixed hcx kR kR ⟨rfl,tVv⟩ ?_
  show PW _ _ _ _ _
  refine PW_runK mdL 8 50 [] [2] [] (s':=⟨[(2,.uniq 46 4 (Pr.cs l))],[],e⟩) (pe := .ret) (sc':=[]) (l:=[.bit (decide ((Pr.cs l).length * 56<=140737488355328)) true]) mixed hcx kR kR ⟨ob_bit (dT (by rw [Pr.cs_len]; omega)),tVv⟩ ?_
  exact .inr ⟨2,46,4,Pr.cs l,rfl,rfl,rfl,rfl⟩
def mdPa:Md:=⟨fun t=>if t=87∨t=4∨t=132 then none else some false,fun _=>false⟩
section
variable (p:Pa) (l:List Pa) (f:Bool) (pf:PV) (hl:l.length<=1000000)
include p l f pf hl
theorem adW_1(hx0:f=true):Ef 67 [.agg (paL p),.xp 1 0,.xp 0 0] ([(0,[.uniq 91 8 (Pa.cs l)]),(1,[.v (.bool f)]),(2,[.v pf])]) (.ret (.tup [])) ([(0,[.uniq 91 8 (Pa.cs l++[paL p])]),(1,[.v (.bool (decide ((↑(List.length l+(0+1)):Int)<=16)))]),(2,[.v pf])]):=
 ef mdPa [bt1 hx0,am (List.length (Pa.cs l++[paL p]) * (111+1)<=140737488355328) (by (simp only [List.length_append,List.length_cons,List.length_nil,Pr.cs_len,Pa.cs_len]; omega)),ai (↑((fun x=>List.length (Prod.snd x)) (7+1,Pa.cs l++[paL p])):Int) (↑(List.length l+(0+1)):Int) (by (simp only [List.length_append,List.length_cons,List.length_nil,Pr.cs_len,Pa.cs_len]; done))] func67
theorem adW_2(hx0:f=false):Ef 67 [.agg (paL p),.xp 1 0,.xp 0 0] ([(0,[.uniq 91 8 (Pa.cs l)]),(1,[.v (.bool f)]),(2,[.v pf])]) (.ret (.tup [])) ([(0,[.uniq 91 8 (Pa.cs l)]),(1,[.v (.bool f)]),(2,[.v pf])]):=
 ef mdPa [bf1 hx0] func67
end
theorem inW_1(m:Mo)(w:Ex)(u:Sc)(l:List Pa)(f:Bool)(pf:PV)(k:List Pa)(ok:Bool)(hp:Pu 32 [.agg (moL m),.agg (exL w),.agg (scL u)] (.ret (.tup [.sl 8 (Pa.cs k),.bool ok])))(hx0:f=false):Ef 68 [.agg (exL w),.agg (scL u),.xp 1 0,.ro (moL m) 0] ([(0,[.uniq 91 8 (Pa.cs l)]),(1,[.v (.bool f)]),(2,[.v pf])]) (.ret (.sl 8 [])) ([(0,[.uniq 91 8 (Pa.cs l)]),(1,[.v (.bool f)]),(2,[.v pf])]):=
 Ob.eff_wk (Wk.n 8) (ef mdPa [bt1 (bnT hx0)] func68)
theorem inW_2(m:Mo)(w:Ex)(u:Sc)(l:List Pa)(f:Bool)(pf:PV)(k:List Pa)(ok:Bool)(hp:Pu 32 [.agg (moL m),.agg (exL w),.agg (scL u)] (.ret (.tup [.sl 8 (Pa.cs k),.bool ok])))(hx0:f=true):Ef 68 [.agg (exL w),.agg (scL u),.xp 1 0,.ro (moL m) 0] ([(0,[.uniq 91 8 (Pa.cs l)]),(1,[.v (.bool f)]),(2,[.v pf])]) (.ret (.sl 8 (Pa.cs k))) ([(0,[.uniq 91 8 (Pa.cs l)]),(1,[.v (.bool ok)]),(2,[.v pf])]):=
 ef mdPa [bf1 (bnF hx0),cl hp,rp 2 (bt1 hx0)] func68
theorem Ent.less{e1 e2:Ext}{g:Gh}{l:LG}{w:World}(h:Ent e1 g l w)(hl:LeB e2 e1)(hc:cnt e1<=cnt e2):Ent e2 g l w where
 ex k v hk:=by
  obtain ⟨u,hu,hw⟩:=hl.at_ hk
  obtain ⟨b,h1,h2,h3⟩:=h.ex k u hu
  exact ⟨b,h1.le hw,h2,h3.le hw⟩
 olt:=h.olt
 uo:=h.uo
 fresh:=⟨h.fresh.1,fun n hn=>h.fresh.2.1 n (Nat.le_trans hc hn),fun n c hn=>h.fresh.2.2 n c (Nat.le_trans hc hn)⟩
 xlt:=h.xlt
 only:=h.only
 glb:=h.glb
theorem eff_less{P:Program}{f:FuncId}{args:List PV}{r:CRes}{e1 e2 e':Ext}(h:(Ob.eff f args e2 r e').ok P)(hl:LeB e2 e1)(hc:cnt e1<=cnt e2):(Ob.eff f args e1 r e').ok P:=⟨h.1,fun vs g l w ha he=>h.2 vs g l w ha (Ent.less he hl hc)⟩
abbrev paE(l:List Pa)(f:Bool)(pf:PV):Ext:=[(0,[.uniq 91 8 (Pa.cs l)]),(1,[.v (.bool f)]),(2,[.v pf])]
abbrev paN(f:Bool)(pf:PV):Ext:=[(0,[.v .nilsl]),(1,[.v (.bool f)]),(2,[.v pf])]
theorem paN_le(f:Bool)(pf:PV):LeB (paE [] f pf) (paN f pf):=⟨⟨.inr rfl,tVv⟩,WLs.refl _,WLs.refl _,tVv⟩
theorem adQ(p:Pa)(l:List Pa)(f:Bool)(pf:PV)(hl:paI l f):Ef 67 [.agg (paL p),.xp 1 0,.xp 0 0] (paE l f pf) (.ret (.tup [])) (paE (adL p l f) (adB l f) pf):=by
 have h:=hl.1
 cases f with
 | false=>exact adW_2 p l false pf oM rfl
 | true=>
  have:=adW_1 p l true pf oM rfl
  rw [<-Pa.cs_snoc] at this
  unfold adL adB
  rw [show (true&&decide (l.length+1<=16))=decide ((↑(List.length l+(0+1)):Int)<=16) by
   rw [Bool.true_and,decide_eq_decide]; omega]
  exact this
theorem adM(p:Pa)(pf:PV):Ef 67 [.agg (paL p),.xp 1 0,.xp 0 0] (paN true pf) (.ret (.tup [])) (paE [p] true pf):=eff_less (adQ p [] true pf ⟨by simp,by simp⟩) (paN_le _ _) (Nat.le_refl _)
theorem inQ(m:Mo)(w:Ex)(u:Sc)(l:List Pa)(f:Bool)(pf:PV)(k:List Pa)(ok:Bool)(hp:Pu 32 [.agg (moL m),.agg (exL w),.agg (scL u)] (.ret (.tup [.sl 8 (Pa.cs k),.bool ok]))):Ef 68 [.agg (exL w),.agg (scL u),.xp 1 0,.ro (moL m) 0] (paE l f pf) (.ret (.sl 8 (Pa.cs (inK f k)))) (paE l (f&&ok) pf):=by
 cases f with
 | false=>exact inW_1 m w u l false pf k ok hp rfl
 | true=>exact inW_2 m w u l true pf k ok hp rfl
theorem inM(m:Mo)(w:Ex)(u:Sc)(pf:PV)(k:List Pa)(ok:Bool)(hp:Pu 32 [.agg (moL m),.agg (exL w),.agg (scL u)] (.ret (.tup [.sl 8 (Pa.cs k),.bool ok]))):Ef 68 [.agg (exL w),.agg (scL u),.xp 1 0,.ro (moL m) 0] (paN true pf) (.ret (.sl 8 (Pa.cs k))) (paE [] ok pf):=eff_less (inQ m w u [] true pf k ok hp) (paN_le _ _) (Nat.le_refl _)
def scQ(k:BA)(s:Sc):PV:=match scO k s with
 | some x => .sl 4 (Pr.cs (prK x.2.2))
 | none => .nilsl
theorem lu_s2(k:BA)(s:Sc):luRes false (mget k ((scK s).zip (scP s))) (.agg [.int .i64 0,.str nm0,.int .i64 0,.nilsl]) = .agg [.int .i64 (prO (scPr k s)),.str (prNm (scPr k s)),.int .i64 (prN (scPr k s)),scQ k s]:=by
 rw [scZ2,sc_m2]
 simp only [luRes,scPr,scQ]
 cases scO k s <;> rfl
theorem wk_pa(c:Pr)(o:Int)(x:BA)(n:Int):Wk (.agg [.int .i64 (prO c),.str (prNm c),.int .i64 (prN c),.sl 4 (Pr.cs (prK c)),.int .i64 o,.str x,.int .i64 n,.nilsl]) (.agg (paL (.mk c (.mk o x n [])))) := .agg rfl fun j h h'=>by
 have:j<8:=h
 match j,this with
 | 0,_=>exact .r _
 | 1,_=>exact .r _
 | 2,_=>exact .r _
 | 3,_=>exact .r _
 | 4,_=>exact .r _
 | 5,_=>exact .r _
 | 6,_=>exact .r _
 | 7,_=>exact .n 4
theorem adC(c:Pr)(o:Int)(x:BA)(n:Int)(pf:PV):Ef 67 [.agg [.int .i64 (prO c),.str (prNm c),.int .i64 (prN c),.sl 4 (Pr.cs (prK c)),.int .i64 o,.str x,.int .i64 n,.nilsl],.xp 1 0,.xp 0 0] (paN true pf) (.ret (.tup [])) (paE [.mk c (.mk o x n [])] true pf):=
 Ob.eff_arg (.c (wk_pa c o x n) (.r _)) (adM (.mk c (.mk o x n [])) pf)
theorem adS(c:Pr)(k:BA)(s:Sc)(pf:PV):Ef 67 [.agg [.int .i64 (prO c),.str (prNm c),.int .i64 (prN c),.sl 4 (Pr.cs (prK c)),.int .i64 (prO (scPr k s)),.str (prNm (scPr k s)),.int .i64 (prN (scPr k s)),scQ k s],.xp 1 0,.xp 0 0] (paN true pf) (.ret (.tup [])) (paE [.mk c (scPr k s)] true pf):=by
 unfold scQ scPr
 cases scO k s with
 | none=>exact adC c 0 nm0 0 pf
 | some x=>exact adM (.mk c x.2.2) pf
theorem an0L:Pu 41 [.nilsl] (.ret (.agg [.int .i64 2,.str nm0,.int .i64 1,.sl 4 []])):=an0T
theorem adC0(o:Int)(x:BA)(n:Int)(pf:PV):Ef 67 [.agg [.int .i64 2,.str nm0,.int .i64 1,.sl 4 [],.int .i64 o,.str x,.int .i64 n,.nilsl],.xp 1 0,.xp 0 0] (paN true pf) (.ret (.tup [])) (paE [.mk prTr (.mk o x n [])] true pf):=adC prTr o x n pf
theorem adS0(k:BA)(s:Sc)(pf:PV):Ef 67 [.agg [.int .i64 2,.str nm0,.int .i64 1,.sl 4 [],.int .i64 (prO (scPr k s)),.str (prNm (scPr k s)),.int .i64 (prN (scPr k s)),scQ k s],.xp 1 0,.xp 0 0] (paN true pf) (.ret (.tup [])) (paE [.mk prTr (scPr k s)] true pf):=adS prTr k s pf
theorem pt1(m:Mo)(x:Ex)(s:Sc)(hop:exO x=1):Ef 32 [.agg (moL m),.agg (exL x),.agg (scL s)] ([]) (.ret (.tup [.sl 8 [[pI 2,.str (prNm (paC (Pa.mk prTr (Pr.mk 1 nm0 (exN x) [])))),pI 1,.sl 4 [],pI 1,.str (prNm (paT (Pa.mk prTr (Pr.mk 1 nm0 (exN x) [])))),pI (prN (paT (Pa.mk prTr (Pr.mk 1 nm0 (exN x) [])))),.sl 4 []]],.bool true])) ([(0,[vL 8 [[pI 2,.str (prNm (paC (Pa.mk prTr (Pr.mk 1 nm0 (exN x) [])))),pI 1,.sl 4 [],pI 1,.str (prNm (paT (Pa.mk prTr (Pr.mk 1 nm0 (exN x) [])))),pI (prN (paT (Pa.mk prTr (Pr.mk 1 nm0 (exN x) [])))),.sl 4 []]]]),(1,[.v (.bool true)]),(2,[.v PV.nilfn])]):=
 Ob.eff_of (mdPa) 50 [Ans.bit true,Ans.pur (rA [pI 2,.str nm0,pI 1,.sl 4 []]),Ans.eff (.ret (.tup [])) [(0,[.uniq 91 8 [[pI 2,.str (prNm (paC (Pa.mk prTr (Pr.mk 1 nm0 (exN x) [])))),pI 1,.sl 4 [],pI 1,.str (prNm (paT (Pa.mk prTr (Pr.mk 1 nm0 (exN x) [])))),pI (prN (paT (Pa.mk prTr (Pr.mk 1 nm0 (exN x) [])))),.sl 4 []]]]),(1,[.v (.bool true)]),(2,[.v PV.nilfn])]] (sc':=[]) (l:=[Ob.bit (exO x==1) true,Ob.pur 41 [.nilsl] (rA [pI 2,.str nm0,pI 1,.sl 4 []]),Ob.eff 67 [.agg [pI 2,.str nm0,pI 1,.sl 4 [],pI 1,.str nm0,pI (exN x),.nilsl],.xp 1 0,.xp 0 0] [(0,[.v .nilsl]),(1,[.v (.bool true)]),(2,[.v PV.nilfn])] (.ret (.tup [])) [(0,[.uniq 91 8 [[pI 2,.str (prNm (paC (Pa.mk prTr (Pr.mk 1 nm0 (exN x) [])))),pI 1,.sl 4 [],pI 1,.str (prNm (paT (Pa.mk prTr (Pr.mk 1 nm0 (exN x) [])))),pI (prN (paT (Pa.mk prTr (Pr.mk 1 nm0 (exN x) [])))),.sl 4 []]]]),(1,[.v (.bool true)]),(2,[.v PV.nilfn])],Ob.eqv (.v (.bool true)) (.v (.bool true)),Ob.eqv (.v (.bool true)) (.v (.bool true))]) mixed func32 kR kR ⟨(ob_bit (beT hop)),(@an0L),(@adC0 (1) nm0 (exN x) (PV.nilfn)),(ob_eqv rF),(ob_eqv rF),tVv⟩
theorem pt2(m:Mo)(x:Ex)(s:Sc)(hop:exO x=2):Ef 32 [.agg (moL m),.agg (exL x),.agg (scL s)] ([]) (.ret (.tup [.sl 8 [[pI 2,.str (prNm (paC (Pa.mk prTr (Pr.mk 2 nm0 (exN x) [])))),pI 1,.sl 4 [],pI 2,.str (prNm (paT (Pa.mk prTr (Pr.mk 2 nm0 (exN x) [])))),pI (prN (paT (Pa.mk prTr (Pr.mk 2 nm0 (exN x) [])))),.sl 4 []]],.bool true])) ([(0,[vL 8 [[pI 2,.str (prNm (paC (Pa.mk prTr (Pr.mk 2 nm0 (exN x) [])))),pI 1,.sl 4 [],pI 2,.str (prNm (paT (Pa.mk prTr (Pr.mk 2 nm0 (exN x) [])))),pI (prN (paT (Pa.mk prTr (Pr.mk 2 nm0 (exN x) [])))),.sl 4 []]]]),(1,[.v (.bool true)]),(2,[.v PV.nilfn])]):=
 Ob.eff_of (mdPa) 50 [Ans.bit false,Ans.bit true,Ans.pur (rA [pI 2,.str nm0,pI 1,.sl 4 []]),Ans.eff (.ret (.tup [])) [(0,[.uniq 91 8 [[pI 2,.str (prNm (paC (Pa.mk prTr (Pr.mk 2 nm0 (exN x) [])))),pI 1,.sl 4 [],pI 2,.str (prNm (paT (Pa.mk prTr (Pr.mk 2 nm0 (exN x) [])))),pI (prN (paT (Pa.mk prTr (Pr.mk 2 nm0 (exN x) [])))),.sl 4 []]]]),(1,[.v (.bool true)]),(2,[.v PV.nilfn])]] (sc':=[]) (l:=[Ob.bit (exO x==1) false,Ob.bit (exO x==2) true,Ob.pur 41 [.nilsl] (rA [pI 2,.str nm0,pI 1,.sl 4 []]),Ob.eff 67 [.agg [pI 2,.str nm0,pI 1,.sl 4 [],pI 2,.str nm0,pI (exN x),.nilsl],.xp 1 0,.xp 0 0] [(0,[.v .nilsl]),(1,[.v (.bool true)]),(2,[.v PV.nilfn])] (.ret (.tup [])) [(0,[.uniq 91 8 [[pI 2,.str (prNm (paC (Pa.mk prTr (Pr.mk 2 nm0 (exN x) [])))),pI 1,.sl 4 [],pI 2,.str (prNm (paT (Pa.mk prTr (Pr.mk 2 nm0 (exN x) [])))),pI (prN (paT (Pa.mk prTr (Pr.mk 2 nm0 (exN x) [])))),.sl 4 []]]]),(1,[.v (.bool true)]),(2,[.v PV.nilfn])],Ob.eqv (.v (.bool true)) (.v (.bool true)),Ob.eqv (.v (.bool true)) (.v (.bool true))]) mixed func32 kR kR ⟨(ob_bit (beF oM)),(ob_bit (beT hop)),(@an0L),(@adC0 (2) nm0 (exN x) (PV.nilfn)),(ob_eqv rF),(ob_eqv rF),tVv⟩
theorem pt3(m:Mo)(x:Ex)(s:Sc)(hop:exO x=3):Ef 32 [.agg (moL m),.agg (exL x),.agg (scL s)] ([]) (.ret (.tup [.sl 8 [pI 2 :: .str (prNm (paC (Pa.mk prTr (scPr (exNm x) s))))::pI 1 :: .sl 4 []::prL (paT (Pa.mk prTr (scPr (exNm x) s)))],.bool true])) ([(0,[vL 8 [pI 2 :: .str (prNm (paC (Pa.mk prTr (scPr (exNm x) s))))::pI 1 :: .sl 4 []::prL (paT (Pa.mk prTr (scPr (exNm x) s)))]]),(1,[.v (.bool true)]),(2,[.v PV.nilfn])]):=
 Ob.eff_of (mdPa) 50 [Ans.bit false,Ans.bit false,Ans.bit true,Ans.pur (rA [pI 2,.str nm0,pI 1,.sl 4 []]),Ans.as_ (.v (.agg [pI (prO (scPr (exNm x) s)),.str (prNm (scPr (exNm x) s)),pI (prN (scPr (exNm x) s)),scQ (exNm x) s])),Ans.eff (.ret (.tup [])) [(0,[.uniq 91 8 [pI 2 :: .str (prNm (paC (Pa.mk prTr (scPr (exNm x) s))))::pI 1 :: .sl 4 []::prL (paT (Pa.mk prTr (scPr (exNm x) s)))]]),(1,[.v (.bool true)]),(2,[.v PV.nilfn])]] (sc':=[]) (l:=[Ob.bit (exO x==1) false,Ob.bit (exO x==2) false,Ob.bit (exO x==3) true,Ob.pur 41 [.nilsl] (rA [pI 2,.str nm0,pI 1,.sl 4 []]),Ob.eqv (.v (luRes false (mget (exNm x) (List.zip (scK s) (scP s))) (.agg [pI 0,.str nm0,pI 0,.nilsl]))) (.v (.agg [pI (prO (scPr (exNm x) s)),.str (prNm (scPr (exNm x) s)),pI (prN (scPr (exNm x) s)),scQ (exNm x) s])),Ob.eff 67 [.agg [pI 2,.str nm0,pI 1,.sl 4 [],pI (prO (scPr (exNm x) s)),.str (prNm (scPr (exNm x) s)),pI (prN (scPr (exNm x) s)),scQ (exNm x) s],.xp 1 0,.xp 0 0] [(0,[.v .nilsl]),(1,[.v (.bool true)]),(2,[.v PV.nilfn])] (.ret (.tup [])) [(0,[.uniq 91 8 [pI 2 :: .str (prNm (paC (Pa.mk prTr (scPr (exNm x) s))))::pI 1 :: .sl 4 []::prL (paT (Pa.mk prTr (scPr (exNm x) s)))]]),(1,[.v (.bool true)]),(2,[.v PV.nilfn])],Ob.eqv (.v (.bool true)) (.v (.bool true)),Ob.eqv (.v (.bool true)) (.v (.bool true))]) mixed func32 kR kR ⟨(ob_bit (beF oM)),(ob_bit (beF oM)),(ob_bit (beT hop)),(@an0L),(ob_eqv (by (simp only [lu_s2]; done))),(@adS0 (exNm x) (s) (PV.nilfn)),(ob_eqv rF),(ob_eqv rF),tVv⟩
end Go.Proofs.YtaakmholhliodaaGreatDoor
