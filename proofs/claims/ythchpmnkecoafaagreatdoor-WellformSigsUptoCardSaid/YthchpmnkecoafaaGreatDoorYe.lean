/- Values of Go as plain data, an evaluator over them, and what the functions of the program return; part Ye. -/
import Derived.Test.YthchpmnkecoafaaGreatDoorYd
import Derived.Test.YthchpmnkecoafaaGreatDoorYa
set_option linter.unusedSectionVars false
set_option linter.unusedSimpArgs false
set_option linter.unusedVariables false
namespace Go.Proofs.YthchpmnkecoafaaGreatDoor
open Go.Proofs.Tryz
open Go.Pv Go.Proofs.Tryz
set_option maxRecDepth 100000
theorem Gf(x:Pr):Ah (Pr.cs (Av x))<A3 (AN x):=by simp only [A3,CR]; omega
def Ao(o:Int):Int:=(if o=1 then 0 else (if o=2 then 0 else (if o=3 then 0 else (if o=4 then 1 else (if o=5 then 1 else (if o=9 then 1 else (if o=14 then 1 else 2)))))))
def Ap(o:Int):Int:=(if o=1 then 0 else (if o=2 then 0 else (if o=3 then 0 else (if o=4 then 24 else (if o=5 then 24 else (if o=9 then 1 else (if o=14 then 1 else 2)))))))
theorem pkS(o:Int):Pu 269 [pI o] (.ret (.Bf [pI (Ao o),pI (Ap o)])):=by
 by_cases h0:o=1
 ·simp only [Ao,Ap,iP h0]; exact pm A9 [rp 2 (Bb h0)] func269
 ·by_cases h1:o=2
  ·simp only [Ao,Ap,iN h0,iP h1]; exact pm A9 [Ay h0,rp 2 (Bb h1)] func269
  ·by_cases h2:o=3
   ·simp only [Ao,Ap,iN h0,iN h1,iP h2]; exact pm A9 [Ay h0,Ay h1,Bb h2] func269
   ·by_cases h3:o=4
    ·simp only [Ao,Ap,iN h0,iN h1,iN h2,iP h3]; exact pm A9 [Ay h0,Ay h1,Ay h2,rp 2 (Bb h3)] func269
    ·by_cases h4:o=5
     ·simp only [Ao,Ap,iN h0,iN h1,iN h2,iN h3,iP h4]; exact pm A9 [Ay h0,Ay h1,Ay h2,Ay h3,Bb h4] func269
     ·by_cases h5:o=9
      ·simp only [Ao,Ap,iN h0,iN h1,iN h2,iN h3,iN h4,iP h5]; exact pm A9 [Ay h0,Ay h1,Ay h2,Ay h3,Ay h4,rp 2 (Bb h5)] func269
      ·by_cases h6:o=14
       ·simp only [Ao,Ap,iN h0,iN h1,iN h2,iN h3,iN h4,iN h5,iP h6]; exact pm A9 [Ay h0,Ay h1,Ay h2,Ay h3,Ay h4,Ay h5,Bb h6] func269
       ·simp only [Ao,Ap,iN h0,iN h1,iN h2,iN h3,iN h4,iN h5,iN h6]; exact pm A9 [Ay h0,Ay h1,Ay h2,Ay h3,Ay h4,Ay h5,Ay h6] func269
def Ce(o:Int):Bool:=(if o=3 then true else (if o=4 then true else (o==5)))
theorem T7(o:Int):Pu 270 [pI o] (rB (Ce o)):=by
 by_cases h0:o=3
 ·simp only [Ce,iP h0]; exact pm A9 [rp 3 (Bb h0),rp 3 (bt true)] func270
 ·by_cases h1:o=4
  ·simp only [Ce,iN h0,iP h1]; exact pm A9 [rp 3 (Ay h0),rp 3 (Bb h1)] func270
  ·simp only [Ce,iN h0,iN h1]; exact pm A9 [rp 3 (Ay h0),rp 3 (Ay h1)] func270
def Kv(n:Int):Bool:=(if n >= -1000000000000 then (decide (n<=1000000000000)) else false)
theorem niS(n:Int):Pu 271 [pI n] (rB (Kv n)):=by
 by_cases h0:n >= -1000000000000
 ·simp only [Kv,iP h0]; exact pm A9 [rp 3 (BL h0)] func271
 ·simp only [Kv,iN h0]; exact pm A9 [rp 3 (Ar h0)] func271
abbrev rM(u:Pr)(Ca:Pr->Int)(j:Int)(n:Int)(e:Ext):S:=S.mk [(2,A6 0),(3,A6 n),(7,vL 4 (Pr.cs (Av u))),(8,A6 ((Av u).length:Int)),(9,A6 j)] [] e
def JW(Ca:Pr->Int):List Pr->(Int)->(Int)
 | [],n=>(n)
 | el::r,n=>JW Ca r (IntKind.wrap .i64 (n+Ca el))
def bV(u:Pr)(Ca:Pr->Int)(e:Ext)(p:(Int)):A4 × S:=(.exit 0,S.mk [(2,A6 0),(3,A6 p),(7,vL 4 (Pr.cs (Av u))),(8,A6 ((Av u).length:Int))] [] e)
theorem pqA(u:Pr)(Ca:Pr->Int)(BM:∀w:Pr,w∈Av u->Pu 223 [.agg (AN w)] (.ret (.int .i64 (Ca w))))(n:Int)(e:Ext)(hN:(Av u).length<=1000000000)  : (Ob.loop 19 (Au f223 0) (rM u Ca 0 n e) (bV u Ca e (JW Ca ((Av u))  n)).1 (bV u Ca e (JW Ca ((Av u))  n)).2).ok prog:=by
 refine CL ((Av u).length) (fun j n=>rM u Ca j n e) (fun i n=>JW Ca (List.drop i ((Av u)))  n) (bV u Ca e) (fun i n=>True) kR ?_ n trivial
 rintro i n hi -
 rcases Nat.lt_or_ge i ((Av u).length) with Ac | Cm
 ·have hd:=At Ac
  exact lN A9 [dt ((i:Int)<((Av u).length:Int)),FG (Av u) (i:Int),My (Av u) i Ac,cl (@BM (List.getD (Av u) i default) (by simp_all [Dc])),kp,wr ((i:Int)+1)] Ac (IntKind.wrap .i64 (n+Ca (List.getD (Av u) i default))) trivial (by rw [hd,JW])
 ·have he:i=(Av u).length:=by omega
  exact lX A9 [df ((i:Int)<((Av u).length:Int))] (n) (by rw [he,List.drop_length,JW])
theorem pqL(u:Pr)(Ca:Pr->Int)(BM:∀w:Pr,w∈Av u->Pu 223 [.agg (AN w)] (.ret (.int .i64 (Ca w))))(hN:(Av u).length<=1000000000):Pu 223 [.agg (AN u)] (rI (JW Ca (Av u) 1)):=
 pu A9 (fun e=>[sl (Pr.A0 (Av u)),lq (@pqA (u) (Ca) BM (1) (e) hN)]) func223
def pqD:Nat->Pr->Int
 | 0,_=>0
 | d+1,u=>JW (pqD d) (Av u) 1
theorem rN:∀ (d:Nat) (u:Pr),A3 (AN u)<d->d<=100000001->Pu 223 [.agg (AN u)] (.ret (.int .i64 (pqD d u)))
 | 0,_,h,_=>by omega
 | d+1,u,h,hs=>pqL u (pqD d) (fun w hw=>rN d w (by have:=Gf u; have:=Pr.mem hw; omega) oM) (by have:=Gf u; have:=Pr.BS (Av u); omega)
def mP(u:Pr):Int:=pqD (A3 (AN u)+1) u
theorem pqT(u:Pr)(hs:A3 (AN u)<=100000000):Pu 223 [.agg (AN u)] (.ret (.int .i64 (mP u))):=rN _ u oM oM
abbrev rO(u:Pr)(Ca:Pr->Int)(j:Int)(n:Int)(e:Ext):S:=S.mk [(2,A6 0),(3,A6 n),(7,vL 4 (Pr.cs (Av u))),(8,A6 ((Av u).length:Int)),(9,A6 j)] [] e
def JX(Ca:Pr->Int):List Pr->(Int)->(Int)
 | [],n=>(n)
 | el::r,n=>JX Ca r (WD true n (Ca el))
def bW(u:Pr)(Ca:Pr->Int)(e:Ext)(p:(Int)):A4 × S:=(.exit 0,S.mk [(2,A6 0),(3,A6 p),(7,vL 4 (Pr.cs (Av u))),(8,A6 ((Av u).length:Int))] [] e)
theorem peA(u:Pr)(Ca:Pr->Int)(BM:∀w:Pr,w∈Av u->Pu 224 [.agg (AN w)] (.ret (.int .i64 (Ca w))))(n:Int)(e:Ext)(hN:(Av u).length<=1000000000)  : (Ob.loop 20 (Au f224 0) (rO u Ca 0 n e) (bW u Ca e (JX Ca ((Av u))  n)).1 (bW u Ca e (JX Ca ((Av u))  n)).2).ok prog:=by
 refine CL ((Av u).length) (fun j n=>rO u Ca j n e) (fun i n=>JX Ca (List.drop i ((Av u)))  n) (bW u Ca e) (fun i n=>True) kR ?_ n trivial
 rintro i n hi -
 rcases Nat.lt_or_ge i ((Av u).length) with Ac | Cm
 ·have hd:=At Ac
  exact lN A9 [dt ((i:Int)<((Av u).length:Int)),FG (Av u) (i:Int),My (Av u) i Ac,cl (@BM (List.getD (Av u) i default) (by simp_all [Dc])),wr ((i:Int)+1)] Ac (WD true n (Ca (List.getD (Av u) i default))) trivial (by rw [hd,JX])
 ·have he:i=(Av u).length:=by omega
  exact lX A9 [df ((i:Int)<((Av u).length:Int))] (n) (by rw [he,List.drop_length,JX])
theorem peL(u:Pr)(Ca:Pr->Int)(BM:∀w:Pr,w∈Av u->Pu 224 [.agg (AN w)] (.ret (.int .i64 (Ca w))))(hN:(Av u).length<=1000000000):Pu 224 [.agg (AN u)] (rI (IntKind.wrap .i64 (JX Ca (Av u) 0+1))):=
 pu A9 (fun e=>[sl (Pr.A0 (Av u)),lq (@peA (u) (Ca) BM (0) (e) hN),kp]) func224
def peD:Nat->Pr->Int
 | 0,_=>0
 | d+1,u=>IntKind.i64.wrap (JX (peD d) (Av u) 0+1)
theorem rP:∀ (d:Nat) (u:Pr),A3 (AN u)<d->d<=100000001->Pu 224 [.agg (AN u)] (.ret (.int .i64 (peD d u)))
 | 0,_,h,_=>by omega
 | d+1,u,h,hs=>peL u (peD d) (fun w hw=>rP d w (by have:=Gf u; have:=Pr.mem hw; omega) oM) (by have:=Gf u; have:=Pr.BS (Av u); omega)
def rQ(u:Pr):Int:=peD (A3 (AN u)+1) u
theorem peT(u:Pr)(hs:A3 (AN u)<=100000000):Pu 224 [.agg (AN u)] (.ret (.int .i64 (rQ u))):=rP _ u oM oM
abbrev nd0(u:Pr)(xe:Ext):S:=⟨[(1,.lp 1 0),(2,.v (.int .i64 0))],[(1,CK u)],xe⟩
abbrev Ly(u:Pr)(a b:Int)(xe:Ext):S:=⟨[(1,.lp 1 0),(2,.v (.int .i64 0)),(3,.v (.int .i64 a)),(4,.v (.int .i64 b))],[(1,CK u)],xe⟩
abbrev nd2(u:Pr)(a b:Int)(x y:Bool)(xe:Ext):S:=⟨[(1,.lp 1 0),(2,.v (.int .i64 0)),(3,.v (.int .i64 a)),(4,.v (.int .i64 b)),(5,.v (.bool x)),(6,.v (.bool y))],[(1,CK u)],xe⟩
abbrev nd3(u:Pr)(a b:Int)(x:Bool)(xe:Ext):S:=⟨[(1,.lp 1 0),(2,.v (.int .i64 0)),(3,.v (.int .i64 a)),(4,.v (.int .i64 b)),(5,.v (.bool x))],[(1,CK u)],xe⟩
theorem A15(u:Pr)(xe:Ext)(A7:Af u<1)(cx:Cx)(Aw:cx.n=130){Q:A4->S->Prop}(hq:Q (.normal) (S.mk [(1,.lp 1 0),(2,A6 0),(14,.v (.bool true))] [(1,CK u)] xe)):PW prog cx (AS f226 1) (nd0 u xe) Q:=
 pw A9 130 [rp 4 (BL A7)] [1,2,14] [1] Aw hq
theorem A16(u:Pr)(xe:Ext)(A7:¬Af u<1)(cx:Cx)(Aw:cx.n=130){Q:A4->S->Prop}(hq:Q (.normal) (S.mk [(1,.lp 1 0),(2,A6 0),(14,.v (.bool (decide (Af u>18))))] [(1,CK u)] xe)):PW prog cx (AS f226 1) (nd0 u xe) Q:=
 pw A9 130 [rp 4 (Ar A7)] [1,2,14] [1] Aw hq
def Dj(u:Pr):Bool:=(if Af u<1 then (true) else ((decide (Af u>18))))
theorem MF(u:Pr)(xe:Ext):(Ob.ES 130 (AS f226 1) (nd0 u xe) (.normal) (S.mk [(1,.lp 1 0),(2,A6 0),(14,.v (.bool (Dj u)))] [(1,CK u)] xe)).ok prog:=by
 intro cx Aw
 by_cases g0:Af u<1
 ·exact A15 u xe g0 cx Aw ⟨rfl,by rw [show Dj u=(true) by unfold Dj; rw [iP g0]]⟩
 ·exact A16 u xe g0 cx Aw ⟨rfl,by rw [show Dj u=((decide (Af u>18))) by unfold Dj; rw [iN g0]]⟩
section
variable (u:Pr) (a b:Int) (xe:Ext)
include u a b xe
theorem A17(A7:Ce (Af u)=false)(Aa:¬Aj u=ByteArray.mk #[])(cx:Cx)(Aw:cx.n=130){Q:A4->S->Prop}(hq:Q (.normal) (S.mk [(1,.lp 1 0),(2,A6 0),(3,A6 a),(4,A6 b),(58,.v (.bool true))] [(1,CK u)] xe)):PW prog cx (AS f226 4) (Ly u a b xe) Q:=
 pw A9 130 [cl (@T7 (Af u)),rp 4 (AV (B0 A7)),rp 8 (bt (!ByteArray.toList (Aj u)==ByteArray.toList Ai) (B0 (Bp Aa))),rp 12 (bt true)] [1,2,3,4,58] [1] Aw hq
theorem A18(A7:Ce (Af u)=false)(Aa:Aj u=ByteArray.mk #[])(Am:¬Af u=1)(Az:¬Af u=2)(AP:¬Bq u=0)(cx:Cx)(Aw:cx.n=130){Q:A4->S->Prop}(hq:Q (.normal) (S.mk [(1,.lp 1 0),(2,A6 0),(3,A6 a),(4,A6 b),(58,.v (.bool true))] [(1,CK u)] xe)):PW prog cx (AS f226 4) (Ly u a b xe) Q:=
 pw A9 130 [cl (@T7 (Af u)),rp 4 (AV (B0 A7)),rp 4 (bf (!ByteArray.toList (Aj u)==ByteArray.toList Ai) (AI (BI Aa))),rp 3 (Bi Am),bf (!ByteArray.toList (Aj u)==ByteArray.toList Ai) (AI (BI Aa)),Bi Am,bf (!ByteArray.toList (Aj u)==ByteArray.toList Ai) (AI (BI Aa)),rp 3 (Bi Az),bf (!ByteArray.toList (Aj u)==ByteArray.toList Ai) (AI (BI Aa)),Bi Az,bf (!ByteArray.toList (Aj u)==ByteArray.toList Ai) (AI (BI Aa)),rp 6 (Bi AP),rp 6 (bt true)] [1,2,3,4,58] [1] Aw hq
theorem A19(A7:Ce (Af u)=false)(Aa:Aj u=ByteArray.mk #[])(Am:¬Af u=1)(Az:¬Af u=2)(AP:Bq u=0)(Bu:((Av u).length:Int)<a)(cx:Cx)(Aw:cx.n=130){Q:A4->S->Prop}(hq:Q (.normal) (S.mk [(1,.lp 1 0),(2,A6 0),(3,A6 a),(4,A6 b),(58,.v (.bool true))] [(1,CK u)] xe)):PW prog cx (AS f226 4) (Ly u a b xe) Q:=
 pw A9 130 [cl (@T7 (Af u)),rp 4 (AV (B0 A7)),rp 4 (bf (!ByteArray.toList (Aj u)==ByteArray.toList Ai) (AI (BI Aa))),rp 3 (Bi Am),bf (!ByteArray.toList (Aj u)==ByteArray.toList Ai) (AI (BI Aa)),Bi Am,bf (!ByteArray.toList (Aj u)==ByteArray.toList Ai) (AI (BI Aa)),rp 3 (Bi Az),bf (!ByteArray.toList (Aj u)==ByteArray.toList Ai) (AI (BI Aa)),Bi Az,bf (!ByteArray.toList (Aj u)==ByteArray.toList Ai) (AI (BI Aa)),rp 3 (B1 AP),sl (Pr.A0 (Av u)),rp 3 (B1 AP),rp 6 (BL Bu)] [1,2,3,4,58] [1] Aw hq
theorem A1a(A7:Ce (Af u)=false)(Aa:Aj u=ByteArray.mk #[])(Am:¬Af u=1)(Az:¬Af u=2)(AP:Bq u=0)(Bu:¬((Av u).length:Int)<a)(cx:Cx)(Aw:cx.n=130){Q:A4->S->Prop}(hq:Q (.normal) (S.mk [(1,.lp 1 0),(2,A6 0),(3,A6 a),(4,A6 b),(58,.v (.bool (decide (((Av u).length:Int)>b))))] [(1,CK u)] xe)):PW prog cx (AS f226 4) (Ly u a b xe) Q:=
 pw A9 130 [cl (@T7 (Af u)),rp 4 (AV (B0 A7)),rp 4 (bf (!ByteArray.toList (Aj u)==ByteArray.toList Ai) (AI (BI Aa))),rp 3 (Bi Am),bf (!ByteArray.toList (Aj u)==ByteArray.toList Ai) (AI (BI Aa)),Bi Am,bf (!ByteArray.toList (Aj u)==ByteArray.toList Ai) (AI (BI Aa)),rp 3 (Bi Az),bf (!ByteArray.toList (Aj u)==ByteArray.toList Ai) (AI (BI Aa)),Bi Az,bf (!ByteArray.toList (Aj u)==ByteArray.toList Ai) (AI (BI Aa)),rp 3 (B1 AP),sl (Pr.A0 (Av u)),rp 3 (B1 AP),rp 3 (Ar Bu),sl (Pr.A0 (Av u)),rp 3 (Ar Bu)] [1,2,3,4,58] [1] Aw hq
theorem A1b(A7:Ce (Af u)=false)(Aa:Aj u=ByteArray.mk #[])(Am:¬Af u=1)(Az:Af u=2)(AP:((Av u).length:Int)<a)(cx:Cx)(Aw:cx.n=130){Q:A4->S->Prop}(hq:Q (.normal) (S.mk [(1,.lp 1 0),(2,A6 0),(3,A6 a),(4,A6 b),(58,.v (.bool true))] [(1,CK u)] xe)):PW prog cx (AS f226 4) (Ly u a b xe) Q:=
 pw A9 130 [cl (@T7 (Af u)),rp 4 (AV (B0 A7)),rp 4 (bf (!ByteArray.toList (Aj u)==ByteArray.toList Ai) (AI (BI Aa))),rp 3 (Bi Am),bf (!ByteArray.toList (Aj u)==ByteArray.toList Ai) (AI (BI Aa)),Bi Am,bf (!ByteArray.toList (Aj u)==ByteArray.toList Ai) (AI (BI Aa)),rp 3 (B1 Az),bf (!ByteArray.toList (Aj u)==ByteArray.toList Ai) (AI (BI Aa)),B1 Az,bf (!ByteArray.toList (Aj u)==ByteArray.toList Ai) (AI (BI Aa)),rp 3 (bf false),sl (Pr.A0 (Av u)),rp 3 (bf false),rp 6 (BL AP)] [1,2,3,4,58] [1] Aw hq
theorem A1c(A7:Ce (Af u)=false)(Aa:Aj u=ByteArray.mk #[])(Am:¬Af u=1)(Az:Af u=2)(AP:¬((Av u).length:Int)<a)(cx:Cx)(Aw:cx.n=130){Q:A4->S->Prop}(hq:Q (.normal) (S.mk [(1,.lp 1 0),(2,A6 0),(3,A6 a),(4,A6 b),(58,.v (.bool (decide (((Av u).length:Int)>b))))] [(1,CK u)] xe)):PW prog cx (AS f226 4) (Ly u a b xe) Q:=
 pw A9 130 [cl (@T7 (Af u)),rp 4 (AV (B0 A7)),rp 4 (bf (!ByteArray.toList (Aj u)==ByteArray.toList Ai) (AI (BI Aa))),rp 3 (Bi Am),bf (!ByteArray.toList (Aj u)==ByteArray.toList Ai) (AI (BI Aa)),Bi Am,bf (!ByteArray.toList (Aj u)==ByteArray.toList Ai) (AI (BI Aa)),rp 3 (B1 Az),bf (!ByteArray.toList (Aj u)==ByteArray.toList Ai) (AI (BI Aa)),B1 Az,bf (!ByteArray.toList (Aj u)==ByteArray.toList Ai) (AI (BI Aa)),rp 3 (bf false),sl (Pr.A0 (Av u)),rp 3 (bf false),rp 3 (Ar AP),sl (Pr.A0 (Av u)),rp 3 (Ar AP)] [1,2,3,4,58] [1] Aw hq
theorem A1d(A7:Ce (Af u)=false)(Aa:Aj u=ByteArray.mk #[])(Am:Af u=1)(Az:((Av u).length:Int)<a)(cx:Cx)(Aw:cx.n=130){Q:A4->S->Prop}(hq:Q (.normal) (S.mk [(1,.lp 1 0),(2,A6 0),(3,A6 a),(4,A6 b),(58,.v (.bool true))] [(1,CK u)] xe)):PW prog cx (AS f226 4) (Ly u a b xe) Q:=
 pw A9 130 [cl (@T7 (Af u)),rp 4 (AV (B0 A7)),rp 4 (bf (!ByteArray.toList (Aj u)==ByteArray.toList Ai) (AI (BI Aa))),rp 3 (B1 Am),bf (!ByteArray.toList (Aj u)==ByteArray.toList Ai) (AI (BI Aa)),B1 Am,bf (!ByteArray.toList (Aj u)==ByteArray.toList Ai) (AI (BI Aa)),rp 3 (bf false),bf (!ByteArray.toList (Aj u)==ByteArray.toList Ai) (AI (BI Aa)),bf false,bf (!ByteArray.toList (Aj u)==ByteArray.toList Ai) (AI (BI Aa)),rp 3 (bf false),sl (Pr.A0 (Av u)),rp 3 (bf false),rp 6 (BL Az)] [1,2,3,4,58] [1] Aw hq
theorem A1e(A7:Ce (Af u)=false)(Aa:Aj u=ByteArray.mk #[])(Am:Af u=1)(Az:¬((Av u).length:Int)<a)(cx:Cx)(Aw:cx.n=130){Q:A4->S->Prop}(hq:Q (.normal) (S.mk [(1,.lp 1 0),(2,A6 0),(3,A6 a),(4,A6 b),(58,.v (.bool (decide (((Av u).length:Int)>b))))] [(1,CK u)] xe)):PW prog cx (AS f226 4) (Ly u a b xe) Q:=
 pw A9 130 [cl (@T7 (Af u)),rp 4 (AV (B0 A7)),rp 4 (bf (!ByteArray.toList (Aj u)==ByteArray.toList Ai) (AI (BI Aa))),rp 3 (B1 Am),bf (!ByteArray.toList (Aj u)==ByteArray.toList Ai) (AI (BI Aa)),B1 Am,bf (!ByteArray.toList (Aj u)==ByteArray.toList Ai) (AI (BI Aa)),rp 3 (bf false),bf (!ByteArray.toList (Aj u)==ByteArray.toList Ai) (AI (BI Aa)),bf false,bf (!ByteArray.toList (Aj u)==ByteArray.toList Ai) (AI (BI Aa)),rp 3 (bf false),sl (Pr.A0 (Av u)),rp 3 (bf false),rp 3 (Ar Az),sl (Pr.A0 (Av u)),rp 3 (Ar Az)] [1,2,3,4,58] [1] Aw hq
theorem A1f(A7:Ce (Af u)=true)(Aa:¬Af u=1)(Am:¬Af u=2)(Az:¬Bq u=0)(cx:Cx)(Aw:cx.n=130){Q:A4->S->Prop}(hq:Q (.normal) (S.mk [(1,.lp 1 0),(2,A6 0),(3,A6 a),(4,A6 b),(58,.v (.bool true))] [(1,CK u)] xe)):PW prog cx (AS f226 4) (Ly u a b xe) Q:=
 pw A9 130 [cl (@T7 (Af u)),rp 4 (AM (AI A7)),rp 4 (bf false),rp 3 (Bi Aa),bf false,Bi Aa,bf false,rp 3 (Bi Am),bf false,Bi Am,bf false,rp 6 (Bi Az),rp 6 (bt true)] [1,2,3,4,58] [1] Aw hq
theorem mQ(A7:Ce (Af u)=true)(Aa:¬Af u=1)(Am:¬Af u=2)(Az:Bq u=0)(AP:((Av u).length:Int)<a)(cx:Cx)(Aw:cx.n=130){Q:A4->S->Prop}(hq:Q (.normal) (S.mk [(1,.lp 1 0),(2,A6 0),(3,A6 a),(4,A6 b),(58,.v (.bool true))] [(1,CK u)] xe)):PW prog cx (AS f226 4) (Ly u a b xe) Q:=
 pw A9 130 [cl (@T7 (Af u)),rp 4 (AM (AI A7)),rp 4 (bf false),rp 3 (Bi Aa),bf false,Bi Aa,bf false,rp 3 (Bi Am),bf false,Bi Am,bf false,rp 3 (B1 Az),sl (Pr.A0 (Av u)),rp 3 (B1 Az),rp 6 (BL AP)] [1,2,3,4,58] [1] Aw hq
theorem mR(A7:Ce (Af u)=true)(Aa:¬Af u=1)(Am:¬Af u=2)(Az:Bq u=0)(AP:¬((Av u).length:Int)<a)(cx:Cx)(Aw:cx.n=130){Q:A4->S->Prop}(hq:Q (.normal) (S.mk [(1,.lp 1 0),(2,A6 0),(3,A6 a),(4,A6 b),(58,.v (.bool (decide (((Av u).length:Int)>b))))] [(1,CK u)] xe)):PW prog cx (AS f226 4) (Ly u a b xe) Q:=
 pw A9 130 [cl (@T7 (Af u)),rp 4 (AM (AI A7)),rp 4 (bf false),rp 3 (Bi Aa),bf false,Bi Aa,bf false,rp 3 (Bi Am),bf false,Bi Am,bf false,rp 3 (B1 Az),sl (Pr.A0 (Av u)),rp 3 (B1 Az),rp 3 (Ar AP),sl (Pr.A0 (Av u)),rp 3 (Ar AP)] [1,2,3,4,58] [1] Aw hq
theorem mS(A7:Ce (Af u)=true)(Aa:¬Af u=1)(Am:Af u=2)(Az:((Av u).length:Int)<a)(cx:Cx)(Aw:cx.n=130){Q:A4->S->Prop}(hq:Q (.normal) (S.mk [(1,.lp 1 0),(2,A6 0),(3,A6 a),(4,A6 b),(58,.v (.bool true))] [(1,CK u)] xe)):PW prog cx (AS f226 4) (Ly u a b xe) Q:=
 pw A9 130 [cl (@T7 (Af u)),rp 4 (AM (AI A7)),rp 4 (bf false),rp 3 (Bi Aa),bf false,Bi Aa,bf false,rp 3 (B1 Am),bf false,B1 Am,rp 4 (bf false),sl (Pr.A0 (Av u)),rp 3 (bf false),rp 6 (BL Az)] [1,2,3,4,58] [1] Aw hq
theorem mT(A7:Ce (Af u)=true)(Aa:¬Af u=1)(Am:Af u=2)(Az:¬((Av u).length:Int)<a)(cx:Cx)(Aw:cx.n=130){Q:A4->S->Prop}(hq:Q (.normal) (S.mk [(1,.lp 1 0),(2,A6 0),(3,A6 a),(4,A6 b),(58,.v (.bool (decide (((Av u).length:Int)>b))))] [(1,CK u)] xe)):PW prog cx (AS f226 4) (Ly u a b xe) Q:=
 pw A9 130 [cl (@T7 (Af u)),rp 4 (AM (AI A7)),rp 4 (bf false),rp 3 (Bi Aa),bf false,Bi Aa,bf false,rp 3 (B1 Am),bf false,B1 Am,rp 4 (bf false),sl (Pr.A0 (Av u)),rp 3 (bf false),rp 3 (Ar Az),sl (Pr.A0 (Av u)),rp 3 (Ar Az)] [1,2,3,4,58] [1] Aw hq
theorem mU(A7:Ce (Af u)=true)(Aa:Af u=1)(Am:((Av u).length:Int)<a)(cx:Cx)(Aw:cx.n=130){Q:A4->S->Prop}(hq:Q (.normal) (S.mk [(1,.lp 1 0),(2,A6 0),(3,A6 a),(4,A6 b),(58,.v (.bool true))] [(1,CK u)] xe)):PW prog cx (AS f226 4) (Ly u a b xe) Q:=
 pw A9 130 [cl (@T7 (Af u)),rp 4 (AM (AI A7)),rp 4 (bf false),rp 3 (B1 Aa),bf false,B1 Aa,rp 10 (bf false),sl (Pr.A0 (Av u)),rp 3 (bf false),rp 6 (BL Am)] [1,2,3,4,58] [1] Aw hq
theorem mV(A7:Ce (Af u)=true)(Aa:Af u=1)(Am:¬((Av u).length:Int)<a)(cx:Cx)(Aw:cx.n=130){Q:A4->S->Prop}(hq:Q (.normal) (S.mk [(1,.lp 1 0),(2,A6 0),(3,A6 a),(4,A6 b),(58,.v (.bool (decide (((Av u).length:Int)>b))))] [(1,CK u)] xe)):PW prog cx (AS f226 4) (Ly u a b xe) Q:=
 pw A9 130 [cl (@T7 (Af u)),rp 4 (AM (AI A7)),rp 4 (bf false),rp 3 (B1 Aa),bf false,B1 Aa,rp 10 (bf false),sl (Pr.A0 (Av u)),rp 3 (bf false),rp 3 (Ar Am),sl (Pr.A0 (Av u)),rp 3 (Ar Am)] [1,2,3,4,58] [1] Aw hq
end
def AY(u:Pr)(a b:Int):Bool:=(if Ce (Af u)=true then (if Af u=1 then (if ((Av u).length:Int)<a then (true) else ((decide (((Av u).length:Int)>b)))) else (if Af u=2 then (if ((Av u).length:Int)<a then (true) else ((decide (((Av u).length:Int)>b)))) else (if Bq u=0 then (if ((Av u).length:Int)<a then (true) else ((decide (((Av u).length:Int)>b)))) else (true)))) else (if Aj u=ByteArray.mk #[] then (if Af u=1 then (if ((Av u).length:Int)<a then (true) else ((decide (((Av u).length:Int)>b)))) else (if Af u=2 then (if ((Av u).length:Int)<a then (true) else ((decide (((Av u).length:Int)>b)))) else (if Bq u=0 then (if ((Av u).length:Int)<a then (true) else ((decide (((Av u).length:Int)>b)))) else (true)))) else (true)))
theorem OE(u:Pr)(a b:Int)(xe:Ext):(Ob.ES 130 (AS f226 4) (Ly u a b xe) (.normal) (S.mk [(1,.lp 1 0),(2,A6 0),(3,A6 a),(4,A6 b),(58,.v (.bool (AY u a b)))] [(1,CK u)] xe)).ok prog:=by
 intro cx Aw
 by_cases g0:Ce (Af u)=true
 ·by_cases g1:Af u=1
  ·by_cases g2:((Av u).length:Int)<a
   ·exact mU u a b xe g0 g1 g2 cx Aw ⟨rfl,by rw [show AY u a b=(true) by unfold AY; rw [iP g0,iP g1,iP g2]]⟩
   ·exact mV u a b xe g0 g1 g2 cx Aw ⟨rfl,by rw [show AY u a b=((decide (((Av u).length:Int)>b))) by unfold AY; rw [iP g0,iP g1,iN g2]]⟩
  ·by_cases g2:Af u=2
   ·by_cases g3:((Av u).length:Int)<a
    ·exact mS u a b xe g0 g1 g2 g3 cx Aw ⟨rfl,by rw [show AY u a b=(true) by unfold AY; rw [iP g0,iN g1,iP g2,iP g3]]⟩
    ·exact mT u a b xe g0 g1 g2 g3 cx Aw ⟨rfl,by rw [show AY u a b=((decide (((Av u).length:Int)>b))) by unfold AY; rw [iP g0,iN g1,iP g2,iN g3]]⟩
   ·by_cases g3:Bq u=0
    ·by_cases g4:((Av u).length:Int)<a
     ·exact mQ u a b xe g0 g1 g2 g3 g4 cx Aw ⟨rfl,by rw [show AY u a b=(true) by unfold AY; rw [iP g0,iN g1,iN g2,iP g3,iP g4]]⟩
     ·exact mR u a b xe g0 g1 g2 g3 g4 cx Aw ⟨rfl,by rw [show AY u a b=((decide (((Av u).length:Int)>b))) by unfold AY; rw [iP g0,iN g1,iN g2,iP g3,iN g4]]⟩
    ·exact A1f u a b xe g0 g1 g2 g3 cx Aw ⟨rfl,by rw [show AY u a b=(true) by unfold AY; rw [iP g0,iN g1,iN g2,iN g3]]⟩
 ·by_cases g1:Aj u=ByteArray.mk #[]
  ·by_cases g2:Af u=1
   ·by_cases g3:((Av u).length:Int)<a
    ·exact A1d u a b xe (Bool.eq_false_iff.2 g0) g1 g2 g3 cx Aw ⟨rfl,by rw [show AY u a b=(true) by unfold AY; rw [iN g0,iP g1,iP g2,iP g3]]⟩
    ·exact A1e u a b xe (Bool.eq_false_iff.2 g0) g1 g2 g3 cx Aw ⟨rfl,by rw [show AY u a b=((decide (((Av u).length:Int)>b))) by unfold AY; rw [iN g0,iP g1,iP g2,iN g3]]⟩
   ·by_cases g3:Af u=2
    ·by_cases g4:((Av u).length:Int)<a
     ·exact A1b u a b xe (Bool.eq_false_iff.2 g0) g1 g2 g3 g4 cx Aw ⟨rfl,by rw [show AY u a b=(true) by unfold AY; rw [iN g0,iP g1,iN g2,iP g3,iP g4]]⟩
     ·exact A1c u a b xe (Bool.eq_false_iff.2 g0) g1 g2 g3 g4 cx Aw ⟨rfl,by rw [show AY u a b=((decide (((Av u).length:Int)>b))) by unfold AY; rw [iN g0,iP g1,iN g2,iP g3,iN g4]]⟩
    ·by_cases g4:Bq u=0
     ·by_cases g5:((Av u).length:Int)<a
      ·exact A19 u a b xe (Bool.eq_false_iff.2 g0) g1 g2 g3 g4 g5 cx Aw ⟨rfl,by rw [show AY u a b=(true) by unfold AY; rw [iN g0,iP g1,iN g2,iN g3,iP g4,iP g5]]⟩
      ·exact A1a u a b xe (Bool.eq_false_iff.2 g0) g1 g2 g3 g4 g5 cx Aw ⟨rfl,by rw [show AY u a b=((decide (((Av u).length:Int)>b))) by unfold AY; rw [iN g0,iP g1,iN g2,iN g3,iP g4,iN g5]]⟩
     ·exact A18 u a b xe (Bool.eq_false_iff.2 g0) g1 g2 g3 g4 cx Aw ⟨rfl,by rw [show AY u a b=(true) by unfold AY; rw [iN g0,iP g1,iN g2,iN g3,iN g4]]⟩
  ·exact A17 u a b xe (Bool.eq_false_iff.2 g0) g1 cx Aw ⟨rfl,by rw [show AY u a b=(true) by unfold AY; rw [iN g0,iN g1]]⟩
section
variable (u:Pr) (a b:Int) (xe:Ext)
include u a b xe
theorem A1g(A7:Af u=1)(Aa:Kv (Bq u)=false)(cx:Cx)(Aw:cx.n=130){Q:A4->S->Prop}(hq:Q (.normal) (S.mk [(1,.lp 1 0),(2,A6 0),(3,A6 a),(4,A6 b),(82,.v (.bool true))] [(1,CK u)] xe)):PW prog cx (AS f226 6) (Ly u a b xe) Q:=
 pw A9 130 [rp 3 (Bb A7),cl (@niS (Bq u)),rp 2 (Bb A7),rp 8 (AV (B0 Aa))] [1,2,3,4,82] [1] Aw hq
theorem A1h(A7:Af u=1)(Aa:Kv (Bq u)=true)(cx:Cx)(Aw:cx.n=130){Q:A4->S->Prop}(hq:Q (.normal) (S.mk [(1,.lp 1 0),(2,A6 0),(3,A6 a),(4,A6 b),(82,.v (.bool false))] [(1,CK u)] xe)):PW prog cx (AS f226 6) (Ly u a b xe) Q:=
 pw A9 130 [rp 3 (Bb A7),cl (@niS (Bq u)),rp 2 (Bb A7),rp 4 (AM (AI Aa)),rp 3 (en (Af u) 2),AM (AI Aa),en (Af u) 2,AM (AI Aa),rp 3 (bf false),AM (AI Aa),bf false,AM (AI Aa)] [1,2,3,4,82] [1] Aw hq
theorem A1i(A7:¬Af u=1)(Aa:Af u=2)(Am:¬Bq u=0)(cx:Cx)(Aw:cx.n=130){Q:A4->S->Prop}(hq:Q (.normal) (S.mk [(1,.lp 1 0),(2,A6 0),(3,A6 a),(4,A6 b),(82,.v (.bool (Bq u != 1)))] [(1,CK u)] xe)):PW prog cx (AS f226 6) (Ly u a b xe) Q:=
 pw A9 130 [rp 5 (Ay A7),rp 4 (bf false),rp 3 (Bb Aa),bf false,Bb Aa,bf false,rp 3 (Bi Am),bf false,Bi Am,bf false] [1,2,3,4,82] [1] Aw hq
theorem A1j(A7:¬Af u=1)(Aa:Af u=2)(Am:Bq u=0)(cx:Cx)(Aw:cx.n=130){Q:A4->S->Prop}(hq:Q (.normal) (S.mk [(1,.lp 1 0),(2,A6 0),(3,A6 a),(4,A6 b),(82,.v (.bool false))] [(1,CK u)] xe)):PW prog cx (AS f226 6) (Ly u a b xe) Q:=
 pw A9 130 [rp 5 (Ay A7),rp 4 (bf false),rp 3 (Bb Aa),bf false,Bb Aa,bf false,rp 3 (B1 Am),bf false,B1 Am,bf false] [1,2,3,4,82] [1] Aw hq
theorem A1k(A7:¬Af u=1)(Aa:¬Af u=2)(cx:Cx)(Aw:cx.n=130){Q:A4->S->Prop}(hq:Q (.normal) (S.mk [(1,.lp 1 0),(2,A6 0),(3,A6 a),(4,A6 b),(82,.v (.bool false))] [(1,CK u)] xe)):PW prog cx (AS f226 6) (Ly u a b xe) Q:=
 pw A9 130 [rp 5 (Ay A7),rp 4 (bf false),rp 3 (Ay Aa),bf false,Ay Aa,rp 7 (bf false)] [1,2,3,4,82] [1] Aw hq
end
def CI(u:Pr)(a b:Int):Bool:=(if Af u=1 then (if Kv (Bq u)=true then (false) else (true)) else (if Af u=2 then (if Bq u=0 then (false) else ((Bq u != 1))) else (false)))
theorem Qj(u:Pr)(a b:Int)(xe:Ext):(Ob.ES 130 (AS f226 6) (Ly u a b xe) (.normal) (S.mk [(1,.lp 1 0),(2,A6 0),(3,A6 a),(4,A6 b),(82,.v (.bool (CI u a b)))] [(1,CK u)] xe)).ok prog:=by
 intro cx Aw
 by_cases g0:Af u=1
 ·by_cases g1:Kv (Bq u)=true
  ·exact A1h u a b xe g0 g1 cx Aw ⟨rfl,by rw [show CI u a b=(false) by unfold CI; rw [iP g0,iP g1]]⟩
  ·exact A1g u a b xe g0 (Bool.eq_false_iff.2 g1) cx Aw ⟨rfl,by rw [show CI u a b=(true) by unfold CI; rw [iP g0,iN g1]]⟩
 ·by_cases g1:Af u=2
  ·by_cases g2:Bq u=0
   ·exact A1j u a b xe g0 g1 g2 cx Aw ⟨rfl,by rw [show CI u a b=(false) by unfold CI; rw [iN g0,iP g1,iP g2]]⟩
   ·exact A1i u a b xe g0 g1 g2 cx Aw ⟨rfl,by rw [show CI u a b=((Bq u != 1)) by unfold CI; rw [iN g0,iP g1,iN g2]]⟩
  ·exact A1k u a b xe g0 g1 cx Aw ⟨rfl,by rw [show CI u a b=(false) by unfold CI; rw [iN g0,iN g1]]⟩
theorem A1l(u:Pr)(a b:Int)(xe:Ext)(A7:Ce (Af u)=true)(cx:Cx)(Aw:cx.n=130){Q:A4->S->Prop}(hq:Q (.normal) (S.mk [(1,.lp 1 0),(2,A6 0),(3,A6 a),(4,A6 b),(91,.v (.bool (CJ (BE (Aj u)) != 0)))] [(1,CK u)] xe)):PW prog cx (AS f226 8) (Ly u a b xe) Q:=
 pw A9 130 [cl (@T7 (Af u)),rp 3 (AV A7),cl (@OA (Aj u)),rp 2 (AV A7)] [1,2,3,4,91] [1] Aw hq
theorem A1m(u:Pr)(a b:Int)(xe:Ext)(A7:Ce (Af u)=false)(cx:Cx)(Aw:cx.n=130){Q:A4->S->Prop}(hq:Q (.normal) (S.mk [(1,.lp 1 0),(2,A6 0),(3,A6 a),(4,A6 b),(91,.v (.bool false))] [(1,CK u)] xe)):PW prog cx (AS f226 8) (Ly u a b xe) Q:=
 pw A9 130 [cl (@T7 (Af u)),rp 5 (AM A7)] [1,2,3,4,91] [1] Aw hq
def Ch(u:Pr)(a b:Int):Bool:=(if Ce (Af u)=true then ((CJ (BE (Aj u)) != 0)) else (false))
theorem T8(u:Pr)(a b:Int)(xe:Ext):(Ob.ES 130 (AS f226 8) (Ly u a b xe) (.normal) (S.mk [(1,.lp 1 0),(2,A6 0),(3,A6 a),(4,A6 b),(91,.v (.bool (Ch u a b)))] [(1,CK u)] xe)).ok prog:=by
 intro cx Aw
 by_cases g0:Ce (Af u)=true
 ·exact A1l u a b xe g0 cx Aw ⟨rfl,by rw [show Ch u a b=((CJ (BE (Aj u)) != 0)) by unfold Ch; rw [iP g0]]⟩
 ·exact A1m u a b xe (Bool.eq_false_iff.2 g0) cx Aw ⟨rfl,by rw [show Ch u a b=(false) by unfold Ch; rw [iN g0]]⟩
theorem A1n(u:Pr)(a b:Int)(xe:Ext)(A7:Af u=3)(cx:Cx)(Aw:cx.n=130){Q:A4->S->Prop}(hq:Q (.normal) (S.mk [(1,.lp 1 0),(2,A6 0),(3,A6 a),(4,A6 b),(5,.v (.bool (ByteArray.toList (Aj u)==ByteArray.toList (bM 118))))] [(1,CK u)] xe)):PW prog cx (AS f226 9) (Ly u a b xe) Q:=
 pw A9 130 [rp 4 (Bb A7)] [1,2,3,4,5] [1] Aw hq
theorem A1o(u:Pr)(a b:Int)(xe:Ext)(A7:¬Af u=3)(cx:Cx)(Aw:cx.n=130){Q:A4->S->Prop}(hq:Q (.normal) (S.mk [(1,.lp 1 0),(2,A6 0),(3,A6 a),(4,A6 b),(5,.v (.bool false))] [(1,CK u)] xe)):PW prog cx (AS f226 9) (Ly u a b xe) Q:=
 pw A9 130 [rp 4 (Ay A7)] [1,2,3,4,5] [1] Aw hq
def Bh(u:Pr)(a b:Int):Bool:=(if Af u=3 then ((ByteArray.toList (Aj u)==ByteArray.toList (bM 118))) else (false))
theorem bX(u:Pr)(a b:Int)(xe:Ext):(Ob.ES 130 (AS f226 9) (Ly u a b xe) (.normal) (S.mk [(1,.lp 1 0),(2,A6 0),(3,A6 a),(4,A6 b),(5,.v (.bool (Bh u a b)))] [(1,CK u)] xe)).ok prog:=by
 intro cx Aw
 by_cases g0:Af u=3
 ·exact A1n u a b xe g0 cx Aw ⟨rfl,by rw [show Bh u a b=((ByteArray.toList (Aj u)==ByteArray.toList (bM 118))) by unfold Bh; rw [iP g0]]⟩
 ·exact A1o u a b xe g0 cx Aw ⟨rfl,by rw [show Bh u a b=(false) by unfold Bh; rw [iN g0]]⟩
section
variable (u:Pr) (a b:Int) (x:Bool) (xe:Ext)
include u a b x xe
theorem mW(A7:Af u=4)(Aa:Aj u=ByteArray.mk #[116,97,103])(cx:Cx)(Aw:cx.n=130){Q:A4->S->Prop}(hq:Q (.normal) (S.mk [(1,.lp 1 0),(2,A6 0),(3,A6 a),(4,A6 b),(5,.v (.bool x)),(6,.v (.bool true))] [(1,CK u)] xe)):PW prog cx (AS f226 10) (nd3 u a b x xe) Q:=
 pw A9 130 [rp 4 (Bb A7),rp 3 (bt (ByteArray.toList (Aj u)==ByteArray.toList (ByteArray.mk #[116,97,103])) (BI Aa)),Bb A7,bt (ByteArray.toList (Aj u)==ByteArray.toList (ByteArray.mk #[116,97,103])) (BI Aa),Bb A7] [1,2,3,4,5,6] [1] Aw hq
theorem mX(A7:Af u=4)(Aa:¬Aj u=ByteArray.mk #[116,97,103])(cx:Cx)(Aw:cx.n=130){Q:A4->S->Prop}(hq:Q (.normal) (S.mk [(1,.lp 1 0),(2,A6 0),(3,A6 a),(4,A6 b),(5,.v (.bool x)),(6,.v (.bool (ByteArray.toList (Aj u)==ByteArray.toList (ByteArray.mk #[118,97,108]))))] [(1,CK u)] xe)):PW prog cx (AS f226 10) (nd3 u a b x xe) Q:=
 pw A9 130 [rp 4 (Bb A7),rp 3 (bf (ByteArray.toList (Aj u)==ByteArray.toList (ByteArray.mk #[116,97,103])) (Bp Aa)),Bb A7,bf (ByteArray.toList (Aj u)==ByteArray.toList (ByteArray.mk #[116,97,103])) (Bp Aa),Bb A7] [1,2,3,4,5,6] [1] Aw hq
theorem mY(A7:¬Af u=4)(cx:Cx)(Aw:cx.n=130){Q:A4->S->Prop}(hq:Q (.normal) (S.mk [(1,.lp 1 0),(2,A6 0),(3,A6 a),(4,A6 b),(5,.v (.bool x)),(6,.v (.bool false))] [(1,CK u)] xe)):PW prog cx (AS f226 10) (nd3 u a b x xe) Q:=
 pw A9 130 [rp 6 (Ay A7)] [1,2,3,4,5,6] [1] Aw hq
end
def BX(u:Pr)(a b:Int)(x:Bool):Bool:=(if Af u=4 then (if Aj u=ByteArray.mk #[116,97,103] then (true) else ((ByteArray.toList (Aj u)==ByteArray.toList (ByteArray.mk #[118,97,108])))) else (false))
theorem Ur(u:Pr)(a b:Int)(x:Bool)(xe:Ext):(Ob.ES 130 (AS f226 10) (nd3 u a b x xe) (.normal) (S.mk [(1,.lp 1 0),(2,A6 0),(3,A6 a),(4,A6 b),(5,.v (.bool x)),(6,.v (.bool (BX u a b x)))] [(1,CK u)] xe)).ok prog:=by
 intro cx Aw
 by_cases g0:Af u=4
 ·by_cases g1:Aj u=ByteArray.mk #[116,97,103]
  ·exact mW u a b x xe g0 g1 cx Aw ⟨rfl,by rw [show BX u a b x=(true) by unfold BX; rw [iP g0,iP g1]]⟩
  ·exact mX u a b x xe g0 g1 cx Aw ⟨rfl,by rw [show BX u a b x=((ByteArray.toList (Aj u)==ByteArray.toList (ByteArray.mk #[118,97,108]))) by unfold BX; rw [iP g0,iN g1]]⟩
 ·exact mY u a b x xe g0 cx Aw ⟨rfl,by rw [show BX u a b x=(false) by unfold BX; rw [iN g0]]⟩
theorem mZ(u:Pr)(a b:Int)(x y:Bool)(xe:Ext)(A7:x=false)(cx:Cx)(Aw:cx.n=130){Q:A4->S->Prop}(hq:Q (.normal) (S.mk [(1,.lp 1 0),(2,A6 0),(3,A6 a),(4,A6 b),(5,.v (.bool x)),(6,.v (.bool y)),(118,.v (.bool !y))] [(1,CK u)] xe)):PW prog cx (AS f226 11) (nd2 u a b x y xe) Q:=
 pw A9 130 [rp 3 (AV (B0 A7))] [1,2,3,4,5,6,118] [1] Aw hq
theorem n7(u:Pr)(a b:Int)(x y:Bool)(xe:Ext)(A7:x=true)(cx:Cx)(Aw:cx.n=130){Q:A4->S->Prop}(hq:Q (.normal) (S.mk [(1,.lp 1 0),(2,A6 0),(3,A6 a),(4,A6 b),(5,.v (.bool x)),(6,.v (.bool y)),(118,.v (.bool false))] [(1,CK u)] xe)):PW prog cx (AS f226 11) (nd2 u a b x y xe) Q:=
 pw A9 130 [rp 3 (AM (AI A7))] [1,2,3,4,5,6,118] [1] Aw hq
def D7(u:Pr)(a b:Int)(x y:Bool):Bool:=(if x=true then (false) else (!y))
theorem Us(u:Pr)(a b:Int)(x y:Bool)(xe:Ext):(Ob.ES 130 (AS f226 11) (nd2 u a b x y xe) (.normal) (S.mk [(1,.lp 1 0),(2,A6 0),(3,A6 a),(4,A6 b),(5,.v (.bool x)),(6,.v (.bool y)),(118,.v (.bool (D7 u a b x y)))] [(1,CK u)] xe)).ok prog:=by
 intro cx Aw
 by_cases g0:x=true
 ·exact n7 u a b x y xe g0 cx Aw ⟨rfl,by rw [show D7 u a b x y=(false) by unfold D7; rw [iP g0]]⟩
 ·exact mZ u a b x y xe (Bool.eq_false_iff.2 g0) cx Aw ⟨rfl,by rw [show D7 u a b x y=(!y) by unfold D7; rw [iN g0]]⟩
abbrev nd4(u:Pr)(a b:Int)(x:Bool)(xe:Ext):S:=⟨[(1,.lp 1 0),(2,.v (.int .i64 0)),(3,.v (.int .i64 a)),(4,.v (.int .i64 b)),(91,.v (.bool x))],[(1,CK u)],xe⟩
section
variable (u:Pr) (a b:Int) (x y:Bool) (JY:Af u=8->0<(Av u).length) (xe:Ext)
include u a b x y JY xe
theorem bY(A7:Af u=8)(cx:Cx)(Aw:cx.n=130){Q:A4->S->Prop}(hq:Q (.normal) (S.mk [(1,.lp 1 0),(2,A6 0),(3,A6 a),(4,A6 b),(5,.v (.bool x)),(6,.v (.bool y)),(129,.v (.bool (Af (List.getD (Av u) 0 default) != 1)))] [(1,CK u)] xe)):PW prog cx (AS f226 13) (nd2 u a b x y xe) Q:=
 pw A9 130 [rp 3 (Bb A7),FG (Av u) 0,My (Av u) 0,rp 4 (Bb A7)] [1,2,3,4,5,6,129] [1] Aw hq
theorem bZ(A7:¬Af u=8)(cx:Cx)(Aw:cx.n=130){Q:A4->S->Prop}(hq:Q (.normal) (S.mk [(1,.lp 1 0),(2,A6 0),(3,A6 a),(4,A6 b),(5,.v (.bool x)),(6,.v (.bool y)),(129,.v (.bool false))] [(1,CK u)] xe)):PW prog cx (AS f226 13) (nd2 u a b x y xe) Q:=
 pw A9 130 [rp 7 (Ay A7)] [1,2,3,4,5,6,129] [1] Aw hq
end
def Dk(u:Pr)(a b:Int)(x y:Bool):Bool:=(if Af u=8 then ((Af (List.getD (Av u) 0 default) != 1)) else (false))
theorem VK(u:Pr)(a b:Int)(x y:Bool)(JY:Af u=8->0<(Av u).length)(xe:Ext):(Ob.ES 130 (AS f226 13) (nd2 u a b x y xe) (.normal) (S.mk [(1,.lp 1 0),(2,A6 0),(3,A6 a),(4,A6 b),(5,.v (.bool x)),(6,.v (.bool y)),(129,.v (.bool (Dk u a b x y)))] [(1,CK u)] xe)).ok prog:=by
 intro cx Aw
 by_cases g0:Af u=8
 ·exact bY u a b x y JY xe g0 cx Aw ⟨rfl,by rw [show Dk u a b x y=((Af (List.getD (Av u) 0 default) != 1)) by unfold Dk; rw [iP g0]]⟩
 ·exact bZ u a b x y JY xe g0 cx Aw ⟨rfl,by rw [show Dk u a b x y=(false) by unfold Dk; rw [iN g0]]⟩
section
variable (u:Pr) (a b:Int) (x:Bool) (JY:Af u=8->0<(Av u).length) (xe:Ext)
include u a b x JY xe
theorem c8(A7:Af u=8)(cx:Cx)(Aw:cx.n=130){Q:A4->S->Prop}(hq:Q (.normal) (S.mk [(1,.lp 1 0),(2,A6 0),(3,A6 a),(4,A6 b),(91,.v (.bool x)),(129,.v (.bool (Af (List.getD (Av u) 0 default) != 1)))] [(1,CK u)] xe)):PW prog cx (AS f226 13) (nd4 u a b x xe) Q:=
 pw A9 130 [rp 3 (Bb A7),FG (Av u) 0,My (Av u) 0,rp 4 (Bb A7)] [1,2,3,4,91,129] [1] Aw hq
theorem c9(A7:¬Af u=8)(cx:Cx)(Aw:cx.n=130){Q:A4->S->Prop}(hq:Q (.normal) (S.mk [(1,.lp 1 0),(2,A6 0),(3,A6 a),(4,A6 b),(91,.v (.bool x)),(129,.v (.bool false))] [(1,CK u)] xe)):PW prog cx (AS f226 13) (nd4 u a b x xe) Q:=
 pw A9 130 [rp 7 (Ay A7)] [1,2,3,4,91,129] [1] Aw hq
end
def Dm(u:Pr)(a b:Int)(x:Bool):Bool:=(if Af u=8 then ((Af (List.getD (Av u) 0 default) != 1)) else (false))
theorem VL(u:Pr)(a b:Int)(x:Bool)(JY:Af u=8->0<(Av u).length)(xe:Ext):(Ob.ES 130 (AS f226 13) (nd4 u a b x xe) (.normal) (S.mk [(1,.lp 1 0),(2,A6 0),(3,A6 a),(4,A6 b),(91,.v (.bool x)),(129,.v (.bool (Dm u a b x)))] [(1,CK u)] xe)).ok prog:=by
 intro cx Aw
 by_cases g0:Af u=8
 ·exact c8 u a b x JY xe g0 cx Aw ⟨rfl,by rw [show Dm u a b x=((Af (List.getD (Av u) 0 default) != 1)) by unfold Dm; rw [iP g0]]⟩
 ·exact c9 u a b x JY xe g0 cx Aw ⟨rfl,by rw [show Dm u a b x=(false) by unfold Dm; rw [iN g0]]⟩
def FW(o:Int):Bool:=(if o=3 then true else (if o=4 then true else (o==5)))
theorem rnm(o:Int):Pu 232 [pI o] (rB (FW o)):=by
 by_cases h0:o=3
 ·simp only [FW,iP h0]; exact pm A9 [rp 3 (Bb h0),rp 3 (bt true)] func232
 ·by_cases h1:o=4
  ·simp only [FW,iN h0,iP h1]; exact pm A9 [rp 3 (Ay h0),rp 3 (Bb h1)] func232
  ·simp only [FW,iN h0,iN h1]; exact pm A9 [rp 3 (Ay h0),rp 3 (Ay h1)] func232
def CC(o:Int)(n:Int):Bool:=(if o=1 then (n==0) else (if o=2 then (n==0) else (if o=3 then (n==0) else (if o=4 then (if n>=1 then (decide (n<=24)) else false) else (if o=5 then (if n>=1 then (decide (n<=24)) else false) else (if o=9 then (n==1) else (if o=14 then (n==1) else (n==2))))))))
theorem rki(o n:Int):Pu 233 [pI o,pI n] (rB (CC o n)):=by
 by_cases h0:o=1
 ·simp only [CC,iP h0]; exact pm A9 [rp 2 (Bb h0)] func233
 ·by_cases h1:o=2
  ·simp only [CC,iN h0,iP h1]; exact pm A9 [Ay h0,rp 2 (Bb h1)] func233
  ·by_cases h2:o=3
   ·simp only [CC,iN h0,iN h1,iP h2]; exact pm A9 [Ay h0,Ay h1,Bb h2] func233
   ·by_cases h3:o=4
    ·by_cases h4:n>=1
     ·simp only [CC,iN h0,iN h1,iN h2,iP h3,iP h4]; exact pm A9 [Ay h0,Ay h1,Ay h2,rp 2 (Bb h3),rp 3 (BL h4)] func233
     ·simp only [CC,iN h0,iN h1,iN h2,iP h3,iN h4]; exact pm A9 [Ay h0,Ay h1,Ay h2,rp 2 (Bb h3),rp 3 (Ar h4)] func233
    ·by_cases h4:o=5
     ·by_cases h5:n>=1
      ·simp only [CC,iN h0,iN h1,iN h2,iN h3,iP h4,iP h5]; exact pm A9 [Ay h0,Ay h1,Ay h2,Ay h3,Bb h4,rp 3 (BL h5)] func233
      ·simp only [CC,iN h0,iN h1,iN h2,iN h3,iP h4,iN h5]; exact pm A9 [Ay h0,Ay h1,Ay h2,Ay h3,Bb h4,rp 3 (Ar h5)] func233
     ·by_cases h5:o=9
      ·simp only [CC,iN h0,iN h1,iN h2,iN h3,iN h4,iP h5]; exact pm A9 [Ay h0,Ay h1,Ay h2,Ay h3,Ay h4,rp 2 (Bb h5)] func233
      ·by_cases h6:o=14
       ·simp only [CC,iN h0,iN h1,iN h2,iN h3,iN h4,iN h5,iP h6]; exact pm A9 [Ay h0,Ay h1,Ay h2,Ay h3,Ay h4,Ay h5,Bb h6] func233
       ·simp only [CC,iN h0,iN h1,iN h2,iN h3,iN h4,iN h5,iN h6]; exact pm A9 [Ay h0,Ay h1,Ay h2,Ay h3,Ay h4,Ay h5,Ay h6] func233
def EI(u:Pr):Bool:=(if Af u=3 then (if Aj u=ByteArray.mk #[118] then true else (CJ (BE (Aj u))==0)) else (if Af u=4 then (if Aj u=ByteArray.mk #[116,97,103] then true else (if Aj u=ByteArray.mk #[118,97,108] then true else (CJ (BE (Aj u))==0))) else (if Af u=5 then (CJ (BE (Aj u))==0) else true)))
theorem rca(u:Pr):Pu 235 [.agg (AN u)] (rB (EI u)):=by
 by_cases h0:Af u=3
 ·by_cases h1:Aj u=ByteArray.mk #[118]
  ·simp only [EI,iP h0,iP h1]; exact pm A9 [Bb h0,rp 5 (bt (ByteArray.toList (Aj u)==ByteArray.toList (bM 118)) (BI h1))] func235
  ·simp only [EI,iP h0,iN h1]; exact pm A9 [Bb h0,rp 3 (bf (ByteArray.toList (Aj u)==ByteArray.toList (bM 118)) (Bp h1)),cl (@Pj (Aj u)),rp 2 (bf (ByteArray.toList (Aj u)==ByteArray.toList (bM 118)) (Bp h1))] func235
 ·by_cases h1:Af u=4
  ·by_cases h2:Aj u=ByteArray.mk #[116,97,103]
   ·simp only [EI,iN h0,iP h1,iP h2]; exact pm A9 [Ay h0,Bb h1,rp 4 (bt (ByteArray.toList (Aj u)==ByteArray.toList (ByteArray.mk #[116,97,103])) (BI h2)),rp 5 (bt true)] func235
   ·by_cases h3:Aj u=ByteArray.mk #[118,97,108]
    ·simp only [EI,iN h0,iP h1,iN h2,iP h3]; exact pm A9 [Ay h0,Bb h1,rp 4 (bf (ByteArray.toList (Aj u)==ByteArray.toList (ByteArray.mk #[116,97,103])) (Bp h2)),rp 5 (bt (ByteArray.toList (Aj u)==ByteArray.toList (ByteArray.mk #[118,97,108])) (BI h3))] func235
    ·simp only [EI,iN h0,iP h1,iN h2,iN h3]; exact pm A9 [Ay h0,Bb h1,rp 4 (bf (ByteArray.toList (Aj u)==ByteArray.toList (ByteArray.mk #[116,97,103])) (Bp h2)),rp 3 (bf (ByteArray.toList (Aj u)==ByteArray.toList (ByteArray.mk #[118,97,108])) (Bp h3)),cl (@Pj (Aj u)),rp 2 (bf (ByteArray.toList (Aj u)==ByteArray.toList (ByteArray.mk #[118,97,108])) (Bp h3))] func235
  ·by_cases h2:Af u=5
   ·simp only [EI,iN h0,iN h1,iP h2]; exact pm A9 [Ay h0,Ay h1,Bb h2,cl (@Pj (Aj u))] func235
   ·simp only [EI,iN h0,iN h1,iN h2]; exact pm A9 [Ay h0,Ay h1,Ay h2] func235
def Kw(n:Int):Bool:=(if n >= -1000000000000 then (decide (n<=1000000000000)) else false)
theorem rIn(n:Int):Pu 234 [pI n] (rB (Kw n)):=by
 by_cases h0:n >= -1000000000000
 ·simp only [Kw,iP h0]; exact pm A9 [rp 3 (BL h0)] func234
 ·simp only [Kw,iN h0]; exact pm A9 [rp 3 (Ar h0)] func234
abbrev re0(u:Pr)(xe:Ext):S:=⟨[(1,.lp 1 0),(2,.v (.int .i64 0))],[(1,CK u)],xe⟩
abbrev Ro(u:Pr)(x:Bool)(xe:Ext):S:=⟨[(1,.lp 1 0),(2,.v (.int .i64 0)),(3,.v (.bool x))],[(1,CK u)],xe⟩
theorem A1p(u:Pr)(xe:Ext)(A7:Af u=1)(cx:Cx)(Aw:cx.n=87){Q:A4->S->Prop}(hq:Q (.normal) (S.mk [(1,.lp 1 0),(2,A6 0),(3,.v (.bool true))] [(1,CK u)] xe)):PW prog cx (AS f187 1) (re0 u xe) Q:=
 pw A9 87 [rp 4 (Bb A7)] [1,2,3] [1] Aw hq
theorem A1q(u:Pr)(xe:Ext)(A7:¬Af u=1)(cx:Cx)(Aw:cx.n=87){Q:A4->S->Prop}(hq:Q (.normal) (S.mk [(1,.lp 1 0),(2,A6 0),(3,.v (.bool (Af u==2)))] [(1,CK u)] xe)):PW prog cx (AS f187 1) (re0 u xe) Q:=
 pw A9 87 [rp 4 (Ay A7)] [1,2,3] [1] Aw hq
def Bw(u:Pr):Bool:=(if Af u=1 then (true) else ((Af u==2)))
theorem T9(u:Pr)(xe:Ext):(Ob.ES 87 (AS f187 1) (re0 u xe) (.normal) (S.mk [(1,.lp 1 0),(2,A6 0),(3,.v (.bool (Bw u)))] [(1,CK u)] xe)).ok prog:=by
 intro cx Aw
 by_cases g0:Af u=1
 ·exact A1p u xe g0 cx Aw ⟨rfl,by rw [show Bw u=(true) by unfold Bw; rw [iP g0]]⟩
 ·exact A1q u xe g0 cx Aw ⟨rfl,by rw [show Bw u=((Af u==2)) by unfold Bw; rw [iN g0]]⟩
section
variable (u:Pr) (x:Bool) (xe:Ext)
include u x xe
theorem A1r(A7:Af u<1)(cx:Cx)(Aw:cx.n=87){Q:A4->S->Prop}(hq:Q (.normal) (S.mk [(1,.lp 1 0),(2,A6 0),(3,.v (.bool x)),(48,.v (.bool true))] [(1,CK u)] xe)):PW prog cx (AS f187 2) (Ro u x xe) Q:=
 pw A9 87 [rp 4 (BL A7),rp 20 (bt true)] [1,2,3,48] [1] Aw hq
theorem A1s(A7:¬Af u<1)(Aa:Af u>18)(cx:Cx)(Aw:cx.n=87){Q:A4->S->Prop}(hq:Q (.normal) (S.mk [(1,.lp 1 0),(2,A6 0),(3,.v (.bool x)),(48,.v (.bool true))] [(1,CK u)] xe)):PW prog cx (AS f187 2) (Ro u x xe) Q:=
 pw A9 87 [rp 4 (Ar A7),rp 6 (BL Aa),rp 14 (bt true)] [1,2,3,48] [1] Aw hq
theorem A1t(A7:¬Af u<1)(Aa:¬Af u>18)(Am:¬Aj u=ByteArray.mk #[])(Az:FW (Af u)=false)(cx:Cx)(Aw:cx.n=87){Q:A4->S->Prop}(hq:Q (.normal) (S.mk [(1,.lp 1 0),(2,A6 0),(3,.v (.bool x)),(48,.v (.bool true))] [(1,CK u)] xe)):PW prog cx (AS f187 2) (Ro u x xe) Q:=
 pw A9 87 [rp 4 (Ar A7),rp 4 (Ar Aa),rp 3 (bt (!ByteArray.toList (Aj u)==ByteArray.toList Ai) (B0 (Bp Am))),cl (@rnm (Af u)),bt (!ByteArray.toList (Aj u)==ByteArray.toList Ai) (B0 (Bp Am)),Ar Aa,bt (!ByteArray.toList (Aj u)==ByteArray.toList Ai) (B0 (Bp Am)),Ar Aa,rp 6 (AV (B0 Az)),rp 8 (bt true)] [1,2,3,48] [1] Aw hq
theorem A1u(A7:¬Af u<1)(Aa:¬Af u>18)(Am:¬Aj u=ByteArray.mk #[])(Az:FW (Af u)=true)(AP:¬Bq u=0)(Bu:x=false)(cx:Cx)(Aw:cx.n=87){Q:A4->S->Prop}(hq:Q (.normal) (S.mk [(1,.lp 1 0),(2,A6 0),(3,.v (.bool x)),(48,.v (.bool true))] [(1,CK u)] xe)):PW prog cx (AS f187 2) (Ro u x xe) Q:=
 pw A9 87 [rp 4 (Ar A7),rp 4 (Ar Aa),rp 3 (bt (!ByteArray.toList (Aj u)==ByteArray.toList Ai) (B0 (Bp Am))),cl (@rnm (Af u)),bt (!ByteArray.toList (Aj u)==ByteArray.toList Ai) (B0 (Bp Am)),Ar Aa,bt (!ByteArray.toList (Aj u)==ByteArray.toList Ai) (B0 (Bp Am)),Ar Aa,rp 4 (AM (AI Az)),rp 2 (Bi AP),AM (AI Az),Bi AP,AM (AI Az),rp 8 (AV (B0 Bu))] [1,2,3,48] [1] Aw hq
theorem A1v(A7:¬Af u<1)(Aa:¬Af u>18)(Am:¬Aj u=ByteArray.mk #[])(Az:FW (Af u)=true)(AP:¬Bq u=0)(Bu:x=true)(cx:Cx)(Aw:cx.n=87){Q:A4->S->Prop}(hq:Q (.normal) (S.mk [(1,.lp 1 0),(2,A6 0),(3,.v (.bool x)),(48,.v (.bool !CC (Af u) ((Av u).length:Int)))] [(1,CK u)] xe)):PW prog cx (AS f187 2) (Ro u x xe) Q:=
 pw A9 87 [rp 4 (Ar A7),rp 4 (Ar Aa),rp 3 (bt (!ByteArray.toList (Aj u)==ByteArray.toList Ai) (B0 (Bp Am))),cl (@rnm (Af u)),bt (!ByteArray.toList (Aj u)==ByteArray.toList Ai) (B0 (Bp Am)),Ar Aa,bt (!ByteArray.toList (Aj u)==ByteArray.toList Ai) (B0 (Bp Am)),Ar Aa,rp 4 (AM (AI Az)),rp 2 (Bi AP),AM (AI Az),Bi AP,AM (AI Az),rp 5 (AM (AI Bu)),sl (Pr.A0 (Av u)),AM (AI Bu),cl (@rki (Af u) (((Av u).length:Int))),rp 2 (AM (AI Bu))] [1,2,3,48] [1] Aw hq
theorem A1w(A7:¬Af u<1)(Aa:¬Af u>18)(Am:¬Aj u=ByteArray.mk #[])(Az:FW (Af u)=true)(AP:Bq u=0)(cx:Cx)(Aw:cx.n=87){Q:A4->S->Prop}(hq:Q (.normal) (S.mk [(1,.lp 1 0),(2,A6 0),(3,.v (.bool x)),(48,.v (.bool !CC (Af u) ((Av u).length:Int)))] [(1,CK u)] xe)):PW prog cx (AS f187 2) (Ro u x xe) Q:=
 pw A9 87 [rp 4 (Ar A7),rp 4 (Ar Aa),rp 3 (bt (!ByteArray.toList (Aj u)==ByteArray.toList Ai) (B0 (Bp Am))),cl (@rnm (Af u)),bt (!ByteArray.toList (Aj u)==ByteArray.toList Ai) (B0 (Bp Am)),Ar Aa,bt (!ByteArray.toList (Aj u)==ByteArray.toList Ai) (B0 (Bp Am)),Ar Aa,rp 4 (AM (AI Az)),rp 2 (B1 AP),AM (AI Az),B1 AP,AM (AI Az),rp 5 (bf false),sl (Pr.A0 (Av u)),bf false,cl (@rki (Af u) (((Av u).length:Int))),rp 2 (bf false)] [1,2,3,48] [1] Aw hq
theorem A1x(A7:¬Af u<1)(Aa:¬Af u>18)(Am:Aj u=ByteArray.mk #[])(Az:¬Bq u=0)(AP:x=false)(cx:Cx)(Aw:cx.n=87){Q:A4->S->Prop}(hq:Q (.normal) (S.mk [(1,.lp 1 0),(2,A6 0),(3,.v (.bool x)),(48,.v (.bool true))] [(1,CK u)] xe)):PW prog cx (AS f187 2) (Ro u x xe) Q:=
 pw A9 87 [rp 4 (Ar A7),rp 4 (Ar Aa),rp 4 (bf (!ByteArray.toList (Aj u)==ByteArray.toList Ai) (AI (BI Am))),Ar Aa,bf (!ByteArray.toList (Aj u)==ByteArray.toList Ai) (AI (BI Am)),Ar Aa,rp 4 (bf false),rp 2 (Bi Az),bf false,Bi Az,bf false,rp 8 (AV (B0 AP))] [1,2,3,48] [1] Aw hq
theorem A1y(A7:¬Af u<1)(Aa:¬Af u>18)(Am:Aj u=ByteArray.mk #[])(Az:¬Bq u=0)(AP:x=true)(cx:Cx)(Aw:cx.n=87){Q:A4->S->Prop}(hq:Q (.normal) (S.mk [(1,.lp 1 0),(2,A6 0),(3,.v (.bool x)),(48,.v (.bool !CC (Af u) ((Av u).length:Int)))] [(1,CK u)] xe)):PW prog cx (AS f187 2) (Ro u x xe) Q:=
 pw A9 87 [rp 4 (Ar A7),rp 4 (Ar Aa),rp 4 (bf (!ByteArray.toList (Aj u)==ByteArray.toList Ai) (AI (BI Am))),Ar Aa,bf (!ByteArray.toList (Aj u)==ByteArray.toList Ai) (AI (BI Am)),Ar Aa,rp 4 (bf false),rp 2 (Bi Az),bf false,Bi Az,bf false,rp 5 (AM (AI AP)),sl (Pr.A0 (Av u)),AM (AI AP),cl (@rki (Af u) (((Av u).length:Int))),rp 2 (AM (AI AP))] [1,2,3,48] [1] Aw hq
theorem A1z(A7:¬Af u<1)(Aa:¬Af u>18)(Am:Aj u=ByteArray.mk #[])(Az:Bq u=0)(cx:Cx)(Aw:cx.n=87){Q:A4->S->Prop}(hq:Q (.normal) (S.mk [(1,.lp 1 0),(2,A6 0),(3,.v (.bool x)),(48,.v (.bool !CC (Af u) ((Av u).length:Int)))] [(1,CK u)] xe)):PW prog cx (AS f187 2) (Ro u x xe) Q:=
 pw A9 87 [rp 4 (Ar A7),rp 4 (Ar Aa),rp 4 (bf (!ByteArray.toList (Aj u)==ByteArray.toList Ai) (AI (BI Am))),Ar Aa,bf (!ByteArray.toList (Aj u)==ByteArray.toList Ai) (AI (BI Am)),Ar Aa,rp 4 (bf false),rp 2 (B1 Az),bf false,B1 Az,rp 6 (bf false),sl (Pr.A0 (Av u)),bf false,cl (@rki (Af u) (((Av u).length:Int))),rp 2 (bf false)] [1,2,3,48] [1] Aw hq
end
def Bn(u:Pr)(x:Bool):Bool:=(if Af u<1 then (true) else (if Af u>18 then (true) else (if Aj u=ByteArray.mk #[] then (if Bq u=0 then (!CC (Af u) ((Av u).length:Int)) else (if x=true then (!CC (Af u) ((Av u).length:Int)) else (true))) else (if FW (Af u)=true then (if Bq u=0 then (!CC (Af u) ((Av u).length:Int)) else (if x=true then (!CC (Af u) ((Av u).length:Int)) else (true))) else (true)))))
theorem Ta(u:Pr)(x:Bool)(xe:Ext):(Ob.ES 87 (AS f187 2) (Ro u x xe) (.normal) (S.mk [(1,.lp 1 0),(2,A6 0),(3,.v (.bool x)),(48,.v (.bool (Bn u x)))] [(1,CK u)] xe)).ok prog:=by
 intro cx Aw
 by_cases g0:Af u<1
 ·exact A1r u x xe g0 cx Aw ⟨rfl,by rw [show Bn u x=(true) by unfold Bn; rw [iP g0]]⟩
 ·by_cases g1:Af u>18
  ·exact A1s u x xe g0 g1 cx Aw ⟨rfl,by rw [show Bn u x=(true) by unfold Bn; rw [iN g0,iP g1]]⟩
  ·by_cases g2:Aj u=ByteArray.mk #[]
   ·by_cases g3:Bq u=0
    ·exact A1z u x xe g0 g1 g2 g3 cx Aw ⟨rfl,by rw [show Bn u x=(!CC (Af u) ((Av u).length:Int)) by unfold Bn; rw [iN g0,iN g1,iP g2,iP g3]]⟩
    ·by_cases g4:x=true
     ·exact A1y u x xe g0 g1 g2 g3 g4 cx Aw ⟨rfl,by rw [show Bn u x=(!CC (Af u) ((Av u).length:Int)) by unfold Bn; rw [iN g0,iN g1,iP g2,iN g3,iP g4]]⟩
     ·exact A1x u x xe g0 g1 g2 g3 (Bool.eq_false_iff.2 g4) cx Aw ⟨rfl,by rw [show Bn u x=(true) by unfold Bn; rw [iN g0,iN g1,iP g2,iN g3,iN g4]]⟩
   ·by_cases g3:FW (Af u)=true
    ·by_cases g4:Bq u=0
     ·exact A1w u x xe g0 g1 g2 g3 g4 cx Aw ⟨rfl,by rw [show Bn u x=(!CC (Af u) ((Av u).length:Int)) by unfold Bn; rw [iN g0,iN g1,iN g2,iP g3,iP g4]]⟩
     ·by_cases g5:x=true
      ·exact A1v u x xe g0 g1 g2 g3 g4 g5 cx Aw ⟨rfl,by rw [show Bn u x=(!CC (Af u) ((Av u).length:Int)) by unfold Bn; rw [iN g0,iN g1,iN g2,iP g3,iN g4,iP g5]]⟩
      ·exact A1u u x xe g0 g1 g2 g3 g4 (Bool.eq_false_iff.2 g5) cx Aw ⟨rfl,by rw [show Bn u x=(true) by unfold Bn; rw [iN g0,iN g1,iN g2,iP g3,iN g4,iN g5]]⟩
    ·exact A1t u x xe g0 g1 g2 (Bool.eq_false_iff.2 g3) cx Aw ⟨rfl,by rw [show Bn u x=(true) by unfold Bn; rw [iN g0,iN g1,iN g2,iN g3]]⟩
section
variable (u:Pr) (x:Bool) (xe:Ext)
include u x xe
theorem A20(A7:Af u=1)(Aa:Kw (Bq u)=false)(cx:Cx)(Aw:cx.n=87){Q:A4->S->Prop}(hq:Q (.normal) (S.mk [(1,.lp 1 0),(2,A6 0),(3,.v (.bool x)),(72,.v (.bool true))] [(1,CK u)] xe)):PW prog cx (AS f187 4) (Ro u x xe) Q:=
 pw A9 87 [rp 3 (Bb A7),cl (@rIn (Bq u)),rp 2 (Bb A7),rp 6 (AV (B0 Aa))] [1,2,3,72] [1] Aw hq
theorem A21(A7:Af u=1)(Aa:Kw (Bq u)=true)(cx:Cx)(Aw:cx.n=87){Q:A4->S->Prop}(hq:Q (.normal) (S.mk [(1,.lp 1 0),(2,A6 0),(3,.v (.bool x)),(72,.v (.bool false))] [(1,CK u)] xe)):PW prog cx (AS f187 4) (Ro u x xe) Q:=
 pw A9 87 [rp 3 (Bb A7),cl (@rIn (Bq u)),rp 2 (Bb A7),rp 4 (AM (AI Aa)),rp 5 (en (Af u) 2),AM (AI Aa),en (Af u) 2,AM (AI Aa)] [1,2,3,72] [1] Aw hq
theorem A22(A7:¬Af u=1)(Aa:Af u=2)(Am:Bq u<0)(cx:Cx)(Aw:cx.n=87){Q:A4->S->Prop}(hq:Q (.normal) (S.mk [(1,.lp 1 0),(2,A6 0),(3,.v (.bool x)),(72,.v (.bool true))] [(1,CK u)] xe)):PW prog cx (AS f187 4) (Ro u x xe) Q:=
 pw A9 87 [rp 5 (Ay A7),rp 4 (bf false),rp 4 (Bb Aa),rp 3 (BL Am),Bb Aa,BL Am,bf false,Bb Aa,bf false] [1,2,3,72] [1] Aw hq
theorem A23(A7:¬Af u=1)(Aa:Af u=2)(Am:¬Bq u<0)(cx:Cx)(Aw:cx.n=87){Q:A4->S->Prop}(hq:Q (.normal) (S.mk [(1,.lp 1 0),(2,A6 0),(3,.v (.bool x)),(72,.v (.bool (decide (Bq u>1))))] [(1,CK u)] xe)):PW prog cx (AS f187 4) (Ro u x xe) Q:=
 pw A9 87 [rp 5 (Ay A7),rp 4 (bf false),rp 4 (Bb Aa),rp 3 (Ar Am),Bb Aa,Ar Am,bf false,Bb Aa,bf false] [1,2,3,72] [1] Aw hq
theorem A24(A7:¬Af u=1)(Aa:¬Af u=2)(cx:Cx)(Aw:cx.n=87){Q:A4->S->Prop}(hq:Q (.normal) (S.mk [(1,.lp 1 0),(2,A6 0),(3,.v (.bool x)),(72,.v (.bool false))] [(1,CK u)] xe)):PW prog cx (AS f187 4) (Ro u x xe) Q:=
 pw A9 87 [rp 5 (Ay A7),rp 4 (bf false),rp 5 (Ay Aa),bf false,Ay Aa,bf false] [1,2,3,72] [1] Aw hq
end
def CV(u:Pr)(x:Bool):Bool:=(if Af u=1 then (if Kw (Bq u)=true then (false) else (true)) else (if Af u=2 then (if Bq u<0 then (true) else ((decide (Bq u>1)))) else (false)))
theorem VM(u:Pr)(x:Bool)(xe:Ext):(Ob.ES 87 (AS f187 4) (Ro u x xe) (.normal) (S.mk [(1,.lp 1 0),(2,A6 0),(3,.v (.bool x)),(72,.v (.bool (CV u x)))] [(1,CK u)] xe)).ok prog:=by
 intro cx Aw
 by_cases g0:Af u=1
 ·by_cases g1:Kw (Bq u)=true
  ·exact A21 u x xe g0 g1 cx Aw ⟨rfl,by rw [show CV u x=(false) by unfold CV; rw [iP g0,iP g1]]⟩
  ·exact A20 u x xe g0 (Bool.eq_false_iff.2 g1) cx Aw ⟨rfl,by rw [show CV u x=(true) by unfold CV; rw [iP g0,iN g1]]⟩
 ·by_cases g1:Af u=2
  ·by_cases g2:Bq u<0
   ·exact A22 u x xe g0 g1 g2 cx Aw ⟨rfl,by rw [show CV u x=(true) by unfold CV; rw [iN g0,iP g1,iP g2]]⟩
   ·exact A23 u x xe g0 g1 g2 cx Aw ⟨rfl,by rw [show CV u x=((decide (Bq u>1))) by unfold CV; rw [iN g0,iP g1,iN g2]]⟩
  ·exact A24 u x xe g0 g1 cx Aw ⟨rfl,by rw [show CV u x=(false) by unfold CV; rw [iN g0,iN g1]]⟩
section
variable (u:Pr) (x:Bool) (JY:Af u=8->0<(Av u).length) (xe:Ext)
include u x JY xe
theorem A25(A7:Af u=8)(cx:Cx)(Aw:cx.n=87){Q:A4->S->Prop}(hq:Q (.normal) (S.mk [(1,.lp 1 0),(2,A6 0),(3,.v (.bool x)),(86,.v (.bool (Af (List.getD (Av u) 0 default) != 1)))] [(1,CK u)] xe)):PW prog cx (AS f187 8) (Ro u x xe) Q:=
 pw A9 87 [rp 3 (Bb A7),FG (Av u) 0,My (Av u) 0,rp 4 (Bb A7)] [1,2,3,86] [1] Aw hq
theorem A26(A7:¬Af u=8)(cx:Cx)(Aw:cx.n=87){Q:A4->S->Prop}(hq:Q (.normal) (S.mk [(1,.lp 1 0),(2,A6 0),(3,.v (.bool x)),(86,.v (.bool false))] [(1,CK u)] xe)):PW prog cx (AS f187 8) (Ro u x xe) Q:=
 pw A9 87 [rp 7 (Ay A7)] [1,2,3,86] [1] Aw hq
end
def Fa(u:Pr)(x:Bool):Bool:=(if Af u=8 then ((Af (List.getD (Av u) 0 default) != 1)) else (false))
theorem rR(u:Pr)(x:Bool)(JY:Af u=8->0<(Av u).length)(xe:Ext):(Ob.ES 87 (AS f187 8) (Ro u x xe) (.normal) (S.mk [(1,.lp 1 0),(2,A6 0),(3,.v (.bool x)),(86,.v (.bool (Fa u x)))] [(1,CK u)] xe)).ok prog:=by
 intro cx Aw
 by_cases g0:Af u=8
 ·exact A25 u x JY xe g0 cx Aw ⟨rfl,by rw [show Fa u x=((Af (List.getD (Av u) 0 default) != 1)) by unfold Fa; rw [iP g0]]⟩
 ·exact A26 u x JY xe g0 cx Aw ⟨rfl,by rw [show Fa u x=(false) by unfold Fa; rw [iN g0]]⟩
theorem A8y{u:Pr}(h:¬AY u (Ao (Af u)) (Ap (Af u))=true):Af u=8->0<(Av u).length:=fun h8=>by
 rcases Nat.eq_zero_or_pos (Av u).length with h0 | h0
 ·exfalso; apply h
  simp only [AY,Ce,Ao,Ap,h8,h0]
  simp
 ·exact h0
theorem Rp{u:Pr}(h:AY u (Ao (Af u)) (Ap (Af u))=false):Af u=8->0<(Av u).length:=A8y (by rw [h]; decide)
def rS:Md:=⟨fun _=>some false,fun t=>t==1000001||t==1000004||t==1000006||t==1000008||t==1000009||t==1000010||t==1000011||t==1000013⟩
section
variable (u:Pr) (A7:Dj u=false) (Aa:AY u (Ao (Af u)) (Ap (Af u))=false) (Am:CI u (Ao (Af u)) (Ap (Af u))=false)
include u A7 Aa Am
theorem A8z(Az:Ch u (Ao (Af u)) (Ap (Af u))=true)(AP:D7 u (Ao (Af u)) (Ap (Af u)) (Bh u (Ao (Af u)) (Ap (Af u))) (BX u (Ao (Af u)) (Ap (Af u)) (Bh u (Ao (Af u)) (Ap (Af u))))=false)(Bu:Dk u (Ao (Af u)) (Ap (Af u)) (Bh u (Ao (Af u)) (Ap (Af u))) (BX u (Ao (Af u)) (Ap (Af u)) (Bh u (Ao (Af u)) (Ap (Af u))))=true):Pu 226 [.agg (AN u)] (rI 6):=
 pu rS (fun e=>[lg (@MF (u) (e)),AM A7,cl (@pkS (Af u)),lg (@OE (u) (Ao (Af u)) (Ap (Af u)) (e)),AM Aa,lg (@Qj (u) (Ao (Af u)) (Ap (Af u)) (e)),AM Am,lg (@T8 (u) (Ao (Af u)) (Ap (Af u)) (e)),AV Az,lg (@bX (u) (Ao (Af u)) (Ap (Af u)) (e)),lg (@Ur (u) (Ao (Af u)) (Ap (Af u)) (Bh u (Ao (Af u)) (Ap (Af u))) (e)),lg (@Us (u) (Ao (Af u)) (Ap (Af u)) (Bh u (Ao (Af u)) (Ap (Af u))) (BX u (Ao (Af u)) (Ap (Af u)) (Bh u (Ao (Af u)) (Ap (Af u)))) (e)),AM AP,lg (@VK (u) (Ao (Af u)) (Ap (Af u)) (Bh u (Ao (Af u)) (Ap (Af u))) (BX u (Ao (Af u)) (Ap (Af u)) (Bh u (Ao (Af u)) (Ap (Af u)))) (by (apply Rp <;> first | assumption | omega | decide)) (e)),AV Bu]) func226
theorem A90(Az:Ch u (Ao (Af u)) (Ap (Af u))=true)(AP:D7 u (Ao (Af u)) (Ap (Af u)) (Bh u (Ao (Af u)) (Ap (Af u))) (BX u (Ao (Af u)) (Ap (Af u)) (Bh u (Ao (Af u)) (Ap (Af u))))=false)(Bu:Dk u (Ao (Af u)) (Ap (Af u)) (Bh u (Ao (Af u)) (Ap (Af u))) (BX u (Ao (Af u)) (Ap (Af u)) (Bh u (Ao (Af u)) (Ap (Af u))))=false):Pu 226 [.agg (AN u)] (rI 0):=
 pu rS (fun e=>[lg (@MF (u) (e)),AM A7,cl (@pkS (Af u)),lg (@OE (u) (Ao (Af u)) (Ap (Af u)) (e)),AM Aa,lg (@Qj (u) (Ao (Af u)) (Ap (Af u)) (e)),AM Am,lg (@T8 (u) (Ao (Af u)) (Ap (Af u)) (e)),AV Az,lg (@bX (u) (Ao (Af u)) (Ap (Af u)) (e)),lg (@Ur (u) (Ao (Af u)) (Ap (Af u)) (Bh u (Ao (Af u)) (Ap (Af u))) (e)),lg (@Us (u) (Ao (Af u)) (Ap (Af u)) (Bh u (Ao (Af u)) (Ap (Af u))) (BX u (Ao (Af u)) (Ap (Af u)) (Bh u (Ao (Af u)) (Ap (Af u)))) (e)),AM AP,lg (@VK (u) (Ao (Af u)) (Ap (Af u)) (Bh u (Ao (Af u)) (Ap (Af u))) (BX u (Ao (Af u)) (Ap (Af u)) (Bh u (Ao (Af u)) (Ap (Af u)))) (by (apply Rp <;> first | assumption | omega | decide)) (e)),AM Bu]) func226
theorem A91(Az:Ch u (Ao (Af u)) (Ap (Af u))=false)(AP:Dm u (Ao (Af u)) (Ap (Af u)) (Ch u (Ao (Af u)) (Ap (Af u)))=true):Pu 226 [.agg (AN u)] (rI 6):=
 pu rS (fun e=>[lg (@MF (u) (e)),AM A7,cl (@pkS (Af u)),lg (@OE (u) (Ao (Af u)) (Ap (Af u)) (e)),AM Aa,lg (@Qj (u) (Ao (Af u)) (Ap (Af u)) (e)),AM Am,lg (@T8 (u) (Ao (Af u)) (Ap (Af u)) (e)),AM Az,lg (@VL (u) (Ao (Af u)) (Ap (Af u)) (Ch u (Ao (Af u)) (Ap (Af u))) (by (apply Rp <;> first | assumption | omega | decide)) (e)),AV AP]) func226
theorem A92(Az:Ch u (Ao (Af u)) (Ap (Af u))=false)(AP:Dm u (Ao (Af u)) (Ap (Af u)) (Ch u (Ao (Af u)) (Ap (Af u)))=false):Pu 226 [.agg (AN u)] (rI 0):=
 pu rS (fun e=>[lg (@MF (u) (e)),AM A7,cl (@pkS (Af u)),lg (@OE (u) (Ao (Af u)) (Ap (Af u)) (e)),AM Aa,lg (@Qj (u) (Ao (Af u)) (Ap (Af u)) (e)),AM Am,lg (@T8 (u) (Ao (Af u)) (Ap (Af u)) (e)),AM Az,lg (@VL (u) (Ao (Af u)) (Ap (Af u)) (Ch u (Ao (Af u)) (Ap (Af u))) (by (apply Rp <;> first | assumption | omega | decide)) (e)),AM AP]) func226
end
def BG(u:Pr):Int:=(if Dj u=true then 1 else (if AY u (Ao (Af u)) (Ap (Af u))=true then 1 else (if CI u (Ao (Af u)) (Ap (Af u))=true then 2 else (if Ch u (Ao (Af u)) (Ap (Af u))=true then (if D7 u (Ao (Af u)) (Ap (Af u)) (Bh u (Ao (Af u)) (Ap (Af u))) (BX u (Ao (Af u)) (Ap (Af u)) (Bh u (Ao (Af u)) (Ap (Af u))))=true then 3 else (if Dk u (Ao (Af u)) (Ap (Af u)) (Bh u (Ao (Af u)) (Ap (Af u))) (BX u (Ao (Af u)) (Ap (Af u)) (Bh u (Ao (Af u)) (Ap (Af u))))=true then 6 else 0)) else (if Dm u (Ao (Af u)) (Ap (Af u)) (Ch u (Ao (Af u)) (Ap (Af u)))=true then 6 else 0)))))
theorem pnd(u:Pr):Pu 226 [.agg (AN u)] (rI (BG u)):=by
 by_cases h0:Dj u=true
 ·simp only [BG,iP h0]; exact pu rS (fun e=>[lg (@MF (u) (e)),AV h0]) func226
 ·by_cases h1:AY u (Ao (Af u)) (Ap (Af u))=true
  ·simp only [BG,iN h0,iP h1]; exact pu rS (fun e=>[lg (@MF (u) (e)),AM (Db h0),cl (@pkS (Af u)),lg (@OE (u) (Ao (Af u)) (Ap (Af u)) (e)),AV h1]) func226
  ·by_cases h2:CI u (Ao (Af u)) (Ap (Af u))=true
   ·simp only [BG,iN h0,iN h1,iP h2]; exact pu rS (fun e=>[lg (@MF (u) (e)),AM (Db h0),cl (@pkS (Af u)),lg (@OE (u) (Ao (Af u)) (Ap (Af u)) (e)),AM (Db h1),lg (@Qj (u) (Ao (Af u)) (Ap (Af u)) (e)),AV h2]) func226
   ·by_cases h3:Ch u (Ao (Af u)) (Ap (Af u))=true
    ·by_cases h4:D7 u (Ao (Af u)) (Ap (Af u)) (Bh u (Ao (Af u)) (Ap (Af u))) (BX u (Ao (Af u)) (Ap (Af u)) (Bh u (Ao (Af u)) (Ap (Af u))))=true
     ·simp only [BG,iN h0,iN h1,iN h2,iP h3,iP h4]; exact pu rS (fun e=>[lg (@MF (u) (e)),AM (Db h0),cl (@pkS (Af u)),lg (@OE (u) (Ao (Af u)) (Ap (Af u)) (e)),AM (Db h1),lg (@Qj (u) (Ao (Af u)) (Ap (Af u)) (e)),AM (Db h2),lg (@T8 (u) (Ao (Af u)) (Ap (Af u)) (e)),AV h3,lg (@bX (u) (Ao (Af u)) (Ap (Af u)) (e)),lg (@Ur (u) (Ao (Af u)) (Ap (Af u)) (Bh u (Ao (Af u)) (Ap (Af u))) (e)),lg (@Us (u) (Ao (Af u)) (Ap (Af u)) (Bh u (Ao (Af u)) (Ap (Af u))) (BX u (Ao (Af u)) (Ap (Af u)) (Bh u (Ao (Af u)) (Ap (Af u)))) (e)),AV h4]) func226
     ·by_cases h5:Dk u (Ao (Af u)) (Ap (Af u)) (Bh u (Ao (Af u)) (Ap (Af u))) (BX u (Ao (Af u)) (Ap (Af u)) (Bh u (Ao (Af u)) (Ap (Af u))))=true
      ·simp only [BG,iN h0,iN h1,iN h2,iP h3,iN h4,iP h5]; exact A8z u (Db h0) (Db h1) (Db h2) h3 (Db h4) h5
      ·simp only [BG,iN h0,iN h1,iN h2,iP h3,iN h4,iN h5]; exact A90 u (Db h0) (Db h1) (Db h2) h3 (Db h4) (Db h5)
    ·by_cases h4:Dm u (Ao (Af u)) (Ap (Af u)) (Ch u (Ao (Af u)) (Ap (Af u)))=true
     ·simp only [BG,iN h0,iN h1,iN h2,iN h3,iP h4]; exact A91 u (Db h0) (Db h1) (Db h2) (Db h3) h4
     ·simp only [BG,iN h0,iN h1,iN h2,iN h3,iN h4]; exact A92 u (Db h0) (Db h1) (Db h2) (Db h3) (Db h4)
theorem rT(l:List Pr)(A7:¬(l.length:Int)=(0:Int)):Pu 174 [.sl 4 (Pr.cs l),.A2,.fn (.func 124) [] []] (rB false):=
 pm A9 [sl (Pr.A0 l),kp,Bi A7] func174
theorem rU(l:List Pr)(A7:(l.length:Int)=(0:Int)):Pu 174 [.sl 4 (Pr.cs l),.A2,.fn (.func 124) [] []] (rB true):=
 pm A9 [sl (Pr.A0 l),kp,B1 A7,sl (Pr.A0 l),ur,df (0<(l.length:Int))] func174
def isNil(l:List Pr):Bool:=decide ((l.length:Int)=0)
theorem Agl(l:List Pr):Pu 174 [.sl 4 (Pr.cs l),.A2,.fn (.func 124) [] []] (.ret (.bool (isNil l))):=by
 unfold isNil
 by_cases h:(l.length:Int)=0
 ·rw [decide_eq_true h]; first | exact rU l h | exact rT l h
 ·rw [decide_eq_false h]; first | exact rT l h | exact rU l h
def C0(u:Pr):Bool:=(if Af u=0 then (if Aj u=Ai then (if Bq u=0 then (isNil (Av u)) else false) else false) else false)
theorem psz(u:Pr):Pu 124 [.agg (AN u),.agg [pI 0,.str Ai,pI 0,.A2]] (rB (C0 u)):=by
 by_cases h0:Af u=0
 ·by_cases h1:Aj u=Ai
  ·by_cases h2:Bq u=0
   ·simp only [C0,iP h0,iP h1,iP h2]; exact pm A9 [rp 6 (Bb h0),rp 6 (bt (ByteArray.toList (Aj u)==ByteArray.toList Ai) (BI h1)),rp 5 (Bb h2),cl (@Agl (Av u)),Bb h2] func124
   ·simp only [C0,iP h0,iP h1,iN h2]; exact pm A9 [rp 6 (Bb h0),rp 6 (bt (ByteArray.toList (Aj u)==ByteArray.toList Ai) (BI h1)),rp 6 (Ay h2)] func124
  ·simp only [C0,iP h0,iN h1]; exact pm A9 [rp 6 (Bb h0),rp 6 (bf (ByteArray.toList (Aj u)==ByteArray.toList Ai) (Bp h1)),rp 6 (bf false)] func124
 ·simp only [C0,iN h0]; exact pm A9 [rp 6 (Ay h0),rp 12 (bf false)] func124
open Go.RowKit Go.Shelf Go.Pv
attribute [local go_sem] Oper.semAt_some
set_option maxRecDepth 100000
theorem Rq{F:Fence}(hd:F.depth=none)(k:Nat):F.room k:=fun d h=>by rw [hd] at h; cases h
theorem RoundIn.OF{F:Fence}(hd:F.depth=none){m m':Nat}{P:Program}{l:Nat}{f:FuncId}{tmps:Array Value}{assign body:Code}{w:World}{R:Ending->World->Prop}
  (h:RoundIn F m P l f tmps assign body w R):RoundIn F m' P l f tmps assign body w R:=⟨h.1,fun c cs _=>h.2 c cs (Rq hd _)⟩
theorem YieldAt.OF{F:Fence}(hd:F.depth=none){m:Nat}(m':Nat){P:Program}{l:Nat}{args:Array Value}{W:World}{R:Ending->World->Prop}(h:YieldAt F m P l args W R):YieldAt F m' P l args W R:=by
 obtain ⟨fn,tmps,assign,body,hy,hR⟩:=h
 exact ⟨fn,tmps,assign,body,hy,RoundIn.OF hd hR⟩
theorem Fw{g:Gh}{w w':World}(hb:Below w.heap.size w w'):C3 g w g w':=by
 refine ⟨fun _ _ h=>h,fun b o v hc hf=>⟨?_,hf⟩,fun b cur e hh=>⟨cur,?_,rfl⟩,fun _ _ _ h=>h⟩
 ·have Ac:b<w.heap.size:=by
   unfold World.cell? at hc
   cases hh:w.heap[b]? with
   | none=>simp [hh] at hc
   | some x=>exact (Array.getElem?_eq_some_iff.1 hh).1
  rw [<-hc]
  exact World.cell?_of_block (hb.block b Ac)
 ·exact (hb.block b (Array.getElem?_eq_some_iff.1 hh).1).trans hh
theorem M9{e:Ext}{g:Gh}{l:LG}{w w':World}(he:Tq e g l w)(hb:Below w.heap.size w w'):Tq e g l w' where
 ex x cs hx:=by
  obtain ⟨b,h1,h2,hE⟩:=he.ex x cs hx
  refine ⟨b,h1.mono (Fw hb),h2,?_⟩
  have hm:C3 g w g w':=Fw hb
  have hh:=hb.block b (he.R2 b _ h2)
  rcases hE with ⟨h3,cur,te,h4,h5,h6⟩ | hE
  ·refine .inl ⟨h3,cur,te,hh.trans h4,h5,fun j hj=>⟨(h6 j hj).1,(h6 j hj).2.1,?_⟩⟩
   exact (h6 j hj).2.2.BR hm (fun _ _ _=>rfl) fun b' hu=>⟨hu,rfl,hb.block b' (he.R2 b' _ (he.uo _ b' hu))⟩
  ·exact .inr (hE.BR hm (fun _ _ _ h=>h) rfl hh)
 R2 b o ho:=Nat.lt_of_lt_of_le (he.R2 b o ho) hb.size
 uo:=he.uo
 fresh:=⟨fun b h=>he.fresh.1 b (Nat.le_trans hb.size h),he.fresh.2⟩
 GH n b h:=Nat.lt_of_lt_of_le (he.GH n b h) hb.size
 only:=he.only
 Kf:=he.Kf.mono (Fw hb)
theorem Qk{P:Program}{f:FuncId}{args:List PV}{vs:List Value}{k:Int}{g:Gh}{l:LG}{w:World}(h:(Ob.Rb f args (.ret (.int .i64 k))).ok P)(ha:AG g w args vs)(he:Tq [] g l w) :
  Calls P f vs.toArray w fun enz w'=>enz = .returned (.int .i64 k)/\Below w.heap.size w w':=by
 refine (h.2 [] vs g ⟨fun _=>none,fun _=>none,fun _=>none⟩ w ha ⟨fun x cs hx=>(by simp [lk] at hx),fun b o ho=>(by cases ho),fun p b hb=>(by cases hb),he.fresh,he.GH,fun b o ho=>(by cases ho),he.Kf⟩).mono ?_
 rintro enz w' ⟨r,e2,g',l',⟨rfl,rfl⟩,Be,Sj,PX,Bk,WG,R3,os,tape,output⟩
 refine ⟨?_,os,tape,output,Bk,fun b hb=>(WG b hb rfl).1⟩
 cases enz <;> first | exact Be.elim | skip
 rename_i v
 have h1:BN g' w' (.int .i64 k) v:=Be
 cases h1
 rfl
theorem KC.OG{w W:World}(h:Below w.heap.size w W):KC w W:=⟨h.size,fun k o hk _=>(h.block k (Array.getElem?_eq_some_iff.1 hk).1).trans hk⟩
theorem Rr(F:Fence)(hd:F.depth=none)(n:Nat)(A14:F.fn 267)(bT:F.fn 268)(rL:F.round=none)(g:Gh)(W0 w:World)(Bs:Nat)(x:Nd g W0)(LF:KC W0 w)(hBs:Bs<w.heap.size)
  (h1:w.cell? ⟨Bs,0,none⟩=some (.int .i64 (Af x.1.1))) (h2:w.cell? ⟨Bs,1,none⟩=some (.string (Aj x.1.1))) (h3:w.cell? ⟨Bs,2,none⟩=some (.int .i64 (Bq x.1.1))) (h4:w.cell? ⟨Bs,3,none⟩=some (.slice x.1.2.1 x.1.2.2.1 x.1.2.2.2)) :
  SeqStopsK F n prog 267 #[.pointer (some ⟨Bs,0,none⟩)] (fun y:Nd g W0=>#[y.enc]) KC (fun ys=>ys.map (·.1.1)=Cb x.1.1) (fun ys=>ys.map (·.1.1) <+: Cb x.1.1) (Cb x.1.1).length w:=fun l J Jx W hW hJ _ hY h0=>
 Uq F hd A14 bT rL g W0 l Bs x n J Jx (fun s W W' hs hg=>hJ s W W' none hs hg (fun r e=>by cases e))
  (fun m pre y W hj hl=>YieldAt.OF hd m (hY pre y W hj hl)) W (LF.trans (KC.OG hW)) ((hW.cell (p:=⟨Bs,0,none⟩) hBs).trans h1) ((hW.cell (p:=⟨Bs,1,none⟩) hBs).trans h2) ((hW.cell (p:=⟨Bs,2,none⟩) hBs).trans h3) ((hW.cell (p:=⟨Bs,3,none⟩) hBs).trans h4) h0
def Hf(p:Pr):Int:=if mP p>400 then 7 else if rQ p>40 then 8 else Bg BG (Cb p)
theorem cA{g:Gh}{W0:World}(x:Nd g W0):AG g W0 [.agg (AN x.1.1)] [x.enc]:=by
 refine .cons ?_ .nil
 refine .agg _ [_,_,_,_] rfl (fun v hv=>?_) fun j hj Cu=>?_
 ·simp only [List.mem_cons,List.not_mem_nil,or_false] at hv
  rcases hv with rfl | rfl | rfl | rfl <;> rfl
 ·match j with
  | 0=>exact .int _ _
  | 1=>exact .str _
  | 2=>exact .int _ _
  | 3=>exact x.2
theorem MG{w W:World}(h:Below w.heap.size w W)(o:Obj):Below w.heap.size w (W.alloc o):=h.alloc h.size o
def Fr(p:Pr)(oa:Option Addr)(m c:Nat)(w W:World):Prop:=
 W.cell? ⟨w.heap.size,0,none⟩=some (.int .i64 (Af p))/\W.cell? ⟨w.heap.size,1,none⟩=some (.string (Aj p))/\W.cell? ⟨w.heap.size,2,none⟩=some (.int .i64 (Bq p))/\W.cell? ⟨w.heap.size,3,none⟩=some (.slice oa m c) /\
 W.cell? ⟨w.heap.size+1,0,none⟩=some (.int .i64 0)/\W.frozen? ⟨w.heap.size+1,0,none⟩=false
theorem A27(p:Pr)(oa:Option Addr)(m c:Nat)(w:World):Fr p oa m c w ((w.alloc (.cells #[.int .i64 (Af p),.string (Aj p),.int .i64 (Bq p),.slice oa m c] 41)).alloc (.cells #[.int .i64 0] 50)):=by
 have h1:((w.alloc (.cells #[.int .i64 (Af p),.string (Aj p),.int .i64 (Bq p),.slice oa m c] 41)).alloc (.cells #[.int .i64 0] 50)).heap[w.heap.size]?=some (.cells #[.int .i64 (Af p),.string (Aj p),.int .i64 (Bq p),.slice oa m c] 41):=
  (Below.heap_alloc _ _ _ sM).trans (World.alloc_heap_new w _)
 have h2:((w.alloc (.cells #[.int .i64 (Af p),.string (Aj p),.int .i64 (Bq p),.slice oa m c] 41)).alloc (.cells #[.int .i64 0] 50)).heap[w.heap.size+1]?=some (.cells #[.int .i64 0] 50):=by
  have:=World.alloc_heap_new (w.alloc (.cells #[.int .i64 (Af p),.string (Aj p),.int .i64 (Bq p),.slice oa m c] 41)) (.cells #[.int .i64 0] 50)
  rwa [World.size_alloc] at this
 unfold Fr World.cell? World.frozen?
 rw [h1,h2]
 exact ⟨rfl,rfl,rfl,rfl,rfl,rfl⟩
theorem Fr.kept{p:Pr}{oa:Option Addr}{m c:Nat}{w A B:World}(h:Fr p oa m c w A)(hl:w.heap.size+2<=A.heap.size)(hb:Below A.heap.size A B):Fr p oa m c w B:=by
 have k1:=hb.block w.heap.size oM
 have k2:=hb.block (w.heap.size+1) oM
 unfold Fr World.cell? World.frozen? at h ⊢
 rw [k1,k2]
 exact h
set_option maxHeartbeats 4000000 in
theorem cB(p:Pr)(hs:A3 (AN p)<=100000000)(g:Gh)(l0:LG)(w:World)(oa:Option Addr)(m c:Nat)(hr:BN g w (.sl 4 (Pr.cs (Av p))) (.slice oa m c))(he:Tq [] g l0 w) :
  Calls prog 173 #[Pn p (.slice oa m c)] w fun e w'=>e = .returned (.int .i64 (Hf p))/\Below w.heap.size w w':=by
 refine (callsIn_wide (n:=6)).1 ?_
 obtain ⟨x,hx⟩:∃x:Nd g w,x.1=(p,oa,m,c):=⟨⟨(p,oa,m,c),hr⟩,rfl⟩
 have Agm:AG g w [.agg (AN p)] [Pn p (.slice oa m c)]:=by have:=cA x; rw [Nd.enc,hx] at this; exact this
 refine callsIn_of_wp_marks func173 rfl trivial ?_ rfl
 simp only [Tryz.ntmps173,List.size_toArray,List.length_cons,List.length_nil,Nat.reduceAdd,Nat.reduceSub,Array.replicate_succ,Array.replicate_zero,List.push_toArray,List.append_toArray,List.nil_append,List.cons_append]
 have hf1:=A27 p oa m c w
 have hb1:Below w.heap.size w ((w.alloc (.cells #[.int .i64 (Af p),.string (Aj p),.int .i64 (Bq p),.slice oa m c] 41)).alloc (.cells #[.int .i64 0] 50)):=MG (MG (Below.refl _ _) _) _
 have jQ:w.heap.size+2<=((w.alloc (.cells #[.int .i64 (Af p),.string (Aj p),.int .i64 (Bq p),.slice oa m c] 41)).alloc (.cells #[.int .i64 0] 50)).heap.size:=by simp
 generalize oZ:(w.alloc (.cells #[.int .i64 (Af p),.string (Aj p),.int .i64 (Bq p),.slice oa m c] 41)).alloc (.cells #[.int .i64 0] 50)=w1 at hf1 hb1 jQ
 have Bv:∀ (f:FuncId) (k:Int),Pu f [.agg (AN p)] (.ret (.int .i64 k))->∀ (W:World),Fr p oa m c w W->Below w.heap.size w W->w.heap.size+2<=W.heap.size->CallsIn Fence.wide 5 prog f #[Pn p (.slice oa m c)] W fun e W'=>e = .returned (.int .i64 k)/\Fr p oa m c w W'/\Below w.heap.size w W'/\w.heap.size+2<=W'.heap.size:=by
  intro f k hk W hF hB hS
  refine callsIn_wide.2 ?_
  refine (Qk hk (Agm.mono (Fw hB)) (M9 he hB)).mono ?_
  rintro e W' ⟨h1,h2⟩
  exact ⟨h1,hF.kept hS h2,hB.trans (h2.mono hB.size),Nat.le_trans hS h2.size⟩
 obtain ⟨c0,c1,c2,c3,r0,rf⟩:=id hf1
 have k98:=Bv 223 _ (pqT p hs) w1 hf1 hb1 jQ
 gi_wp2_with (first
  | (refine ⟨trivial,?_⟩; gi_at_call 223; refine k98.mono ?_; clear k98; rintro e W2 ⟨rfl,hf2,TI,kV⟩; clear c0 c1 c2 c3 r0 rf; obtain ⟨c0,c1,c2,c3,r0,rf⟩:=id hf2; have k99:=Bv 224 _ (peT p hs) W2 hf2 TI kV)
  | (refine ⟨trivial,?_⟩; gi_at_call 224; refine k99.mono ?_; clear k99; rintro e W3 ⟨rfl,hf3,hb3,hz3⟩; clear c0 c1 c2 c3 r0 rf; obtain ⟨c0,c1,c2,c3,r0,rf⟩:=id hf3)
  | (refine ⟨trivial,?_⟩; gi_at_call 225; refine (Xd Fence.wide 5 trivial rfl p oa m c _).mono ?_; rintro e W4 ⟨rfl,rfl⟩))
 ·have hgt:mP p>400:=by omega
  have hc5:=World.cell?_setCell_same' W2 ⟨w.heap.size+1,0,none⟩ (.int .i64 7) (by rw [r0]; rfl)
  refine ⟨.int .i64 7,by simp [results,f173,go_sem,hc5],?_,TI.setCell (p:=⟨w.heap.size+1,0,none⟩) sM _⟩
  unfold Hf; rw [iP hgt]
 ·have hgt:¬mP p>400:=by omega
  have A28:rQ p>40:=by omega
  have hc5:=World.cell?_setCell_same' W3 ⟨w.heap.size+1,0,none⟩ (.int .i64 8) (by rw [r0]; rfl)
  refine ⟨.int .i64 8,by simp [results,f173,go_sem,hc5],?_,hb3.setCell (p:=⟨w.heap.size+1,0,none⟩) sM _⟩
  unfold Hf; rw [iN hgt,iP A28]
 ·have hgt:¬mP p>400:=by omega
  have A28:¬rQ p>40:=by omega
  have oN:Hf p=Bg BG (Cb p):=by unfold Hf; rw [iN hgt,iN A28]
  have hzW:W3.heap.size<(W3.alloc (.cells #[.int .i64 (Af p),.string (Aj p),.int .i64 (Bq p),.slice oa m c] 41)).heap.size:=by simp
  have hb4:Below w.heap.size w (W3.alloc (.cells #[.int .i64 (Af p),.string (Aj p),.int .i64 (Bq p),.slice oa m c] 41)):=hb3.alloc hb3.size _
  have hz4:w.heap.size+2<=(W3.alloc (.cells #[.int .i64 (Af p),.string (Aj p),.int .i64 (Bq p),.slice oa m c] 41)).heap.size:=by simp; omega
  have A29:(W3.alloc (.cells #[.int .i64 (Af p),.string (Aj p),.int .i64 (Bq p),.slice oa m c] 41)).heap[W3.heap.size]?=some (.cells #[.int .i64 (Af p),.string (Aj p),.int .i64 (Bq p),.slice oa m c] 41):=World.alloc_heap_new _ _
  have hf4:Fr p oa m c w (W3.alloc (.cells #[.int .i64 (Af p),.string (Aj p),.int .i64 (Bq p),.slice oa m c] 41)):=hf3.kept hz3 ((Below.refl _ _).alloc (Nat.le_refl _) _)
  clear Bv c0 c1 c2 c3 r0 rf hf1 hb1 jQ oZ hf2 TI kV
  generalize hW4:W3.alloc (.cells #[.int .i64 (Af p),.string (Aj p),.int .i64 (Bq p),.slice oa m c] 41)=W4 at hzW hb4 hz4 A29 hf4 ⊢
  generalize hBs:W3.heap.size=Bs at hzW A29 ⊢
  have FB:∀j,W4.cell? ⟨Bs,j,none⟩ = #[Value.int .i64 (Af p),.string (Aj p),.int .i64 (Bq p),.slice oa m c][j]?:=fun j=>by unfold World.cell?; rw [A29]; rfl
  have Cw:=Rr Fence.wide rfl 5 trivial trivial rfl g w W4 Bs x (KC.OG hb4) hzW (by rw [hx]; exact FB 0) (by rw [hx]; exact FB 1) (by rw [hx]; exact FB 2) (by rw [hx]; exact FB 3)
  obtain ⟨_,_,_,_,r0,rf⟩:=hf4
  refine wpIn_rangeFunc_ownH rfl oM (gf:=267) (lb:=#[.pointer (some ⟨Bs,0,none⟩)]) rfl trivial (enters_of func267 kR rfl) Cw KC.trans
   (fun W l o o' hl hh ho _=>⟨by simp,fun k o2 hk S6=>(World.putObj_heap_other (fun e=>by subst e; rw [hh] at hk; cases hk; rw [ho] at S6; cases S6)).trans hk⟩) (Below.refl _ _) (fun _=>rfl)
   (fun pre W=>((∀y∈pre,BG y.1.1=0)/\W.cell? ⟨w.heap.size+1,0,none⟩=some (.int .i64 0)/\W.frozen? ⟨w.heap.size+1,0,none⟩=false)/\Below w.heap.size w W)
   (fun cdz pre W=>(cdz = .ret/\∃ps y,pre=ps++[y]/\(∀z∈ps,BG z.1.1=0)/\¬BG y.1.1=0/\W.cell? ⟨w.heap.size+1,0,none⟩=some (.int .i64 (BG y.1.1)))/\Below w.heap.size w W)
   (OwnFrom.and (Own.from (fun s A B row hs hg hr=>⟨hs.1,cell_kept hs.2.1 hg hr,(frozen_kept hs.2.1 hg hr).trans hs.2.2⟩) _) (ownFrom_below (Nat.le_refl _) oM))
   (fun cdz=>OwnFrom.and (Own.from (fun s A B row hs hg hr=>⟨hs.1,let ⟨ps,y,k1,k2,k3,k4⟩:=hs.2; ⟨ps,y,k1,k2,k3,cell_kept k4 hg hr⟩⟩) _) (ownFrom_below (Nat.le_refl _) oM))
   ⟨⟨fun y hy=>(by cases hy),r0,rf⟩,hb4⟩
   (fun y a' W=>∃Bx,w.heap.size+2<=Bx/\W.heap[Bx]?=some (.cells #[.int .i64 (Af y.1.1),.string (Aj y.1.1),.int .i64 (Bq y.1.1),.slice y.1.2.1 y.1.2.2.1 y.1.2.2.2] 41) /\
    a'={ tmps:=#[Pn p (.slice oa m c),.pointer (some ⟨w.heap.size,0,none⟩),.pointer (some ⟨w.heap.size+1,0,none⟩),.pointer (some ⟨Bx,0,none⟩),undef,Pn p (.slice oa m c),.int .i64 (mP p),.bool false,Pn p (.slice oa m c),.int .i64 (rQ p),.bool false,Pn p (.slice oa m c),.func (.func 267) #[] #[.pointer (some ⟨Bs,0,none⟩)],y.enc,undef,undef,undef,undef,undef],defers:=[] })
   (fun y a' s A B row hs hg hr=>by
    obtain ⟨Bx,h1,h2,h3⟩:=hs
    refine ⟨Bx,h1,(hg.block Bx (Array.getElem?_eq_some_iff.1 h2).1 (fun e=>?_)).trans h2,h3⟩
    obtain ⟨_,o,ho,hc⟩:=hr Bx e.symm
    rw [h2] at ho; cases ho; cases hc) ?assign ?body ?done ?stop
  case assign=>
   rintro l pre y W K ⟨⟨hz,q0,qf⟩,hB⟩ hK
   have YQ:w.heap.size+1<W.heap.size:=by
    unfold World.cell? at q0
    cases hh:W.heap[w.heap.size+1]? with
    | none=>simp [hh] at q0
    | some o=>exact (Array.getElem?_eq_some_iff.1 hh).1
   simp only [Nd.enc]
   obtain ⟨q,kB,m',c',hyx⟩:∃q kB m' c',y.1=(q,kB,m',c'):=⟨_,_,_,_,rfl⟩
   simp only [Nd.enc,hyx] at hK ⊢
   gi_wp2
   exact hK _ _ ((KeepsOthers.alloc _ _).from _) ((KC.refl W).alloc _) ⟨⟨hz,cell_kept q0 (World.grownBy_alloc W _ none) (fun r e=>by cases e),(frozen_kept q0 (World.grownBy_alloc W _ none) (fun r e=>by cases e)).trans qf⟩,hB.alloc hB.size _⟩ ⟨W.heap.size,by omega,World.alloc_heap_new _ _,rfl⟩
  case body=>
   rintro l pre y a' W hl ⟨r,Na⟩ ⟨⟨hz,q0,qf⟩,hB⟩ ⟨Bx,hBx,hbx,rfl⟩ Ac
   have YQ:w.heap.size+1<W.heap.size:=by
    unfold World.cell? at q0
    cases hh:W.heap[w.heap.size+1]? with
    | none=>simp [hh] at q0
    | some o=>exact (Array.getElem?_eq_some_iff.1 hh).1
   have Ut:CallsIn (Fence.wide.inRound l) (6 - 1 - 1 - 1) prog 226 #[y.enc] W fun e W'=>e = .returned (.int .i64 (BG y.1.1))/\Below W.heap.size W W'/\W'.cell? ⟨w.heap.size+1,0,none⟩=some (.int .i64 0)/\W'.frozen? ⟨w.heap.size+1,0,none⟩=false:=by
    refine CallsIn.inRound l (callsIn_wide.2 ((Qk (pnd y.1.1) ((cA y).mono (Fw hB)) (M9 he hB)).mono ?_))
    rintro e W' ⟨h1,h2⟩
    have A93:=h2.block (w.heap.size+1) YQ
    refine ⟨h1,h2,?_,?_⟩
    ·unfold World.cell? at q0 ⊢; rw [A93]; exact q0
    ·unfold World.frozen? at qf ⊢; rw [A93]; exact qf
   simp only [Nd.enc] at Ut ⊢
   have hxB:∀j,W.cell? ⟨Bx,j,none⟩ = #[Value.int .i64 (Af y.1.1),.string (Aj y.1.1),.int .i64 (Bq y.1.1),.slice y.1.2.1 y.1.2.2.1 y.1.2.2.2][j]?:=fun j=>by unfold World.cell?; rw [hbx]; rfl
   have c0:=hxB 0
   have c1:=hxB 1
   have c2:=hxB 2
   have c3:=hxB 3
   clear hxB hbx Cw FB
   generalize hpn:BG y.1.1=k at Ut
   obtain ⟨q,kB,m',c',hyx⟩:∃q kB m' c',y.1=(q,kB,m',c'):=⟨_,_,_,_,rfl⟩
   simp only [hyx,List.getElem?_toArray,List.getElem?_cons_zero,List.getElem?_cons_succ] at Ut c0 c1 c2 c3 ⊢
   clear hyx
   by_cases LF:k=0
   ·subst LF
    gi_wp2_with (refine ⟨trivial,?_⟩; gi_at_call 226; refine Ut.mono ?_; clear Ut; rintro e W2 ⟨rfl,rV,p0,pf⟩)
    refine ⟨⟨rV.size,fun k o _ hk _=>(rV.block k (Array.getElem?_eq_some_iff.1 hk).1).trans hk⟩,KC.OG rV,⟨fun z UX=>?_,p0,pf⟩,hB.trans (rV.mono hB.size)⟩
    rcases List.mem_append.1 UX with h | h
    ·exact hz z h
    ·simp only [List.mem_singleton] at h; subst h; exact hpn
   ·gi_wp2_with (refine ⟨trivial,?_⟩; gi_at_call 226; refine Ut.mono ?_; clear Ut; rintro e W2 ⟨rfl,rV,p0,pf⟩)
    have hw2:=World.cell?_setCell_same' W2 ⟨w.heap.size+1,0,none⟩ (.int .i64 k) (by rw [p0]; rfl)
    exact ⟨(show KeepsFrom W4.heap.size W W2 from ⟨rV.size,fun k o _ hk _=>(rV.block k (Array.getElem?_eq_some_iff.1 hk).1).trans hk⟩).trans ((KeepsOthers.setCell W2 _ _).from _),
     ⟨rfl,pre,y,rfl,hz,by rw [hpn]; exact LF,by rw [hpn]; exact hw2⟩,(hB.trans (rV.mono hB.size)).setCell (p:=⟨w.heap.size+1,0,none⟩) sM _⟩
  case done=>
   rintro D ys W hD hS ⟨⟨hz,q0,qf⟩,hB⟩ hK
   gi_wp2
   have hK':=(KeepsOthers.setCell W ⟨w.heap.size+1,0,none⟩ (.int .i64 0)).same D _ hK rfl
   refine ⟨by simp,.inl ⟨_,_,rfl,run_takeDeferred hK',?_⟩⟩
   have hc5:=cell_kept (World.cell?_setCell_same' W ⟨w.heap.size+1,0,none⟩ (.int .i64 0) (by rw [q0]; rfl)) (grownBy_putObj' _ D (.deferred none)) (fun r e=>by cases e; exact ⟨_,hK',rfl⟩)
   refine ⟨.int .i64 0,by simp [results,f173,go_sem,hc5],?_,?_⟩
   ·have:∀zs:List (Nd g w),(∀z∈zs,BG z.1.1=0)->Bg BG (zs.map (·.1.1))=0:=fun zs=>by
     induction zs with
     | nil=>intro _; rfl
     | cons a r ih=>intro h; simp only [List.map_cons,Bg]; rw [iP (h a sM)]; exact ih fun z hz=>h z (List.mem_cons_of_mem _ hz)
    have h1:=this ys hz
    rw [hS,hx] at h1
    rw [h1]
   ·exact (hB.setCell (p:=⟨w.heap.size+1,0,none⟩) sM _).trans (belowK_b (w:=w) (Nat.le_refl _) _ D _ _ oM hK' rfl rfl)
  case stop=>
   rintro D cdz pre W hD hS ⟨⟨rfl,ps,y,rfl,hz,De,q0⟩,hB⟩ hK
   gi_wp2
   refine ⟨by simp,.inl ⟨_,_,rfl,run_takeDeferred hK,?_⟩⟩
   have hc5:=cell_kept q0 (grownBy_putObj' _ D (.deferred none)) (fun r e=>by cases e; exact ⟨_,hK,rfl⟩)
   refine ⟨.int .i64 (BG y.1.1),by simp [results,f173,go_sem,hc5],?_,hB.trans (belowK_b (w:=w) (Nat.le_refl _) _ D _ _ oM hK rfl rfl)⟩
   have:∀ (zs:List (Nd g w)) (rest:List Pr),(∀z∈zs,BG z.1.1=0)->Bg BG ((zs++[y]).map (·.1.1)++rest)=BG y.1.1:=fun zs rest=>by
    induction zs with
    | nil=>intro _; simp only [List.nil_append,List.map_cons,List.map_nil,List.cons_append,Bg]; rw [iN De]
    | cons a r ih=>intro h; simp only [List.cons_append,List.map_cons,Bg]; rw [iP (h a sM)]; exact ih fun z hz=>h z (List.mem_cons_of_mem _ hz)
   obtain ⟨rest,A94⟩:=hS
   have h1:=this ps rest hz
   rw [A94,hx] at h1
   rw [h1]
mutual
theorem cC:∀p:Pr,EH (AN p)=true
 | .mk o s n ks=>by simp only [Av,EH,PV.I4,cD ks,Bool.and_self]
theorem cD:∀l:List Pr,Fl (Pr.cs l)=true
 | []=>rfl
 | x::r=>by rw [show Pr.cs (x::r)=AN x::Pr.cs r by simp [Pr.AD],Fl,cD r,cC x]; rfl
end
theorem pcT(p:Pr)(hs:A3 (AN p)<=100000000):Pu 173 [.agg (AN p)] (.ret (.int .i64 (Hf p))):=by
 refine Ob.Dr (e':=[]) (by have h1:=cC p; simp only [EH,PV.I4,Bool.and_true,Bool.true_and] at h1 ⊢; exact h1) rfl ⟨by kernel_rfl,fun vs g l w ha he=>?_⟩
 obtain ⟨v,kF,rfl,hr,ha'⟩:=ha.Hg
 obtain rfl:=ha'.QB
 obtain ⟨oa,m,c,hk,rfl⟩:∃oa m c,BN g w (.sl 4 (Pr.cs (Av p))) (.slice oa m c)/\v=Pn p (.slice oa m c):=by
  generalize he:AN p=cs at hr
  cases hr with
  | agg _ vs h1 ho h=>
   subst he
   match vs,h1,h with
   | [v0,v1,v2,v3],_,h=>
    have r0:BN g w (.int .i64 (Af p)) v0:=h 0 sM sM
    have r1:BN g w (.str (Aj p)) v1:=h 1 sM sM
    have r2:BN g w (.int .i64 (Bq p)) v2:=h 2 sM sM
    have r3:BN g w (.sl 4 (Pr.cs (Av p))) v3:=h 3 sM sM
    obtain ⟨oa,m,c,rfl⟩:=bQ r3
    cases r0; cases r1; cases r2
    exact ⟨oa,m,c,r3,rfl⟩
 refine (cB p hs g l w oa m c hk he).mono ?_
 rintro enz w' ⟨rfl,Uu⟩
 exact ⟨_,[],g,l,⟨rfl,rfl⟩,.int _ _,M9 he Uu,Fw Uu,Uu.size,fun b hb _=>⟨Uu.block b hb,rfl⟩,fun b o ho => .inr (by rw [ho]; rfl),Uu.os,Uu.tape,Uu.output⟩
theorem kk1{n c:Int}:(if n<c then true else decide (n>c)) = !(n==c):=by
 by_cases h:n<c
 ·rw [iP h,show (n==c)=false from by rw [beq_eq_false_iff_ne]; omega]; rfl
 ·rw [iN h]
  by_cases h2:n=c
  ·subst h2; simp
  ·rw [decide_eq_true (by omega:n>c),show (n==c)=false from by rw [beq_eq_false_iff_ne]; exact h2]; rfl
theorem kk2{n a b:Int}:(if n<a then true else decide (n>b)) = !(if n>=a then decide (n<=b) else false):=by
 by_cases h:n<a
 ·rw [iP h,iN oM]; rfl
 ·rw [iN h,iP oM]
  by_cases h2:n<=b
  ·rw [decide_eq_true h2,decide_eq_false oM]; rfl
  ·rw [decide_eq_false h2,decide_eq_true oM]; rfl
theorem kk(o n:Int):(if n<Ao o then true else decide (n>Ap o)) = !CC o n:=by
 unfold Ao Ap CC
 by_cases h1:o=1
 ·simp only [h1,if_true]; exact kk1
 ·by_cases h2:o=2
  ·simp only [h1,h2,if_true,if_false]; exact kk1
  ·by_cases h3:o=3
   ·simp only [h1,h2,h3,if_true,if_false]; exact kk1
   ·by_cases h4:o=4
    ·simp only [h1,h2,h3,h4,if_true,if_false]; exact kk2
    ·by_cases h5:o=5
     ·simp only [h1,h2,h3,h4,h5,if_true,if_false]; exact kk2
     ·by_cases h9:o=9
      ·simp only [h1,h2,h3,h4,h5,h9,if_true,if_false]; exact kk1
      ·by_cases h14:o=14
       ·simp only [h1,h2,h3,h4,h5,h9,h14,if_true,if_false]; exact kk1
       ·simp only [h1,h2,h3,h4,h5,h9,h14,if_false]; exact kk1
theorem Agn(u:Pr)(h:Dj u=false):AY u (Ao (Af u)) (Ap (Af u))=Bn u (Bw u):=by
 unfold Dj at h
 by_cases h0:Af u<1
 ·rw [iP h0] at h; cases h
 ·rw [iN h0] at h
  have h1:¬Af u>18:=of_decide_eq_false h
  unfold AY Bn Bw
  rw [kk,iN h0,iN h1,show FW (Af u)=Ce (Af u) from rfl]
  generalize (!CC (Af u) ((Av u).length:Int))=K
  by_cases hn:Bq u=0 <;> by_cases Yd:Af u=1 <;> by_cases jR:Af u=2 <;> by_cases hm:Aj u=ByteArray.mk #[] <;> cases hp:Ce (Af u) <;> simp_all [Ce]
theorem Ago(u:Pr)(a b:Int)(x:Bool):CI u a b=CV u x:=by
 unfold CI CV
 by_cases h1:Af u=1
 ·rw [iP h1,iP h1]; rfl
 ·rw [iN h1,iN h1]
  by_cases h2:Af u=2
  ·rw [iP h2,iP h2]
   by_cases h3:Bq u=0
   ·rw [iP h3,iN oM,decide_eq_false oM]
   ·rw [iN h3]
    by_cases h4:Bq u<0
    ·rw [iP h4,bne_iff_ne.2 oM]
    ·rw [iN h4]
     by_cases h5:Bq u=1
     ·rw [h5]; rfl
     ·rw [decide_eq_true oM,bne_iff_ne.2 h5]
  ·rw [iN h2,iN h2]
theorem Agp(u:Pr)(a b:Int):(Ch u a b=true/\D7 u a b (Bh u a b) (BX u a b (Bh u a b))=true)↔EI u=false:=by
 unfold Ch D7 Bh BX EI Ce
 by_cases h3:Af u=3
 ·have h4:¬Af u=4:=by omega
  simp only [h3,if_true]
  by_cases hv:Aj u=ByteArray.mk #[118]
  ·simp only [BI hv,hv,if_true]; simp
  ·simp only [Bp hv,hv,if_false]; cases hc:BE (Aj u) <;> simp [CJ]
 ·by_cases h4:Af u=4
  ·simp only [h4,if_true]
   by_cases ht:Aj u=ByteArray.mk #[116,97,103]
   ·simp only [ht,if_true]; simp
   ·by_cases hv:Aj u=ByteArray.mk #[118,97,108]
    ·simp only [BI hv,ht,hv,if_true,if_false]; simp
    ·simp only [Bp hv,ht,hv,if_false]; cases hc:BE (Aj u) <;> simp [CJ]
  ·by_cases h5:Af u=5
   ·simp only [h5,if_true]; cases hc:BE (Aj u) <;> simp [CJ]
   ·simp [h3,h4,h5]
theorem A95{u:Pr}(h:¬Bn u (Bw u)=true):Af u=8->0<(Av u).length:=fun h8=>by
 rcases Nat.eq_zero_or_pos (Av u).length with h0 | h0
 ·exfalso; apply h
  simp only [Bn,Bw,FW,CC,h8,h0]
  by_cases hm:Aj u=ByteArray.mk #[] <;> by_cases hn:Bq u=0 <;> simp [hm,hn]
 ·exact h0
theorem cE{u:Pr}(h:Bn u (Bw u)=false):Af u=8->0<(Av u).length:=A95 (by rw [h]; decide)
def mdR:Md:=⟨fun _=>some false,fun t=>t==1000001||t==1000002||t==1000004||t==1000008⟩
section
variable (u:Pr) (A7:Bn u (Bw u)=false) (Aa:CV u (Bw u)=false) (Am:EI u=true)
include u A7 Aa Am
theorem A96(Az:Fa u (Bw u)=true):Pu 187 [.agg (AN u)] (rI 6):=
 pu mdR (fun e=>[lg (@T9 (u) (e)),lg (@Ta (u) (Bw u) (e)),AM A7,lg (@VM (u) (Bw u) (e)),AM Aa,cl (@rca (u)),AM (AI Am),lg (@rR (u) (Bw u) (by (apply cE <;> first | assumption | omega | decide)) (e)),AV Az]) func187
theorem A97(Az:Fa u (Bw u)=false):Pu 187 [.agg (AN u)] (rI 0):=
 pu mdR (fun e=>[lg (@T9 (u) (e)),lg (@Ta (u) (Bw u) (e)),AM A7,lg (@VM (u) (Bw u) (e)),AM Aa,cl (@rca (u)),AM (AI Am),lg (@rR (u) (Bw u) (by (apply cE <;> first | assumption | omega | decide)) (e)),AM Az]) func187
end
def Je(u:Pr):Int:=(if Bn u (Bw u)=true then 1 else (if CV u (Bw u)=true then 2 else (if EI u=false then 3 else (if Fa u (Bw u)=true then 6 else 0))))
theorem rnd(u:Pr):Pu 187 [.agg (AN u)] (rI (Je u)):=by
 by_cases h0:Bn u (Bw u)=true
 ·simp only [Je,iP h0]; exact pu mdR (fun e=>[lg (@T9 (u) (e)),lg (@Ta (u) (Bw u) (e)),AV h0]) func187
 ·by_cases h1:CV u (Bw u)=true
  ·simp only [Je,iN h0,iP h1]; exact pu mdR (fun e=>[lg (@T9 (u) (e)),lg (@Ta (u) (Bw u) (e)),AM (Db h0),lg (@VM (u) (Bw u) (e)),AV h1]) func187
  ·by_cases h2:EI u=false
   ·simp only [Je,iN h0,iN h1,iP h2]; exact pu mdR (fun e=>[lg (@T9 (u) (e)),lg (@Ta (u) (Bw u) (e)),AM (Db h0),lg (@VM (u) (Bw u) (e)),AM (Db h1),cl (@rca (u)),AV (B0 h2)]) func187
   ·by_cases h3:Fa u (Bw u)=true
    ·simp only [Je,iN h0,iN h1,iN h2,iP h3]; exact A96 u (Db h0) (Db h1) (JQ h2) h3
    ·simp only [Je,iN h0,iN h1,iN h2,iN h3]; exact A97 u (Db h0) (Db h1) (JQ h2) (Db h3)
end Go.Proofs.YthchpmnkecoafaaGreatDoor
