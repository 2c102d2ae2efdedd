/- Values of Go as plain data, an evaluator over them, and what the functions of the program return; part Yf. -/
import Derived.Test.YthchpmnkecoafaaGreatDoorYe
import Derived.Test.YthchpmnkecoafaaGreatDoorYa
set_option linter.unusedSectionVars false
set_option linter.unusedSimpArgs false
set_option linter.unusedVariables false
namespace Go.Proofs.YthchpmnkecoafaaGreatDoor
open Go.Proofs.Tryz
open Go.Pv Go.Proofs.Tryz
set_option maxRecDepth 100000
theorem FL(x:Pr):Am (Pr.cs (As x))<A6 (AO x):=by simp only [A6,CK]; omega
def A9(o:Int):Int:=(if o=1 then 0 else (if o=2 then 0 else (if o=3 then 0 else (if o=4 then 1 else (if o=5 then 1 else (if o=9 then 1 else (if o=14 then 1 else 2)))))))
def Aa(o:Int):Int:=(if o=1 then 0 else (if o=2 then 0 else (if o=3 then 0 else (if o=4 then 24 else (if o=5 then 24 else (if o=9 then 1 else (if o=14 then 1 else 2)))))))
theorem uB(o:Int):Pu 269 [pI o] (.ret (.AE [pI (A9 o),pI (Aa o)])):=by
 by_cases h0:o=1
 ·simp only [A9,Aa,iP h0]; exact pm Ad [rp 2 (Bh h0)] func269
 ·by_cases h1:o=2
  ·simp only [A9,Aa,iN h0,iP h1]; exact pm Ad [Aw h0,rp 2 (Bh h1)] func269
  ·by_cases h2:o=3
   ·simp only [A9,Aa,iN h0,iN h1,iP h2]; exact pm Ad [Aw h0,Aw h1,Bh h2] func269
   ·by_cases h3:o=4
    ·simp only [A9,Aa,iN h0,iN h1,iN h2,iP h3]; exact pm Ad [Aw h0,Aw h1,Aw h2,rp 2 (Bh h3)] func269
    ·by_cases h4:o=5
     ·simp only [A9,Aa,iN h0,iN h1,iN h2,iN h3,iP h4]; exact pm Ad [Aw h0,Aw h1,Aw h2,Aw h3,Bh h4] func269
     ·by_cases h5:o=9
      ·simp only [A9,Aa,iN h0,iN h1,iN h2,iN h3,iN h4,iP h5]; exact pm Ad [Aw h0,Aw h1,Aw h2,Aw h3,Aw h4,rp 2 (Bh h5)] func269
      ·by_cases h6:o=14
       ·simp only [A9,Aa,iN h0,iN h1,iN h2,iN h3,iN h4,iN h5,iP h6]; exact pm Ad [Aw h0,Aw h1,Aw h2,Aw h3,Aw h4,Aw h5,Bh h6] func269
       ·simp only [A9,Aa,iN h0,iN h1,iN h2,iN h3,iN h4,iN h5,iN h6]; exact pm Ad [Aw h0,Aw h1,Aw h2,Aw h3,Aw h4,Aw h5,Aw h6] func269
def Cc(o:Int):Bool:=(if o=3 then true else (if o=4 then true else (o==5)))
theorem S5(o:Int):Pu 270 [pI o] (rB (Cc o)):=by
 by_cases h0:o=3
 ·simp only [Cc,iP h0]; exact pm Ad [rp 3 (Bh h0),rp 3 (bt true)] func270
 ·by_cases h1:o=4
  ·simp only [Cc,iN h0,iP h1]; exact pm Ad [rp 3 (Aw h0),rp 3 (Bh h1)] func270
  ·simp only [Cc,iN h0,iN h1]; exact pm Ad [rp 3 (Aw h0),rp 3 (Aw h1)] func270
def K0(n:Int):Bool:=(if n >= -1000000000000 then (decide (n<=1000000000000)) else false)
theorem niS(n:Int):Pu 271 [pI n] (rB (K0 n)):=by
 by_cases h0:n >= -1000000000000
 ·simp only [K0,iP h0]; exact pm Ad [rp 3 (C6 h0)] func271
 ·simp only [K0,iN h0]; exact pm Ad [rp 3 (Az h0)] func271
abbrev mO(u:Pr)(C7:Pr->Int)(j:Int)(n:Int)(e:Ext):S:=S.mk [(2,A1 0),(3,A1 n),(7,vL 4 (Pr.cs (As u))),(8,A1 ((As u).length:Int)),(9,A1 j)] [] e
def Jw(C7:Pr->Int):List Pr->(Int)->(Int)
 | [],n=>(n)
 | el::r,n=>Jw C7 r (IntKind.wrap .i64 (n+C7 el))
def ZU(u:Pr)(C7:Pr->Int)(e:Ext)(p:(Int)):A5 × S:=(.exit 0,S.mk [(2,A1 0),(3,A1 p),(7,vL 4 (Pr.cs (As u))),(8,A1 ((As u).length:Int))] [] e)
theorem pqA(u:Pr)(C7:Pr->Int)(Bg:∀w:Pr,w∈As u->Pu 223 [.agg (AO w)] (.ret (.int .i64 (C7 w))))(n:Int)(e:Ext)(hN:(As u).length<=1000000000)  : (Ob.loop 19 (Ai f223 0) (mO u C7 0 n e) (ZU u C7 e (Jw C7 ((As u))  n)).1 (ZU u C7 e (Jw C7 ((As u))  n)).2).ok prog:=by
 refine Ds ((As u).length) (fun j n=>mO u C7 j n e) (fun i n=>Jw C7 (List.drop i ((As u)))  n) (ZU u C7 e) (fun i n=>True) kR ?_ n trivial
 rintro i n hi -
 rcases Nat.lt_or_ge i ((As u).length) with Ag | CO
 ·have hd:=AH Ag
  exact lN Ad [dt ((i:Int)<((As u).length:Int)),am ((0:Int)<=(i:Int)/\(i:Int)<((Pr.cs (As u)).length:Int)) (by (simp only [Pr.A0]; omega)),ar (List.getD (Pr.cs (As u)) (Int.toNat (i:Int)) []) (AO (List.getD (As u) i default)) (by simp only [Int.toNat_natCast,Int.toNat_zero]; rw [@Pr.B5 (As u) (i) Ag]; try rfl),cl (@Bg (List.getD (As u) i default) (by simp_all [D2])),kp,wr ((i:Int)+1)] Ag (IntKind.wrap .i64 (n+C7 (List.getD (As u) i default))) trivial (by rw [hd,Jw])
 ·have he:i=(As u).length:=by omega
  exact lX Ad [df ((i:Int)<((As u).length:Int))] (n) (by rw [he,List.drop_length,Jw])
theorem pqL(u:Pr)(C7:Pr->Int)(Bg:∀w:Pr,w∈As u->Pu 223 [.agg (AO w)] (.ret (.int .i64 (C7 w))))(hN:(As u).length<=1000000000):Pu 223 [.agg (AO u)] (rI (Jw C7 (As u) 1)):=
 pu Ad (fun e=>[sl (Pr.A0 (As u)),lp (S.mk [(0,.v (.agg (AO u))),(1,.lp 1 0),(2,A1 0),(3,A1 1),(6,.lp 1 3),(7,vL 4 (Pr.cs (As u))),(8,A1 ((As u).length:Int)),(9,A1 0)] [(1,BK u)] e) (@pqA (u) (C7) Bg (1) (e) hN) xr]) func223
def pqD:Nat->Pr->Int
 | 0,_=>0
 | d+1,u=>Jw (pqD d) (As u) 1
theorem mP:∀ (d:Nat) (u:Pr),A6 (AO u)<d->d<=100000001->Pu 223 [.agg (AO u)] (.ret (.int .i64 (pqD d u)))
 | 0,_,h,_=>by omega
 | d+1,u,h,hs=>pqL u (pqD d) (fun w hw=>mP d w (by have:=FL u; have:=Pr.mem hw; omega) oM) (by have:=FL u; have:=Pr.BT (As u); omega)
def iR(u:Pr):Int:=pqD (A6 (AO u)+1) u
theorem pqT(u:Pr)(hs:A6 (AO u)<=100000000):Pu 223 [.agg (AO u)] (.ret (.int .i64 (iR u))):=mP _ u oM oM
abbrev mQ(u:Pr)(C7:Pr->Int)(j:Int)(n:Int)(e:Ext):S:=S.mk [(2,A1 0),(3,A1 n),(7,vL 4 (Pr.cs (As u))),(8,A1 ((As u).length:Int)),(9,A1 j)] [] e
def Jy(C7:Pr->Int):List Pr->(Int)->(Int)
 | [],n=>(n)
 | el::r,n=>Jy C7 r (VW true n (C7 el))
def ZV(u:Pr)(C7:Pr->Int)(e:Ext)(p:(Int)):A5 × S:=(.exit 0,S.mk [(2,A1 0),(3,A1 p),(7,vL 4 (Pr.cs (As u))),(8,A1 ((As u).length:Int))] [] e)
theorem peA(u:Pr)(C7:Pr->Int)(Bg:∀w:Pr,w∈As u->Pu 224 [.agg (AO w)] (.ret (.int .i64 (C7 w))))(n:Int)(e:Ext)(hN:(As u).length<=1000000000)  : (Ob.loop 20 (Ai f224 0) (mQ u C7 0 n e) (ZV u C7 e (Jy C7 ((As u))  n)).1 (ZV u C7 e (Jy C7 ((As u))  n)).2).ok prog:=by
 refine Ds ((As u).length) (fun j n=>mQ u C7 j n e) (fun i n=>Jy C7 (List.drop i ((As u)))  n) (ZV u C7 e) (fun i n=>True) kR ?_ n trivial
 rintro i n hi -
 rcases Nat.lt_or_ge i ((As u).length) with Ag | CO
 ·have hd:=AH Ag
  exact lN Ad [dt ((i:Int)<((As u).length:Int)),am ((0:Int)<=(i:Int)/\(i:Int)<((Pr.cs (As u)).length:Int)) (by (simp only [Pr.A0]; omega)),ar (List.getD (Pr.cs (As u)) (Int.toNat (i:Int)) []) (AO (List.getD (As u) i default)) (by simp only [Int.toNat_natCast,Int.toNat_zero]; rw [@Pr.B5 (As u) (i) Ag]; try rfl),cl (@Bg (List.getD (As u) i default) (by simp_all [D2])),wr ((i:Int)+1)] Ag (VW true n (C7 (List.getD (As u) i default))) trivial (by rw [hd,Jy])
 ·have he:i=(As u).length:=by omega
  exact lX Ad [df ((i:Int)<((As u).length:Int))] (n) (by rw [he,List.drop_length,Jy])
theorem peL(u:Pr)(C7:Pr->Int)(Bg:∀w:Pr,w∈As u->Pu 224 [.agg (AO w)] (.ret (.int .i64 (C7 w))))(hN:(As u).length<=1000000000):Pu 224 [.agg (AO u)] (rI (IntKind.wrap .i64 (Jy C7 (As u) 0+1))):=
 pu Ad (fun e=>[sl (Pr.A0 (As u)),lp (S.mk [(0,.v (.agg (AO u))),(1,.lp 1 0),(2,A1 0),(3,A1 0),(6,.lp 1 3),(7,vL 4 (Pr.cs (As u))),(8,A1 ((As u).length:Int)),(9,A1 0)] [(1,BK u)] e) (@peA (u) (C7) Bg (0) (e) hN) xr,kp]) func224
def peD:Nat->Pr->Int
 | 0,_=>0
 | d+1,u=>IntKind.i64.wrap (Jy (peD d) (As u) 0+1)
theorem mR:∀ (d:Nat) (u:Pr),A6 (AO u)<d->d<=100000001->Pu 224 [.agg (AO u)] (.ret (.int .i64 (peD d u)))
 | 0,_,h,_=>by omega
 | d+1,u,h,hs=>peL u (peD d) (fun w hw=>mR d w (by have:=FL u; have:=Pr.mem hw; omega) oM) (by have:=FL u; have:=Pr.BT (As u); omega)
def mS(u:Pr):Int:=peD (A6 (AO u)+1) u
theorem peT(u:Pr)(hs:A6 (AO u)<=100000000):Pu 224 [.agg (AO u)] (.ret (.int .i64 (mS u))):=mR _ u oM oM
abbrev nd0(u:Pr)(xe:Ext):S:=⟨[(1,.lp 1 0),(2,.v (.int .i64 0))],[(1,BK u)],xe⟩
abbrev KZ(u:Pr)(a b:Int)(xe:Ext):S:=⟨[(1,.lp 1 0),(2,.v (.int .i64 0)),(3,.v (.int .i64 a)),(4,.v (.int .i64 b))],[(1,BK u)],xe⟩
abbrev nd2(u:Pr)(a b:Int)(x y:Bool)(xe:Ext):S:=⟨[(1,.lp 1 0),(2,.v (.int .i64 0)),(3,.v (.int .i64 a)),(4,.v (.int .i64 b)),(5,.v (.bool x)),(6,.v (.bool y))],[(1,BK u)],xe⟩
abbrev nd3(u:Pr)(a b:Int)(x:Bool)(xe:Ext):S:=⟨[(1,.lp 1 0),(2,.v (.int .i64 0)),(3,.v (.int .i64 a)),(4,.v (.int .i64 b)),(5,.v (.bool x))],[(1,BK u)],xe⟩
theorem uC(u:Pr)(xe:Ext)(Ac:Ab u<1)(cx:Cx)(Ar:cx.n=130){Q:A5->S->Prop}(hq:Q (.normal) (S.mk [(1,.lp 1 0),(2,A1 0),(14,.v (.bool true))] [(1,BK u)] xe)):PW prog cx (AW f226 1) (nd0 u xe) Q:=
 pw Ad 130 [rp 4 (C6 Ac)] [1,2,14] [1] Ar hq
theorem uD(u:Pr)(xe:Ext)(Ac:¬Ab u<1)(cx:Cx)(Ar:cx.n=130){Q:A5->S->Prop}(hq:Q (.normal) (S.mk [(1,.lp 1 0),(2,A1 0),(14,.v (.bool (decide (Ab u>18))))] [(1,BK u)] xe)):PW prog cx (AW f226 1) (nd0 u xe) Q:=
 pw Ad 130 [rp 4 (Az Ac)] [1,2,14] [1] Ar hq
def C9(u:Pr):Bool:=(if Ab u<1 then (true) else ((decide (Ab u>18))))
theorem LN(u:Pr)(xe:Ext):(Ob.Ev 130 (AW f226 1) (nd0 u xe) (.normal) (S.mk [(1,.lp 1 0),(2,A1 0),(14,.v (.bool (C9 u)))] [(1,BK u)] xe)).ok prog:=by
 intro cx Ar
 by_cases g0:Ab u<1
 ·exact uC u xe g0 cx Ar ⟨rfl,by rw [show C9 u=(true) by unfold C9; rw [iP g0]]⟩
 ·exact uD u xe g0 cx Ar ⟨rfl,by rw [show C9 u=((decide (Ab u>18))) by unfold C9; rw [iN g0]]⟩
section
variable (u:Pr) (a b:Int) (xe:Ext)
include u a b xe
theorem uE(Ac:Cc (Ab u)=false)(Ae:¬Aq u=ByteArray.mk #[])(cx:Cx)(Ar:cx.n=130){Q:A5->S->Prop}(hq:Q (.normal) (S.mk [(1,.lp 1 0),(2,A1 0),(3,A1 a),(4,A1 b),(58,.v (.bool true))] [(1,BK u)] xe)):PW prog cx (AW f226 4) (KZ u a b xe) Q:=
 pw Ad 130 [cl (@S5 (Ab u)),rp 4 (B2 (B6 Ac)),rp 8 (bt (!ByteArray.toList (Aq u)==ByteArray.toList Ah) (B6 (BZ Ae))),rp 12 (bt true)] [1,2,3,4,58] [1] Ar hq
theorem uF(Ac:Cc (Ab u)=false)(Ae:Aq u=ByteArray.mk #[])(Ao:¬Ab u=1)(AK:¬Ab u=2)(B9:¬Ch u=0)(cx:Cx)(Ar:cx.n=130){Q:A5->S->Prop}(hq:Q (.normal) (S.mk [(1,.lp 1 0),(2,A1 0),(3,A1 a),(4,A1 b),(58,.v (.bool true))] [(1,BK u)] xe)):PW prog cx (AW f226 4) (KZ u a b xe) Q:=
 pw Ad 130 [cl (@S5 (Ab u)),rp 4 (B2 (B6 Ac)),rp 4 (bf (!ByteArray.toList (Aq u)==ByteArray.toList Ah) (AJ (BL Ae))),rp 3 (Bv Ao),bf (!ByteArray.toList (Aq u)==ByteArray.toList Ah) (AJ (BL Ae)),Bv Ao,bf (!ByteArray.toList (Aq u)==ByteArray.toList Ah) (AJ (BL Ae)),rp 3 (Bv AK),bf (!ByteArray.toList (Aq u)==ByteArray.toList Ah) (AJ (BL Ae)),Bv AK,bf (!ByteArray.toList (Aq u)==ByteArray.toList Ah) (AJ (BL Ae)),rp 6 (Bv B9),rp 6 (bt true)] [1,2,3,4,58] [1] Ar hq
theorem uG(Ac:Cc (Ab u)=false)(Ae:Aq u=ByteArray.mk #[])(Ao:¬Ab u=1)(AK:¬Ab u=2)(B9:Ch u=0)(BU:((As u).length:Int)<a)(cx:Cx)(Ar:cx.n=130){Q:A5->S->Prop}(hq:Q (.normal) (S.mk [(1,.lp 1 0),(2,A1 0),(3,A1 a),(4,A1 b),(58,.v (.bool true))] [(1,BK u)] xe)):PW prog cx (AW f226 4) (KZ u a b xe) Q:=
 pw Ad 130 [cl (@S5 (Ab u)),rp 4 (B2 (B6 Ac)),rp 4 (bf (!ByteArray.toList (Aq u)==ByteArray.toList Ah) (AJ (BL Ae))),rp 3 (Bv Ao),bf (!ByteArray.toList (Aq u)==ByteArray.toList Ah) (AJ (BL Ae)),Bv Ao,bf (!ByteArray.toList (Aq u)==ByteArray.toList Ah) (AJ (BL Ae)),rp 3 (Bv AK),bf (!ByteArray.toList (Aq u)==ByteArray.toList Ah) (AJ (BL Ae)),Bv AK,bf (!ByteArray.toList (Aq u)==ByteArray.toList Ah) (AJ (BL Ae)),rp 3 (Bi B9),sl (Pr.A0 (As u)),rp 3 (Bi B9),rp 6 (C6 BU)] [1,2,3,4,58] [1] Ar hq
theorem uH(Ac:Cc (Ab u)=false)(Ae:Aq u=ByteArray.mk #[])(Ao:¬Ab u=1)(AK:¬Ab u=2)(B9:Ch u=0)(BU:¬((As u).length:Int)<a)(cx:Cx)(Ar:cx.n=130){Q:A5->S->Prop}(hq:Q (.normal) (S.mk [(1,.lp 1 0),(2,A1 0),(3,A1 a),(4,A1 b),(58,.v (.bool (decide (((As u).length:Int)>b))))] [(1,BK u)] xe)):PW prog cx (AW f226 4) (KZ u a b xe) Q:=
 pw Ad 130 [cl (@S5 (Ab u)),rp 4 (B2 (B6 Ac)),rp 4 (bf (!ByteArray.toList (Aq u)==ByteArray.toList Ah) (AJ (BL Ae))),rp 3 (Bv Ao),bf (!ByteArray.toList (Aq u)==ByteArray.toList Ah) (AJ (BL Ae)),Bv Ao,bf (!ByteArray.toList (Aq u)==ByteArray.toList Ah) (AJ (BL Ae)),rp 3 (Bv AK),bf (!ByteArray.toList (Aq u)==ByteArray.toList Ah) (AJ (BL Ae)),Bv AK,bf (!ByteArray.toList (Aq u)==ByteArray.toList Ah) (AJ (BL Ae)),rp 3 (Bi B9),sl (Pr.A0 (As u)),rp 3 (Bi B9),rp 3 (Az BU),sl (Pr.A0 (As u)),rp 3 (Az BU)] [1,2,3,4,58] [1] Ar hq
theorem uI(Ac:Cc (Ab u)=false)(Ae:Aq u=ByteArray.mk #[])(Ao:¬Ab u=1)(AK:Ab u=2)(B9:((As u).length:Int)<a)(cx:Cx)(Ar:cx.n=130){Q:A5->S->Prop}(hq:Q (.normal) (S.mk [(1,.lp 1 0),(2,A1 0),(3,A1 a),(4,A1 b),(58,.v (.bool true))] [(1,BK u)] xe)):PW prog cx (AW f226 4) (KZ u a b xe) Q:=
 pw Ad 130 [cl (@S5 (Ab u)),rp 4 (B2 (B6 Ac)),rp 4 (bf (!ByteArray.toList (Aq u)==ByteArray.toList Ah) (AJ (BL Ae))),rp 3 (Bv Ao),bf (!ByteArray.toList (Aq u)==ByteArray.toList Ah) (AJ (BL Ae)),Bv Ao,bf (!ByteArray.toList (Aq u)==ByteArray.toList Ah) (AJ (BL Ae)),rp 3 (Bi AK),bf (!ByteArray.toList (Aq u)==ByteArray.toList Ah) (AJ (BL Ae)),Bi AK,bf (!ByteArray.toList (Aq u)==ByteArray.toList Ah) (AJ (BL Ae)),rp 3 (bf false),sl (Pr.A0 (As u)),rp 3 (bf false),rp 6 (C6 B9)] [1,2,3,4,58] [1] Ar hq
theorem uJ(Ac:Cc (Ab u)=false)(Ae:Aq u=ByteArray.mk #[])(Ao:¬Ab u=1)(AK:Ab u=2)(B9:¬((As u).length:Int)<a)(cx:Cx)(Ar:cx.n=130){Q:A5->S->Prop}(hq:Q (.normal) (S.mk [(1,.lp 1 0),(2,A1 0),(3,A1 a),(4,A1 b),(58,.v (.bool (decide (((As u).length:Int)>b))))] [(1,BK u)] xe)):PW prog cx (AW f226 4) (KZ u a b xe) Q:=
 pw Ad 130 [cl (@S5 (Ab u)),rp 4 (B2 (B6 Ac)),rp 4 (bf (!ByteArray.toList (Aq u)==ByteArray.toList Ah) (AJ (BL Ae))),rp 3 (Bv Ao),bf (!ByteArray.toList (Aq u)==ByteArray.toList Ah) (AJ (BL Ae)),Bv Ao,bf (!ByteArray.toList (Aq u)==ByteArray.toList Ah) (AJ (BL Ae)),rp 3 (Bi AK),bf (!ByteArray.toList (Aq u)==ByteArray.toList Ah) (AJ (BL Ae)),Bi AK,bf (!ByteArray.toList (Aq u)==ByteArray.toList Ah) (AJ (BL Ae)),rp 3 (bf false),sl (Pr.A0 (As u)),rp 3 (bf false),rp 3 (Az B9),sl (Pr.A0 (As u)),rp 3 (Az B9)] [1,2,3,4,58] [1] Ar hq
theorem uK(Ac:Cc (Ab u)=false)(Ae:Aq u=ByteArray.mk #[])(Ao:Ab u=1)(AK:((As u).length:Int)<a)(cx:Cx)(Ar:cx.n=130){Q:A5->S->Prop}(hq:Q (.normal) (S.mk [(1,.lp 1 0),(2,A1 0),(3,A1 a),(4,A1 b),(58,.v (.bool true))] [(1,BK u)] xe)):PW prog cx (AW f226 4) (KZ u a b xe) Q:=
 pw Ad 130 [cl (@S5 (Ab u)),rp 4 (B2 (B6 Ac)),rp 4 (bf (!ByteArray.toList (Aq u)==ByteArray.toList Ah) (AJ (BL Ae))),rp 3 (Bi Ao),bf (!ByteArray.toList (Aq u)==ByteArray.toList Ah) (AJ (BL Ae)),Bi Ao,bf (!ByteArray.toList (Aq u)==ByteArray.toList Ah) (AJ (BL Ae)),rp 3 (bf false),bf (!ByteArray.toList (Aq u)==ByteArray.toList Ah) (AJ (BL Ae)),bf false,bf (!ByteArray.toList (Aq u)==ByteArray.toList Ah) (AJ (BL Ae)),rp 3 (bf false),sl (Pr.A0 (As u)),rp 3 (bf false),rp 6 (C6 AK)] [1,2,3,4,58] [1] Ar hq
theorem uL(Ac:Cc (Ab u)=false)(Ae:Aq u=ByteArray.mk #[])(Ao:Ab u=1)(AK:¬((As u).length:Int)<a)(cx:Cx)(Ar:cx.n=130){Q:A5->S->Prop}(hq:Q (.normal) (S.mk [(1,.lp 1 0),(2,A1 0),(3,A1 a),(4,A1 b),(58,.v (.bool (decide (((As u).length:Int)>b))))] [(1,BK u)] xe)):PW prog cx (AW f226 4) (KZ u a b xe) Q:=
 pw Ad 130 [cl (@S5 (Ab u)),rp 4 (B2 (B6 Ac)),rp 4 (bf (!ByteArray.toList (Aq u)==ByteArray.toList Ah) (AJ (BL Ae))),rp 3 (Bi Ao),bf (!ByteArray.toList (Aq u)==ByteArray.toList Ah) (AJ (BL Ae)),Bi Ao,bf (!ByteArray.toList (Aq u)==ByteArray.toList Ah) (AJ (BL Ae)),rp 3 (bf false),bf (!ByteArray.toList (Aq u)==ByteArray.toList Ah) (AJ (BL Ae)),bf false,bf (!ByteArray.toList (Aq u)==ByteArray.toList Ah) (AJ (BL Ae)),rp 3 (bf false),sl (Pr.A0 (As u)),rp 3 (bf false),rp 3 (Az AK),sl (Pr.A0 (As u)),rp 3 (Az AK)] [1,2,3,4,58] [1] Ar hq
theorem uM(Ac:Cc (Ab u)=true)(Ae:¬Ab u=1)(Ao:¬Ab u=2)(AK:¬Ch u=0)(cx:Cx)(Ar:cx.n=130){Q:A5->S->Prop}(hq:Q (.normal) (S.mk [(1,.lp 1 0),(2,A1 0),(3,A1 a),(4,A1 b),(58,.v (.bool true))] [(1,BK u)] xe)):PW prog cx (AW f226 4) (KZ u a b xe) Q:=
 pw Ad 130 [cl (@S5 (Ab u)),rp 4 (AQ (AJ Ac)),rp 4 (bf false),rp 3 (Bv Ae),bf false,Bv Ae,bf false,rp 3 (Bv Ao),bf false,Bv Ao,bf false,rp 6 (Bv AK),rp 6 (bt true)] [1,2,3,4,58] [1] Ar hq
theorem iS(Ac:Cc (Ab u)=true)(Ae:¬Ab u=1)(Ao:¬Ab u=2)(AK:Ch u=0)(B9:((As u).length:Int)<a)(cx:Cx)(Ar:cx.n=130){Q:A5->S->Prop}(hq:Q (.normal) (S.mk [(1,.lp 1 0),(2,A1 0),(3,A1 a),(4,A1 b),(58,.v (.bool true))] [(1,BK u)] xe)):PW prog cx (AW f226 4) (KZ u a b xe) Q:=
 pw Ad 130 [cl (@S5 (Ab u)),rp 4 (AQ (AJ Ac)),rp 4 (bf false),rp 3 (Bv Ae),bf false,Bv Ae,bf false,rp 3 (Bv Ao),bf false,Bv Ao,bf false,rp 3 (Bi AK),sl (Pr.A0 (As u)),rp 3 (Bi AK),rp 6 (C6 B9)] [1,2,3,4,58] [1] Ar hq
theorem iT(Ac:Cc (Ab u)=true)(Ae:¬Ab u=1)(Ao:¬Ab u=2)(AK:Ch u=0)(B9:¬((As u).length:Int)<a)(cx:Cx)(Ar:cx.n=130){Q:A5->S->Prop}(hq:Q (.normal) (S.mk [(1,.lp 1 0),(2,A1 0),(3,A1 a),(4,A1 b),(58,.v (.bool (decide (((As u).length:Int)>b))))] [(1,BK u)] xe)):PW prog cx (AW f226 4) (KZ u a b xe) Q:=
 pw Ad 130 [cl (@S5 (Ab u)),rp 4 (AQ (AJ Ac)),rp 4 (bf false),rp 3 (Bv Ae),bf false,Bv Ae,bf false,rp 3 (Bv Ao),bf false,Bv Ao,bf false,rp 3 (Bi AK),sl (Pr.A0 (As u)),rp 3 (Bi AK),rp 3 (Az B9),sl (Pr.A0 (As u)),rp 3 (Az B9)] [1,2,3,4,58] [1] Ar hq
theorem iU(Ac:Cc (Ab u)=true)(Ae:¬Ab u=1)(Ao:Ab u=2)(AK:((As u).length:Int)<a)(cx:Cx)(Ar:cx.n=130){Q:A5->S->Prop}(hq:Q (.normal) (S.mk [(1,.lp 1 0),(2,A1 0),(3,A1 a),(4,A1 b),(58,.v (.bool true))] [(1,BK u)] xe)):PW prog cx (AW f226 4) (KZ u a b xe) Q:=
 pw Ad 130 [cl (@S5 (Ab u)),rp 4 (AQ (AJ Ac)),rp 4 (bf false),rp 3 (Bv Ae),bf false,Bv Ae,bf false,rp 3 (Bi Ao),bf false,Bi Ao,rp 4 (bf false),sl (Pr.A0 (As u)),rp 3 (bf false),rp 6 (C6 AK)] [1,2,3,4,58] [1] Ar hq
theorem iV(Ac:Cc (Ab u)=true)(Ae:¬Ab u=1)(Ao:Ab u=2)(AK:¬((As u).length:Int)<a)(cx:Cx)(Ar:cx.n=130){Q:A5->S->Prop}(hq:Q (.normal) (S.mk [(1,.lp 1 0),(2,A1 0),(3,A1 a),(4,A1 b),(58,.v (.bool (decide (((As u).length:Int)>b))))] [(1,BK u)] xe)):PW prog cx (AW f226 4) (KZ u a b xe) Q:=
 pw Ad 130 [cl (@S5 (Ab u)),rp 4 (AQ (AJ Ac)),rp 4 (bf false),rp 3 (Bv Ae),bf false,Bv Ae,bf false,rp 3 (Bi Ao),bf false,Bi Ao,rp 4 (bf false),sl (Pr.A0 (As u)),rp 3 (bf false),rp 3 (Az AK),sl (Pr.A0 (As u)),rp 3 (Az AK)] [1,2,3,4,58] [1] Ar hq
theorem iW(Ac:Cc (Ab u)=true)(Ae:Ab u=1)(Ao:((As u).length:Int)<a)(cx:Cx)(Ar:cx.n=130){Q:A5->S->Prop}(hq:Q (.normal) (S.mk [(1,.lp 1 0),(2,A1 0),(3,A1 a),(4,A1 b),(58,.v (.bool true))] [(1,BK u)] xe)):PW prog cx (AW f226 4) (KZ u a b xe) Q:=
 pw Ad 130 [cl (@S5 (Ab u)),rp 4 (AQ (AJ Ac)),rp 4 (bf false),rp 3 (Bi Ae),bf false,Bi Ae,rp 10 (bf false),sl (Pr.A0 (As u)),rp 3 (bf false),rp 6 (C6 Ao)] [1,2,3,4,58] [1] Ar hq
theorem iX(Ac:Cc (Ab u)=true)(Ae:Ab u=1)(Ao:¬((As u).length:Int)<a)(cx:Cx)(Ar:cx.n=130){Q:A5->S->Prop}(hq:Q (.normal) (S.mk [(1,.lp 1 0),(2,A1 0),(3,A1 a),(4,A1 b),(58,.v (.bool (decide (((As u).length:Int)>b))))] [(1,BK u)] xe)):PW prog cx (AW f226 4) (KZ u a b xe) Q:=
 pw Ad 130 [cl (@S5 (Ab u)),rp 4 (AQ (AJ Ac)),rp 4 (bf false),rp 3 (Bi Ae),bf false,Bi Ae,rp 10 (bf false),sl (Pr.A0 (As u)),rp 3 (bf false),rp 3 (Az Ao),sl (Pr.A0 (As u)),rp 3 (Az Ao)] [1,2,3,4,58] [1] Ar hq
end
def AT(u:Pr)(a b:Int):Bool:=(if Cc (Ab u)=true then (if Ab u=1 then (if ((As u).length:Int)<a then (true) else ((decide (((As u).length:Int)>b)))) else (if Ab u=2 then (if ((As u).length:Int)<a then (true) else ((decide (((As u).length:Int)>b)))) else (if Ch u=0 then (if ((As u).length:Int)<a then (true) else ((decide (((As u).length:Int)>b)))) else (true)))) else (if Aq u=ByteArray.mk #[] then (if Ab u=1 then (if ((As u).length:Int)<a then (true) else ((decide (((As u).length:Int)>b)))) else (if Ab u=2 then (if ((As u).length:Int)<a then (true) else ((decide (((As u).length:Int)>b)))) else (if Ch u=0 then (if ((As u).length:Int)<a then (true) else ((decide (((As u).length:Int)>b)))) else (true)))) else (true)))
theorem Ns(u:Pr)(a b:Int)(xe:Ext):(Ob.Ev 130 (AW f226 4) (KZ u a b xe) (.normal) (S.mk [(1,.lp 1 0),(2,A1 0),(3,A1 a),(4,A1 b),(58,.v (.bool (AT u a b)))] [(1,BK u)] xe)).ok prog:=by
 intro cx Ar
 by_cases g0:Cc (Ab u)=true
 ·by_cases g1:Ab u=1
  ·by_cases g2:((As u).length:Int)<a
   ·exact iW u a b xe g0 g1 g2 cx Ar ⟨rfl,by rw [show AT u a b=(true) by unfold AT; rw [iP g0,iP g1,iP g2]]⟩
   ·exact iX u a b xe g0 g1 g2 cx Ar ⟨rfl,by rw [show AT u a b=((decide (((As u).length:Int)>b))) by unfold AT; rw [iP g0,iP g1,iN g2]]⟩
  ·by_cases g2:Ab u=2
   ·by_cases g3:((As u).length:Int)<a
    ·exact iU u a b xe g0 g1 g2 g3 cx Ar ⟨rfl,by rw [show AT u a b=(true) by unfold AT; rw [iP g0,iN g1,iP g2,iP g3]]⟩
    ·exact iV u a b xe g0 g1 g2 g3 cx Ar ⟨rfl,by rw [show AT u a b=((decide (((As u).length:Int)>b))) by unfold AT; rw [iP g0,iN g1,iP g2,iN g3]]⟩
   ·by_cases g3:Ch u=0
    ·by_cases g4:((As u).length:Int)<a
     ·exact iS u a b xe g0 g1 g2 g3 g4 cx Ar ⟨rfl,by rw [show AT u a b=(true) by unfold AT; rw [iP g0,iN g1,iN g2,iP g3,iP g4]]⟩
     ·exact iT u a b xe g0 g1 g2 g3 g4 cx Ar ⟨rfl,by rw [show AT u a b=((decide (((As u).length:Int)>b))) by unfold AT; rw [iP g0,iN g1,iN g2,iP g3,iN g4]]⟩
    ·exact uM u a b xe g0 g1 g2 g3 cx Ar ⟨rfl,by rw [show AT u a b=(true) by unfold AT; rw [iP g0,iN g1,iN g2,iN g3]]⟩
 ·by_cases g1:Aq u=ByteArray.mk #[]
  ·by_cases g2:Ab u=1
   ·by_cases g3:((As u).length:Int)<a
    ·exact uK u a b xe (Bool.eq_false_iff.2 g0) g1 g2 g3 cx Ar ⟨rfl,by rw [show AT u a b=(true) by unfold AT; rw [iN g0,iP g1,iP g2,iP g3]]⟩
    ·exact uL u a b xe (Bool.eq_false_iff.2 g0) g1 g2 g3 cx Ar ⟨rfl,by rw [show AT u a b=((decide (((As u).length:Int)>b))) by unfold AT; rw [iN g0,iP g1,iP g2,iN g3]]⟩
   ·by_cases g3:Ab u=2
    ·by_cases g4:((As u).length:Int)<a
     ·exact uI u a b xe (Bool.eq_false_iff.2 g0) g1 g2 g3 g4 cx Ar ⟨rfl,by rw [show AT u a b=(true) by unfold AT; rw [iN g0,iP g1,iN g2,iP g3,iP g4]]⟩
     ·exact uJ u a b xe (Bool.eq_false_iff.2 g0) g1 g2 g3 g4 cx Ar ⟨rfl,by rw [show AT u a b=((decide (((As u).length:Int)>b))) by unfold AT; rw [iN g0,iP g1,iN g2,iP g3,iN g4]]⟩
    ·by_cases g4:Ch u=0
     ·by_cases g5:((As u).length:Int)<a
      ·exact uG u a b xe (Bool.eq_false_iff.2 g0) g1 g2 g3 g4 g5 cx Ar ⟨rfl,by rw [show AT u a b=(true) by unfold AT; rw [iN g0,iP g1,iN g2,iN g3,iP g4,iP g5]]⟩
      ·exact uH u a b xe (Bool.eq_false_iff.2 g0) g1 g2 g3 g4 g5 cx Ar ⟨rfl,by rw [show AT u a b=((decide (((As u).length:Int)>b))) by unfold AT; rw [iN g0,iP g1,iN g2,iN g3,iP g4,iN g5]]⟩
     ·exact uF u a b xe (Bool.eq_false_iff.2 g0) g1 g2 g3 g4 cx Ar ⟨rfl,by rw [show AT u a b=(true) by unfold AT; rw [iN g0,iP g1,iN g2,iN g3,iN g4]]⟩
  ·exact uE u a b xe (Bool.eq_false_iff.2 g0) g1 cx Ar ⟨rfl,by rw [show AT u a b=(true) by unfold AT; rw [iN g0,iN g1]]⟩
section
variable (u:Pr) (a b:Int) (xe:Ext)
include u a b xe
theorem uN(Ac:Ab u=1)(Ae:K0 (Ch u)=false)(cx:Cx)(Ar:cx.n=130){Q:A5->S->Prop}(hq:Q (.normal) (S.mk [(1,.lp 1 0),(2,A1 0),(3,A1 a),(4,A1 b),(82,.v (.bool true))] [(1,BK u)] xe)):PW prog cx (AW f226 6) (KZ u a b xe) Q:=
 pw Ad 130 [rp 3 (Bh Ac),cl (@niS (Ch u)),rp 2 (Bh Ac),rp 8 (B2 (B6 Ae))] [1,2,3,4,82] [1] Ar hq
theorem uO(Ac:Ab u=1)(Ae:K0 (Ch u)=true)(cx:Cx)(Ar:cx.n=130){Q:A5->S->Prop}(hq:Q (.normal) (S.mk [(1,.lp 1 0),(2,A1 0),(3,A1 a),(4,A1 b),(82,.v (.bool false))] [(1,BK u)] xe)):PW prog cx (AW f226 6) (KZ u a b xe) Q:=
 pw Ad 130 [rp 3 (Bh Ac),cl (@niS (Ch u)),rp 2 (Bh Ac),rp 4 (AQ (AJ Ae)),rp 3 (en (Ab u) 2),AQ (AJ Ae),en (Ab u) 2,AQ (AJ Ae),rp 3 (bf false),AQ (AJ Ae),bf false,AQ (AJ Ae)] [1,2,3,4,82] [1] Ar hq
theorem uP(Ac:¬Ab u=1)(Ae:Ab u=2)(Ao:¬Ch u=0)(cx:Cx)(Ar:cx.n=130){Q:A5->S->Prop}(hq:Q (.normal) (S.mk [(1,.lp 1 0),(2,A1 0),(3,A1 a),(4,A1 b),(82,.v (.bool (Ch u != 1)))] [(1,BK u)] xe)):PW prog cx (AW f226 6) (KZ u a b xe) Q:=
 pw Ad 130 [rp 5 (Aw Ac),rp 4 (bf false),rp 3 (Bh Ae),bf false,Bh Ae,bf false,rp 3 (Bv Ao),bf false,Bv Ao,bf false] [1,2,3,4,82] [1] Ar hq
theorem uQ(Ac:¬Ab u=1)(Ae:Ab u=2)(Ao:Ch u=0)(cx:Cx)(Ar:cx.n=130){Q:A5->S->Prop}(hq:Q (.normal) (S.mk [(1,.lp 1 0),(2,A1 0),(3,A1 a),(4,A1 b),(82,.v (.bool false))] [(1,BK u)] xe)):PW prog cx (AW f226 6) (KZ u a b xe) Q:=
 pw Ad 130 [rp 5 (Aw Ac),rp 4 (bf false),rp 3 (Bh Ae),bf false,Bh Ae,bf false,rp 3 (Bi Ao),bf false,Bi Ao,bf false] [1,2,3,4,82] [1] Ar hq
theorem uR(Ac:¬Ab u=1)(Ae:¬Ab u=2)(cx:Cx)(Ar:cx.n=130){Q:A5->S->Prop}(hq:Q (.normal) (S.mk [(1,.lp 1 0),(2,A1 0),(3,A1 a),(4,A1 b),(82,.v (.bool false))] [(1,BK u)] xe)):PW prog cx (AW f226 6) (KZ u a b xe) Q:=
 pw Ad 130 [rp 5 (Aw Ac),rp 4 (bf false),rp 3 (Aw Ae),bf false,Aw Ae,rp 7 (bf false)] [1,2,3,4,82] [1] Ar hq
end
def BV(u:Pr)(a b:Int):Bool:=(if Ab u=1 then (if K0 (Ch u)=true then (false) else (true)) else (if Ab u=2 then (if Ch u=0 then (false) else ((Ch u != 1))) else (false)))
theorem Ph(u:Pr)(a b:Int)(xe:Ext):(Ob.Ev 130 (AW f226 6) (KZ u a b xe) (.normal) (S.mk [(1,.lp 1 0),(2,A1 0),(3,A1 a),(4,A1 b),(82,.v (.bool (BV u a b)))] [(1,BK u)] xe)).ok prog:=by
 intro cx Ar
 by_cases g0:Ab u=1
 ·by_cases g1:K0 (Ch u)=true
  ·exact uO u a b xe g0 g1 cx Ar ⟨rfl,by rw [show BV u a b=(false) by unfold BV; rw [iP g0,iP g1]]⟩
  ·exact uN u a b xe g0 (Bool.eq_false_iff.2 g1) cx Ar ⟨rfl,by rw [show BV u a b=(true) by unfold BV; rw [iP g0,iN g1]]⟩
 ·by_cases g1:Ab u=2
  ·by_cases g2:Ch u=0
   ·exact uQ u a b xe g0 g1 g2 cx Ar ⟨rfl,by rw [show BV u a b=(false) by unfold BV; rw [iN g0,iP g1,iP g2]]⟩
   ·exact uP u a b xe g0 g1 g2 cx Ar ⟨rfl,by rw [show BV u a b=((Ch u != 1)) by unfold BV; rw [iN g0,iP g1,iN g2]]⟩
  ·exact uR u a b xe g0 g1 cx Ar ⟨rfl,by rw [show BV u a b=(false) by unfold BV; rw [iN g0,iN g1]]⟩
theorem uS(u:Pr)(a b:Int)(xe:Ext)(Ac:Cc (Ab u)=true)(cx:Cx)(Ar:cx.n=130){Q:A5->S->Prop}(hq:Q (.normal) (S.mk [(1,.lp 1 0),(2,A1 0),(3,A1 a),(4,A1 b),(91,.v (.bool (Ck (CH (Aq u)) != 0)))] [(1,BK u)] xe)):PW prog cx (AW f226 8) (KZ u a b xe) Q:=
 pw Ad 130 [cl (@S5 (Ab u)),rp 3 (B2 Ac),cl (@Zl (Aq u)),rp 2 (B2 Ac)] [1,2,3,4,91] [1] Ar hq
theorem uT(u:Pr)(a b:Int)(xe:Ext)(Ac:Cc (Ab u)=false)(cx:Cx)(Ar:cx.n=130){Q:A5->S->Prop}(hq:Q (.normal) (S.mk [(1,.lp 1 0),(2,A1 0),(3,A1 a),(4,A1 b),(91,.v (.bool false))] [(1,BK u)] xe)):PW prog cx (AW f226 8) (KZ u a b xe) Q:=
 pw Ad 130 [cl (@S5 (Ab u)),rp 5 (AQ Ac)] [1,2,3,4,91] [1] Ar hq
def BI(u:Pr)(a b:Int):Bool:=(if Cc (Ab u)=true then ((Ck (CH (Aq u)) != 0)) else (false))
theorem S6(u:Pr)(a b:Int)(xe:Ext):(Ob.Ev 130 (AW f226 8) (KZ u a b xe) (.normal) (S.mk [(1,.lp 1 0),(2,A1 0),(3,A1 a),(4,A1 b),(91,.v (.bool (BI u a b)))] [(1,BK u)] xe)).ok prog:=by
 intro cx Ar
 by_cases g0:Cc (Ab u)=true
 ·exact uS u a b xe g0 cx Ar ⟨rfl,by rw [show BI u a b=((Ck (CH (Aq u)) != 0)) by unfold BI; rw [iP g0]]⟩
 ·exact uT u a b xe (Bool.eq_false_iff.2 g0) cx Ar ⟨rfl,by rw [show BI u a b=(false) by unfold BI; rw [iN g0]]⟩
theorem uU(u:Pr)(a b:Int)(xe:Ext)(Ac:Ab u=3)(cx:Cx)(Ar:cx.n=130){Q:A5->S->Prop}(hq:Q (.normal) (S.mk [(1,.lp 1 0),(2,A1 0),(3,A1 a),(4,A1 b),(5,.v (.bool (ByteArray.toList (Aq u)==ByteArray.toList (bM 118))))] [(1,BK u)] xe)):PW prog cx (AW f226 9) (KZ u a b xe) Q:=
 pw Ad 130 [rp 4 (Bh Ac)] [1,2,3,4,5] [1] Ar hq
theorem uV(u:Pr)(a b:Int)(xe:Ext)(Ac:¬Ab u=3)(cx:Cx)(Ar:cx.n=130){Q:A5->S->Prop}(hq:Q (.normal) (S.mk [(1,.lp 1 0),(2,A1 0),(3,A1 a),(4,A1 b),(5,.v (.bool false))] [(1,BK u)] xe)):PW prog cx (AW f226 9) (KZ u a b xe) Q:=
 pw Ad 130 [rp 4 (Aw Ac)] [1,2,3,4,5] [1] Ar hq
def B1(u:Pr)(a b:Int):Bool:=(if Ab u=3 then ((ByteArray.toList (Aq u)==ByteArray.toList (bM 118))) else (false))
theorem ZW(u:Pr)(a b:Int)(xe:Ext):(Ob.Ev 130 (AW f226 9) (KZ u a b xe) (.normal) (S.mk [(1,.lp 1 0),(2,A1 0),(3,A1 a),(4,A1 b),(5,.v (.bool (B1 u a b)))] [(1,BK u)] xe)).ok prog:=by
 intro cx Ar
 by_cases g0:Ab u=3
 ·exact uU u a b xe g0 cx Ar ⟨rfl,by rw [show B1 u a b=((ByteArray.toList (Aq u)==ByteArray.toList (bM 118))) by unfold B1; rw [iP g0]]⟩
 ·exact uV u a b xe g0 cx Ar ⟨rfl,by rw [show B1 u a b=(false) by unfold B1; rw [iN g0]]⟩
section
variable (u:Pr) (a b:Int) (x:Bool) (xe:Ext)
include u a b x xe
theorem iY(Ac:Ab u=4)(Ae:Aq u=ByteArray.mk #[116,97,103])(cx:Cx)(Ar:cx.n=130){Q:A5->S->Prop}(hq:Q (.normal) (S.mk [(1,.lp 1 0),(2,A1 0),(3,A1 a),(4,A1 b),(5,.v (.bool x)),(6,.v (.bool true))] [(1,BK u)] xe)):PW prog cx (AW f226 10) (nd3 u a b x xe) Q:=
 pw Ad 130 [rp 4 (Bh Ac),rp 3 (bt (ByteArray.toList (Aq u)==ByteArray.toList (ByteArray.mk #[116,97,103])) (BL Ae)),Bh Ac,bt (ByteArray.toList (Aq u)==ByteArray.toList (ByteArray.mk #[116,97,103])) (BL Ae),Bh Ac] [1,2,3,4,5,6] [1] Ar hq
theorem iZ(Ac:Ab u=4)(Ae:¬Aq u=ByteArray.mk #[116,97,103])(cx:Cx)(Ar:cx.n=130){Q:A5->S->Prop}(hq:Q (.normal) (S.mk [(1,.lp 1 0),(2,A1 0),(3,A1 a),(4,A1 b),(5,.v (.bool x)),(6,.v (.bool (ByteArray.toList (Aq u)==ByteArray.toList (ByteArray.mk #[118,97,108]))))] [(1,BK u)] xe)):PW prog cx (AW f226 10) (nd3 u a b x xe) Q:=
 pw Ad 130 [rp 4 (Bh Ac),rp 3 (bf (ByteArray.toList (Aq u)==ByteArray.toList (ByteArray.mk #[116,97,103])) (BZ Ae)),Bh Ac,bf (ByteArray.toList (Aq u)==ByteArray.toList (ByteArray.mk #[116,97,103])) (BZ Ae),Bh Ac] [1,2,3,4,5,6] [1] Ar hq
theorem j0(Ac:¬Ab u=4)(cx:Cx)(Ar:cx.n=130){Q:A5->S->Prop}(hq:Q (.normal) (S.mk [(1,.lp 1 0),(2,A1 0),(3,A1 a),(4,A1 b),(5,.v (.bool x)),(6,.v (.bool false))] [(1,BK u)] xe)):PW prog cx (AW f226 10) (nd3 u a b x xe) Q:=
 pw Ad 130 [rp 6 (Aw Ac)] [1,2,3,4,5,6] [1] Ar hq
end
def Bu(u:Pr)(a b:Int)(x:Bool):Bool:=(if Ab u=4 then (if Aq u=ByteArray.mk #[116,97,103] then (true) else ((ByteArray.toList (Aq u)==ByteArray.toList (ByteArray.mk #[118,97,108])))) else (false))
theorem Ts(u:Pr)(a b:Int)(x:Bool)(xe:Ext):(Ob.Ev 130 (AW f226 10) (nd3 u a b x xe) (.normal) (S.mk [(1,.lp 1 0),(2,A1 0),(3,A1 a),(4,A1 b),(5,.v (.bool x)),(6,.v (.bool (Bu u a b x)))] [(1,BK u)] xe)).ok prog:=by
 intro cx Ar
 by_cases g0:Ab u=4
 ·by_cases g1:Aq u=ByteArray.mk #[116,97,103]
  ·exact iY u a b x xe g0 g1 cx Ar ⟨rfl,by rw [show Bu u a b x=(true) by unfold Bu; rw [iP g0,iP g1]]⟩
  ·exact iZ u a b x xe g0 g1 cx Ar ⟨rfl,by rw [show Bu u a b x=((ByteArray.toList (Aq u)==ByteArray.toList (ByteArray.mk #[118,97,108]))) by unfold Bu; rw [iP g0,iN g1]]⟩
 ·exact j0 u a b x xe g0 cx Ar ⟨rfl,by rw [show Bu u a b x=(false) by unfold Bu; rw [iN g0]]⟩
theorem j3(u:Pr)(a b:Int)(x y:Bool)(xe:Ext)(Ac:x=false)(cx:Cx)(Ar:cx.n=130){Q:A5->S->Prop}(hq:Q (.normal) (S.mk [(1,.lp 1 0),(2,A1 0),(3,A1 a),(4,A1 b),(5,.v (.bool x)),(6,.v (.bool y)),(118,.v (.bool !y))] [(1,BK u)] xe)):PW prog cx (AW f226 11) (nd2 u a b x y xe) Q:=
 pw Ad 130 [rp 3 (B2 (B6 Ac))] [1,2,3,4,5,6,118] [1] Ar hq
theorem j4(u:Pr)(a b:Int)(x y:Bool)(xe:Ext)(Ac:x=true)(cx:Cx)(Ar:cx.n=130){Q:A5->S->Prop}(hq:Q (.normal) (S.mk [(1,.lp 1 0),(2,A1 0),(3,A1 a),(4,A1 b),(5,.v (.bool x)),(6,.v (.bool y)),(118,.v (.bool false))] [(1,BK u)] xe)):PW prog cx (AW f226 11) (nd2 u a b x y xe) Q:=
 pw Ad 130 [rp 3 (AQ (AJ Ac))] [1,2,3,4,5,6,118] [1] Ar hq
def CA(u:Pr)(a b:Int)(x y:Bool):Bool:=(if x=true then (false) else (!y))
theorem Tt(u:Pr)(a b:Int)(x y:Bool)(xe:Ext):(Ob.Ev 130 (AW f226 11) (nd2 u a b x y xe) (.normal) (S.mk [(1,.lp 1 0),(2,A1 0),(3,A1 a),(4,A1 b),(5,.v (.bool x)),(6,.v (.bool y)),(118,.v (.bool (CA u a b x y)))] [(1,BK u)] xe)).ok prog:=by
 intro cx Ar
 by_cases g0:x=true
 ·exact j4 u a b x y xe g0 cx Ar ⟨rfl,by rw [show CA u a b x y=(false) by unfold CA; rw [iP g0]]⟩
 ·exact j3 u a b x y xe (Bool.eq_false_iff.2 g0) cx Ar ⟨rfl,by rw [show CA u a b x y=(!y) by unfold CA; rw [iN g0]]⟩
abbrev nd4(u:Pr)(a b:Int)(x:Bool)(xe:Ext):S:=⟨[(1,.lp 1 0),(2,.v (.int .i64 0)),(3,.v (.int .i64 a)),(4,.v (.int .i64 b)),(91,.v (.bool x))],[(1,BK u)],xe⟩
section
variable (u:Pr) (a b:Int) (x y:Bool) (Jz:Ab u=8->0<(As u).length) (xe:Ext)
include u a b x y Jz xe
theorem ZX(Ac:Ab u=8)(cx:Cx)(Ar:cx.n=130){Q:A5->S->Prop}(hq:Q (.normal) (S.mk [(1,.lp 1 0),(2,A1 0),(3,A1 a),(4,A1 b),(5,.v (.bool x)),(6,.v (.bool y)),(129,.v (.bool (Ab (List.getD (As u) 0 default) != 1)))] [(1,BK u)] xe)):PW prog cx (AW f226 13) (nd2 u a b x y xe) Q:=
 pw Ad 130 [rp 3 (Bh Ac),am ((0:Int)<=0/\0<((Pr.cs (As u)).length:Int)) (by (simp only [Pr.A0]; omega)),Wu (As u) 0,rp 4 (Bh Ac)] [1,2,3,4,5,6,129] [1] Ar hq
theorem ZY(Ac:¬Ab u=8)(cx:Cx)(Ar:cx.n=130){Q:A5->S->Prop}(hq:Q (.normal) (S.mk [(1,.lp 1 0),(2,A1 0),(3,A1 a),(4,A1 b),(5,.v (.bool x)),(6,.v (.bool y)),(129,.v (.bool false))] [(1,BK u)] xe)):PW prog cx (AW f226 13) (nd2 u a b x y xe) Q:=
 pw Ad 130 [rp 7 (Aw Ac)] [1,2,3,4,5,6,129] [1] Ar hq
end
def D8(u:Pr)(a b:Int)(x y:Bool):Bool:=(if Ab u=8 then ((Ab (List.getD (As u) 0 default) != 1)) else (false))
theorem UN(u:Pr)(a b:Int)(x y:Bool)(Jz:Ab u=8->0<(As u).length)(xe:Ext):(Ob.Ev 130 (AW f226 13) (nd2 u a b x y xe) (.normal) (S.mk [(1,.lp 1 0),(2,A1 0),(3,A1 a),(4,A1 b),(5,.v (.bool x)),(6,.v (.bool y)),(129,.v (.bool (D8 u a b x y)))] [(1,BK u)] xe)).ok prog:=by
 intro cx Ar
 by_cases g0:Ab u=8
 ·exact ZX u a b x y Jz xe g0 cx Ar ⟨rfl,by rw [show D8 u a b x y=((Ab (List.getD (As u) 0 default) != 1)) by unfold D8; rw [iP g0]]⟩
 ·exact ZY u a b x y Jz xe g0 cx Ar ⟨rfl,by rw [show D8 u a b x y=(false) by unfold D8; rw [iN g0]]⟩
section
variable (u:Pr) (a b:Int) (x:Bool) (Jz:Ab u=8->0<(As u).length) (xe:Ext)
include u a b x Jz xe
theorem ZZ(Ac:Ab u=8)(cx:Cx)(Ar:cx.n=130){Q:A5->S->Prop}(hq:Q (.normal) (S.mk [(1,.lp 1 0),(2,A1 0),(3,A1 a),(4,A1 b),(91,.v (.bool x)),(129,.v (.bool (Ab (List.getD (As u) 0 default) != 1)))] [(1,BK u)] xe)):PW prog cx (AW f226 13) (nd4 u a b x xe) Q:=
 pw Ad 130 [rp 3 (Bh Ac),am ((0:Int)<=0/\0<((Pr.cs (As u)).length:Int)) (by (simp only [Pr.A0]; omega)),Wu (As u) 0,rp 4 (Bh Ac)] [1,2,3,4,91,129] [1] Ar hq
theorem aA(Ac:¬Ab u=8)(cx:Cx)(Ar:cx.n=130){Q:A5->S->Prop}(hq:Q (.normal) (S.mk [(1,.lp 1 0),(2,A1 0),(3,A1 a),(4,A1 b),(91,.v (.bool x)),(129,.v (.bool false))] [(1,BK u)] xe)):PW prog cx (AW f226 13) (nd4 u a b x xe) Q:=
 pw Ad 130 [rp 7 (Aw Ac)] [1,2,3,4,91,129] [1] Ar hq
end
def D9(u:Pr)(a b:Int)(x:Bool):Bool:=(if Ab u=8 then ((Ab (List.getD (As u) 0 default) != 1)) else (false))
theorem UO(u:Pr)(a b:Int)(x:Bool)(Jz:Ab u=8->0<(As u).length)(xe:Ext):(Ob.Ev 130 (AW f226 13) (nd4 u a b x xe) (.normal) (S.mk [(1,.lp 1 0),(2,A1 0),(3,A1 a),(4,A1 b),(91,.v (.bool x)),(129,.v (.bool (D9 u a b x)))] [(1,BK u)] xe)).ok prog:=by
 intro cx Ar
 by_cases g0:Ab u=8
 ·exact ZZ u a b x Jz xe g0 cx Ar ⟨rfl,by rw [show D9 u a b x=((Ab (List.getD (As u) 0 default) != 1)) by unfold D9; rw [iP g0]]⟩
 ·exact aA u a b x Jz xe g0 cx Ar ⟨rfl,by rw [show D9 u a b x=(false) by unfold D9; rw [iN g0]]⟩
def Fy(o:Int):Bool:=(if o=3 then true else (if o=4 then true else (o==5)))
theorem rnm(o:Int):Pu 232 [pI o] (rB (Fy o)):=by
 by_cases h0:o=3
 ·simp only [Fy,iP h0]; exact pm Ad [rp 3 (Bh h0),rp 3 (bt true)] func232
 ·by_cases h1:o=4
  ·simp only [Fy,iN h0,iP h1]; exact pm Ad [rp 3 (Aw h0),rp 3 (Bh h1)] func232
  ·simp only [Fy,iN h0,iN h1]; exact pm Ad [rp 3 (Aw h0),rp 3 (Aw h1)] func232
def CB(o:Int)(n:Int):Bool:=(if o=1 then (n==0) else (if o=2 then (n==0) else (if o=3 then (n==0) else (if o=4 then (if n>=1 then (decide (n<=24)) else false) else (if o=5 then (if n>=1 then (decide (n<=24)) else false) else (if o=9 then (n==1) else (if o=14 then (n==1) else (n==2))))))))
theorem rki(o n:Int):Pu 233 [pI o,pI n] (rB (CB o n)):=by
 by_cases h0:o=1
 ·simp only [CB,iP h0]; exact pm Ad [rp 2 (Bh h0)] func233
 ·by_cases h1:o=2
  ·simp only [CB,iN h0,iP h1]; exact pm Ad [Aw h0,rp 2 (Bh h1)] func233
  ·by_cases h2:o=3
   ·simp only [CB,iN h0,iN h1,iP h2]; exact pm Ad [Aw h0,Aw h1,Bh h2] func233
   ·by_cases h3:o=4
    ·by_cases h4:n>=1
     ·simp only [CB,iN h0,iN h1,iN h2,iP h3,iP h4]; exact pm Ad [Aw h0,Aw h1,Aw h2,rp 2 (Bh h3),rp 3 (C6 h4)] func233
     ·simp only [CB,iN h0,iN h1,iN h2,iP h3,iN h4]; exact pm Ad [Aw h0,Aw h1,Aw h2,rp 2 (Bh h3),rp 3 (Az h4)] func233
    ·by_cases h4:o=5
     ·by_cases h5:n>=1
      ·simp only [CB,iN h0,iN h1,iN h2,iN h3,iP h4,iP h5]; exact pm Ad [Aw h0,Aw h1,Aw h2,Aw h3,Bh h4,rp 3 (C6 h5)] func233
      ·simp only [CB,iN h0,iN h1,iN h2,iN h3,iP h4,iN h5]; exact pm Ad [Aw h0,Aw h1,Aw h2,Aw h3,Bh h4,rp 3 (Az h5)] func233
     ·by_cases h5:o=9
      ·simp only [CB,iN h0,iN h1,iN h2,iN h3,iN h4,iP h5]; exact pm Ad [Aw h0,Aw h1,Aw h2,Aw h3,Aw h4,rp 2 (Bh h5)] func233
      ·by_cases h6:o=14
       ·simp only [CB,iN h0,iN h1,iN h2,iN h3,iN h4,iN h5,iP h6]; exact pm Ad [Aw h0,Aw h1,Aw h2,Aw h3,Aw h4,Aw h5,Bh h6] func233
       ·simp only [CB,iN h0,iN h1,iN h2,iN h3,iN h4,iN h5,iN h6]; exact pm Ad [Aw h0,Aw h1,Aw h2,Aw h3,Aw h4,Aw h5,Aw h6] func233
def Dv(u:Pr):Bool:=(if Ab u=3 then (if Aq u=ByteArray.mk #[118] then true else (Ck (CH (Aq u))==0)) else (if Ab u=4 then (if Aq u=ByteArray.mk #[116,97,103] then true else (if Aq u=ByteArray.mk #[118,97,108] then true else (Ck (CH (Aq u))==0))) else (if Ab u=5 then (Ck (CH (Aq u))==0) else true)))
theorem rca(u:Pr):Pu 235 [.agg (AO u)] (rB (Dv u)):=by
 by_cases h0:Ab u=3
 ·by_cases h1:Aq u=ByteArray.mk #[118]
  ·simp only [Dv,iP h0,iP h1]; exact pm Ad [Bh h0,rp 5 (bt (ByteArray.toList (Aq u)==ByteArray.toList (bM 118)) (BL h1))] func235
  ·simp only [Dv,iP h0,iN h1]; exact pm Ad [Bh h0,rp 3 (bf (ByteArray.toList (Aq u)==ByteArray.toList (bM 118)) (BZ h1)),cl (@WA (Aq u)),rp 2 (bf (ByteArray.toList (Aq u)==ByteArray.toList (bM 118)) (BZ h1))] func235
 ·by_cases h1:Ab u=4
  ·by_cases h2:Aq u=ByteArray.mk #[116,97,103]
   ·simp only [Dv,iN h0,iP h1,iP h2]; exact pm Ad [Aw h0,Bh h1,rp 4 (bt (ByteArray.toList (Aq u)==ByteArray.toList (ByteArray.mk #[116,97,103])) (BL h2)),rp 5 (bt true)] func235
   ·by_cases h3:Aq u=ByteArray.mk #[118,97,108]
    ·simp only [Dv,iN h0,iP h1,iN h2,iP h3]; exact pm Ad [Aw h0,Bh h1,rp 4 (bf (ByteArray.toList (Aq u)==ByteArray.toList (ByteArray.mk #[116,97,103])) (BZ h2)),rp 5 (bt (ByteArray.toList (Aq u)==ByteArray.toList (ByteArray.mk #[118,97,108])) (BL h3))] func235
    ·simp only [Dv,iN h0,iP h1,iN h2,iN h3]; exact pm Ad [Aw h0,Bh h1,rp 4 (bf (ByteArray.toList (Aq u)==ByteArray.toList (ByteArray.mk #[116,97,103])) (BZ h2)),rp 3 (bf (ByteArray.toList (Aq u)==ByteArray.toList (ByteArray.mk #[118,97,108])) (BZ h3)),cl (@WA (Aq u)),rp 2 (bf (ByteArray.toList (Aq u)==ByteArray.toList (ByteArray.mk #[118,97,108])) (BZ h3))] func235
  ·by_cases h2:Ab u=5
   ·simp only [Dv,iN h0,iN h1,iP h2]; exact pm Ad [Aw h0,Aw h1,Bh h2,cl (@WA (Aq u))] func235
   ·simp only [Dv,iN h0,iN h1,iN h2]; exact pm Ad [Aw h0,Aw h1,Aw h2] func235
def K1(n:Int):Bool:=(if n >= -1000000000000 then (decide (n<=1000000000000)) else false)
theorem rIn(n:Int):Pu 234 [pI n] (rB (K1 n)):=by
 by_cases h0:n >= -1000000000000
 ·simp only [K1,iP h0]; exact pm Ad [rp 3 (C6 h0)] func234
 ·simp only [K1,iN h0]; exact pm Ad [rp 3 (Az h0)] func234
abbrev re0(u:Pr)(xe:Ext):S:=⟨[(1,.lp 1 0),(2,.v (.int .i64 0))],[(1,BK u)],xe⟩
abbrev Qq(u:Pr)(x:Bool)(xe:Ext):S:=⟨[(1,.lp 1 0),(2,.v (.int .i64 0)),(3,.v (.bool x))],[(1,BK u)],xe⟩
theorem uW(u:Pr)(xe:Ext)(Ac:Ab u=1)(cx:Cx)(Ar:cx.n=87){Q:A5->S->Prop}(hq:Q (.normal) (S.mk [(1,.lp 1 0),(2,A1 0),(3,.v (.bool true))] [(1,BK u)] xe)):PW prog cx (AW f187 1) (re0 u xe) Q:=
 pw Ad 87 [rp 4 (Bh Ac)] [1,2,3] [1] Ar hq
theorem uX(u:Pr)(xe:Ext)(Ac:¬Ab u=1)(cx:Cx)(Ar:cx.n=87){Q:A5->S->Prop}(hq:Q (.normal) (S.mk [(1,.lp 1 0),(2,A1 0),(3,.v (.bool (Ab u==2)))] [(1,BK u)] xe)):PW prog cx (AW f187 1) (re0 u xe) Q:=
 pw Ad 87 [rp 4 (Aw Ac)] [1,2,3] [1] Ar hq
def B4(u:Pr):Bool:=(if Ab u=1 then (true) else ((Ab u==2)))
theorem S7(u:Pr)(xe:Ext):(Ob.Ev 87 (AW f187 1) (re0 u xe) (.normal) (S.mk [(1,.lp 1 0),(2,A1 0),(3,.v (.bool (B4 u)))] [(1,BK u)] xe)).ok prog:=by
 intro cx Ar
 by_cases g0:Ab u=1
 ·exact uW u xe g0 cx Ar ⟨rfl,by rw [show B4 u=(true) by unfold B4; rw [iP g0]]⟩
 ·exact uX u xe g0 cx Ar ⟨rfl,by rw [show B4 u=((Ab u==2)) by unfold B4; rw [iN g0]]⟩
section
variable (u:Pr) (x:Bool) (xe:Ext)
include u x xe
theorem uY(Ac:Ab u<1)(cx:Cx)(Ar:cx.n=87){Q:A5->S->Prop}(hq:Q (.normal) (S.mk [(1,.lp 1 0),(2,A1 0),(3,.v (.bool x)),(48,.v (.bool true))] [(1,BK u)] xe)):PW prog cx (AW f187 2) (Qq u x xe) Q:=
 pw Ad 87 [rp 4 (C6 Ac),rp 20 (bt true)] [1,2,3,48] [1] Ar hq
theorem uZ(Ac:¬Ab u<1)(Ae:Ab u>18)(cx:Cx)(Ar:cx.n=87){Q:A5->S->Prop}(hq:Q (.normal) (S.mk [(1,.lp 1 0),(2,A1 0),(3,.v (.bool x)),(48,.v (.bool true))] [(1,BK u)] xe)):PW prog cx (AW f187 2) (Qq u x xe) Q:=
 pw Ad 87 [rp 4 (Az Ac),rp 6 (C6 Ae),rp 14 (bt true)] [1,2,3,48] [1] Ar hq
theorem v5(Ac:¬Ab u<1)(Ae:¬Ab u>18)(Ao:¬Aq u=ByteArray.mk #[])(AK:Fy (Ab u)=false)(cx:Cx)(Ar:cx.n=87){Q:A5->S->Prop}(hq:Q (.normal) (S.mk [(1,.lp 1 0),(2,A1 0),(3,.v (.bool x)),(48,.v (.bool true))] [(1,BK u)] xe)):PW prog cx (AW f187 2) (Qq u x xe) Q:=
 pw Ad 87 [rp 4 (Az Ac),rp 4 (Az Ae),rp 3 (bt (!ByteArray.toList (Aq u)==ByteArray.toList Ah) (B6 (BZ Ao))),cl (@rnm (Ab u)),bt (!ByteArray.toList (Aq u)==ByteArray.toList Ah) (B6 (BZ Ao)),Az Ae,bt (!ByteArray.toList (Aq u)==ByteArray.toList Ah) (B6 (BZ Ao)),Az Ae,rp 6 (B2 (B6 AK)),rp 8 (bt true)] [1,2,3,48] [1] Ar hq
theorem v7(Ac:¬Ab u<1)(Ae:¬Ab u>18)(Ao:¬Aq u=ByteArray.mk #[])(AK:Fy (Ab u)=true)(B9:¬Ch u=0)(BU:x=false)(cx:Cx)(Ar:cx.n=87){Q:A5->S->Prop}(hq:Q (.normal) (S.mk [(1,.lp 1 0),(2,A1 0),(3,.v (.bool x)),(48,.v (.bool true))] [(1,BK u)] xe)):PW prog cx (AW f187 2) (Qq u x xe) Q:=
 pw Ad 87 [rp 4 (Az Ac),rp 4 (Az Ae),rp 3 (bt (!ByteArray.toList (Aq u)==ByteArray.toList Ah) (B6 (BZ Ao))),cl (@rnm (Ab u)),bt (!ByteArray.toList (Aq u)==ByteArray.toList Ah) (B6 (BZ Ao)),Az Ae,bt (!ByteArray.toList (Aq u)==ByteArray.toList Ah) (B6 (BZ Ao)),Az Ae,rp 4 (AQ (AJ AK)),rp 2 (Bv B9),AQ (AJ AK),Bv B9,AQ (AJ AK),rp 8 (B2 (B6 BU))] [1,2,3,48] [1] Ar hq
theorem v8(Ac:¬Ab u<1)(Ae:¬Ab u>18)(Ao:¬Aq u=ByteArray.mk #[])(AK:Fy (Ab u)=true)(B9:¬Ch u=0)(BU:x=true)(cx:Cx)(Ar:cx.n=87){Q:A5->S->Prop}(hq:Q (.normal) (S.mk [(1,.lp 1 0),(2,A1 0),(3,.v (.bool x)),(48,.v (.bool !CB (Ab u) ((As u).length:Int)))] [(1,BK u)] xe)):PW prog cx (AW f187 2) (Qq u x xe) Q:=
 pw Ad 87 [rp 4 (Az Ac),rp 4 (Az Ae),rp 3 (bt (!ByteArray.toList (Aq u)==ByteArray.toList Ah) (B6 (BZ Ao))),cl (@rnm (Ab u)),bt (!ByteArray.toList (Aq u)==ByteArray.toList Ah) (B6 (BZ Ao)),Az Ae,bt (!ByteArray.toList (Aq u)==ByteArray.toList Ah) (B6 (BZ Ao)),Az Ae,rp 4 (AQ (AJ AK)),rp 2 (Bv B9),AQ (AJ AK),Bv B9,AQ (AJ AK),rp 5 (AQ (AJ BU)),sl (Pr.A0 (As u)),AQ (AJ BU),cl (@rki (Ab u) (((As u).length:Int))),rp 2 (AQ (AJ BU))] [1,2,3,48] [1] Ar hq
theorem v9(Ac:¬Ab u<1)(Ae:¬Ab u>18)(Ao:¬Aq u=ByteArray.mk #[])(AK:Fy (Ab u)=true)(B9:Ch u=0)(cx:Cx)(Ar:cx.n=87){Q:A5->S->Prop}(hq:Q (.normal) (S.mk [(1,.lp 1 0),(2,A1 0),(3,.v (.bool x)),(48,.v (.bool !CB (Ab u) ((As u).length:Int)))] [(1,BK u)] xe)):PW prog cx (AW f187 2) (Qq u x xe) Q:=
 pw Ad 87 [rp 4 (Az Ac),rp 4 (Az Ae),rp 3 (bt (!ByteArray.toList (Aq u)==ByteArray.toList Ah) (B6 (BZ Ao))),cl (@rnm (Ab u)),bt (!ByteArray.toList (Aq u)==ByteArray.toList Ah) (B6 (BZ Ao)),Az Ae,bt (!ByteArray.toList (Aq u)==ByteArray.toList Ah) (B6 (BZ Ao)),Az Ae,rp 4 (AQ (AJ AK)),rp 2 (Bi B9),AQ (AJ AK),Bi B9,AQ (AJ AK),rp 5 (bf false),sl (Pr.A0 (As u)),bf false,cl (@rki (Ab u) (((As u).length:Int))),rp 2 (bf false)] [1,2,3,48] [1] Ar hq
theorem vE(Ac:¬Ab u<1)(Ae:¬Ab u>18)(Ao:Aq u=ByteArray.mk #[])(AK:¬Ch u=0)(B9:x=false)(cx:Cx)(Ar:cx.n=87){Q:A5->S->Prop}(hq:Q (.normal) (S.mk [(1,.lp 1 0),(2,A1 0),(3,.v (.bool x)),(48,.v (.bool true))] [(1,BK u)] xe)):PW prog cx (AW f187 2) (Qq u x xe) Q:=
 pw Ad 87 [rp 4 (Az Ac),rp 4 (Az Ae),rp 4 (bf (!ByteArray.toList (Aq u)==ByteArray.toList Ah) (AJ (BL Ao))),Az Ae,bf (!ByteArray.toList (Aq u)==ByteArray.toList Ah) (AJ (BL Ao)),Az Ae,rp 4 (bf false),rp 2 (Bv AK),bf false,Bv AK,bf false,rp 8 (B2 (B6 B9))] [1,2,3,48] [1] Ar hq
theorem vJ(Ac:¬Ab u<1)(Ae:¬Ab u>18)(Ao:Aq u=ByteArray.mk #[])(AK:¬Ch u=0)(B9:x=true)(cx:Cx)(Ar:cx.n=87){Q:A5->S->Prop}(hq:Q (.normal) (S.mk [(1,.lp 1 0),(2,A1 0),(3,.v (.bool x)),(48,.v (.bool !CB (Ab u) ((As u).length:Int)))] [(1,BK u)] xe)):PW prog cx (AW f187 2) (Qq u x xe) Q:=
 pw Ad 87 [rp 4 (Az Ac),rp 4 (Az Ae),rp 4 (bf (!ByteArray.toList (Aq u)==ByteArray.toList Ah) (AJ (BL Ao))),Az Ae,bf (!ByteArray.toList (Aq u)==ByteArray.toList Ah) (AJ (BL Ao)),Az Ae,rp 4 (bf false),rp 2 (Bv AK),bf false,Bv AK,bf false,rp 5 (AQ (AJ B9)),sl (Pr.A0 (As u)),AQ (AJ B9),cl (@rki (Ab u) (((As u).length:Int))),rp 2 (AQ (AJ B9))] [1,2,3,48] [1] Ar hq
theorem vU(Ac:¬Ab u<1)(Ae:¬Ab u>18)(Ao:Aq u=ByteArray.mk #[])(AK:Ch u=0)(cx:Cx)(Ar:cx.n=87){Q:A5->S->Prop}(hq:Q (.normal) (S.mk [(1,.lp 1 0),(2,A1 0),(3,.v (.bool x)),(48,.v (.bool !CB (Ab u) ((As u).length:Int)))] [(1,BK u)] xe)):PW prog cx (AW f187 2) (Qq u x xe) Q:=
 pw Ad 87 [rp 4 (Az Ac),rp 4 (Az Ae),rp 4 (bf (!ByteArray.toList (Aq u)==ByteArray.toList Ah) (AJ (BL Ao))),Az Ae,bf (!ByteArray.toList (Aq u)==ByteArray.toList Ah) (AJ (BL Ao)),Az Ae,rp 4 (bf false),rp 2 (Bi AK),bf false,Bi AK,rp 6 (bf false),sl (Pr.A0 (As u)),bf false,cl (@rki (Ab u) (((As u).length:Int))),rp 2 (bf false)] [1,2,3,48] [1] Ar hq
end
def Bk(u:Pr)(x:Bool):Bool:=(if Ab u<1 then (true) else (if Ab u>18 then (true) else (if Aq u=ByteArray.mk #[] then (if Ch u=0 then (!CB (Ab u) ((As u).length:Int)) else (if x=true then (!CB (Ab u) ((As u).length:Int)) else (true))) else (if Fy (Ab u)=true then (if Ch u=0 then (!CB (Ab u) ((As u).length:Int)) else (if x=true then (!CB (Ab u) ((As u).length:Int)) else (true))) else (true)))))
theorem S8(u:Pr)(x:Bool)(xe:Ext):(Ob.Ev 87 (AW f187 2) (Qq u x xe) (.normal) (S.mk [(1,.lp 1 0),(2,A1 0),(3,.v (.bool x)),(48,.v (.bool (Bk u x)))] [(1,BK u)] xe)).ok prog:=by
 intro cx Ar
 by_cases g0:Ab u<1
 ·exact uY u x xe g0 cx Ar ⟨rfl,by rw [show Bk u x=(true) by unfold Bk; rw [iP g0]]⟩
 ·by_cases g1:Ab u>18
  ·exact uZ u x xe g0 g1 cx Ar ⟨rfl,by rw [show Bk u x=(true) by unfold Bk; rw [iN g0,iP g1]]⟩
  ·by_cases g2:Aq u=ByteArray.mk #[]
   ·by_cases g3:Ch u=0
    ·exact vU u x xe g0 g1 g2 g3 cx Ar ⟨rfl,by rw [show Bk u x=(!CB (Ab u) ((As u).length:Int)) by unfold Bk; rw [iN g0,iN g1,iP g2,iP g3]]⟩
    ·by_cases g4:x=true
     ·exact vJ u x xe g0 g1 g2 g3 g4 cx Ar ⟨rfl,by rw [show Bk u x=(!CB (Ab u) ((As u).length:Int)) by unfold Bk; rw [iN g0,iN g1,iP g2,iN g3,iP g4]]⟩
     ·exact vE u x xe g0 g1 g2 g3 (Bool.eq_false_iff.2 g4) cx Ar ⟨rfl,by rw [show Bk u x=(true) by unfold Bk; rw [iN g0,iN g1,iP g2,iN g3,iN g4]]⟩
   ·by_cases g3:Fy (Ab u)=true
    ·by_cases g4:Ch u=0
     ·exact v9 u x xe g0 g1 g2 g3 g4 cx Ar ⟨rfl,by rw [show Bk u x=(!CB (Ab u) ((As u).length:Int)) by unfold Bk; rw [iN g0,iN g1,iN g2,iP g3,iP g4]]⟩
     ·by_cases g5:x=true
      ·exact v8 u x xe g0 g1 g2 g3 g4 g5 cx Ar ⟨rfl,by rw [show Bk u x=(!CB (Ab u) ((As u).length:Int)) by unfold Bk; rw [iN g0,iN g1,iN g2,iP g3,iN g4,iP g5]]⟩
      ·exact v7 u x xe g0 g1 g2 g3 g4 (Bool.eq_false_iff.2 g5) cx Ar ⟨rfl,by rw [show Bk u x=(true) by unfold Bk; rw [iN g0,iN g1,iN g2,iP g3,iN g4,iN g5]]⟩
    ·exact v5 u x xe g0 g1 g2 (Bool.eq_false_iff.2 g3) cx Ar ⟨rfl,by rw [show Bk u x=(true) by unfold Bk; rw [iN g0,iN g1,iN g2,iN g3]]⟩
section
variable (u:Pr) (x:Bool) (xe:Ext)
include u x xe
theorem vV(Ac:Ab u=1)(Ae:K1 (Ch u)=false)(cx:Cx)(Ar:cx.n=87){Q:A5->S->Prop}(hq:Q (.normal) (S.mk [(1,.lp 1 0),(2,A1 0),(3,.v (.bool x)),(72,.v (.bool true))] [(1,BK u)] xe)):PW prog cx (AW f187 4) (Qq u x xe) Q:=
 pw Ad 87 [rp 3 (Bh Ac),cl (@rIn (Ch u)),rp 2 (Bh Ac),rp 6 (B2 (B6 Ae))] [1,2,3,72] [1] Ar hq
theorem vX(Ac:Ab u=1)(Ae:K1 (Ch u)=true)(cx:Cx)(Ar:cx.n=87){Q:A5->S->Prop}(hq:Q (.normal) (S.mk [(1,.lp 1 0),(2,A1 0),(3,.v (.bool x)),(72,.v (.bool false))] [(1,BK u)] xe)):PW prog cx (AW f187 4) (Qq u x xe) Q:=
 pw Ad 87 [rp 3 (Bh Ac),cl (@rIn (Ch u)),rp 2 (Bh Ac),rp 4 (AQ (AJ Ae)),rp 5 (en (Ab u) 2),AQ (AJ Ae),en (Ab u) 2,AQ (AJ Ae)] [1,2,3,72] [1] Ar hq
theorem vY(Ac:¬Ab u=1)(Ae:Ab u=2)(Ao:Ch u<0)(cx:Cx)(Ar:cx.n=87){Q:A5->S->Prop}(hq:Q (.normal) (S.mk [(1,.lp 1 0),(2,A1 0),(3,.v (.bool x)),(72,.v (.bool true))] [(1,BK u)] xe)):PW prog cx (AW f187 4) (Qq u x xe) Q:=
 pw Ad 87 [rp 5 (Aw Ac),rp 4 (bf false),rp 4 (Bh Ae),rp 3 (C6 Ao),Bh Ae,C6 Ao,bf false,Bh Ae,bf false] [1,2,3,72] [1] Ar hq
theorem vZ(Ac:¬Ab u=1)(Ae:Ab u=2)(Ao:¬Ch u<0)(cx:Cx)(Ar:cx.n=87){Q:A5->S->Prop}(hq:Q (.normal) (S.mk [(1,.lp 1 0),(2,A1 0),(3,.v (.bool x)),(72,.v (.bool (decide (Ch u>1))))] [(1,BK u)] xe)):PW prog cx (AW f187 4) (Qq u x xe) Q:=
 pw Ad 87 [rp 5 (Aw Ac),rp 4 (bf false),rp 4 (Bh Ae),rp 3 (Az Ao),Bh Ae,Az Ao,bf false,Bh Ae,bf false] [1,2,3,72] [1] Ar hq
theorem w6(Ac:¬Ab u=1)(Ae:¬Ab u=2)(cx:Cx)(Ar:cx.n=87){Q:A5->S->Prop}(hq:Q (.normal) (S.mk [(1,.lp 1 0),(2,A1 0),(3,.v (.bool x)),(72,.v (.bool false))] [(1,BK u)] xe)):PW prog cx (AW f187 4) (Qq u x xe) Q:=
 pw Ad 87 [rp 5 (Aw Ac),rp 4 (bf false),rp 5 (Aw Ae),bf false,Aw Ae,bf false] [1,2,3,72] [1] Ar hq
end
def Cw(u:Pr)(x:Bool):Bool:=(if Ab u=1 then (if K1 (Ch u)=true then (false) else (true)) else (if Ab u=2 then (if Ch u<0 then (true) else ((decide (Ch u>1)))) else (false)))
theorem UP(u:Pr)(x:Bool)(xe:Ext):(Ob.Ev 87 (AW f187 4) (Qq u x xe) (.normal) (S.mk [(1,.lp 1 0),(2,A1 0),(3,.v (.bool x)),(72,.v (.bool (Cw u x)))] [(1,BK u)] xe)).ok prog:=by
 intro cx Ar
 by_cases g0:Ab u=1
 ·by_cases g1:K1 (Ch u)=true
  ·exact vX u x xe g0 g1 cx Ar ⟨rfl,by rw [show Cw u x=(false) by unfold Cw; rw [iP g0,iP g1]]⟩
  ·exact vV u x xe g0 (Bool.eq_false_iff.2 g1) cx Ar ⟨rfl,by rw [show Cw u x=(true) by unfold Cw; rw [iP g0,iN g1]]⟩
 ·by_cases g1:Ab u=2
  ·by_cases g2:Ch u<0
   ·exact vY u x xe g0 g1 g2 cx Ar ⟨rfl,by rw [show Cw u x=(true) by unfold Cw; rw [iN g0,iP g1,iP g2]]⟩
   ·exact vZ u x xe g0 g1 g2 cx Ar ⟨rfl,by rw [show Cw u x=((decide (Ch u>1))) by unfold Cw; rw [iN g0,iP g1,iN g2]]⟩
  ·exact w6 u x xe g0 g1 cx Ar ⟨rfl,by rw [show Cw u x=(false) by unfold Cw; rw [iN g0,iN g1]]⟩
section
variable (u:Pr) (x:Bool) (Jz:Ab u=8->0<(As u).length) (xe:Ext)
include u x Jz xe
theorem w7(Ac:Ab u=8)(cx:Cx)(Ar:cx.n=87){Q:A5->S->Prop}(hq:Q (.normal) (S.mk [(1,.lp 1 0),(2,A1 0),(3,.v (.bool x)),(86,.v (.bool (Ab (List.getD (As u) 0 default) != 1)))] [(1,BK u)] xe)):PW prog cx (AW f187 8) (Qq u x xe) Q:=
 pw Ad 87 [rp 3 (Bh Ac),am ((0:Int)<=0/\0<((Pr.cs (As u)).length:Int)) (by (simp only [Pr.A0]; omega)),Wu (As u) 0,rp 4 (Bh Ac)] [1,2,3,86] [1] Ar hq
theorem w8(Ac:¬Ab u=8)(cx:Cx)(Ar:cx.n=87){Q:A5->S->Prop}(hq:Q (.normal) (S.mk [(1,.lp 1 0),(2,A1 0),(3,.v (.bool x)),(86,.v (.bool false))] [(1,BK u)] xe)):PW prog cx (AW f187 8) (Qq u x xe) Q:=
 pw Ad 87 [rp 7 (Aw Ac)] [1,2,3,86] [1] Ar hq
end
def EE(u:Pr)(x:Bool):Bool:=(if Ab u=8 then ((Ab (List.getD (As u) 0 default) != 1)) else (false))
theorem mT(u:Pr)(x:Bool)(Jz:Ab u=8->0<(As u).length)(xe:Ext):(Ob.Ev 87 (AW f187 8) (Qq u x xe) (.normal) (S.mk [(1,.lp 1 0),(2,A1 0),(3,.v (.bool x)),(86,.v (.bool (EE u x)))] [(1,BK u)] xe)).ok prog:=by
 intro cx Ar
 by_cases g0:Ab u=8
 ·exact w7 u x Jz xe g0 cx Ar ⟨rfl,by rw [show EE u x=((Ab (List.getD (As u) 0 default) != 1)) by unfold EE; rw [iP g0]]⟩
 ·exact w8 u x Jz xe g0 cx Ar ⟨rfl,by rw [show EE u x=(false) by unfold EE; rw [iN g0]]⟩
theorem A3g{u:Pr}(h:¬AT u (A9 (Ab u)) (Aa (Ab u))=true):Ab u=8->0<(As u).length:=fun h8=>by
 rcases Nat.eq_zero_or_pos (As u).length with h0 | h0
 ·exfalso; apply h
  simp only [AT,Cc,A9,Aa,h8,h0]
  simp
 ·exact h0
theorem Qr{u:Pr}(h:AT u (A9 (Ab u)) (Aa (Ab u))=false):Ab u=8->0<(As u).length:=A3g (by rw [h]; decide)
def mU:Md:=⟨fun _=>some false,fun t=>t==1000001||t==1000004||t==1000006||t==1000008||t==1000009||t==1000010||t==1000011||t==1000013⟩
section
variable (u:Pr) (Ac:C9 u=false) (Ae:AT u (A9 (Ab u)) (Aa (Ab u))=false) (Ao:BV u (A9 (Ab u)) (Aa (Ab u))=false)
include u Ac Ae Ao
theorem A3h(AK:BI u (A9 (Ab u)) (Aa (Ab u))=true)(B9:CA u (A9 (Ab u)) (Aa (Ab u)) (B1 u (A9 (Ab u)) (Aa (Ab u))) (Bu u (A9 (Ab u)) (Aa (Ab u)) (B1 u (A9 (Ab u)) (Aa (Ab u))))=false)(BU:D8 u (A9 (Ab u)) (Aa (Ab u)) (B1 u (A9 (Ab u)) (Aa (Ab u))) (Bu u (A9 (Ab u)) (Aa (Ab u)) (B1 u (A9 (Ab u)) (Aa (Ab u))))=true):Pu 226 [.agg (AO u)] (rI 6):=
 pu mU (fun e=>[lf (S.mk [(0,.v (.agg (AO u))),(1,.lp 1 0),(2,A1 0)] [(1,BK u)] e) (@LN (u) (e)) ⟨⟨W,W,An⟩,⟨⟨W,W,W,W,An⟩,An⟩,rfl⟩,AQ Ac,cl (@uB (Ab u)),lf (S.mk [(1,.lp 1 0),(2,A1 0),(14,.v (.bool (C9 u))),(16,.lp 1 0),(17,A1 (Ab u)),(18,.v (.AE [pI (A9 (Ab u)),pI (Aa (Ab u))])),(15,.v (.AE [pI (A9 (Ab u)),pI (Aa (Ab u))])),(19,A1 (A9 (Ab u))),(20,A1 (Aa (Ab u))),(3,A1 (A9 (Ab u))),(4,A1 (Aa (Ab u)))] [(1,BK u)] e) (@Ns (u) (A9 (Ab u)) (Aa (Ab u)) (e)) ⟨⟨W,W,W,W,An⟩,⟨⟨W,W,W,W,An⟩,An⟩,rfl⟩,AQ Ae,lf (S.mk [(1,.lp 1 0),(2,A1 0),(3,A1 (A9 (Ab u))),(4,A1 (Aa (Ab u))),(58,.v (.bool (AT u (A9 (Ab u)) (Aa (Ab u)))))] [(1,BK u)] e) (@Ph (u) (A9 (Ab u)) (Aa (Ab u)) (e)) ⟨⟨W,W,W,W,An⟩,⟨⟨W,W,W,W,An⟩,An⟩,rfl⟩,AQ Ao,lf (S.mk [(1,.lp 1 0),(2,A1 0),(3,A1 (A9 (Ab u))),(4,A1 (Aa (Ab u))),(82,.v (.bool (BV u (A9 (Ab u)) (Aa (Ab u)))))] [(1,BK u)] e) (@S6 (u) (A9 (Ab u)) (Aa (Ab u)) (e)) ⟨⟨W,W,W,W,An⟩,⟨⟨W,W,W,W,An⟩,An⟩,rfl⟩,B2 AK,lf (S.mk [(1,.lp 1 0),(2,A1 0),(3,A1 (A9 (Ab u))),(4,A1 (Aa (Ab u))),(91,.v (.bool (BI u (A9 (Ab u)) (Aa (Ab u)))))] [(1,BK u)] e) (@ZW (u) (A9 (Ab u)) (Aa (Ab u)) (e)) ⟨⟨W,W,W,W,An⟩,⟨⟨W,W,W,W,An⟩,An⟩,rfl⟩,lf (S.mk [(1,.lp 1 0),(2,A1 0),(3,A1 (A9 (Ab u))),(4,A1 (Aa (Ab u))),(5,.v (.bool (B1 u (A9 (Ab u)) (Aa (Ab u)))))] [(1,BK u)] e) (@Ts (u) (A9 (Ab u)) (Aa (Ab u)) (B1 u (A9 (Ab u)) (Aa (Ab u))) (e)) ⟨⟨W,W,W,W,W,An⟩,⟨⟨W,W,W,W,An⟩,An⟩,rfl⟩,lf (S.mk [(1,.lp 1 0),(2,A1 0),(3,A1 (A9 (Ab u))),(4,A1 (Aa (Ab u))),(5,.v (.bool (B1 u (A9 (Ab u)) (Aa (Ab u))))),(6,.v (.bool (Bu u (A9 (Ab u)) (Aa (Ab u)) (B1 u (A9 (Ab u)) (Aa (Ab u))))))] [(1,BK u)] e) (@Tt (u) (A9 (Ab u)) (Aa (Ab u)) (B1 u (A9 (Ab u)) (Aa (Ab u))) (Bu u (A9 (Ab u)) (Aa (Ab u)) (B1 u (A9 (Ab u)) (Aa (Ab u)))) (e)) ⟨⟨W,W,W,W,W,W,An⟩,⟨⟨W,W,W,W,An⟩,An⟩,rfl⟩,AQ B9,lf (S.mk [(1,.lp 1 0),(2,A1 0),(3,A1 (A9 (Ab u))),(4,A1 (Aa (Ab u))),(5,.v (.bool (B1 u (A9 (Ab u)) (Aa (Ab u))))),(6,.v (.bool (Bu u (A9 (Ab u)) (Aa (Ab u)) (B1 u (A9 (Ab u)) (Aa (Ab u)))))),(118,.v (.bool (CA u (A9 (Ab u)) (Aa (Ab u)) (B1 u (A9 (Ab u)) (Aa (Ab u))) (Bu u (A9 (Ab u)) (Aa (Ab u)) (B1 u (A9 (Ab u)) (Aa (Ab u)))))))] [(1,BK u)] e) (@UN (u) (A9 (Ab u)) (Aa (Ab u)) (B1 u (A9 (Ab u)) (Aa (Ab u))) (Bu u (A9 (Ab u)) (Aa (Ab u)) (B1 u (A9 (Ab u)) (Aa (Ab u)))) (by (apply Qr <;> first | assumption | omega | decide)) (e)) ⟨⟨W,W,W,W,W,W,An⟩,⟨⟨W,W,W,W,An⟩,An⟩,rfl⟩,B2 BU]) func226
theorem A3i(AK:BI u (A9 (Ab u)) (Aa (Ab u))=true)(B9:CA u (A9 (Ab u)) (Aa (Ab u)) (B1 u (A9 (Ab u)) (Aa (Ab u))) (Bu u (A9 (Ab u)) (Aa (Ab u)) (B1 u (A9 (Ab u)) (Aa (Ab u))))=false)(BU:D8 u (A9 (Ab u)) (Aa (Ab u)) (B1 u (A9 (Ab u)) (Aa (Ab u))) (Bu u (A9 (Ab u)) (Aa (Ab u)) (B1 u (A9 (Ab u)) (Aa (Ab u))))=false):Pu 226 [.agg (AO u)] (rI 0):=
 pu mU (fun e=>[lf (S.mk [(0,.v (.agg (AO u))),(1,.lp 1 0),(2,A1 0)] [(1,BK u)] e) (@LN (u) (e)) ⟨⟨W,W,An⟩,⟨⟨W,W,W,W,An⟩,An⟩,rfl⟩,AQ Ac,cl (@uB (Ab u)),lf (S.mk [(1,.lp 1 0),(2,A1 0),(14,.v (.bool (C9 u))),(16,.lp 1 0),(17,A1 (Ab u)),(18,.v (.AE [pI (A9 (Ab u)),pI (Aa (Ab u))])),(15,.v (.AE [pI (A9 (Ab u)),pI (Aa (Ab u))])),(19,A1 (A9 (Ab u))),(20,A1 (Aa (Ab u))),(3,A1 (A9 (Ab u))),(4,A1 (Aa (Ab u)))] [(1,BK u)] e) (@Ns (u) (A9 (Ab u)) (Aa (Ab u)) (e)) ⟨⟨W,W,W,W,An⟩,⟨⟨W,W,W,W,An⟩,An⟩,rfl⟩,AQ Ae,lf (S.mk [(1,.lp 1 0),(2,A1 0),(3,A1 (A9 (Ab u))),(4,A1 (Aa (Ab u))),(58,.v (.bool (AT u (A9 (Ab u)) (Aa (Ab u)))))] [(1,BK u)] e) (@Ph (u) (A9 (Ab u)) (Aa (Ab u)) (e)) ⟨⟨W,W,W,W,An⟩,⟨⟨W,W,W,W,An⟩,An⟩,rfl⟩,AQ Ao,lf (S.mk [(1,.lp 1 0),(2,A1 0),(3,A1 (A9 (Ab u))),(4,A1 (Aa (Ab u))),(82,.v (.bool (BV u (A9 (Ab u)) (Aa (Ab u)))))] [(1,BK u)] e) (@S6 (u) (A9 (Ab u)) (Aa (Ab u)) (e)) ⟨⟨W,W,W,W,An⟩,⟨⟨W,W,W,W,An⟩,An⟩,rfl⟩,B2 AK,lf (S.mk [(1,.lp 1 0),(2,A1 0),(3,A1 (A9 (Ab u))),(4,A1 (Aa (Ab u))),(91,.v (.bool (BI u (A9 (Ab u)) (Aa (Ab u)))))] [(1,BK u)] e) (@ZW (u) (A9 (Ab u)) (Aa (Ab u)) (e)) ⟨⟨W,W,W,W,An⟩,⟨⟨W,W,W,W,An⟩,An⟩,rfl⟩,lf (S.mk [(1,.lp 1 0),(2,A1 0),(3,A1 (A9 (Ab u))),(4,A1 (Aa (Ab u))),(5,.v (.bool (B1 u (A9 (Ab u)) (Aa (Ab u)))))] [(1,BK u)] e) (@Ts (u) (A9 (Ab u)) (Aa (Ab u)) (B1 u (A9 (Ab u)) (Aa (Ab u))) (e)) ⟨⟨W,W,W,W,W,An⟩,⟨⟨W,W,W,W,An⟩,An⟩,rfl⟩,lf (S.mk [(1,.lp 1 0),(2,A1 0),(3,A1 (A9 (Ab u))),(4,A1 (Aa (Ab u))),(5,.v (.bool (B1 u (A9 (Ab u)) (Aa (Ab u))))),(6,.v (.bool (Bu u (A9 (Ab u)) (Aa (Ab u)) (B1 u (A9 (Ab u)) (Aa (Ab u))))))] [(1,BK u)] e) (@Tt (u) (A9 (Ab u)) (Aa (Ab u)) (B1 u (A9 (Ab u)) (Aa (Ab u))) (Bu u (A9 (Ab u)) (Aa (Ab u)) (B1 u (A9 (Ab u)) (Aa (Ab u)))) (e)) ⟨⟨W,W,W,W,W,W,An⟩,⟨⟨W,W,W,W,An⟩,An⟩,rfl⟩,AQ B9,lf (S.mk [(1,.lp 1 0),(2,A1 0),(3,A1 (A9 (Ab u))),(4,A1 (Aa (Ab u))),(5,.v (.bool (B1 u (A9 (Ab u)) (Aa (Ab u))))),(6,.v (.bool (Bu u (A9 (Ab u)) (Aa (Ab u)) (B1 u (A9 (Ab u)) (Aa (Ab u)))))),(118,.v (.bool (CA u (A9 (Ab u)) (Aa (Ab u)) (B1 u (A9 (Ab u)) (Aa (Ab u))) (Bu u (A9 (Ab u)) (Aa (Ab u)) (B1 u (A9 (Ab u)) (Aa (Ab u)))))))] [(1,BK u)] e) (@UN (u) (A9 (Ab u)) (Aa (Ab u)) (B1 u (A9 (Ab u)) (Aa (Ab u))) (Bu u (A9 (Ab u)) (Aa (Ab u)) (B1 u (A9 (Ab u)) (Aa (Ab u)))) (by (apply Qr <;> first | assumption | omega | decide)) (e)) ⟨⟨W,W,W,W,W,W,An⟩,⟨⟨W,W,W,W,An⟩,An⟩,rfl⟩,AQ BU]) func226
theorem A3j(AK:BI u (A9 (Ab u)) (Aa (Ab u))=false)(B9:D9 u (A9 (Ab u)) (Aa (Ab u)) (BI u (A9 (Ab u)) (Aa (Ab u)))=true):Pu 226 [.agg (AO u)] (rI 6):=
 pu mU (fun e=>[lf (S.mk [(0,.v (.agg (AO u))),(1,.lp 1 0),(2,A1 0)] [(1,BK u)] e) (@LN (u) (e)) ⟨⟨W,W,An⟩,⟨⟨W,W,W,W,An⟩,An⟩,rfl⟩,AQ Ac,cl (@uB (Ab u)),lf (S.mk [(1,.lp 1 0),(2,A1 0),(14,.v (.bool (C9 u))),(16,.lp 1 0),(17,A1 (Ab u)),(18,.v (.AE [pI (A9 (Ab u)),pI (Aa (Ab u))])),(15,.v (.AE [pI (A9 (Ab u)),pI (Aa (Ab u))])),(19,A1 (A9 (Ab u))),(20,A1 (Aa (Ab u))),(3,A1 (A9 (Ab u))),(4,A1 (Aa (Ab u)))] [(1,BK u)] e) (@Ns (u) (A9 (Ab u)) (Aa (Ab u)) (e)) ⟨⟨W,W,W,W,An⟩,⟨⟨W,W,W,W,An⟩,An⟩,rfl⟩,AQ Ae,lf (S.mk [(1,.lp 1 0),(2,A1 0),(3,A1 (A9 (Ab u))),(4,A1 (Aa (Ab u))),(58,.v (.bool (AT u (A9 (Ab u)) (Aa (Ab u)))))] [(1,BK u)] e) (@Ph (u) (A9 (Ab u)) (Aa (Ab u)) (e)) ⟨⟨W,W,W,W,An⟩,⟨⟨W,W,W,W,An⟩,An⟩,rfl⟩,AQ Ao,lf (S.mk [(1,.lp 1 0),(2,A1 0),(3,A1 (A9 (Ab u))),(4,A1 (Aa (Ab u))),(82,.v (.bool (BV u (A9 (Ab u)) (Aa (Ab u)))))] [(1,BK u)] e) (@S6 (u) (A9 (Ab u)) (Aa (Ab u)) (e)) ⟨⟨W,W,W,W,An⟩,⟨⟨W,W,W,W,An⟩,An⟩,rfl⟩,AQ AK,lf (S.mk [(1,.lp 1 0),(2,A1 0),(3,A1 (A9 (Ab u))),(4,A1 (Aa (Ab u))),(91,.v (.bool (BI u (A9 (Ab u)) (Aa (Ab u)))))] [(1,BK u)] e) (@UO (u) (A9 (Ab u)) (Aa (Ab u)) (BI u (A9 (Ab u)) (Aa (Ab u))) (by (apply Qr <;> first | assumption | omega | decide)) (e)) ⟨⟨W,W,W,W,W,An⟩,⟨⟨W,W,W,W,An⟩,An⟩,rfl⟩,B2 B9]) func226
theorem A3k(AK:BI u (A9 (Ab u)) (Aa (Ab u))=false)(B9:D9 u (A9 (Ab u)) (Aa (Ab u)) (BI u (A9 (Ab u)) (Aa (Ab u)))=false):Pu 226 [.agg (AO u)] (rI 0):=
 pu mU (fun e=>[lf (S.mk [(0,.v (.agg (AO u))),(1,.lp 1 0),(2,A1 0)] [(1,BK u)] e) (@LN (u) (e)) ⟨⟨W,W,An⟩,⟨⟨W,W,W,W,An⟩,An⟩,rfl⟩,AQ Ac,cl (@uB (Ab u)),lf (S.mk [(1,.lp 1 0),(2,A1 0),(14,.v (.bool (C9 u))),(16,.lp 1 0),(17,A1 (Ab u)),(18,.v (.AE [pI (A9 (Ab u)),pI (Aa (Ab u))])),(15,.v (.AE [pI (A9 (Ab u)),pI (Aa (Ab u))])),(19,A1 (A9 (Ab u))),(20,A1 (Aa (Ab u))),(3,A1 (A9 (Ab u))),(4,A1 (Aa (Ab u)))] [(1,BK u)] e) (@Ns (u) (A9 (Ab u)) (Aa (Ab u)) (e)) ⟨⟨W,W,W,W,An⟩,⟨⟨W,W,W,W,An⟩,An⟩,rfl⟩,AQ Ae,lf (S.mk [(1,.lp 1 0),(2,A1 0),(3,A1 (A9 (Ab u))),(4,A1 (Aa (Ab u))),(58,.v (.bool (AT u (A9 (Ab u)) (Aa (Ab u)))))] [(1,BK u)] e) (@Ph (u) (A9 (Ab u)) (Aa (Ab u)) (e)) ⟨⟨W,W,W,W,An⟩,⟨⟨W,W,W,W,An⟩,An⟩,rfl⟩,AQ Ao,lf (S.mk [(1,.lp 1 0),(2,A1 0),(3,A1 (A9 (Ab u))),(4,A1 (Aa (Ab u))),(82,.v (.bool (BV u (A9 (Ab u)) (Aa (Ab u)))))] [(1,BK u)] e) (@S6 (u) (A9 (Ab u)) (Aa (Ab u)) (e)) ⟨⟨W,W,W,W,An⟩,⟨⟨W,W,W,W,An⟩,An⟩,rfl⟩,AQ AK,lf (S.mk [(1,.lp 1 0),(2,A1 0),(3,A1 (A9 (Ab u))),(4,A1 (Aa (Ab u))),(91,.v (.bool (BI u (A9 (Ab u)) (Aa (Ab u)))))] [(1,BK u)] e) (@UO (u) (A9 (Ab u)) (Aa (Ab u)) (BI u (A9 (Ab u)) (Aa (Ab u))) (by (apply Qr <;> first | assumption | omega | decide)) (e)) ⟨⟨W,W,W,W,W,An⟩,⟨⟨W,W,W,W,An⟩,An⟩,rfl⟩,AQ B9]) func226
end
def Bm(u:Pr):Int:=(if C9 u=true then 1 else (if AT u (A9 (Ab u)) (Aa (Ab u))=true then 1 else (if BV u (A9 (Ab u)) (Aa (Ab u))=true then 2 else (if BI u (A9 (Ab u)) (Aa (Ab u))=true then (if CA u (A9 (Ab u)) (Aa (Ab u)) (B1 u (A9 (Ab u)) (Aa (Ab u))) (Bu u (A9 (Ab u)) (Aa (Ab u)) (B1 u (A9 (Ab u)) (Aa (Ab u))))=true then 3 else (if D8 u (A9 (Ab u)) (Aa (Ab u)) (B1 u (A9 (Ab u)) (Aa (Ab u))) (Bu u (A9 (Ab u)) (Aa (Ab u)) (B1 u (A9 (Ab u)) (Aa (Ab u))))=true then 6 else 0)) else (if D9 u (A9 (Ab u)) (Aa (Ab u)) (BI u (A9 (Ab u)) (Aa (Ab u)))=true then 6 else 0)))))
theorem pnd(u:Pr):Pu 226 [.agg (AO u)] (rI (Bm u)):=by
 by_cases h0:C9 u=true
 ·simp only [Bm,iP h0]; exact pu mU (fun e=>[lf (S.mk [(0,.v (.agg (AO u))),(1,.lp 1 0),(2,A1 0)] [(1,BK u)] e) (@LN (u) (e)) ⟨⟨W,W,An⟩,⟨⟨W,W,W,W,An⟩,An⟩,rfl⟩,B2 h0]) func226
 ·by_cases h1:AT u (A9 (Ab u)) (Aa (Ab u))=true
  ·simp only [Bm,iN h0,iP h1]; exact pu mU (fun e=>[lf (S.mk [(0,.v (.agg (AO u))),(1,.lp 1 0),(2,A1 0)] [(1,BK u)] e) (@LN (u) (e)) ⟨⟨W,W,An⟩,⟨⟨W,W,W,W,An⟩,An⟩,rfl⟩,AQ (DQ h0),cl (@uB (Ab u)),lf (S.mk [(1,.lp 1 0),(2,A1 0),(14,.v (.bool (C9 u))),(16,.lp 1 0),(17,A1 (Ab u)),(18,.v (.AE [pI (A9 (Ab u)),pI (Aa (Ab u))])),(15,.v (.AE [pI (A9 (Ab u)),pI (Aa (Ab u))])),(19,A1 (A9 (Ab u))),(20,A1 (Aa (Ab u))),(3,A1 (A9 (Ab u))),(4,A1 (Aa (Ab u)))] [(1,BK u)] e) (@Ns (u) (A9 (Ab u)) (Aa (Ab u)) (e)) ⟨⟨W,W,W,W,An⟩,⟨⟨W,W,W,W,An⟩,An⟩,rfl⟩,B2 h1]) func226
  ·by_cases h2:BV u (A9 (Ab u)) (Aa (Ab u))=true
   ·simp only [Bm,iN h0,iN h1,iP h2]; exact pu mU (fun e=>[lf (S.mk [(0,.v (.agg (AO u))),(1,.lp 1 0),(2,A1 0)] [(1,BK u)] e) (@LN (u) (e)) ⟨⟨W,W,An⟩,⟨⟨W,W,W,W,An⟩,An⟩,rfl⟩,AQ (DQ h0),cl (@uB (Ab u)),lf (S.mk [(1,.lp 1 0),(2,A1 0),(14,.v (.bool (C9 u))),(16,.lp 1 0),(17,A1 (Ab u)),(18,.v (.AE [pI (A9 (Ab u)),pI (Aa (Ab u))])),(15,.v (.AE [pI (A9 (Ab u)),pI (Aa (Ab u))])),(19,A1 (A9 (Ab u))),(20,A1 (Aa (Ab u))),(3,A1 (A9 (Ab u))),(4,A1 (Aa (Ab u)))] [(1,BK u)] e) (@Ns (u) (A9 (Ab u)) (Aa (Ab u)) (e)) ⟨⟨W,W,W,W,An⟩,⟨⟨W,W,W,W,An⟩,An⟩,rfl⟩,AQ (DQ h1),lf (S.mk [(1,.lp 1 0),(2,A1 0),(3,A1 (A9 (Ab u))),(4,A1 (Aa (Ab u))),(58,.v (.bool (AT u (A9 (Ab u)) (Aa (Ab u)))))] [(1,BK u)] e) (@Ph (u) (A9 (Ab u)) (Aa (Ab u)) (e)) ⟨⟨W,W,W,W,An⟩,⟨⟨W,W,W,W,An⟩,An⟩,rfl⟩,B2 h2]) func226
   ·by_cases h3:BI u (A9 (Ab u)) (Aa (Ab u))=true
    ·by_cases h4:CA u (A9 (Ab u)) (Aa (Ab u)) (B1 u (A9 (Ab u)) (Aa (Ab u))) (Bu u (A9 (Ab u)) (Aa (Ab u)) (B1 u (A9 (Ab u)) (Aa (Ab u))))=true
     ·simp only [Bm,iN h0,iN h1,iN h2,iP h3,iP h4]; exact pu mU (fun e=>[lf (S.mk [(0,.v (.agg (AO u))),(1,.lp 1 0),(2,A1 0)] [(1,BK u)] e) (@LN (u) (e)) ⟨⟨W,W,An⟩,⟨⟨W,W,W,W,An⟩,An⟩,rfl⟩,AQ (DQ h0),cl (@uB (Ab u)),lf (S.mk [(1,.lp 1 0),(2,A1 0),(14,.v (.bool (C9 u))),(16,.lp 1 0),(17,A1 (Ab u)),(18,.v (.AE [pI (A9 (Ab u)),pI (Aa (Ab u))])),(15,.v (.AE [pI (A9 (Ab u)),pI (Aa (Ab u))])),(19,A1 (A9 (Ab u))),(20,A1 (Aa (Ab u))),(3,A1 (A9 (Ab u))),(4,A1 (Aa (Ab u)))] [(1,BK u)] e) (@Ns (u) (A9 (Ab u)) (Aa (Ab u)) (e)) ⟨⟨W,W,W,W,An⟩,⟨⟨W,W,W,W,An⟩,An⟩,rfl⟩,AQ (DQ h1),lf (S.mk [(1,.lp 1 0),(2,A1 0),(3,A1 (A9 (Ab u))),(4,A1 (Aa (Ab u))),(58,.v (.bool (AT u (A9 (Ab u)) (Aa (Ab u)))))] [(1,BK u)] e) (@Ph (u) (A9 (Ab u)) (Aa (Ab u)) (e)) ⟨⟨W,W,W,W,An⟩,⟨⟨W,W,W,W,An⟩,An⟩,rfl⟩,AQ (DQ h2),lf (S.mk [(1,.lp 1 0),(2,A1 0),(3,A1 (A9 (Ab u))),(4,A1 (Aa (Ab u))),(82,.v (.bool (BV u (A9 (Ab u)) (Aa (Ab u)))))] [(1,BK u)] e) (@S6 (u) (A9 (Ab u)) (Aa (Ab u)) (e)) ⟨⟨W,W,W,W,An⟩,⟨⟨W,W,W,W,An⟩,An⟩,rfl⟩,B2 h3,lf (S.mk [(1,.lp 1 0),(2,A1 0),(3,A1 (A9 (Ab u))),(4,A1 (Aa (Ab u))),(91,.v (.bool (BI u (A9 (Ab u)) (Aa (Ab u)))))] [(1,BK u)] e) (@ZW (u) (A9 (Ab u)) (Aa (Ab u)) (e)) ⟨⟨W,W,W,W,An⟩,⟨⟨W,W,W,W,An⟩,An⟩,rfl⟩,lf (S.mk [(1,.lp 1 0),(2,A1 0),(3,A1 (A9 (Ab u))),(4,A1 (Aa (Ab u))),(5,.v (.bool (B1 u (A9 (Ab u)) (Aa (Ab u)))))] [(1,BK u)] e) (@Ts (u) (A9 (Ab u)) (Aa (Ab u)) (B1 u (A9 (Ab u)) (Aa (Ab u))) (e)) ⟨⟨W,W,W,W,W,An⟩,⟨⟨W,W,W,W,An⟩,An⟩,rfl⟩,lf (S.mk [(1,.lp 1 0),(2,A1 0),(3,A1 (A9 (Ab u))),(4,A1 (Aa (Ab u))),(5,.v (.bool (B1 u (A9 (Ab u)) (Aa (Ab u))))),(6,.v (.bool (Bu u (A9 (Ab u)) (Aa (Ab u)) (B1 u (A9 (Ab u)) (Aa (Ab u))))))] [(1,BK u)] e) (@Tt (u) (A9 (Ab u)) (Aa (Ab u)) (B1 u (A9 (Ab u)) (Aa (Ab u))) (Bu u (A9 (Ab u)) (Aa (Ab u)) (B1 u (A9 (Ab u)) (Aa (Ab u)))) (e)) ⟨⟨W,W,W,W,W,W,An⟩,⟨⟨W,W,W,W,An⟩,An⟩,rfl⟩,B2 h4]) func226
     ·by_cases h5:D8 u (A9 (Ab u)) (Aa (Ab u)) (B1 u (A9 (Ab u)) (Aa (Ab u))) (Bu u (A9 (Ab u)) (Aa (Ab u)) (B1 u (A9 (Ab u)) (Aa (Ab u))))=true
      ·simp only [Bm,iN h0,iN h1,iN h2,iP h3,iN h4,iP h5]; exact A3h u (DQ h0) (DQ h1) (DQ h2) h3 (DQ h4) h5
      ·simp only [Bm,iN h0,iN h1,iN h2,iP h3,iN h4,iN h5]; exact A3i u (DQ h0) (DQ h1) (DQ h2) h3 (DQ h4) (DQ h5)
    ·by_cases h4:D9 u (A9 (Ab u)) (Aa (Ab u)) (BI u (A9 (Ab u)) (Aa (Ab u)))=true
     ·simp only [Bm,iN h0,iN h1,iN h2,iN h3,iP h4]; exact A3j u (DQ h0) (DQ h1) (DQ h2) (DQ h3) h4
     ·simp only [Bm,iN h0,iN h1,iN h2,iN h3,iN h4]; exact A3k u (DQ h0) (DQ h1) (DQ h2) (DQ h3) (DQ h4)
theorem mV(l:List Pr)(Ac:¬(l.length:Int)=(0:Int)):Pu 174 [.sl 4 (Pr.cs l),.A4,.fn (.func 124) [] []] (rB false):=
 pm Ad [sl (Pr.A0 l),kp,Bv Ac] func174
theorem mW(l:List Pr)(Ac:(l.length:Int)=(0:Int)):Pu 174 [.sl 4 (Pr.cs l),.A4,.fn (.func 124) [] []] (rB true):=
 pm Ad [sl (Pr.A0 l),kp,Bi Ac,sl (Pr.A0 l),ur,df (0<(l.length:Int))] func174
def isNil(l:List Pr):Bool:=decide ((l.length:Int)=0)
theorem Aax(l:List Pr):Pu 174 [.sl 4 (Pr.cs l),.A4,.fn (.func 124) [] []] (.ret (.bool (isNil l))):=by
 unfold isNil
 by_cases h:(l.length:Int)=0
 ·rw [decide_eq_true h]; first | exact mW l h | exact mV l h
 ·rw [decide_eq_false h]; first | exact mV l h | exact mW l h
def BY(u:Pr):Bool:=(if Ab u=0 then (if Aq u=Ah then (if Ch u=0 then (isNil (As u)) else false) else false) else false)
theorem psz(u:Pr):Pu 124 [.agg (AO u),.agg [pI 0,.str Ah,pI 0,.A4]] (rB (BY u)):=by
 by_cases h0:Ab u=0
 ·by_cases h1:Aq u=Ah
  ·by_cases h2:Ch u=0
   ·simp only [BY,iP h0,iP h1,iP h2]; exact pm Ad [rp 6 (Bh h0),rp 6 (bt (ByteArray.toList (Aq u)==ByteArray.toList Ah) (BL h1)),rp 5 (Bh h2),cl (@Aax (As u)),Bh h2] func124
   ·simp only [BY,iP h0,iP h1,iN h2]; exact pm Ad [rp 6 (Bh h0),rp 6 (bt (ByteArray.toList (Aq u)==ByteArray.toList Ah) (BL h1)),rp 6 (Aw h2)] func124
  ·simp only [BY,iP h0,iN h1]; exact pm Ad [rp 6 (Bh h0),rp 6 (bf (ByteArray.toList (Aq u)==ByteArray.toList Ah) (BZ h1)),rp 6 (bf false)] func124
 ·simp only [BY,iN h0]; exact pm Ad [rp 6 (Aw h0),rp 12 (bf false)] func124
end Go.Proofs.YthchpmnkecoafaaGreatDoor
