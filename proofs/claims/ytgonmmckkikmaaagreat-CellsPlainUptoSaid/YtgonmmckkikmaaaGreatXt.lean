/- Values of Go as plain data, an evaluator over them, and what the functions of the program return; part t. -/
import Derived.Test.YtgonmmckkikmaaaGreatXm
import Derived.Test.YtgonmmckkikmaaaGreatXl
set_option linter.unusedSectionVars false
set_option linter.unusedSimpArgs false
set_option linter.unusedVariables false
namespace Go.Proofs.YtgonmmckkikmaaaGreat
open Go.Pv Tryz
set_option maxRecDepth 100000
abbrev sG(cK:C5)(l:List Df)(fu n:Int)(wh:BA)(er:Int)(sp:PV)(wz:Int)(bg:Bool):List PV:=[cK.a,cK.b,cK.c,cK.d,cK.e,.sl 25 (dfsC l),.int .i64 fu,.int .i64 n,.str wh,.int .i64 er,sp,.int .i64 wz,.bool bg]
def qTruth_r0(b:Bool):Int:=(if b=true then 1 else 0)
theorem qTruth(b:Bool):Pu 172 [.bool b] (rA (v4 2 (qTruth_r0 b) nm0 [])):=by
 by_cases h0:b=true
 ·simp only [qTruth_r0,iP h0]; exact Ob.pur_wk (Wk.a (kr (kr (kr (kn 7 (kn 1 (kn 7 (kn 8 (WkL.r _))))))))) (pm mdL [bt1 h0] func172)
 ·simp only [qTruth_r0,iN h0]; exact Ob.pur_wk (Wk.a (kr (kr (kr (kn 7 (kn 1 (kn 7 (kn 8 (WkL.r _))))))))) (pm mdL [bf1 (bFT h0)] func172)
def qKids_r0(op:Int)(kids:List Ex):Bool:=(if op=1 then ((kids.length:Int)==0) else (if op=2 then ((kids.length:Int)==0) else (if op=3 then ((kids.length:Int)==0) else (if op=4 then true else (if op=5 then (decide ((kids.length:Int)>=1)) else (if op=25 then (decide ((kids.length:Int)>=1)) else (if op=6 then ((kids.length:Int)==1) else (if op=9 then ((kids.length:Int)==1) else (if op=15 then ((kids.length:Int)==1) else (if op=21 then ((kids.length:Int)==1) else (if op=22 then ((kids.length:Int)==1) else (if op=23 then ((kids.length:Int)==1) else (if op=26 then ((kids.length:Int)==1) else (if op=8 then ((kids.length:Int)==3) else (if (kids.length:Int)=2 then (if op>=1 then (decide (op<=26)) else false) else false)))))))))))))))
theorem qKids(op n:Int)(name:BA)(kids:List Ex)(params:List Pm)(alts:List Al)(types:List Tp):Pu 170 [.agg (xc op name n kids params alts types)] (rB (qKids_r0 op kids)):=by
 by_cases h0:op=1
 ·simp only [qKids_r0,iP h0]; exact pm mdL [sl (Ex.cs_len kids),rp 2 (et1 h0)] func170
 ·by_cases h1:op=2
  ·simp only [qKids_r0,iN h0,iP h1]; exact pm mdL [sl (Ex.cs_len kids),en1 h0,rp 2 (et1 h1)] func170
  ·by_cases h2:op=3
   ·simp only [qKids_r0,iN h0,iN h1,iP h2]; exact pm mdL [sl (Ex.cs_len kids),en1 h0,en1 h1,et1 h2] func170
   ·by_cases h3:op=4
    ·simp only [qKids_r0,iN h0,iN h1,iN h2,iP h3]; exact pm mdL [sl (Ex.cs_len kids),en1 h0,en1 h1,en1 h2,et1 h3] func170
    ·by_cases h4:op=5
     ·simp only [qKids_r0,iN h0,iN h1,iN h2,iN h3,iP h4]; exact pm mdL [sl (Ex.cs_len kids),en1 h0,en1 h1,en1 h2,en1 h3,rp 2 (et1 h4)] func170
     ·by_cases h5:op=25
      ·simp only [qKids_r0,iN h0,iN h1,iN h2,iN h3,iN h4,iP h5]; exact pm mdL [sl (Ex.cs_len kids),en1 h0,en1 h1,en1 h2,en1 h3,en1 h4,et1 h5] func170
      ·by_cases h6:op=6
       ·simp only [qKids_r0,iN h0,iN h1,iN h2,iN h3,iN h4,iN h5,iP h6]; exact pm mdL [sl (Ex.cs_len kids),en1 h0,en1 h1,en1 h2,en1 h3,en1 h4,en1 h5,rp 2 (et1 h6)] func170
       ·by_cases h7:op=9
        ·simp only [qKids_r0,iN h0,iN h1,iN h2,iN h3,iN h4,iN h5,iN h6,iP h7]; exact pm mdL [sl (Ex.cs_len kids),en1 h0,en1 h1,en1 h2,en1 h3,en1 h4,en1 h5,en1 h6,rp 2 (et1 h7)] func170
        ·by_cases h8:op=15
         ·simp only [qKids_r0,iN h0,iN h1,iN h2,iN h3,iN h4,iN h5,iN h6,iN h7,iP h8]; exact pm mdL [sl (Ex.cs_len kids),en1 h0,en1 h1,en1 h2,en1 h3,en1 h4,en1 h5,en1 h6,en1 h7,rp 2 (et1 h8)] func170
         ·by_cases h9:op=21
          ·simp only [qKids_r0,iN h0,iN h1,iN h2,iN h3,iN h4,iN h5,iN h6,iN h7,iN h8,iP h9]; exact pm mdL [sl (Ex.cs_len kids),en1 h0,en1 h1,en1 h2,en1 h3,en1 h4,en1 h5,en1 h6,en1 h7,en1 h8,rp 2 (et1 h9)] func170
          ·by_cases h10:op=22
           ·simp only [qKids_r0,iN h0,iN h1,iN h2,iN h3,iN h4,iN h5,iN h6,iN h7,iN h8,iN h9,iP h10]; exact pm mdL [sl (Ex.cs_len kids),en1 h0,en1 h1,en1 h2,en1 h3,en1 h4,en1 h5,en1 h6,en1 h7,en1 h8,en1 h9,rp 2 (et1 h10)] func170
           ·by_cases h11:op=23
            ·simp only [qKids_r0,iN h0,iN h1,iN h2,iN h3,iN h4,iN h5,iN h6,iN h7,iN h8,iN h9,iN h10,iP h11]; exact pm mdL [sl (Ex.cs_len kids),en1 h0,en1 h1,en1 h2,en1 h3,en1 h4,en1 h5,en1 h6,en1 h7,en1 h8,en1 h9,en1 h10,rp 2 (et1 h11)] func170
            ·by_cases h12:op=26
             ·simp only [qKids_r0,iN h0,iN h1,iN h2,iN h3,iN h4,iN h5,iN h6,iN h7,iN h8,iN h9,iN h10,iN h11,iP h12]; exact pm mdL [sl (Ex.cs_len kids),en1 h0,en1 h1,en1 h2,en1 h3,en1 h4,en1 h5,en1 h6,en1 h7,en1 h8,en1 h9,en1 h10,en1 h11,et1 h12] func170
             ·by_cases h13:op=8
              ·simp only [qKids_r0,iN h0,iN h1,iN h2,iN h3,iN h4,iN h5,iN h6,iN h7,iN h8,iN h9,iN h10,iN h11,iN h12,iP h13]; exact pm mdL [sl (Ex.cs_len kids),en1 h0,en1 h1,en1 h2,en1 h3,en1 h4,en1 h5,en1 h6,en1 h7,en1 h8,en1 h9,en1 h10,en1 h11,en1 h12,et1 h13] func170
              ·by_cases h14:(kids.length:Int)=2
               ·by_cases h15:op>=1
                ·simp only [qKids_r0,iN h0,iN h1,iN h2,iN h3,iN h4,iN h5,iN h6,iN h7,iN h8,iN h9,iN h10,iN h11,iN h12,iN h13,iP h14,iP h15]; exact pm mdL [sl (Ex.cs_len kids),en1 h0,en1 h1,en1 h2,en1 h3,en1 h4,en1 h5,en1 h6,en1 h7,en1 h8,en1 h9,en1 h10,en1 h11,en1 h12,en1 h13,rp 4 (et1 h14),rp 4 (dt1 h15)] func170
                ·simp only [qKids_r0,iN h0,iN h1,iN h2,iN h3,iN h4,iN h5,iN h6,iN h7,iN h8,iN h9,iN h10,iN h11,iN h12,iN h13,iP h14,iN h15]; exact pm mdL [sl (Ex.cs_len kids),en1 h0,en1 h1,en1 h2,en1 h3,en1 h4,en1 h5,en1 h6,en1 h7,en1 h8,en1 h9,en1 h10,en1 h11,en1 h12,en1 h13,rp 4 (et1 h14),rp 4 (df1 h15)] func170
               ·simp only [qKids_r0,iN h0,iN h1,iN h2,iN h3,iN h4,iN h5,iN h6,iN h7,iN h8,iN h9,iN h10,iN h11,iN h12,iN h13,iN h14]; exact pm mdL [sl (Ex.cs_len kids),en1 h0,en1 h1,en1 h2,en1 h3,en1 h4,en1 h5,en1 h6,en1 h7,en1 h8,en1 h9,en1 h10,en1 h11,en1 h12,en1 h13,rp 4 (en1 h14),rp 4 (bf false)] func170
theorem qStop(cK:C5)(l:List Df)(fu n:Int)(wh:BA)(sp:PV)(wz:Int)(bg:Bool)(k:Int):Pu 124 [.agg (sG cK l fu n wh 0 sp wz bg),pI k] (.ret (.tup [.agg (sG cK l fu n wh k sp wz bg),.agg (v4 0 0 nm0 [])])):=
 Ob.pur_wk (Wk.t (kr (WkL.c (Wk.a (kr (kr (kr (kn 7 (kn 1 (kn 7 (kn 8 (WkL.r _))))))))) (WkL.r _)))) (pm mdL [] func124)
theorem qNumber_1(cK:C5)(l:List Df)(fu n:Int)(wh:BA)(sp:PV)(wz:Int)(bg:Bool)(a:Int)(ok:Bool)(hx0:ok=false):Pu 171 [.agg (sG cK l fu n wh 0 sp wz bg),pI a,.bool ok] (.ret (.tup [.agg (sG cK l fu n wh 25 sp wz bg),.agg (v4 0 0 nm0 [])])):=
 pm mdL [bt1 (bnT hx0),cl (@qStop cK (l) (fu) (n) (wh) (sp) (wz) (bg) (25))] func171
theorem qNumber_2(cK:C5)(l:List Df)(fu n:Int)(wh:BA)(sp:PV)(wz:Int)(bg:Bool)(a:Int)(ok:Bool)(hx0:ok=true):Pu 171 [.agg (sG cK l fu n wh 0 sp wz bg),pI a,.bool ok] (.ret (.tup [.agg (sG cK l fu n wh 0 sp wz bg),.agg (v4 1 a nm0 [])])):=
 Ob.pur_wk (Wk.t (kr (WkL.c (Wk.a (kr (kr (kr (kn 7 (kn 1 (kn 7 (kn 8 (WkL.r _))))))))) (WkL.r _)))) (pm mdL [bf1 (bnF hx0)] func171)
def qNumber_r0(ok:Bool):Int:=(if ok=false then 25 else 0)
def qNumber_r1(ok:Bool):Int:=(if ok=false then 0 else 1)
def qNumber_r2(a:Int)(ok:Bool):Int:=(if ok=false then 0 else a)
theorem qNumber(cK:C5)(l:List Df)(fu n:Int)(wh:BA)(sp:PV)(wz:Int)(bg:Bool)(a:Int)(ok:Bool):Pu 171 [.agg (sG cK l fu n wh 0 sp wz bg),pI a,.bool ok] (.ret (.tup [.agg (sG cK l fu n wh (qNumber_r0 ok) sp wz bg),.agg (v4 (qNumber_r1 ok) (qNumber_r2 a ok) nm0 [])])):=by
 by_cases h0:ok=false
 ·simp only [qNumber_r0,qNumber_r1,qNumber_r2,iP h0]; exact qNumber_1 cK l fu n wh sp wz bg a ok h0
 ·simp only [qNumber_r0,qNumber_r1,qNumber_r2,iN h0]; exact qNumber_2 cK l fu n wh sp wz bg a ok (bTF h0)
def qArith_r0(op:Int)(a:Int)(b:Int):Int:=(if op=10 then (qNumber_r0 (rAdd_r1 a b)) else (if op=11 then (qNumber_r0 (rSub_r1 a b)) else (if op=12 then (qNumber_r0 (rMul_r1 a b)) else (if op=13 then (if b=0 then 27 else (qNumber_r0 (rDiv_r1 a b))) else (if op=14 then (if b=0 then 27 else (qNumber_r0 (rMod_r1 a b))) else (if op=17 then 0 else (if op=18 then 0 else 0)))))))
def qArith_r1(op:Int)(a:Int)(b:Int):Int:=(if op=10 then (qNumber_r1 (rAdd_r1 a b)) else (if op=11 then (qNumber_r1 (rSub_r1 a b)) else (if op=12 then (qNumber_r1 (rMul_r1 a b)) else (if op=13 then (if b=0 then 0 else (qNumber_r1 (rDiv_r1 a b))) else (if op=14 then (if b=0 then 0 else (qNumber_r1 (rMod_r1 a b))) else (if op=17 then 2 else (if op=18 then 2 else 1)))))))
def qArith_r2(op:Int)(a:Int)(b:Int):Int:=(if op=10 then (qNumber_r2 (rAdd_r0 a b) (rAdd_r1 a b)) else (if op=11 then (qNumber_r2 (rSub_r0 a b) (rSub_r1 a b)) else (if op=12 then (qNumber_r2 (rMul_r0 a b) (rMul_r1 a b)) else (if op=13 then (if b=0 then 0 else (qNumber_r2 (rDiv_r0 a b) (rDiv_r1 a b))) else (if op=14 then (if b=0 then 0 else (qNumber_r2 (rMod_r0 a b) (rMod_r1 a b))) else (if op=17 then (qTruth_r0 (decide (a<b))) else (if op=18 then (qTruth_r0 (decide (a<=b))) else 0)))))))
theorem qArith(cK:C5)(l:List Df)(fu n:Int)(wh:BA)(sp:PV)(wz:Int)(bg:Bool)(op a b:Int):Pu 188 [.agg (sG cK l fu n wh 0 sp wz bg),pI op,pI a,pI b] (.ret (.tup [.agg (sG cK l fu n wh (qArith_r0 op a b) sp wz bg),.agg (v4 (qArith_r1 op a b) (qArith_r2 op a b) nm0 [])])):=by
 by_cases h0:op=10
 ·simp only [qArith_r0,qArith_r1,qArith_r2,iP h0]; exact pm mdL [et1 h0,cl (@rAdd (a) (b)),cl (@qNumber cK (l) (fu) (n) (wh) (sp) (wz) (bg) (rAdd_r0 a b) (rAdd_r1 a b))] func188
 ·by_cases h1:op=11
  ·simp only [qArith_r0,qArith_r1,qArith_r2,iN h0,iP h1]; exact pm mdL [en1 h0,et1 h1,cl (@rSub (a) (b)),cl (@qNumber cK (l) (fu) (n) (wh) (sp) (wz) (bg) (rSub_r0 a b) (rSub_r1 a b))] func188
  ·by_cases h2:op=12
   ·simp only [qArith_r0,qArith_r1,qArith_r2,iN h0,iN h1,iP h2]; exact pm mdL [en1 h0,en1 h1,et1 h2,cl (@rMul (a) (b)),cl (@qNumber cK (l) (fu) (n) (wh) (sp) (wz) (bg) (rMul_r0 a b) (rMul_r1 a b))] func188
   ·by_cases h3:op=13
    ·by_cases h4:b=0
     ·simp only [qArith_r0,qArith_r1,qArith_r2,iN h0,iN h1,iN h2,iP h3,iP h4]; exact pm mdL [en1 h0,en1 h1,en1 h2,rp 2 (et1 h3),et1 h4,cl (@qStop cK (l) (fu) (n) (wh) (sp) (wz) (bg) (27))] func188
     ·simp only [qArith_r0,qArith_r1,qArith_r2,iN h0,iN h1,iN h2,iP h3,iN h4]; exact pm mdL [en1 h0,en1 h1,en1 h2,rp 2 (et1 h3),en1 h4,cl (@rDiv (a) (b)),en op 14,cl (@qNumber cK (l) (fu) (n) (wh) (sp) (wz) (bg) (rDiv_r0 a b) (rDiv_r1 a b))] func188
    ·by_cases h4:op=14
     ·by_cases h5:b=0
      ·simp only [qArith_r0,qArith_r1,qArith_r2,iN h0,iN h1,iN h2,iN h3,iP h4,iP h5]; exact pm mdL [en1 h0,en1 h1,en1 h2,en1 h3,et1 h4,et1 h5,cl (@qStop cK (l) (fu) (n) (wh) (sp) (wz) (bg) (27))] func188
      ·simp only [qArith_r0,qArith_r1,qArith_r2,iN h0,iN h1,iN h2,iN h3,iP h4,iN h5]; exact pm mdL [en1 h0,en1 h1,en1 h2,en1 h3,et1 h4,en1 h5,cl (@rDiv (a) (b)),et1 h4,cl (@rMod (a) (b)),cl (@qNumber cK (l) (fu) (n) (wh) (sp) (wz) (bg) (rMod_r0 a b) (rMod_r1 a b))] func188
     ·by_cases h5:op=17
      ·simp only [qArith_r0,qArith_r1,qArith_r2,iN h0,iN h1,iN h2,iN h3,iN h4,iP h5]; exact pm mdL [en1 h0,en1 h1,en1 h2,en1 h3,en1 h4,et1 h5,cl (@qTruth (decide (a<b)))] func188
      ·by_cases h6:op=18
       ·simp only [qArith_r0,qArith_r1,qArith_r2,iN h0,iN h1,iN h2,iN h3,iN h4,iN h5,iP h6]; exact pm mdL [en1 h0,en1 h1,en1 h2,en1 h3,en1 h4,en1 h5,et1 h6,cl (@qTruth (decide (a<=b)))] func188
       ·simp only [qArith_r0,qArith_r1,qArith_r2,iN h0,iN h1,iN h2,iN h3,iN h4,iN h5,iN h6]; exact pm mdL [en1 h0,en1 h1,en1 h2,en1 h3,en1 h4,en1 h5,en1 h6,cl (@qNumber cK (l) (fu) (n) (wh) (sp) (wz) (bg) (0) (true))] func188
section
variable (cK:C5) (l:List Df) (fu n:Int) (wh:BA) (sp:PV) (wz:Int) (bg:Bool) (h0:0<=n) (h1:fu<=1000000)
include cK l fu n wh sp wz bg h0 h1
theorem qStep_1(hx0:n>=fu):Pu 161 [.agg (sG cK l fu n wh 0 sp wz bg)] (rA (sG cK l fu n wh 24 sp wz bg)):=
 pm mdL [dt1 hx0] func161
theorem qStep_2(hx0:¬n>=fu):Pu 161 [.agg (sG cK l fu n wh 0 sp wz bg)] (rA (sG cK l fu (n+1) wh 0 sp wz bg)):=
 pm mdL [df1 hx0,wr (n+1)] func161
end
abbrev qfn_I(env:List Bd)(name:BA)(j:Int)(e:Ext):S:=S.mk [(0,vL 8 (Bd.cs env)),(1,vS name),(4,.lp 4 0),(5,.v (.bool false)),(6,vI6 j)] [(4,jk7)] e
section
variable (env:List Bd) (name:BA) (i:Nat) (e:Ext)
include env name i e
theorem qfn_b1(hi:i<env.length)(hN:env.length<=1000000000)(hx0:bdNm (List.getD env i default)=name)(cx:Cx)(hcx:cx.n=27){Q:PExit->S->Prop}(hq:Q (.ret) (S.mk [(0,vL 8 (Bd.cs env)),(1,vS name),(4,.lp 4 0),(5,.v (.bool true)),(6,vI6 (i:Int))] [(4,vlV (bdV (List.getD env i default)))] e)):PW prog cx (loopF f186 0) (qfn_I env name (i:Int) e) Q:=
 pw mdL 27 [bt true,am ((0:Int)<=(i:Int)/\(i:Int)<((Bd.cs env).length:Int)) qZ,xBd env i hi,bt (ByteArray.toList (bdNm (List.getD env i default))==ByteArray.toList name) (bsT hx0),am ((0:Int)<=(i:Int)/\(i:Int)<((Bd.cs env).length:Int)) qZ,xBd env i hi] [0,1,4,5,6] [4] hcx hq
theorem qfn_b2(hi:i<env.length)(hN:env.length<=1000000000)(hx0:¬bdNm (List.getD env i default)=name)(cx:Cx)(hcx:cx.n=27){Q:PExit->S->Prop}(hq:Q (.normal) (S.mk [(0,vL 8 (Bd.cs env)),(1,vS name),(4,.lp 4 0),(5,.v (.bool false)),(6,vI6 ((i:Int) - 1))] [(4,jk7)] e)):PW prog cx (loopF f186 0) (qfn_I env name (i:Int) e) Q:=
 pw mdL 27 [bt true,am ((0:Int)<=(i:Int)/\(i:Int)<((Bd.cs env).length:Int)) qZ,xBd env i hi,bf (ByteArray.toList (bdNm (List.getD env i default))==ByteArray.toList name) (bsF hx0),wr ((i:Int) - 1)] [0,1,4,5,6] [4] hcx hq
theorem qfn_z1(hi:i=0)(hN:env.length<=1000000000)(cx:Cx)(hcx:cx.n=27){Q:PExit->S->Prop}(hq:Q (.exit 0) (S.mk [(0,vL 8 (Bd.cs env)),(1,vS name),(4,.lp 4 0),(5,.v (.bool false)),(6,vI6 (-1))] [(4,jk7)] e)):PW prog cx (loopF f186 0) (qfn_I env name (-1) e) Q:=
 pw mdL 27 [bf false] [0,1,4,5,6] [4] hcx hq
end
inductive qfn_R where
 | e0 (el:Bd)
 | e1
def qfn_f(name:BA):List Bd->qfn_R
 | []=>(qfn_R.e1)
 | el::r=>(if bdNm el=name then (qfn_R.e0 el) else qfn_f name r)
def qfn_q(env:List Bd)(name:BA)(e:Ext):qfn_R->PExit × S
 | .e0 el=>(.ret,S.mk [(0,vL 8 (Bd.cs env)),(1,vS name),(4,.lp 4 0),(5,.v (.bool true))] [(4,vlV (bdV el))] e)
 | .e1=>(.exit 0,S.mk [(0,vL 8 (Bd.cs env)),(1,vS name),(4,.lp 4 0),(5,.v (.bool false))] [(4,jk7)] e)
theorem qfn_lp(env:List Bd)(name:BA)(e:Ext)(hN:env.length<=1000000000)(i:Nat)(hi0:i<=env.length)  : (Ob.loop 27 (loopF f186 0) (qfn_I env name ((i:Int) - 1)  e) (qfn_q env name e (qfn_f name (List.reverse (List.take i (env))))).1 (qfn_q env name e (qfn_f name (List.reverse (List.take i (env))))).2).ok prog:=by
 refine Ob.loop_of (P:=prog) (α:={ zz:Nat × Unit // zz.1<=env.length }) (fun zz=>qfn_I env name ((zz.1.1:Int) - 1)  e) (fun zz=>zz.1.1) (fun zz=>(qfn_q env name e (qfn_f name (List.reverse (List.take zz.1.1 (env)))))) ?_ ⟨(i,()),hi0⟩
 clear hi0
 clear  i
 rintro ⟨⟨i,u⟩,hi⟩ cx hcx
 simp only at hi  ⊢
 rcases i with _ | i
 ·rw [show (((0:Nat):Int) - 1) = -1 from rfl]
  have hr:(qfn_f name (List.reverse (List.take 0 (env))))=(qfn_R.e1):=by rw [List.take_zero,List.reverse_nil,qfn_f]
  refine qfn_z1 env name 0  e rfl hN   cx hcx (.inr ?_)
  rw [hr]
  exact ⟨by simp,rfl,xr⟩
 ·have hlt:i<env.length:=by omega
  have hd:=take_rev_at hlt
  rw [show (((i+1:Nat):Int) - 1)=(i:Int) by omega]
  by_cases h0:bdNm (List.getD env i default)=name
  ·have hr:(qfn_f name (List.reverse (List.take (i+1) (env))))=(qfn_R.e0 (List.getD (env) i default)):=by rw [hd,qfn_f,iP h0]
   refine qfn_b1 env name i  e hlt hN  h0 cx hcx (.inr ?_)
   rw [hr]
   exact ⟨by simp,rfl,xr⟩
  ·have hr:(qfn_f name (List.reverse (List.take (i+1) (env))))=(qfn_f name (List.reverse (List.take i (env)))):=by rw [hd,qfn_f,iN h0]
   exact qfn_b2 env name i  e hlt hN  h0 cx hcx (.inl ⟨rfl,⟨(i,()),by simp only; omega⟩,by simp only; omega,xr,by simp only; rw [hr]⟩)
theorem qfn_0(env:List Bd)(name:BA)(e:Ext)(hN:env.length<=1000000000)(p0:Bd)(hres:(qfn_f name (List.reverse (env)))=(qfn_R.e0 p0)):(Ob.loop 27 (loopF f186 0) (qfn_I env name ((env.length:Int) - 1)  e) (qfn_q env name e (qfn_R.e0 p0)).1 (qfn_q env name e (qfn_R.e0 p0)).2).ok prog:=by
 have:=qfn_lp env name e hN (env.length)  (Nat.le_refl _)
 rw [List.take_length] at this
 rw [hres] at this
 exact this
theorem qfn_1(env:List Bd)(name:BA)(e:Ext)(hN:env.length<=1000000000)(hres:(qfn_f name (List.reverse (env)))=(qfn_R.e1)):(Ob.loop 27 (loopF f186 0) (qfn_I env name ((env.length:Int) - 1)  e) (qfn_q env name e (qfn_R.e1)).1 (qfn_q env name e (qfn_R.e1)).2).ok prog:=by
 have:=qfn_lp env name e hN (env.length)  (Nat.le_refl _)
 rw [List.take_length] at this
 rw [hres] at this
 exact this
theorem qFind_1(env:List Bd)(name:BA)(hn:env.length<=1000000000)(hy0:Bd)(hx1:qfn_f name (List.reverse env)=qfn_R.e0 hy0):Pu 186 [.sl 8 (Bd.cs env),.str name] (.ret (.tup [.agg (vlL (bdV hy0)),.bool true])):=
 pu mdL (fun e=>[sl (Bd.cs_len env),wr ((env.length:Int) - 1),lp (S.mk [(0,vL 8 (Bd.cs env)),(1,vS name),(4,.lp 4 0),(5,.v (.bool false)),(7,vL 8 (Bd.cs env)),(8,vI6 (env.length:Int)),(9,vI6 ((env.length:Int) - 1)),(6,vI6 ((env.length:Int) - 1))] [(4,vZ)] e) (@qfn_0 (env) (name) (e) hn hy0 hx1) ⟨⟨W,W,W,W,W,tV⟩,⟨⟨Wq,Wq,Wq,Wq,Wq,Wq,Wq,tV⟩,tV⟩,rfl⟩]) func186
theorem qFind_2(env:List Bd)(name:BA)(hn:env.length<=1000000000)(hx0:qfn_f name (List.reverse env)=qfn_R.e1):Pu 186 [.sl 8 (Bd.cs env),.str name] (.ret (.tup [.agg (v4 0 0 nm0 []),.bool false])):=
 Ob.pur_wk (Wk.t (WkL.c (Wk.a (kr (kr (kr (kn 7 (kn 1 (kn 7 (kn 8 (WkL.r _))))))))) (WkL.r _))) (pu mdL (fun e=>[sl (Bd.cs_len env),wr ((env.length:Int) - 1),lp (S.mk [(0,vL 8 (Bd.cs env)),(1,vS name),(4,.lp 4 0),(5,.v (.bool false)),(7,vL 8 (Bd.cs env)),(8,vI6 (env.length:Int)),(9,vI6 ((env.length:Int) - 1)),(6,vI6 ((env.length:Int) - 1))] [(4,vZ)] e) (@qfn_1 (env) (name) (e) hn hx0) ⟨⟨W,W,W,W,W,tV⟩,⟨⟨Wq,Wq,Wq,Wq,Wq,Wq,Wq,tV⟩,tV⟩,rfl⟩]) func186)
def mdG:Md:=⟨fun _=>some false,fun t=>t==123⟩
abbrev qR(cK:C5)(l:List Df)(fu:Int)(f:Nat)(args:List PV)(n:Int)(wh:BA)(sp:PV)(wz:Int)(bg:Bool)(ea:Ext)(n1:Int)(wh1:BA)(e1:Int)(sp1:PV)(wr1:Int)(bg1:Bool)(v:Vl)(eb:Ext):Prop:=Ef f (.agg (sG cK l fu n wh 0 sp wz bg)::args) ea (.ret (.tup [.agg (sG cK l fu n1 wh1 e1 sp1 wr1 bg1),.agg (vlL v)])) eb
abbrev qL(cK:C5)(l:List Df)(fu:Int)(f:Nat)(args:List PV)(n:Int)(wh:BA)(sp:PV)(wz:Int)(bg:Bool)(ea:Ext)(n1:Int)(wh1:BA)(e1:Int)(sp1:PV)(wr1:Int)(bg1:Bool)(vs:List Vl)(eb:Ext):Prop:=Ef f (.agg (sG cK l fu n wh 0 sp wz bg)::args) ea (.ret (.tup [.agg (sG cK l fu n1 wh1 e1 sp1 wr1 bg1),.sl 7 (Vl.cs vs)])) eb
theorem qfn_find(name:BA):∀l:List Bd,findB name l=match qfn_f name l with | .e0 b=>some (bdV b) | .e1=>none
 | []=>rfl
 | b::r=>by
  rw [findB,qfn_f]
  split
  ·rfl
  ·exact qfn_find name r
theorem qFindT(env:List Bd)(name:BA)(hn:env.length<=1000000000):Pu 186 [.sl 8 (Bd.cs env),.str name] (.ret (.tup [.agg (vlL (fbV name env.reverse)),.bool (fbO name env.reverse)])):=by
 unfold fbV fbO
 rw [qfn_find]
 cases h:qfn_f name env.reverse with
 | e0 b=>exact qFind_1 env name hn b h
 | e1=>exact qFind_2 env name hn h
theorem qMadeN(cK:C5)(l:List Df)(fu n:Int)(wh:BA)(wz:Int)(bg:Bool)(k:Int):Ef 123 [.agg (sG cK l fu n wh 0 .nilsl wz bg),pI k] ([]) (.ret (.tup [.agg (sG cK l fu n wh 0 (PV.ysl 0 0 1) wz bg),.agg (v4 4 0 nm0 [])])) ([(0,[LV.row 0 [k]])]):=
 Ob.eff_wk (Wk.t (kr (WkL.c (Wk.a (kr (kr (kr (kn 7 (kn 1 (kn 7 (kn 8 (WkL.r _))))))))) (WkL.r _)))) (ef mdG [rp 2 (kp),ab true] func123)
theorem qMadeR(cK:C5)(l:List Df)(fu n:Int)(wh:BA)(wz:Int)(bg:Bool)(k:Int)(c:Nat)(ps:List Int)(hp:ps.length<=1000000000):Ef 123 [.agg (sG cK l fu n wh 0 (PV.ysl 0 c (List.length ps)) wz bg),pI k] ([(0,[LV.row c ps])]) (.ret (.tup [.agg (sG cK l fu n wh 0 (PV.ysl 0 (c+1) (List.length ps+List.length [k])) wz bg),.agg (v4 4 ((↑(List.length ps+(0+1)):Int) - 1) nm0 [])])) ([(0,[LV.row (c+1) (ps++[k])])]):=
 Ob.eff_wk (Wk.t (kr (WkL.c (Wk.a (kr (kr (kr (kn 7 (kn 1 (kn 7 (kn 8 (WkL.r _))))))))) (WkL.r _)))) (ef mdG [am (c=c/\List.length ps=List.length ps),am ((List.length (Prod.snd (Prod.snd (Prod.fst ((0,c,ps),(fun x=>k::x) []))))+List.length (Prod.snd ((0,c,ps),(fun x=>k::x) []))) * (7+1)<=140737488355328) qZ,ai (↑(List.length (Prod.snd (Prod.snd (Prod.fst ((0,c,ps),(fun x=>k::x) []))))+List.length (Prod.snd ((0,c,ps),(fun x=>k::x) []))):Int) (↑(List.length ps+(0+1)):Int) rF,wr ((↑(List.length ps+(0+1)):Int) - 1)] func123)
abbrev qwi_I(env:List Bd)(ns:List BA)(vs:List Vl)(j:Int)(out:List Bd)(e:Ext):S:=S.mk [(1,vL 1 (nmsC ns)),(2,vL 7 (Vl.cs vs)),(6,.v .nilsl),(7,.uniq 66 8 (Bd.cs out)),(8,vI6 j)] [] e
section
variable (env:List Bd) (ns:List BA) (vs:List Vl) (he:env.length<=1000000000) (i:Nat) (out:List Bd) (e:Ext)
include env ns vs he i out e
theorem qwi_b1 (hi:i<ns.length) (hN:ns.length<=1000000000) (hv:(out.length<=1000000000+i)) (hx0:(i:Int)<(vs.length:Int)) (cx:Cx) (hcx:cx.n=37) {Q:PExit->S->Prop} (hq:Q (.normal) (S.mk [(1,vL 1 (nmsC ns)),(2,vL 7 (Vl.cs vs)),(6,.v .nilsl),(7,.uniq 66 8 (Bd.cs out++[splice (splice [.str nm0,pI 0,pI 0,.str nm0,.nilsl,.nilsl,.nilsl,.nilsl] (Field.offset (Field.mk "Name" 9 0 false "" "" 0)) [.str (List.getD ns i nm0)]) (Field.offset (Field.mk "Value" 52 1 false "" "" 16)) (List.take (TypeInfo.size (Tables.types (Program.toTables prog))[52]) (List.drop 0 (vlL (List.getD vs i default))))])),(8,vI6 ((i:Int)+1))] [] e)):PW prog cx (loopF f146 0) (qwi_I env ns vs (i:Int) out e) Q:=
 pw mdL 37 [sl (nmsC_len ns),rp 3 (dt ((i:Int)<(ns.length:Int))),sl (Vl.cs_len vs),rp 2 (dt ((i:Int)<(ns.length:Int))),dt1 hx0,am ((0:Int)<=(i:Int)/\(i:Int)<((nmsC ns).length:Int)) qZ,xNm ns i hi,am ((0:Int)<=(i:Int)/\(i:Int)<((Vl.cs vs).length:Int)) qZ,xVl vs i,am (List.length (Bd.cs out++(fun x=>Prod.snd x) (7+1,[splice (splice [.str nm0,pI 0,pI 0,.str nm0,.nilsl,.nilsl,.nilsl,.nilsl] (Field.offset (Field.mk "Name" 9 0 false "" "" 0)) [.str (List.getD ns i nm0)]) (Field.offset (Field.mk "Value" 52 1 false "" "" 16)) (List.take ((fun x=>TypeInfo.size x) (Tables.types (Program.toTables prog))[52]) (List.drop 0 (vlL (List.getD vs i default))))])) * (143+1)<=140737488355328) qZ,wr ((i:Int)+1)] [1,2,6,7,8] [] hcx hq
theorem qwi_b2(hi:i<ns.length)(hN:ns.length<=1000000000)(hv:(out.length<=1000000000+i))(hx0:¬(i:Int)<(vs.length:Int))(cx:Cx)(hcx:cx.n=37){Q:PExit->S->Prop}(hq:Q (.exit 0) (S.mk [(1,vL 1 (nmsC ns)),(2,vL 7 (Vl.cs vs)),(6,.v .nilsl),(7,.uniq 66 8 (Bd.cs out)),(8,vI6 (i:Int))] [] e)):PW prog cx (loopF f146 0) (qwi_I env ns vs (i:Int) out e) Q:=
 pw mdL 37 [sl (nmsC_len ns),rp 3 (dt ((i:Int)<(ns.length:Int))),sl (Vl.cs_len vs),rp 2 (dt ((i:Int)<(ns.length:Int))),df1 hx0] [1,2,6,7,8] [] hcx hq
theorem qwi_z1(hi:i=ns.length)(hN:ns.length<=1000000000)(hv:(out.length<=1000000000+i))(cx:Cx)(hcx:cx.n=37){Q:PExit->S->Prop}(hq:Q (.exit 0) (S.mk [(1,vL 1 (nmsC ns)),(2,vL 7 (Vl.cs vs)),(6,.v .nilsl),(7,.uniq 66 8 (Bd.cs out)),(8,vI6 (i:Int))] [] e)):PW prog cx (loopF f146 0) (qwi_I env ns vs (i:Int) out e) Q:=
 pw mdL 37 [sl (nmsC_len ns),rp 5 (df ((i:Int)<(ns.length:Int))),bf false] [1,2,6,7,8] [] hcx hq
end
def qwi_f(vs:List Vl):List BA->Nat->(List Bd)->(List Bd)
 | [],i,out=>(out)
 | el::r,i,out=>(if (i:Int)<(vs.length:Int) then qwi_f vs r (i+1) (out++[Bd.mk el (List.getD vs i default)]) else (out))
def qwi_q(env:List Bd)(ns:List BA)(vs:List Vl)(e:Ext)(p:(List Bd)):PExit × S:=(.exit 0,S.mk [(1,vL 1 (nmsC ns)),(2,vL 7 (Vl.cs vs)),(6,.v .nilsl),(7,.uniq 66 8 (Bd.cs p))] [] e)
theorem qwi_lp(env:List Bd)(ns:List BA)(vs:List Vl)(he:env.length<=1000000000)(e:Ext)(hN:ns.length<=1000000000)(i:Nat)(out:List Bd)(hi0:i<=ns.length)(hv:(out.length<=1000000000+i)):(Ob.loop 37 (loopF f146 0) (qwi_I env ns vs (i:Int) out e) (qwi_q env ns vs e (qwi_f vs (List.drop i (ns)) i out)).1 (qwi_q env ns vs e (qwi_f vs (List.drop i (ns)) i out)).2).ok prog:=by
 refine Ob.loop_of (P:=prog) (α:={ zz:Nat × (List Bd) // zz.1<=ns.length/\(fun (i:Nat) (out:List Bd)=>(out.length<=1000000000+i)) zz.1 zz.2 }) (fun zz=>qwi_I env ns vs (zz.1.1:Int) zz.1.2 e) (fun zz=>ns.length - zz.1.1) (fun zz=>(qwi_q env ns vs e (qwi_f vs (List.drop zz.1.1 (ns)) zz.1.1 zz.1.2))) ?_ ⟨(i,out),hi0,hv⟩
 clear hi0 hv
 clear out i
 rintro ⟨⟨i,out⟩,hi,hv⟩ cx hcx
 simp only at hi hv ⊢
 rcases Nat.lt_or_ge i (ns.length) with hlt | hge
 ·have hd:=drop_at0 hlt
  by_cases h0:(i:Int)<(vs.length:Int)
  ·have hr:(qwi_f vs (List.drop i (ns)) i out)=(qwi_f vs (List.drop (i+1) (ns)) (i+1) (out++[Bd.mk (List.getD ns i nm0) (List.getD vs i default)])):=by rw [hd,qwi_f,iP h0]
   exact qwi_b1 env ns vs he i out e hlt hN hv h0 cx hcx (.inl ⟨rfl,⟨((i+1),(out++[Bd.mk (List.getD ns i nm0) (List.getD vs i default)])),by simp only; omega,(by first | assumption | omega | (simp only [List.length_append,List.length_cons,List.length_nil] at *; omega) | simp_all)⟩,by simp only; omega,⟨⟨W,W,W,(.inl (by first | (simp only [List.nil_append,nmsC_app,nmsC_snoc,Ex.cs_snoc,Vl.cs_snoc,Bd.cs_snoc,Bd.cs_snoc2]; done) | (simp only [List.nil_append,nmsC_app,nmsC_snoc,Ex.cs_snoc,Vl.cs_snoc,Bd.cs_snoc,Bd.cs_snoc2]; rfl))),W,tV⟩,trivial,rfl⟩,by simp only; rw [hr]⟩)
  ·have hr:(qwi_f vs (List.drop i (ns)) i out)=(out):=by rw [hd,qwi_f,iN h0]
   refine qwi_b2 env ns vs he i out e hlt hN hv h0 cx hcx (.inr ?_)
   rw [hr]
   exact ⟨by simp,rfl,xr⟩
 ·have he:i=ns.length:=by omega
  subst he
  have hr:(qwi_f vs (List.drop (ns.length) (ns)) (ns.length) out)=(out):=by rw [List.drop_length,qwi_f]
  refine qwi_z1 env ns vs he (ns.length) out e rfl hN hv  cx hcx (.inr ?_)
  rw [hr]
  exact ⟨by simp,rfl,xr⟩
theorem qwi(env:List Bd)(ns:List BA)(vs:List Vl)(he:env.length<=1000000000)(out:List Bd)(e:Ext)(hN:ns.length<=1000000000)(hv:List.length out<=1000000000+0):(Ob.loop 37 (loopF f146 0) (qwi_I env ns vs 0 out e) (qwi_q env ns vs e (qwi_f vs (ns) 0 out)).1 (qwi_q env ns vs e (qwi_f vs (ns) 0 out)).2).ok prog:=by
 have:=qwi_lp env ns vs he e hN 0 out (Nat.zero_le _) hv
 rw [List.drop_zero] at this
 exact this
theorem qWith(env:List Bd)(ns:List BA)(vs:List Vl)(he:env.length<=1000000000)(hn:ns.length<=1000000000):Pu 146 [.sl 8 (Bd.cs env),.sl 1 (nmsC ns),.sl 7 (Vl.cs vs)] (.ret (.sl 8 (Bd.cs (qwi_f vs ns 0 env)))):=
 pu mdL (fun e=>[am (List.length ([]++(fun x=>Prod.snd x) (8,Bd.cs env)) * (143+1)<=140737488355328) qZ,lp (S.mk [(0,vL 8 (Bd.cs env)),(1,vL 1 (nmsC ns)),(2,vL 7 (Vl.cs vs)),(6,.v .nilsl),(7,.uniq 66 8 ([]++Bd.cs env)),(9,.v .nilsl),(10,vL 8 (Bd.cs env)),(11,vL 8 ([]++Bd.cs env)),(8,vI6 0)] [] e) (@qwi (env) (ns) (vs) he (env) (e) hn he) ⟨⟨W,W,W,(by first | exact .inl rfl | exact .inr ⟨rfl,rfl⟩ | exact .inr rfl | exact .inr trivial | exact .inl (by first | (simp only [List.nil_append,nmsC_app,nmsC_snoc,Ex.cs_snoc,Vl.cs_snoc,Bd.cs_snoc,Bd.cs_snoc2]; done) | (simp only [List.nil_append,nmsC_app,nmsC_snoc,Ex.cs_snoc,Vl.cs_snoc,Bd.cs_snoc,Bd.cs_snoc2]; rfl))),W,tV⟩,trivial,rfl⟩]) func146
section
variable (cK:C5) (l:List Df) (fu n:Int) (wh:BA) (sp:PV) (wz:Int) (bg:Bool)
include cK l fu n wh sp wz bg
theorem qGroT(v:Vl)(hb:bg=true)(xa:Ext):Ef 175 [.agg (sG cK l fu n wh 0 sp wz bg),.agg (vlL v)] (xa) (.ret (.tup [.agg (sG cK l fu n wh 0 sp wz true),.agg (vlL v)])) (xa):=
 ef mdL [rp 4 (bt bg hb)] func175
theorem qGroF(v:Vl)(hb:bg=false)(k:Int)(hl:Pu 102 [.agg (vlL v),.int .i64 3000] (.ret (.int .i64 k)))(xa:Ext):Ef 175 [.agg (sG cK l fu n wh 0 sp wz bg),.agg (vlL v)] (xa) (.ret (.tup [.agg (sG cK l fu n wh 0 sp wz (decide (k<0))),.agg (vlL v)])) (xa):=
 ef mdL [rp 2 (bf bg hb),cl hl,rp 2 (bf bg hb)] func175
theorem qEntA(d:Df)(args:List Vl)(xa:Ext)(hm:dfM d=1):Ef 125 [.agg (sG cK l fu n wh 0 sp wz bg),.agg (dfL d),.sl 7 (Vl.cs args)] (xa) (.ret (.tup [.agg (sG cK l fu n wh 26 sp wz bg),.agg (v4 0 0 nm0 [])])) (xa):=
 ef mdL [et (dfM d) 1 hm,cl (@qStop cK (l) (fu) (n) (wh) (sp) (wz) (bg) (26))] func125
theorem qEntN_1(d:Df)(args:List Vl)(xa:Ext)(hm:¬dfM d=1)(hp:¬(0<(dfP d).length/\(dfP d).length=args.length))(hx0:((dfP d).length:Int)=0):Ef 125 [.agg (sG cK l fu n wh 0 sp wz bg),.agg (dfL d),.sl 7 (Vl.cs args)] (xa) (.ret (.tup [.agg (sG cK l fu n wh 19 sp wz bg),.agg (v4 0 0 nm0 [])])) (xa):=
 ef mdL [en (dfM d) 1 hm,sl (nmsC_len (dfP d)),rp 7 (et1 hx0),bt true,cl (@qStop cK (l) (fu) (n) (wh) (sp) (wz) (bg) (19))] func125
theorem qEntN_2(d:Df)(args:List Vl)(xa:Ext)(hm:¬dfM d=1)(hp:¬(0<(dfP d).length/\(dfP d).length=args.length))(hx0:¬((dfP d).length:Int)=0):Ef 125 [.agg (sG cK l fu n wh 0 sp wz bg),.agg (dfL d),.sl 7 (Vl.cs args)] (xa) (.ret (.tup [.agg (sG cK l fu n wh 19 sp wz bg),.agg (v4 0 0 nm0 [])])) (xa):=
 ef mdL [en (dfM d) 1 hm,sl (nmsC_len (dfP d)),rp 3 (en1 hx0),sl (nmsC_len (dfP d)),rp 2 (en1 hx0),sl (Vl.cs_len args),rp 2 (en1 hx0),nt ((dfP d).length:Int) (args.length:Int),cl (@qStop cK (l) (fu) (n) (wh) (sp) (wz) (bg) (19))] func125
theorem qEntG(d:Df)(args:List Vl)(xa:Ext)(hm:¬dfM d=1)(hp:0<(dfP d).length)(hq:(dfP d).length=args.length)(bs:List Bd)(hw:Pu 146 [.nilsl,.sl 1 (nmsC (dfP d)),.sl 7 (Vl.cs args)] (.ret (.sl 8 (Bd.cs bs))))(n1:Int)(wh1:BA)(e1:Int)(sp1:PV)(wr1:Int)(bg1:Bool)(v1:Vl)(x1:Ext)(hv:qR cK l fu 145 [.agg (dfL d),.sl 8 (Bd.cs bs)] n wh sp wz bg xa n1 wh1 e1 sp1 wr1 bg1 v1 x1):Ef 125 [.agg (sG cK l fu n wh 0 sp wz bg),.agg (dfL d),.sl 7 (Vl.cs args)] (xa) (.ret (.tup [.agg (sG cK l fu n1 wh1 e1 sp1 wr1 bg1),.agg (vlL v1)])) (x1):=
 ef mdL [en (dfM d) 1 hm,sl (nmsC_len (dfP d)),rp 3 (en ((dfP d).length:Int) 0),sl (nmsC_len (dfP d)),rp 2 (en ((dfP d).length:Int) 0),sl (Vl.cs_len args),rp 2 (en ((dfP d).length:Int) 0),nn ((dfP d).length:Int) (args.length:Int),cl hw,ce hv] func125
end
theorem qBodF(cK:C5)(l:List Df)(fu n:Int)(wh:BA)(sp:PV)(wz:Int)(bg:Bool)(d:Df)(bs:List Bd)(xa:Ext)(h0:0<=n)(h1:fu<=1000000)(hg:n>=fu):Ef 145 [.agg (sG cK l fu n wh 0 sp wz bg),.agg (dfL d),.sl 8 (Bd.cs bs)] (xa) (.ret (.tup [.agg (sG cK l fu n wh 24 sp wz bg),.agg (v4 0 0 nm0 [])])) (xa):=
 Ob.eff_wk (Wk.t (kr (WkL.c (Wk.a (kr (kr (kr (kn 7 (kn 1 (kn 7 (kn 8 (WkL.r _))))))))) (WkL.r _)))) (ef mdL [cl (@qStep_1 cK (l) (fu) (n) (wh) (sp) (wz) (bg) h0 h1 hg),bt true] func145)
section
variable (cK:C5) (l:List Df) (fu n:Int) (wh:BA) (sp:PV) (wz:Int) (bg:Bool)
include cK l fu n wh sp wz bg
theorem qBodO(d:Df)(bs:List Bd)(xa:Ext)(h0:0<=n)(h1:fu<=1000000)(hg:¬n>=fu)(n1:Int)(wh1:BA)(sp1:PV)(wr1:Int)(bg1:Bool)(v1:Vl)(x1:Ext)(hv:qR cK l fu 162 [.sl 8 (Bd.cs bs),.agg (exL (dfB d))] (n+1) (dfNm d) sp wz bg xa n1 wh1 0 sp1 wr1 bg1 v1 x1):Ef 145 [.agg (sG cK l fu n wh 0 sp wz bg),.agg (dfL d),.sl 8 (Bd.cs bs)] (xa) (.ret (.tup [.agg (sG cK l fu n1 wh 0 sp1 wr1 bg1),.agg (vlL v1)])) (x1):=
 ef mdL [cl (@qStep_2 cK (l) (fu) (n) (wh) (sp) (wz) (bg) h0 h1 hg),bf false,ce hv,bt true] func145
theorem qBodE(d:Df)(bs:List Bd)(xa:Ext)(h0:0<=n)(h1:fu<=1000000)(hg:¬n>=fu)(n1:Int)(wh1:BA)(e1:Int)(sp1:PV)(wr1:Int)(bg1:Bool)(v1:Vl)(x1:Ext)(hv:qR cK l fu 162 [.sl 8 (Bd.cs bs),.agg (exL (dfB d))] (n+1) (dfNm d) sp wz bg xa n1 wh1 e1 sp1 wr1 bg1 v1 x1)(he1:¬e1=0):Ef 145 [.agg (sG cK l fu n wh 0 sp wz bg),.agg (dfL d),.sl 8 (Bd.cs bs)] (xa) (.ret (.tup [.agg (sG cK l fu n1 wh1 e1 sp1 wr1 bg1),.agg (vlL v1)])) (x1):=
 ef mdL [cl (@qStep_2 cK (l) (fu) (n) (wh) (sp) (wz) (bg) h0 h1 hg),bf false,ce hv,en e1 0 he1] func145
theorem qNamU(name:BA)(args:List Vl)(xa:Ext)(hl:l.length<=1000000000)(hd:findD name l=none):Ef 89 [.agg (sG cK l fu n wh 0 sp wz bg),.str name,.sl 7 (Vl.cs args)] (xa) (.ret (.tup [.agg (sG cK l fu n wh 19 sp wz bg),.agg (v4 0 0 nm0 [])])) (xa):=
 ef mdL [cl (@rDef_2 cK (l) (name) hl hd),bt true,cl (@qStop cK (l) (fu) (n) (wh) (sp) (wz) (bg) (19))] func89
theorem qNamG(name:BA)(args:List Vl)(xa:Ext)(hl:l.length<=1000000000)(d:Df)(hd:findD name l=some d)(n1:Int)(wh1:BA)(e1:Int)(sp1:PV)(wr1:Int)(bg1:Bool)(v1:Vl)(x1:Ext)(hv:qR cK l fu 125 [.agg (dfL d),.sl 7 (Vl.cs args)] n wh sp wz bg xa n1 wh1 e1 sp1 wr1 bg1 v1 x1):Ef 89 [.agg (sG cK l fu n wh 0 sp wz bg),.str name,.sl 7 (Vl.cs args)] (xa) (.ret (.tup [.agg (sG cK l fu n1 wh1 e1 sp1 wr1 bg1),.agg (vlL v1)])) (x1):=
 ef mdL [cl (@rDef_1 cK (l) (name) hl (d) hd),bf false,ce hv] func89
theorem qAppO(f:Vl)(args:List Vl)(xa:Ext)(h5:¬vlO f=5):Ef 187 [.agg (sG cK l fu n wh 0 sp wz bg),.agg (vlL f),.sl 7 (Vl.cs args)] (xa) (.ret (.tup [.agg (sG cK l fu n wh 19 sp wz bg),.agg (v4 0 0 nm0 [])])) (xa):=
 ef mdL [nt1 h5,cl (@qStop cK (l) (fu) (n) (wh) (sp) (wz) (bg) (19))] func187
theorem qAppN(f:Vl)(args:List Vl)(xa:Ext)(h5:vlO f=5)(hnm:¬vlNm f=nm0)(n1:Int)(wh1:BA)(e1:Int)(sp1:PV)(wr1:Int)(bg1:Bool)(v1:Vl)(x1:Ext)(hv:qR cK l fu 89 [.str (vlNm f),.sl 7 (Vl.cs args)] n wh sp wz bg xa n1 wh1 e1 sp1 wr1 bg1 v1 x1):Ef 187 [.agg (sG cK l fu n wh 0 sp wz bg),.agg (vlL f),.sl 7 (Vl.cs args)] (xa) (.ret (.tup [.agg (sG cK l fu n1 wh1 e1 sp1 wr1 bg1),.agg (vlL v1)])) (x1):=
 ef mdL [nn1 h5,bt (!ByteArray.toList (vlNm f)==ByteArray.toList nm0) (bnT (bsF hnm)),ce hv] func187
theorem qAppL_1(f:Vl)(args:List Vl)(xa:Ext)(h5:vlO f=5)(hnm:vlNm f=nm0)(hB:¬((vlB f).length=1/\(vlP f).length=args.length))(hx0:¬((vlB f).length:Int)=1):Ef 187 [.agg (sG cK l fu n wh 0 sp wz bg),.agg (vlL f),.sl 7 (Vl.cs args)] (xa) (.ret (.tup [.agg (sG cK l fu n wh 19 sp wz bg),.agg (v4 0 0 nm0 [])])) (xa):=
 ef mdL [nn1 h5,bf (!ByteArray.toList (vlNm f)==ByteArray.toList nm0) (bnF (bsT hnm)),sl (Ex.cs_len (vlB f)),rp 7 (nt1 hx0),bt true,cl (@qStop cK (l) (fu) (n) (wh) (sp) (wz) (bg) (19))] func187
theorem qAppL_2(f:Vl)(args:List Vl)(xa:Ext)(h5:vlO f=5)(hnm:vlNm f=nm0)(hB:¬((vlB f).length=1/\(vlP f).length=args.length))(hx0:((vlB f).length:Int)=1):Ef 187 [.agg (sG cK l fu n wh 0 sp wz bg),.agg (vlL f),.sl 7 (Vl.cs args)] (xa) (.ret (.tup [.agg (sG cK l fu n wh 19 sp wz bg),.agg (v4 0 0 nm0 [])])) (xa):=
 ef mdL [nn1 h5,bf (!ByteArray.toList (vlNm f)==ByteArray.toList nm0) (bnF (bsT hnm)),sl (Ex.cs_len (vlB f)),rp 3 (nn1 hx0),sl (nmsC_len (vlP f)),rp 2 (nn1 hx0),sl (Vl.cs_len args),rp 2 (nn1 hx0),nt ((vlP f).length:Int) (args.length:Int),cl (@qStop cK (l) (fu) (n) (wh) (sp) (wz) (bg) (19))] func187
end
theorem qAppF(cK:C5)(l:List Df)(fu n:Int)(wh:BA)(sp:PV)(wz:Int)(bg:Bool)(f:Vl)(args:List Vl)(xa:Ext)(h0:0<=n)(h1:fu<=1000000)(h5:vlO f=5)(hnm:vlNm f=nm0)(hB:(vlB f).length=1)(hP:(vlP f).length=args.length)(hg:n>=fu):Ef 187 [.agg (sG cK l fu n wh 0 sp wz bg),.agg (vlL f),.sl 7 (Vl.cs args)] (xa) (.ret (.tup [.agg (sG cK l fu n wh 24 sp wz bg),.agg (v4 0 0 nm0 [])])) (xa):=
 Ob.eff_wk (Wk.t (kr (WkL.c (Wk.a (kr (kr (kr (kn 7 (kn 1 (kn 7 (kn 8 (WkL.r _))))))))) (WkL.r _)))) (ef mdL [nn1 h5,bf (!ByteArray.toList (vlNm f)==ByteArray.toList nm0) (bnF (bsT hnm)),sl (Ex.cs_len (vlB f)),rp 3 (nn ((vlB f).length:Int) 1),sl (nmsC_len (vlP f)),rp 2 (nn ((vlB f).length:Int) 1),sl (Vl.cs_len args),rp 2 (nn ((vlB f).length:Int) 1),nn ((vlP f).length:Int) (args.length:Int),cl (@qStep_1 cK (l) (fu) (n) (wh) (sp) (wz) (bg) h0 h1 hg),bt true] func187)
section
variable (cK:C5) (l:List Df) (fu n:Int) (wh:BA) (sp:PV) (wz:Int) (bg:Bool)
include cK l fu n wh sp wz bg
theorem qAppG(f:Vl)(args:List Vl)(xa:Ext)(h0:0<=n)(h1:fu<=1000000)(h5:vlO f=5)(hnm:vlNm f=nm0)(hB:(vlB f).length=1)(hP:(vlP f).length=args.length)(hg:¬n>=fu)(bs:List Bd)(hw:Pu 146 [.sl 8 (Bd.cs (vlBd f)),.sl 1 (nmsC (vlP f)),.sl 7 (Vl.cs args)] (.ret (.sl 8 (Bd.cs bs))))(n1:Int)(wh1:BA)(e1:Int)(sp1:PV)(wr1:Int)(bg1:Bool)(v1:Vl)(x1:Ext)(hv:qR cK l fu 162 [.sl 8 (Bd.cs bs),.agg (exL ((vlB f).getD 0 default))] (n+1) wh sp wz bg xa n1 wh1 e1 sp1 wr1 bg1 v1 x1):Ef 187 [.agg (sG cK l fu n wh 0 sp wz bg),.agg (vlL f),.sl 7 (Vl.cs args)] (xa) (.ret (.tup [.agg (sG cK l fu n1 wh1 e1 sp1 wr1 bg1),.agg (vlL v1)])) (x1):=
 ef mdL [nn1 h5,bf (!ByteArray.toList (vlNm f)==ByteArray.toList nm0) (bnF (bsT hnm)),sl (Ex.cs_len (vlB f)),rp 3 (nn ((vlB f).length:Int) 1),sl (nmsC_len (vlP f)),rp 2 (nn ((vlB f).length:Int) 1),sl (Vl.cs_len args),rp 2 (nn ((vlB f).length:Int) 1),nn ((vlP f).length:Int) (args.length:Int),cl (@qStep_2 cK (l) (fu) (n) (wh) (sp) (wz) (bg) h0 h1 hg),bf false,cl hw,am ((0:Int)<=0/\0<((Ex.cs (vlB f)).length:Int)) qZ,xEx (vlB f) 0,ce hv] func187
theorem qVarB(env:List Bd)(name:BA)(xa:Ext)(hn:env.length<=1000000000)(hb:fbO name env.reverse=true):Ef 173 [.agg (sG cK l fu n wh 0 sp wz bg),.sl 8 (Bd.cs env),.str name] (xa) (.ret (.tup [.agg (sG cK l fu n wh 0 sp wz bg),.agg (vlL (fbV name (List.reverse env)))])) (xa):=
 ef mdL [cl (@qFindT (env) (name) hn),bt (fbO name (List.reverse env)) hb] func173
theorem qVarU(env:List Bd)(name:BA)(xa:Ext)(hn:env.length<=1000000000)(hl:l.length<=1000000000)(hb:fbO name env.reverse=false)(hd:findD name l=none):Ef 173 [.agg (sG cK l fu n wh 0 sp wz bg),.sl 8 (Bd.cs env),.str name] (xa) (.ret (.tup [.agg (sG cK l fu n wh 19 sp wz bg),.agg (v4 0 0 nm0 [])])) (xa):=
 ef mdL [cl (@qFindT (env) (name) hn),bf (fbO name (List.reverse env)) hb,cl (@rDef_2 cK (l) (name) hl hd),bt true,cl (@qStop cK (l) (fu) (n) (wh) (sp) (wz) (bg) (19))] func173
end
theorem qVarF(cK:C5)(l:List Df)(fu n:Int)(wh:BA)(sp:PV)(wz:Int)(bg:Bool)(env:List Bd)(name:BA)(xa:Ext)(hn:env.length<=1000000000)(hl:l.length<=1000000000)(hb:fbO name env.reverse=false)(d:Df)(hd:findD name l=some d)(hp:0<(dfP d).length):Ef 173 [.agg (sG cK l fu n wh 0 sp wz bg),.sl 8 (Bd.cs env),.str name] (xa) (.ret (.tup [.agg (sG cK l fu n wh 0 sp wz bg),.agg (v4 5 0 name [])])) (xa):=
 Ob.eff_wk (Wk.t (kr (WkL.c (Wk.a (kr (kr (kr (kn 7 (kn 1 (kn 7 (kn 8 (WkL.r _))))))))) (WkL.r _)))) (ef mdL [cl (@qFindT (env) (name) hn),bf (fbO name (List.reverse env)) hb,cl (@rDef_1 cK (l) (name) hl (d) hd),bf false,sl (nmsC_len (dfP d)),dt (((dfP d).length:Int)>0)] func173)
section
variable (cK:C5) (l:List Df) (fu n:Int) (wh:BA) (sp:PV) (wz:Int) (bg:Bool) (env:List Bd) (name:BA) (xa:Ext) (hn:env.length<=1000000000) (hl:l.length<=1000000000) (hb:fbO name env.reverse=false) (d:Df) (hd:findD name l=some d) (hp:¬0<(dfP d).length)
include cK l fu n wh sp wz bg env name xa hn hl hb d hd hp
theorem qVarA(hm:dfM d=1):Ef 173 [.agg (sG cK l fu n wh 0 sp wz bg),.sl 8 (Bd.cs env),.str name] (xa) (.ret (.tup [.agg (sG cK l fu n wh 26 sp wz bg),.agg (v4 0 0 nm0 [])])) (xa):=
 ef mdL [cl (@qFindT (env) (name) hn),bf (fbO name (List.reverse env)) hb,cl (@rDef_1 cK (l) (name) hl (d) hd),bf false,sl (nmsC_len (dfP d)),df (((dfP d).length:Int)>0),et (dfM d) 1 hm,cl (@qStop cK (l) (fu) (n) (wh) (sp) (wz) (bg) (26))] func173
theorem qVarG(hm:¬dfM d=1)(n1:Int)(wh1:BA)(e1:Int)(sp1:PV)(wr1:Int)(bg1:Bool)(v1:Vl)(x1:Ext)(hv:qR cK l fu 145 [.agg (dfL d),.nilsl] n wh sp wz bg xa n1 wh1 e1 sp1 wr1 bg1 v1 x1):Ef 173 [.agg (sG cK l fu n wh 0 sp wz bg),.sl 8 (Bd.cs env),.str name] (xa) (.ret (.tup [.agg (sG cK l fu n1 wh1 e1 sp1 wr1 bg1),.agg (vlL v1)])) (x1):=
 ef mdL [cl (@qFindT (env) (name) hn),bf (fbO name (List.reverse env)) hb,cl (@rDef_1 cK (l) (name) hl (d) hd),bf false,sl (nmsC_len (dfP d)),df (((dfP d).length:Int)>0),en (dfM d) 1 hm,ce hv] func173
end
end Go.Proofs.YtgonmmckkikmaaaGreat
