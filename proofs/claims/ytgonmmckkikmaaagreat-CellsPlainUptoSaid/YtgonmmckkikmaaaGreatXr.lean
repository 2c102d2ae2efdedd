/- Values of Go as plain data, an evaluator over them, and what the functions of the program return; part r. -/
import Derived.Test.YtgonmmckkikmaaaGreatXl
set_option linter.unusedSectionVars false
set_option linter.unusedSimpArgs false
set_option linter.unusedVariables false
namespace Go.Proofs.YtgonmmckkikmaaaGreat
open Go.Pv Tryz
set_option maxRecDepth 100000
theorem cRaise(k:Int):Pu 127 [pI k] (.panic (.iface 162 (.agg [pI k]))):=
 pm mdL [] func127
theorem cMust_1(b:Bool)(hx0:b=false):Pu 126 [.bool b] (.panic (.iface 162 (.agg [pI 19]))):=
 pm mdL [bt1 (bnT hx0),cl (@cRaise (19))] func126
theorem cMust_2(b:Bool)(hx0:b=true):Pu 126 [.bool b] (.ret (.tup [])):=
 pm mdL [bf1 (bnF hx0)] func126
def cInt_s(n:Int)(ok:Bool):Bool:=(if ok=false then false else (if nIn_r0 n=false then false else true))
theorem cInt_t(n:Int)(ok:Bool)(hs:cInt_s n ok=true):Pu 225 [pI n,.bool ok] (rA (v4 1 n nm0 [])):=by
 by_cases h0:ok=false
 ·exact absurd hs (by unfold cInt_s; rw [iP h0]; decide)
 ·by_cases h1:nIn_r0 n=false
  ·exact absurd hs (by unfold cInt_s; rw [iN h0,iP h1]; decide)
  ·exact Ob.pur_wk (Wk.a (kr (kr (kr (kn 7 (kn 1 (kn 7 (kn 8 (WkL.r _))))))))) (pm mdL [rp 2 (bf1 (bnF (bTF h0))),cl (@nIn (n)),rp 2 (bf1 (bnF (bTF h0))),bf1 (bnF (bTF h1))] func225)
theorem cInt_f(n:Int)(ok:Bool)(hs:cInt_s n ok=false):Pu 225 [pI n,.bool ok] (.panic (.iface 162 (.agg [pI 25]))):=by
 by_cases h0:ok=false
 ·exact pm mdL [rp 4 (bt1 (bnT h0)),bt true,cl (@cRaise (25))] func225
 ·by_cases h1:nIn_r0 n=false
  ·exact pm mdL [rp 2 (bf1 (bnF (bTF h0))),cl (@nIn (n)),rp 2 (bf1 (bnF (bTF h0))),bt1 (bnT h1),cl (@cRaise (25))] func225
  ·exact absurd hs (by unfold cInt_s; rw [iN h0,iN h1]; decide)
def cTruth_r0(b:Bool):Int:=(if b=true then 1 else 0)
theorem cTruth(b:Bool):Pu 226 [.bool b] (rA (v4 2 (cTruth_r0 b) nm0 [])):=by
 by_cases h0:b=true
 ·simp only [cTruth_r0,iP h0]; exact Ob.pur_wk (Wk.a (kr (kr (kr (kn 7 (kn 1 (kn 7 (kn 8 (WkL.r _))))))))) (pm mdL [bt1 h0] func226)
 ·simp only [cTruth_r0,iN h0]; exact Ob.pur_wk (Wk.a (kr (kr (kr (kn 7 (kn 1 (kn 7 (kn 8 (WkL.r _))))))))) (pm mdL [bf1 (bFT h0)] func226)
def cArity_r0(op:Int)(kids:List Ex):Bool:=(if op=1 then ((kids.length:Int)==0) else (if op=2 then ((kids.length:Int)==0) else (if op=3 then ((kids.length:Int)==0) else (if op=4 then true else (if op=5 then (decide ((kids.length:Int)>0)) else (if op=25 then (decide ((kids.length:Int)>0)) else (if op=6 then ((kids.length:Int)==1) else (if op=9 then ((kids.length:Int)==1) else (if op=15 then ((kids.length:Int)==1) else (if op=21 then ((kids.length:Int)==1) else (if op=22 then ((kids.length:Int)==1) else (if op=23 then ((kids.length:Int)==1) else (if op=26 then ((kids.length:Int)==1) else (if op=8 then ((kids.length:Int)==3) else (if (kids.length:Int)=2 then (if op>=1 then (decide (op<=26)) else false) else false)))))))))))))))
theorem cArity(op n:Int)(name:BA)(kids:List Ex)(params:List Pm)(alts:List Al)(types:List Tp):Pu 163 [.agg (xc op name n kids params alts types)] (rB (cArity_r0 op kids)):=by
 by_cases h0:op=1
 ·simp only [cArity_r0,iP h0]; exact pm mdL [sl (Ex.cs_len kids),rp 2 (et1 h0)] func163
 ·by_cases h1:op=2
  ·simp only [cArity_r0,iN h0,iP h1]; exact pm mdL [sl (Ex.cs_len kids),en1 h0,rp 2 (et1 h1)] func163
  ·by_cases h2:op=3
   ·simp only [cArity_r0,iN h0,iN h1,iP h2]; exact pm mdL [sl (Ex.cs_len kids),en1 h0,en1 h1,et1 h2] func163
   ·by_cases h3:op=4
    ·simp only [cArity_r0,iN h0,iN h1,iN h2,iP h3]; exact pm mdL [sl (Ex.cs_len kids),en1 h0,en1 h1,en1 h2,et1 h3] func163
    ·by_cases h4:op=5
     ·simp only [cArity_r0,iN h0,iN h1,iN h2,iN h3,iP h4]; exact pm mdL [sl (Ex.cs_len kids),en1 h0,en1 h1,en1 h2,en1 h3,rp 2 (et1 h4)] func163
     ·by_cases h5:op=25
      ·simp only [cArity_r0,iN h0,iN h1,iN h2,iN h3,iN h4,iP h5]; exact pm mdL [sl (Ex.cs_len kids),en1 h0,en1 h1,en1 h2,en1 h3,en1 h4,et1 h5] func163
      ·by_cases h6:op=6
       ·simp only [cArity_r0,iN h0,iN h1,iN h2,iN h3,iN h4,iN h5,iP h6]; exact pm mdL [sl (Ex.cs_len kids),en1 h0,en1 h1,en1 h2,en1 h3,en1 h4,en1 h5,rp 2 (et1 h6)] func163
       ·by_cases h7:op=9
        ·simp only [cArity_r0,iN h0,iN h1,iN h2,iN h3,iN h4,iN h5,iN h6,iP h7]; exact pm mdL [sl (Ex.cs_len kids),en1 h0,en1 h1,en1 h2,en1 h3,en1 h4,en1 h5,en1 h6,rp 2 (et1 h7)] func163
        ·by_cases h8:op=15
         ·simp only [cArity_r0,iN h0,iN h1,iN h2,iN h3,iN h4,iN h5,iN h6,iN h7,iP h8]; exact pm mdL [sl (Ex.cs_len kids),en1 h0,en1 h1,en1 h2,en1 h3,en1 h4,en1 h5,en1 h6,en1 h7,rp 2 (et1 h8)] func163
         ·by_cases h9:op=21
          ·simp only [cArity_r0,iN h0,iN h1,iN h2,iN h3,iN h4,iN h5,iN h6,iN h7,iN h8,iP h9]; exact pm mdL [sl (Ex.cs_len kids),en1 h0,en1 h1,en1 h2,en1 h3,en1 h4,en1 h5,en1 h6,en1 h7,en1 h8,rp 2 (et1 h9)] func163
          ·by_cases h10:op=22
           ·simp only [cArity_r0,iN h0,iN h1,iN h2,iN h3,iN h4,iN h5,iN h6,iN h7,iN h8,iN h9,iP h10]; exact pm mdL [sl (Ex.cs_len kids),en1 h0,en1 h1,en1 h2,en1 h3,en1 h4,en1 h5,en1 h6,en1 h7,en1 h8,en1 h9,rp 2 (et1 h10)] func163
           ·by_cases h11:op=23
            ·simp only [cArity_r0,iN h0,iN h1,iN h2,iN h3,iN h4,iN h5,iN h6,iN h7,iN h8,iN h9,iN h10,iP h11]; exact pm mdL [sl (Ex.cs_len kids),en1 h0,en1 h1,en1 h2,en1 h3,en1 h4,en1 h5,en1 h6,en1 h7,en1 h8,en1 h9,en1 h10,rp 2 (et1 h11)] func163
            ·by_cases h12:op=26
             ·simp only [cArity_r0,iN h0,iN h1,iN h2,iN h3,iN h4,iN h5,iN h6,iN h7,iN h8,iN h9,iN h10,iN h11,iP h12]; exact pm mdL [sl (Ex.cs_len kids),en1 h0,en1 h1,en1 h2,en1 h3,en1 h4,en1 h5,en1 h6,en1 h7,en1 h8,en1 h9,en1 h10,en1 h11,et1 h12] func163
             ·by_cases h13:op=8
              ·simp only [cArity_r0,iN h0,iN h1,iN h2,iN h3,iN h4,iN h5,iN h6,iN h7,iN h8,iN h9,iN h10,iN h11,iN h12,iP h13]; exact pm mdL [sl (Ex.cs_len kids),en1 h0,en1 h1,en1 h2,en1 h3,en1 h4,en1 h5,en1 h6,en1 h7,en1 h8,en1 h9,en1 h10,en1 h11,en1 h12,et1 h13] func163
              ·by_cases h14:(kids.length:Int)=2
               ·by_cases h15:op>=1
                ·simp only [cArity_r0,iN h0,iN h1,iN h2,iN h3,iN h4,iN h5,iN h6,iN h7,iN h8,iN h9,iN h10,iN h11,iN h12,iN h13,iP h14,iP h15]; exact pm mdL [sl (Ex.cs_len kids),en1 h0,en1 h1,en1 h2,en1 h3,en1 h4,en1 h5,en1 h6,en1 h7,en1 h8,en1 h9,en1 h10,en1 h11,en1 h12,en1 h13,rp 4 (et1 h14),rp 4 (dt1 h15)] func163
                ·simp only [cArity_r0,iN h0,iN h1,iN h2,iN h3,iN h4,iN h5,iN h6,iN h7,iN h8,iN h9,iN h10,iN h11,iN h12,iN h13,iP h14,iN h15]; exact pm mdL [sl (Ex.cs_len kids),en1 h0,en1 h1,en1 h2,en1 h3,en1 h4,en1 h5,en1 h6,en1 h7,en1 h8,en1 h9,en1 h10,en1 h11,en1 h12,en1 h13,rp 4 (et1 h14),rp 4 (df1 h15)] func163
               ·simp only [cArity_r0,iN h0,iN h1,iN h2,iN h3,iN h4,iN h5,iN h6,iN h7,iN h8,iN h9,iN h10,iN h11,iN h12,iN h13,iN h14]; exact pm mdL [sl (Ex.cs_len kids),en1 h0,en1 h1,en1 h2,en1 h3,en1 h4,en1 h5,en1 h6,en1 h7,en1 h8,en1 h9,en1 h10,en1 h11,en1 h12,en1 h13,rp 4 (en1 h14),rp 4 (bf false)] func163
def scR:List Bd->PV
 | [] => .nilp
 | x::r => .ro (.str (bdNm x)::(vlL (bdV x)++[.opq (scR r)])) 0
abbrev scQ(l:List Bd):PV := .opq (scR l)
theorem fgE(name:BA)(ext:Ext)(cx:Cx)(hcx:cx.n=23){Q:PExit->S->Prop}(hq:Q (.exit 0) (S.mk [(0,.v .nilp),(1,vS name),(4,.lp 4 0),(5,.v (.bool false))] [(4,[jk,jk,jk,jk,jk,jk,jk])] ext)):PW prog cx (loopF f222 0) (findI .nilp name ext) Q:=
 pw mdL 23 [bf false] [0,1,4,5] [4] hcx hq
section
variable (x:Bd) (r:List Bd) (name:BA) (ext:Ext)
include x r name ext
theorem fgN_1(hx0:bdNm x=name)(cx:Cx)(hcx:cx.n=23){Q:PExit->S->Prop}(hq:Q (.ret) (S.mk [(0,.v (.ro [.str (bdNm x),pI (vlO (bdV x)),pI (vlN (bdV x)),.str (vlNm (bdV x)),.sl 7 (Vl.cs (vlK (bdV x))),.sl 1 (nmsC (vlP (bdV x))),.sl 7 (Ex.cs (vlB (bdV x))),.sl 8 (Bd.cs (vlBd (bdV x))),PV.opq (scR r)] 0)),(1,vS name),(4,.lp 4 0),(5,.v (.bool true))] [(4,vlV (bdV x))] ext)):PW prog cx (loopF f222 0) (findI (scR (x::r)) name ext) Q:=
 pw mdL 23 [bt true,bt (ByteArray.toList (bdNm x)==ByteArray.toList name) (bsT hx0)] [0,1,4,5] [4] hcx hq
theorem fgN_2(hx0:¬bdNm x=name)(cx:Cx)(hcx:cx.n=23){Q:PExit->S->Prop}(hq:Q (.normal) (S.mk [(0,.v (PV.opq (scR r))),(1,vS name),(4,.lp 4 0),(5,.v (.bool false))] [(4,[jk,jk,jk,jk,jk,jk,jk])] ext)):PW prog cx (loopF f222 0) (findI (scR (x::r)) name ext) Q:=
 pw mdL 23 [bt true,bf (ByteArray.toList (bdNm x)==ByteArray.toList name) (bsF hx0)] [0,1,4,5] [4] hcx hq
end
theorem fg_loop(name:BA)(ext:Ext)(l:List Bd):(Ob.loop 23 (loopF f222 0) (findI (scR l) name ext) (findR name ext l).1 (findR name ext l).2).ok prog:=by
 refine Ob.loop_of (α:=List Bd) (fun l=>findI (scR l) name ext) List.length (findR name ext) ?_ l
 intro l cx hcx
 cases l with
 | nil=>exact fgE name ext cx hcx (.inr ⟨by simp,rfl,⟨W,tV⟩,⟨WLs.refl _,tV⟩,rfl⟩)
 | cons x r=>
  by_cases h:bdNm x=name
  ·have hr:findR name ext (x::r)=(.ret,⟨[(4,.lp 4 0),(5,.v (.bool true))],[(4,(vlL (bdV x)).map .v)],ext⟩):=by simp only [findR,findB,h,if_true]
   refine fgN_1 x r name ext h cx hcx (.inr ?_)
   rw [hr]
   exact ⟨by simp,rfl,⟨W,W,tV⟩,⟨WLs.refl _,tV⟩,rfl⟩
  ·exact fgN_2 x r name ext h cx hcx (.inl ⟨rfl,r,by simp,⟨⟨.op _,W,W,W,tV⟩,⟨WLs.refl _,tV⟩,rfl⟩,by simp only [findR,findB,h,if_false]⟩)
theorem fg_loop_some(name:BA)(ext:Ext)(l:List Bd)(v:Vl)(h:findB name l=some v):(Ob.loop 23 (loopF f222 0) (findI (scR l) name ext) .ret ⟨[(4,.lp 4 0),(5,.v (.bool true))],[(4,(vlL v).map .v)],ext⟩).ok prog:=by
 have:=fg_loop name ext l
 simp only [findR,h] at this
 exact this
theorem fg_loop_none(name:BA)(ext:Ext)(l:List Bd)(h:findB name l=none):(Ob.loop 23 (loopF f222 0) (findI (scR l) name ext) (.exit 0) ⟨[(4,.lp 4 0)],[(4,List.replicate 7 jk)],ext⟩).ok prog:=by
 have:=fg_loop name ext l
 simp only [findR,h] at this
 exact this
theorem fGet_1(l:List Bd)(name:BA)(hy0:Vl)(hx1:findB name l=some hy0):Pu 222 [scR l,.str name] (.ret (.tup [.agg (vlL hy0),.bool true])):=
 pu mdL (fun e=>[lp (S.mk [(0,.v (scR l)),(1,vS name),(4,.lp 4 0),(5,.v (.bool false))] [(4,vZ)] e) (@fg_loop_some (name) (e) (l) hy0 hx1) ⟨⟨W,W,W,W,tV⟩,⟨⟨Wq,Wq,Wq,Wq,Wq,Wq,Wq,tV⟩,tV⟩,rfl⟩]) func222
theorem fGet_2(l:List Bd)(name:BA)(hx0:findB name l=none):Pu 222 [scR l,.str name] (.ret (.tup [.agg (v4 0 0 nm0 []),.bool false])):=
 Ob.pur_wk (Wk.t (WkL.c (Wk.a (kr (kr (kr (kn 7 (kn 1 (kn 7 (kn 8 (WkL.r _))))))))) (WkL.r _))) (pu mdL (fun e=>[lp (S.mk [(0,.v (scR l)),(1,vS name),(4,.lp 4 0),(5,.v (.bool false))] [(4,vZ)] e) (@fg_loop_none (name) (e) (l) hx0) ⟨⟨W,W,W,W,tV⟩,⟨⟨Wq,Wq,Wq,Wq,Wq,Wq,Wq,tV⟩,tV⟩,rfl⟩]) func222)
theorem cGetS{l:List Bd}{name:BA}{v:Vl}(h:findB name l=some v):Pu 222 [scQ l,.str name] (.ret (.tup [.agg (vlL v),.bool true])):=Ob.pur_arg (.c (.op _) (.c (.r _) (.r _))) (fGet_1 l name v h)
section
variable (x:Ex)
include x
theorem cCp_1(hx0:cArity_r0 (exO x) (exK x)=false):Pu 148 [.agg (exL x)] (.ret (.iface 219 (.agg []))):=
 pm mdL [cl (eX @cArity x),bt1 (bnT hx0)] func148
theorem cCp_2(hx0:cArity_r0 (exO x) (exK x)=true)(hx1:exO x=1):Pu 148 [.agg (exL x)] (.ret (.iface 221 (.agg (exL x)))):=
 pm mdL [cl (eX @cArity x),bf1 (bnF hx0),rp 2 (et1 hx1)] func148
theorem cCp_3(hx0:cArity_r0 (exO x) (exK x)=true)(hx1:¬exO x=1)(hx2:exO x=2):Pu 148 [.agg (exL x)] (.ret (.iface 221 (.agg (exL x)))):=
 pm mdL [cl (eX @cArity x),bf1 (bnF hx0),en1 hx1,et1 hx2] func148
theorem cCp_4(hx0:cArity_r0 (exO x) (exK x)=true)(hx1:¬exO x=1)(hx2:¬exO x=2)(hx3:exO x=3):Pu 148 [.agg (exL x)] (.ret (.iface 223 (.agg [.str (exNm x)]))):=
 pm mdL [cl (eX @cArity x),bf1 (bnF hx0),en1 hx1,en1 hx2,et1 hx3] func148
theorem cCp_5(hx0:cArity_r0 (exO x) (exK x)=true)(hx1:¬exO x=1)(hx2:¬exO x=2)(hx3:¬exO x=3)(hx4:exO x=4):Pu 148 [.agg (exL x)] (.ret (.iface 224 (.agg (exL x)))):=
 pm mdL [cl (eX @cArity x),bf1 (bnF hx0),en1 hx1,en1 hx2,en1 hx3,et1 hx4] func148
theorem cCp_6(hx0:cArity_r0 (exO x) (exK x)=true)(hx1:¬exO x=1)(hx2:¬exO x=2)(hx3:¬exO x=3)(hx4:¬exO x=4)(hx5:exO x=5):Pu 148 [.agg (exL x)] (.ret (.iface 225 (.agg (exL x)))):=
 pm mdL [cl (eX @cArity x),bf1 (bnF hx0),en1 hx1,en1 hx2,en1 hx3,en1 hx4,et1 hx5] func148
theorem cCp_7(hx0:cArity_r0 (exO x) (exK x)=true)(hx1:¬exO x=1)(hx2:¬exO x=2)(hx3:¬exO x=3)(hx4:¬exO x=4)(hx5:¬exO x=5)(hx6:exO x=6):Pu 148 [.agg (exL x)] (.ret (.iface 226 (.agg (exL x)))):=
 pm mdL [cl (eX @cArity x),bf1 (bnF hx0),en1 hx1,en1 hx2,en1 hx3,en1 hx4,en1 hx5,et1 hx6] func148
theorem cCp_8(hx0:cArity_r0 (exO x) (exK x)=true)(hx1:¬exO x=1)(hx2:¬exO x=2)(hx3:¬exO x=3)(hx4:¬exO x=4)(hx5:¬exO x=5)(hx6:¬exO x=6)(hx7:exO x=7):Pu 148 [.agg (exL x)] (.ret (.iface 227 (.agg (exL x)))):=
 pm mdL [cl (eX @cArity x),bf1 (bnF hx0),en1 hx1,en1 hx2,en1 hx3,en1 hx4,en1 hx5,en1 hx6,et1 hx7] func148
theorem cCp_9(hx0:cArity_r0 (exO x) (exK x)=true)(hx1:¬exO x=1)(hx2:¬exO x=2)(hx3:¬exO x=3)(hx4:¬exO x=4)(hx5:¬exO x=5)(hx6:¬exO x=6)(hx7:¬exO x=7)(hx8:exO x=8):Pu 148 [.agg (exL x)] (.ret (.iface 228 (.agg (exL x)))):=
 pm mdL [cl (eX @cArity x),bf1 (bnF hx0),en1 hx1,en1 hx2,en1 hx3,en1 hx4,en1 hx5,en1 hx6,en1 hx7,et1 hx8] func148
theorem cCp_10(hx0:cArity_r0 (exO x) (exK x)=true)(hx1:¬exO x=1)(hx2:¬exO x=2)(hx3:¬exO x=3)(hx4:¬exO x=4)(hx5:¬exO x=5)(hx6:¬exO x=6)(hx7:¬exO x=7)(hx8:¬exO x=8)(hx9:exO x=9):Pu 148 [.agg (exL x)] (.ret (.iface 229 (.agg (exL x)))):=
 pm mdL [cl (eX @cArity x),bf1 (bnF hx0),en1 hx1,en1 hx2,en1 hx3,en1 hx4,en1 hx5,en1 hx6,en1 hx7,en1 hx8,et1 hx9] func148
theorem cCp_11(hx0:cArity_r0 (exO x) (exK x)=true)(hx1:¬exO x=1)(hx2:¬exO x=2)(hx3:¬exO x=3)(hx4:¬exO x=4)(hx5:¬exO x=5)(hx6:¬exO x=6)(hx7:¬exO x=7)(hx8:¬exO x=8)(hx9:¬exO x=9)(hx10:exO x=19):Pu 148 [.agg (exL x)] (.ret (.iface 230 (.agg (exL x)))):=
 pm mdL [cl (eX @cArity x),bf1 (bnF hx0),en1 hx1,en1 hx2,en1 hx3,en1 hx4,en1 hx5,en1 hx6,en1 hx7,en1 hx8,en1 hx9,rp 2 (et1 hx10)] func148
theorem cCp_12(hx0:cArity_r0 (exO x) (exK x)=true)(hx1:¬exO x=1)(hx2:¬exO x=2)(hx3:¬exO x=3)(hx4:¬exO x=4)(hx5:¬exO x=5)(hx6:¬exO x=6)(hx7:¬exO x=7)(hx8:¬exO x=8)(hx9:¬exO x=9)(hx10:¬exO x=19)(hx11:exO x=20):Pu 148 [.agg (exL x)] (.ret (.iface 230 (.agg (exL x)))):=
 pm mdL [cl (eX @cArity x),bf1 (bnF hx0),en1 hx1,en1 hx2,en1 hx3,en1 hx4,en1 hx5,en1 hx6,en1 hx7,en1 hx8,en1 hx9,en1 hx10,et1 hx11] func148
theorem cCp_13(hx0:cArity_r0 (exO x) (exK x)=true)(hx1:¬exO x=1)(hx2:¬exO x=2)(hx3:¬exO x=3)(hx4:¬exO x=4)(hx5:¬exO x=5)(hx6:¬exO x=6)(hx7:¬exO x=7)(hx8:¬exO x=8)(hx9:¬exO x=9)(hx10:¬exO x=19)(hx11:¬exO x=20)(hx12:exO x=25):Pu 148 [.agg (exL x)] (.ret (.iface 231 (.agg (exL x)))):=
 pm mdL [cl (eX @cArity x),bf1 (bnF hx0),en1 hx1,en1 hx2,en1 hx3,en1 hx4,en1 hx5,en1 hx6,en1 hx7,en1 hx8,en1 hx9,en1 hx10,en1 hx11,rp 2 (et1 hx12)] func148
theorem cCp_14(hx0:cArity_r0 (exO x) (exK x)=true)(hx1:¬exO x=1)(hx2:¬exO x=2)(hx3:¬exO x=3)(hx4:¬exO x=4)(hx5:¬exO x=5)(hx6:¬exO x=6)(hx7:¬exO x=7)(hx8:¬exO x=8)(hx9:¬exO x=9)(hx10:¬exO x=19)(hx11:¬exO x=20)(hx12:¬exO x=25)(hx13:exO x=26):Pu 148 [.agg (exL x)] (.ret (.iface 231 (.agg (exL x)))):=
 pm mdL [cl (eX @cArity x),bf1 (bnF hx0),en1 hx1,en1 hx2,en1 hx3,en1 hx4,en1 hx5,en1 hx6,en1 hx7,en1 hx8,en1 hx9,en1 hx10,en1 hx11,en1 hx12,et1 hx13] func148
theorem cCp_15(hx0:cArity_r0 (exO x) (exK x)=true)(hx1:¬exO x=1)(hx2:¬exO x=2)(hx3:¬exO x=3)(hx4:¬exO x=4)(hx5:¬exO x=5)(hx6:¬exO x=6)(hx7:¬exO x=7)(hx8:¬exO x=8)(hx9:¬exO x=9)(hx10:¬exO x=19)(hx11:¬exO x=20)(hx12:¬exO x=25)(hx13:¬exO x=26)(hx14:exO x=15):Pu 148 [.agg (exL x)] (.ret (.iface 232 (.agg (exL x)))):=
 pm mdL [cl (eX @cArity x),bf1 (bnF hx0),en1 hx1,en1 hx2,en1 hx3,en1 hx4,en1 hx5,en1 hx6,en1 hx7,en1 hx8,en1 hx9,en1 hx10,en1 hx11,en1 hx12,en1 hx13,rp 2 (et1 hx14)] func148
theorem cCp_16(hx0:cArity_r0 (exO x) (exK x)=true)(hx1:¬exO x=1)(hx2:¬exO x=2)(hx3:¬exO x=3)(hx4:¬exO x=4)(hx5:¬exO x=5)(hx6:¬exO x=6)(hx7:¬exO x=7)(hx8:¬exO x=8)(hx9:¬exO x=9)(hx10:¬exO x=19)(hx11:¬exO x=20)(hx12:¬exO x=25)(hx13:¬exO x=26)(hx14:¬exO x=15)(hx15:exO x=21):Pu 148 [.agg (exL x)] (.ret (.iface 232 (.agg (exL x)))):=
 pm mdL [cl (eX @cArity x),bf1 (bnF hx0),en1 hx1,en1 hx2,en1 hx3,en1 hx4,en1 hx5,en1 hx6,en1 hx7,en1 hx8,en1 hx9,en1 hx10,en1 hx11,en1 hx12,en1 hx13,en1 hx14,rp 2 (et1 hx15)] func148
theorem cCp_17(hx0:cArity_r0 (exO x) (exK x)=true)(hx1:¬exO x=1)(hx2:¬exO x=2)(hx3:¬exO x=3)(hx4:¬exO x=4)(hx5:¬exO x=5)(hx6:¬exO x=6)(hx7:¬exO x=7)(hx8:¬exO x=8)(hx9:¬exO x=9)(hx10:¬exO x=19)(hx11:¬exO x=20)(hx12:¬exO x=25)(hx13:¬exO x=26)(hx14:¬exO x=15)(hx15:¬exO x=21)(hx16:exO x=22):Pu 148 [.agg (exL x)] (.ret (.iface 232 (.agg (exL x)))):=
 pm mdL [cl (eX @cArity x),bf1 (bnF hx0),en1 hx1,en1 hx2,en1 hx3,en1 hx4,en1 hx5,en1 hx6,en1 hx7,en1 hx8,en1 hx9,en1 hx10,en1 hx11,en1 hx12,en1 hx13,en1 hx14,en1 hx15,rp 2 (et1 hx16)] func148
theorem cCp_18(hx0:cArity_r0 (exO x) (exK x)=true)(hx1:¬exO x=1)(hx2:¬exO x=2)(hx3:¬exO x=3)(hx4:¬exO x=4)(hx5:¬exO x=5)(hx6:¬exO x=6)(hx7:¬exO x=7)(hx8:¬exO x=8)(hx9:¬exO x=9)(hx10:¬exO x=19)(hx11:¬exO x=20)(hx12:¬exO x=25)(hx13:¬exO x=26)(hx14:¬exO x=15)(hx15:¬exO x=21)(hx16:¬exO x=22)(hx17:exO x=23):Pu 148 [.agg (exL x)] (.ret (.iface 232 (.agg (exL x)))):=
 pm mdL [cl (eX @cArity x),bf1 (bnF hx0),en1 hx1,en1 hx2,en1 hx3,en1 hx4,en1 hx5,en1 hx6,en1 hx7,en1 hx8,en1 hx9,en1 hx10,en1 hx11,en1 hx12,en1 hx13,en1 hx14,en1 hx15,en1 hx16,et1 hx17] func148
theorem cCp_19(hx0:cArity_r0 (exO x) (exK x)=true)(hx1:¬exO x=1)(hx2:¬exO x=2)(hx3:¬exO x=3)(hx4:¬exO x=4)(hx5:¬exO x=5)(hx6:¬exO x=6)(hx7:¬exO x=7)(hx8:¬exO x=8)(hx9:¬exO x=9)(hx10:¬exO x=19)(hx11:¬exO x=20)(hx12:¬exO x=25)(hx13:¬exO x=26)(hx14:¬exO x=15)(hx15:¬exO x=21)(hx16:¬exO x=22)(hx17:¬exO x=23):Pu 148 [.agg (exL x)] (.ret (.iface 233 (.agg (exL x)))):=
 pm mdL [cl (eX @cArity x),bf1 (bnF hx0),en1 hx1,en1 hx2,en1 hx3,en1 hx4,en1 hx5,en1 hx6,en1 hx7,en1 hx8,en1 hx9,en1 hx10,en1 hx11,en1 hx12,en1 hx13,en1 hx14,en1 hx15,en1 hx16,en1 hx17] func148
end
def mdC:Md:=⟨fun t=>if t=191 then some true else some false,fun t=>t==123⟩
abbrev hltP(k:Int):PV := .iface 162 (.agg [.int .i64 k])
abbrev mcC(cK:C5)(l:List Df)(fu n:Int)(wh:BA)(sp:PV)(wz:Int):List LV:=[.v cK.a,.v cK.b,.v cK.c,.v cK.d,.v cK.e,.v (.sl 25 (dfsC l)),.v (.int .i64 fu),.v (.int .i64 n),.v (.str wh),.v sp,.v (.int .i64 wz)]
abbrev EM(cK:C5)(l:List Df)(fu n:Int)(wh:BA)(sp:PV)(wz:Int)(re:Ext):Ext:=(0,mcC cK l fu n wh sp wz)::re
section
variable (cK:C5) (l:List Df) (fu n:Int) (wh:BA) (sp:PV) (wz:Int) (re:Ext) (h0:0<=n) (h1:fu<=1000000)
include cK l fu n wh sp wz re h0 h1
theorem ceTick_1(hx0:n>=fu):Ef 147 [.xp 0 0] (EM cK l fu n wh sp wz re) (.panic (hltP 24)) (EM cK l fu n wh sp wz re):=
 ef mdC [dt1 hx0,cl (@cRaise (24))] func147
theorem ceTick_2(hx0:¬n>=fu):Ef 147 [.xp 0 0] (EM cK l fu n wh sp wz re) (.ret (.tup [])) (EM cK l fu (n+1) wh sp wz re):=
 ef mdC [df1 hx0,wr (n+1)] func147
end
abbrev rnO(e:Ext)(f:Nat)(p s:PV)(v:Vl)(e1:Ext):Prop:=Ef f [p,.xp 0 0,s] e (.ret (.agg (vlL v))) e1
abbrev rnE(e:Ext)(f:Nat)(p s:PV)(k:Int)(e1:Ext):Prop:=Ef f [p,.xp 0 0,s] e (.panic (hltP k)) e1
abbrev cpA(x:Ex)(t f:Nat)(p:PV):Prop:=Pu 148 [.agg (exL x)] (.ret (.ifm t f p))
abbrev mtA(t f:Nat):Prop:=methT prog t "liquidcheck/cells.run" = some f
section
variable (cK:C5) (l:List Df) (fu n:Int) (wh:BA) (sp:PV) (wz:Int) (re:Ext) (h0:0<=n) (h1:fu<=1000000) (d:Df) (s:PV)
include cK l fu n wh sp wz re h0 h1 d s
theorem ceBodyT(hs:¬n>=fu)(t f:Nat)(p:PV)(hc:cpA (dfB d) t f p)(hm:mtA t f)(v:Vl)(n1:Int)(sp1:PV)(wr1:Int)(re1:Ext)(wh1:BA)(hv:rnO (EM cK l fu (n+1) (dfNm d) sp wz re) f p s v (EM cK l fu n1 wh1 sp1 wr1 re1)):Ef 128 [.xp 0 0,.agg (dfL d),s] (EM cK l fu n wh sp wz re) (rA (vlL v)) (EM cK l fu n1 wh sp1 wr1 re1):=
 ef mdC [ce (@ceTick_2 cK (l) (fu) (n) (wh) (sp) (wz) (re) h0 h1 hs),cl hc,am (methT prog t "liquidcheck/cells.run" = some f) hm,ce hv] func128
theorem ceBodyE(hs:¬n>=fu)(t f:Nat)(p:PV)(hc:cpA (dfB d) t f p)(hm:mtA t f)(k:Int)(eb:Ext)(hv:rnE (EM cK l fu (n+1) (dfNm d) sp wz re) f p s k eb):Ef 128 [.xp 0 0,.agg (dfL d),s] (EM cK l fu n wh sp wz re) (.panic (hltP k)) (eb):=
 ef mdC [ce (@ceTick_2 cK (l) (fu) (n) (wh) (sp) (wz) (re) h0 h1 hs),cl hc,am (methT prog t "liquidcheck/cells.run" = some f) hm,ce hv] func128
theorem ceBodyF(hs:n>=fu):Ef 128 [.xp 0 0,.agg (dfL d),s] (EM cK l fu n wh sp wz re) (.panic (hltP 24)) (EM cK l fu n wh sp wz re):=
 ef mdC [ce (@ceTick_1 cK (l) (fu) (n) (wh) (sp) (wz) (re) h0 h1 hs)] func128
end
abbrev gtS(s:PV)(nm:BA)(v:Vl):Prop:=Pu 222 [s,.str nm] (.ret (.tup [.agg (vlL v),.bool true]))
abbrev gtN(s:PV)(nm:BA):Prop:=Pu 222 [s,.str nm] (.ret (.tup [.agg (vlL default),.bool false]))
theorem ceW(m s:PV):Pu 223 [.agg [],m,s] (.panic (hltP 19)):=
 pm mdC [cl (@cRaise (19))] func223
theorem ceC_1(x:Ex)(m s:PV)(hx0:exO x=1)(hx1:cInt_s (exN x) true=true):Pu 224 [.agg (exL x),m,s] (rA (v4 1 (exN x) nm0 [])):=
 pm mdC [et1 hx0,cl (@cInt_t (exN x) (true) hx1)] func224
theorem ceC_2(x:Ex)(m s:PV)(hx0:exO x=1)(hx1:cInt_s (exN x) true=false):Pu 224 [.agg (exL x),m,s] (.panic (hltP 25)):=
 pm mdC [et1 hx0,cl (@cInt_f (exN x) (true) hx1)] func224
theorem ceC_3(x:Ex)(m s:PV)(hx0:¬exO x=1):Pu 224 [.agg (exL x),m,s] (rA (v4 2 (cTruth_r0 (exN x != 0)) nm0 [])):=
 pm mdC [en1 hx0,cl (@cTruth (exN x != 0))] func224
theorem ceVb(nm:BA)(m s:PV)(v:Vl)(hg:gtS s nm v):Pu 227 [.agg [.str nm],m,s] (rA (vlL v)):=
 pm mdC [cl hg,bt true] func227
theorem ceVu(cK:C5)(l:List Df)(fu n:Int)(wh:BA)(sp:PV)(wz:Int)(re:Ext)(h0:l.length<=1000000000)(nm:BA)(s:PV)(hg:gtN s nm)(h2:findD nm l=none):Ef 227 [.agg [.str nm],.xp 0 0,s] (EM cK l fu n wh sp wz re) (.panic (hltP 19)) (EM cK l fu n wh sp wz re):=
 ef mdC [cl hg,bf false,cl (@sDef_2 cK (l) (nm) h0 h2),cl (@cMust_1 (false) rF)] func227
theorem ceVf(cK:C5)(l:List Df)(fu n:Int)(wh:BA)(sp:PV)(wz:Int)(re:Ext)(h0:l.length<=1000000000)(nm:BA)(s:PV)(hg:gtN s nm)(d:Df)(h2:findD nm l=some d)(h3:((dfP d).length:Int)>0):Ef 227 [.agg [.str nm],.xp 0 0,s] (EM cK l fu n wh sp wz re) (rA (v4 5 0 (dfNm d) [])) (EM cK l fu n wh sp wz re):=
 Ob.eff_wk (Wk.a (kr (kr (kr (kn 7 (kn 1 (kn 7 (kn 8 (WkL.r _))))))))) (ef mdC [cl hg,bf false,cl (@sDef_1 cK (l) (nm) h0 (d) h2),cl (@cMust_2 (true) rF),sl (nmsC_len (dfP d)),dt1 h3] func227)
section
variable (cK:C5) (l:List Df) (fu n:Int) (wh:BA) (sp:PV) (wz:Int) (re:Ext) (h0:l.length<=1000000000) (nm:BA) (s:PV) (hg:gtN s nm) (d:Df) (h2:findD nm l=some d) (h3:¬((dfP d).length:Int)>0)
include cK l fu n wh sp wz re h0 nm s hg d h2 h3
theorem ceVa(h4:dfM d=1):Ef 227 [.agg [.str nm],.xp 0 0,s] (EM cK l fu n wh sp wz re) (.panic (hltP 26)) (EM cK l fu n wh sp wz re):=
 ef mdC [cl hg,bf false,cl (@sDef_1 cK (l) (nm) h0 (d) h2),cl (@cMust_2 (true) rF),sl (nmsC_len (dfP d)),df1 h3,et1 h4,cl (@cRaise (26))] func227
theorem ceVo(h4:¬dfM d=1)(v:Vl)(eb:Ext)(hb:Ef 128 [.xp 0 0,.agg (dfL d),.nilp] (EM cK l fu n wh sp wz re) (.ret (.agg (vlL v))) eb):Ef 227 [.agg [.str nm],.xp 0 0,s] (EM cK l fu n wh sp wz re) (rA (vlL v)) (eb):=
 ef mdC [cl hg,bf false,cl (@sDef_1 cK (l) (nm) h0 (d) h2),cl (@cMust_2 (true) rF),sl (nmsC_len (dfP d)),df1 h3,en1 h4,ce hb] func227
theorem ceVe(h4:¬dfM d=1)(k:Int)(eb:Ext)(hb:Ef 128 [.xp 0 0,.agg (dfL d),.nilp] (EM cK l fu n wh sp wz re) (.panic (hltP k)) eb):Ef 227 [.agg [.str nm],.xp 0 0,s] (EM cK l fu n wh sp wz re) (.panic (hltP k)) (eb):=
 ef mdC [cl hg,bf false,cl (@sDef_1 cK (l) (nm) h0 (d) h2),cl (@cMust_2 (true) rF),sl (nmsC_len (dfP d)),df1 h3,en1 h4,ce hb] func227
end
section
variable (x:Ex) (s:PV) (hk:(exK x).length=3)
include x s hk
theorem ceFe(ea eb:Ext)(t f:Nat)(p:PV)(hc:cpA ((exK x).getD 0 default) t f p)(hm:mtA t f)(k:Int)(hv:rnE ea f p s k eb):Ef 234 [.agg (exL x),.xp 0 0,s] (ea) (.panic (hltP k)) (eb):=
 ef mdC [am ((0:Int)<=0/\0<((Ex.cs (exK x)).length:Int)) qZ,xEx (exK x) 0,cl hc,am (methT prog t "liquidcheck/cells.run" = some f) hm,ce hv] func234
theorem ceFs(ea eb:Ext)(t f:Nat)(p:PV)(hc:cpA ((exK x).getD 0 default) t f p)(hm:mtA t f)(v:Vl)(hv:rnO ea f p s v eb)(h2:¬vlO v=2):Ef 234 [.agg (exL x),.xp 0 0,s] (ea) (.panic (hltP 19)) (eb):=
 ef mdC [am ((0:Int)<=0/\0<((Ex.cs (exK x)).length:Int)) qZ,xEx (exK x) 0,cl hc,am (methT prog t "liquidcheck/cells.run" = some f) hm,ce hv,cl (@cMust_1 (vlO v==2) sA)] func234
theorem ceFto(ea eb ec:Ext)(t f:Nat)(p:PV)(hc:cpA ((exK x).getD 0 default) t f p)(hm:mtA t f)(v:Vl)(hv:rnO ea f p s v eb)(h2:vlO v=2)(h3:¬vlN v=0)(t2 f2:Nat)(p2:PV)(hc2:cpA ((exK x).getD 1 default) t2 f2 p2)(hm2:mtA t2 f2)(u:Vl)(hw:rnO eb f2 p2 s u ec):Ef 234 [.agg (exL x),.xp 0 0,s] (ea) (rA (vlL u)) (ec):=
 ef mdC [am ((0:Int)<=0/\0<((Ex.cs (exK x)).length:Int)) qZ,xEx (exK x) 0,cl hc,am (methT prog t "liquidcheck/cells.run" = some f) hm,ce hv,cl (@cMust_2 (vlO v==2) sA),nt1 h3,am ((0:Int)<=1/\1<((Ex.cs (exK x)).length:Int)) qZ,xEx (exK x) 1,cl hc2,am (methT prog t2 "liquidcheck/cells.run" = some f2) hm2,ce hw] func234
theorem ceFte(ea eb ec:Ext)(t f:Nat)(p:PV)(hc:cpA ((exK x).getD 0 default) t f p)(hm:mtA t f)(v:Vl)(hv:rnO ea f p s v eb)(h2:vlO v=2)(h3:¬vlN v=0)(t2 f2:Nat)(p2:PV)(hc2:cpA ((exK x).getD 1 default) t2 f2 p2)(hm2:mtA t2 f2)(k:Int)(hw:rnE eb f2 p2 s k ec):Ef 234 [.agg (exL x),.xp 0 0,s] (ea) (.panic (hltP k)) (ec):=
 ef mdC [am ((0:Int)<=0/\0<((Ex.cs (exK x)).length:Int)) qZ,xEx (exK x) 0,cl hc,am (methT prog t "liquidcheck/cells.run" = some f) hm,ce hv,cl (@cMust_2 (vlO v==2) sA),nt1 h3,am ((0:Int)<=1/\1<((Ex.cs (exK x)).length:Int)) qZ,xEx (exK x) 1,cl hc2,am (methT prog t2 "liquidcheck/cells.run" = some f2) hm2,ce hw] func234
theorem ceFfo(ea eb ec:Ext)(t f:Nat)(p:PV)(hc:cpA ((exK x).getD 0 default) t f p)(hm:mtA t f)(v:Vl)(hv:rnO ea f p s v eb)(h2:vlO v=2)(h3:vlN v=0)(t2 f2:Nat)(p2:PV)(hc2:cpA ((exK x).getD 2 default) t2 f2 p2)(hm2:mtA t2 f2)(u:Vl)(hw:rnO eb f2 p2 s u ec):Ef 234 [.agg (exL x),.xp 0 0,s] (ea) (rA (vlL u)) (ec):=
 ef mdC [am ((0:Int)<=0/\0<((Ex.cs (exK x)).length:Int)) qZ,xEx (exK x) 0,cl hc,am (methT prog t "liquidcheck/cells.run" = some f) hm,ce hv,cl (@cMust_2 (vlO v==2) sA),nn1 h3,am ((0:Int)<=2/\2<((Ex.cs (exK x)).length:Int)) qZ,xEx (exK x) 2,cl hc2,am (methT prog t2 "liquidcheck/cells.run" = some f2) hm2,ce hw] func234
theorem ceFfe(ea eb ec:Ext)(t f:Nat)(p:PV)(hc:cpA ((exK x).getD 0 default) t f p)(hm:mtA t f)(v:Vl)(hv:rnO ea f p s v eb)(h2:vlO v=2)(h3:vlN v=0)(t2 f2:Nat)(p2:PV)(hc2:cpA ((exK x).getD 2 default) t2 f2 p2)(hm2:mtA t2 f2)(k:Int)(hw:rnE eb f2 p2 s k ec):Ef 234 [.agg (exL x),.xp 0 0,s] (ea) (.panic (hltP k)) (ec):=
 ef mdC [am ((0:Int)<=0/\0<((Ex.cs (exK x)).length:Int)) qZ,xEx (exK x) 0,cl hc,am (methT prog t "liquidcheck/cells.run" = some f) hm,ce hv,cl (@cMust_2 (vlO v==2) sA),nn1 h3,am ((0:Int)<=2/\2<((Ex.cs (exK x)).length:Int)) qZ,xEx (exK x) 2,cl hc2,am (methT prog t2 "liquidcheck/cells.run" = some f2) hm2,ce hw] func234
end
section
variable (x:Ex)
include x
theorem ceTe(q:PV)(hk:(exK x).length=2)(ea eb:Ext)(t f:Nat)(p:PV)(hc:cpA ((exK x).getD 0 default) t f p)(hm:mtA t f)(t2 f2:Nat)(p2:PV)(hc2:cpA ((exK x).getD 1 default) t2 f2 p2)(hm2:mtA t2 f2)(k:Int)(hv:rnE ea f p (.opq q) k eb):Ef 233 [.agg (exL x),.xp 0 0,PV.opq q] (ea) (.panic (hltP k)) (eb):=
 ef mdC [am ((0:Int)<=1/\1<((Ex.cs (exK x)).length:Int)) qZ,xEx (exK x) 1,cl hc2,am ((0:Int)<=0/\0<((Ex.cs (exK x)).length:Int)) qZ,xEx (exK x) 0,cl hc,am (methT prog t "liquidcheck/cells.run" = some f) hm,ce hv,am (methT prog t2 "liquidcheck/cells.run" = some f2) hm2] func233
theorem ceTo(q:PV)(hk:(exK x).length=2)(ea eb ec:Ext)(t f:Nat)(p:PV)(hc:cpA ((exK x).getD 0 default) t f p)(hm:mtA t f)(t2 f2:Nat)(p2:PV)(hc2:cpA ((exK x).getD 1 default) t2 f2 p2)(hm2:mtA t2 f2)(v u:Vl)(hv:rnO ea f p (.opq q) v eb)(hw:rnO eb f2 p2 (.ro (.str (exNm x)::(vlL v++[.opq q])) 0) u ec):Ef 233 [.agg (exL x),.xp 0 0,PV.opq q] (ea) (rA (vlL u)) (ec):=
 ef mdC [am ((0:Int)<=1/\1<((Ex.cs (exK x)).length:Int)) qZ,xEx (exK x) 1,cl hc2,am ((0:Int)<=0/\0<((Ex.cs (exK x)).length:Int)) qZ,xEx (exK x) 0,cl hc,am (methT prog t "liquidcheck/cells.run" = some f) hm,ce hv,rp 2 (am (methT prog t2 "liquidcheck/cells.run" = some f2) hm2),ce hw] func233
theorem ceTf(q:PV)(hk:(exK x).length=2)(ea eb ec:Ext)(t f:Nat)(p:PV)(hc:cpA ((exK x).getD 0 default) t f p)(hm:mtA t f)(t2 f2:Nat)(p2:PV)(hc2:cpA ((exK x).getD 1 default) t2 f2 p2)(hm2:mtA t2 f2)(v:Vl)(k:Int)(hv:rnO ea f p (.opq q) v eb)(hw:rnE eb f2 p2 (.ro (.str (exNm x)::(vlL v++[.opq q])) 0) k ec):Ef 233 [.agg (exL x),.xp 0 0,PV.opq q] (ea) (.panic (hltP k)) (ec):=
 ef mdC [am ((0:Int)<=1/\1<((Ex.cs (exK x)).length:Int)) qZ,xEx (exK x) 1,cl hc2,am ((0:Int)<=0/\0<((Ex.cs (exK x)).length:Int)) qZ,xEx (exK x) 0,cl hc,am (methT prog t "liquidcheck/cells.run" = some f) hm,ce hv,rp 2 (am (methT prog t2 "liquidcheck/cells.run" = some f2) hm2),ce hw] func233
theorem ceAe(s:PV)(hk:(exK x).length=2)(ea eb:Ext)(t f:Nat)(p:PV)(hc:cpA ((exK x).getD 0 default) t f p)(hm:mtA t f)(k:Int)(hv:rnE ea f p s k eb):Ef 236 [.agg (exL x),.xp 0 0,s] (ea) (.panic (hltP k)) (eb):=
 ef mdC [am ((0:Int)<=0/\0<((Ex.cs (exK x)).length:Int)) qZ,xEx (exK x) 0,cl hc,am (methT prog t "liquidcheck/cells.run" = some f) hm,ce hv] func236
theorem ceAs(s:PV)(hk:(exK x).length=2)(ea eb:Ext)(t f:Nat)(p:PV)(hc:cpA ((exK x).getD 0 default) t f p)(hm:mtA t f)(v:Vl)(hv:rnO ea f p s v eb)(h2:¬vlO v=2):Ef 236 [.agg (exL x),.xp 0 0,s] (ea) (.panic (hltP 19)) (eb):=
 ef mdC [am ((0:Int)<=0/\0<((Ex.cs (exK x)).length:Int)) qZ,xEx (exK x) 0,cl hc,am (methT prog t "liquidcheck/cells.run" = some f) hm,ce hv,cl (@cMust_1 (vlO v==2) sA)] func236
theorem ceAq(s:PV)(hk:(exK x).length=2)(ea eb:Ext)(t f:Nat)(p:PV)(hc:cpA ((exK x).getD 0 default) t f p)(hm:mtA t f)(v:Vl)(hv:rnO ea f p s v eb)(h2:vlO v=2)(h3:((vlN v != 0)==(exO x==20))=true):Ef 236 [.agg (exL x),.xp 0 0,s] (ea) (rA (v4 2 (cTruth_r0 (vlN v != 0)) nm0 [])) (eb):=
 ef mdC [am ((0:Int)<=0/\0<((Ex.cs (exK x)).length:Int)) qZ,xEx (exK x) 0,cl hc,am (methT prog t "liquidcheck/cells.run" = some f) hm,ce hv,cl (@cMust_2 (vlO v==2) sA),bt (if true=true then (vlN v != 0)==(exO x==20) else !(vlN v != 0)==(exO x==20)) (by assumption),cl (@cTruth (vlN v != 0))] func236
theorem ceAr(s:PV)(hk:(exK x).length=2)(ea eb ec:Ext)(t f:Nat)(p:PV)(hc:cpA ((exK x).getD 0 default) t f p)(hm:mtA t f)(v:Vl)(hv:rnO ea f p s v eb)(h2:vlO v=2)(h3:((vlN v != 0)==(exO x==20))=false)(t2 f2:Nat)(p2:PV)(hc2:cpA ((exK x).getD 1 default) t2 f2 p2)(hm2:mtA t2 f2)(k:Int)(hw:rnE eb f2 p2 s k ec):Ef 236 [.agg (exL x),.xp 0 0,s] (ea) (.panic (hltP k)) (ec):=
 ef mdC [am ((0:Int)<=0/\0<((Ex.cs (exK x)).length:Int)) qZ,xEx (exK x) 0,cl hc,am (methT prog t "liquidcheck/cells.run" = some f) hm,ce hv,cl (@cMust_2 (vlO v==2) sA),bf (if true=true then (vlN v != 0)==(exO x==20) else !(vlN v != 0)==(exO x==20)) (by assumption),am ((0:Int)<=1/\1<((Ex.cs (exK x)).length:Int)) qZ,xEx (exK x) 1,cl hc2,am (methT prog t2 "liquidcheck/cells.run" = some f2) hm2,ce hw] func236
theorem ceAo_1(s:PV)(hk:(exK x).length=2)(ea eb ec:Ext)(t f:Nat)(p:PV)(hc:cpA ((exK x).getD 0 default) t f p)(hm:mtA t f)(v:Vl)(hv:rnO ea f p s v eb)(h2:vlO v=2)(h3:((vlN v != 0)==(exO x==20))=false)(t2 f2:Nat)(p2:PV)(hc2:cpA ((exK x).getD 1 default) t2 f2 p2)(hm2:mtA t2 f2)(u:Vl)(hw:rnO eb f2 p2 s u ec)(hx0:¬vlO u=2):Ef 236 [.agg (exL x),.xp 0 0,s] (ea) (.panic (hltP 19)) (ec):=
 ef mdC [am ((0:Int)<=0/\0<((Ex.cs (exK x)).length:Int)) qZ,xEx (exK x) 0,cl hc,am (methT prog t "liquidcheck/cells.run" = some f) hm,ce hv,cl (@cMust_2 (vlO v==2) sA),bf (if true=true then (vlN v != 0)==(exO x==20) else !(vlN v != 0)==(exO x==20)) (by assumption),am ((0:Int)<=1/\1<((Ex.cs (exK x)).length:Int)) qZ,xEx (exK x) 1,cl hc2,am (methT prog t2 "liquidcheck/cells.run" = some f2) hm2,ce hw,cl (@cMust_1 (vlO u==2) (beF hx0))] func236
theorem ceAo_2(s:PV)(hk:(exK x).length=2)(ea eb ec:Ext)(t f:Nat)(p:PV)(hc:cpA ((exK x).getD 0 default) t f p)(hm:mtA t f)(v:Vl)(hv:rnO ea f p s v eb)(h2:vlO v=2)(h3:((vlN v != 0)==(exO x==20))=false)(t2 f2:Nat)(p2:PV)(hc2:cpA ((exK x).getD 1 default) t2 f2 p2)(hm2:mtA t2 f2)(u:Vl)(hw:rnO eb f2 p2 s u ec)(hx0:vlO u=2):Ef 236 [.agg (exL x),.xp 0 0,s] (ea) (rA (v4 2 (cTruth_r0 (vlN u != 0)) nm0 [])) (ec):=
 ef mdC [am ((0:Int)<=0/\0<((Ex.cs (exK x)).length:Int)) qZ,xEx (exK x) 0,cl hc,am (methT prog t "liquidcheck/cells.run" = some f) hm,ce hv,cl (@cMust_2 (vlO v==2) sA),bf (if true=true then (vlN v != 0)==(exO x==20) else !(vlN v != 0)==(exO x==20)) (by assumption),am ((0:Int)<=1/\1<((Ex.cs (exK x)).length:Int)) qZ,xEx (exK x) 1,cl hc2,am (methT prog t2 "liquidcheck/cells.run" = some f2) hm2,ce hw,cl (@cMust_2 (vlO u==2) (beT hx0)),cl (@cTruth (vlN u != 0))] func236
theorem ceUo(s:PV)(hk:0<(exK x).length)(hn:(exK x).length<=1000000000)(ea eb:Ext)(t f:Nat)(p:PV)(hc:cpA ((exK x).getD (((exK x).length:Int) - 1).toNat default) t f p)(hm:mtA t f)(v:Vl)(hv:rnO ea f p s v eb):Ef 237 [.agg (exL x),.xp 0 0,s] (ea) (rA (vlL v)) (eb):=
 ef mdC [sl (Ex.cs_len (exK x)),wr (((exK x).length:Int) - 1),am ((0:Int)<=((exK x).length:Int) - 1/\((exK x).length:Int) - 1<((Ex.cs (exK x)).length:Int)) qZ,xEx (exK x) (Int.toNat (((exK x).length:Int) - 1)),cl hc,am (methT prog t "liquidcheck/cells.run" = some f) hm,ce hv] func237
theorem ceUe(s:PV)(hk:0<(exK x).length)(hn:(exK x).length<=1000000000)(ea eb:Ext)(t f:Nat)(p:PV)(hc:cpA ((exK x).getD (((exK x).length:Int) - 1).toNat default) t f p)(hm:mtA t f)(k:Int)(hv:rnE ea f p s k eb):Ef 237 [.agg (exL x),.xp 0 0,s] (ea) (.panic (hltP k)) (eb):=
 ef mdC [sl (Ex.cs_len (exK x)),wr (((exK x).length:Int) - 1),am ((0:Int)<=((exK x).length:Int) - 1/\((exK x).length:Int) - 1<((Ex.cs (exK x)).length:Int)) qZ,xEx (exK x) (Int.toNat (((exK x).length:Int) - 1)),cl hc,am (methT prog t "liquidcheck/cells.run" = some f) hm,ce hv] func237
end
theorem _root_.Go.Pv.Ob.loop_le{P:Program}{n:Nat}{c:Code}{s0 s0' s1:S}{pe:PExit}(hl:LeX s0 s0')(h:(Ob.loop n c s0 pe s1).ok P):(Ob.loop n c s0' pe s1).ok P:=fun cx hn=>PW.leX hl (h cx hn)
abbrev clI(es:List Ex)(p:PV)(out:List Vl)(i:Int)(ext:Ext):S:=⟨[(0,.v (.xp 0 0)),(2,.v p),(7,.uniq 52 7 (Vl.cs out)),(10,.v (.sl 7 (Ex.cs es))),(11,.v (.int .i64 es.length)),(12,.v (.int .i64 i))],[],ext⟩
def rxO(ea:Ext)(x:Ex)(s:PV)(v:Vl)(eb:Ext):Prop:=∃t f p,cpA x t f p/\mtA t f/\rnO ea f p s v eb
def rxE(ea:Ext)(x:Ex)(s:PV)(k:Int)(eb:Ext):Prop:=∃t f p,cpA x t f p/\mtA t f/\rnE ea f p s k eb
section
variable (es:List Ex) (s:PV) (out:List Vl) (i:Nat) (ea eb:Ext) (hi:i<es.length) (hn:es.length<=1000000000)
include es s out i ea eb hi hn
theorem clT(ho:out.length<=1000000000)(t f:Nat)(p:PV)(hc:cpA (es.getD i default) t f p)(hm:mtA t f)(v:Vl)(hv:rnO ea f p s v eb)(cx:Cx)(hcx:cx.n=26){Q:PExit->S->Prop}(hq:Q (.normal) (S.mk [(0,.v (.xp 0 0)),(2,.v s),(7,.uniq 52 7 (Vl.cs out++[vlL v])),(10,vL 7 (Ex.cs es)),(11,vI6 (es.length:Int)),(12,vI6 ((i:Int)+1))] [] eb)):PW prog cx (loopF f229 0) (clI es s out (i:Int) ea) Q:=
 pw mdC 26 [dt ((i:Int)<(es.length:Int)),am ((0:Int)<=(i:Int)/\(i:Int)<((Ex.cs es).length:Int)) qZ,xEx es i hi,cl hc,am (methT prog t "liquidcheck/cells.run" = some f) hm,ce hv,am (List.length (Vl.cs out++(fun x=>Prod.snd x) (6+1,[vlL v])) * (127+1)<=140737488355328) qZ,wr ((i:Int)+1)] [0,2,7,10,11,12] [] hcx hq
theorem clF(t f:Nat)(p:PV)(hc:cpA (es.getD i default) t f p)(hm:mtA t f)(k:Int)(hv:rnE ea f p s k eb)(cx:Cx)(hcx:cx.n=26){Q:PExit->S->Prop}(hq:Q (PExit.panic (hltP k)) (S.mk [(0,.v (.xp 0 0)),(2,.v s),(7,vL 7 (Vl.cs out)),(10,vL 7 (Ex.cs es)),(11,vI6 (es.length:Int)),(12,vI6 (i:Int))] [] eb)):PW prog cx (loopF f229 0) (clI es s out (i:Int) ea) Q:=
 pw mdC 26 [dt ((i:Int)<(es.length:Int)),am ((0:Int)<=(i:Int)/\(i:Int)<((Ex.cs es).length:Int)) qZ,xEx es i hi,cl hc,am (methT prog t "liquidcheck/cells.run" = some f) hm,ce hv] [0,2,7,10,11,12] [] hcx hq
end
theorem clE(es:List Ex)(p:PV)(out:List Vl)(ext:Ext)(cx:Cx)(hcx:cx.n=26){Q:PExit->S->Prop}(hq:Q (.exit 0) (S.mk [(0,.v (.xp 0 0)),(2,.v p),(7,.uniq 52 7 (Vl.cs out)),(10,vL 7 (Ex.cs es)),(11,vI6 (es.length:Int)),(12,vI6 (es.length:Int))] [] ext)):PW prog cx (loopF f229 0) (clI es p out (es.length:Int) ext) Q:=
 pw mdC 26 [df ((es.length:Int)<(es.length:Int))] [0,2,7,10,11,12] [] hcx hq
def lxO(s:PV):List Ex->Ext->List Vl->Ext->Prop
 | [],ea,vs,eb=>vs=[]/\ea=eb
 | x::es,ea,vs,ec=>∃v eb vs',rxO ea x s v eb/\lxO s es eb vs' ec/\vs=v::vs'
def lxE(s:PV):List Ex->Ext->Int->Ext->Prop
 | [],_,_,_=>False
 | x::es,ea,k,ec=>rxE ea x s k ec∨∃v eb,rxO ea x s v eb/\lxE s es eb k ec
theorem cl_loop(s:PV)(es:List Ex)(hn:es.length<=1000000000)(ea:Ext)(vs:List Vl)(ec:Ext)(h:lxO s es ea vs ec) :
  (Ob.loop 26 (loopF f229 0) (clI es s [] 0 ea) (.exit 0) ⟨[(7,.uniq 52 7 (Vl.cs vs))],[],ec⟩).ok prog:=by
 have:=Ob.loop_of (P:=prog) (n:=26) (c:=(loopF f229 0)) (α:={ x:Nat × Ext × List Vl × List Vl // x.1<=es.length/\x.2.2.1.length=x.1/\lxO s (es.drop x.1) x.2.1 x.2.2.2 ec/\x.2.2.1++x.2.2.2=vs })
  (fun x=>clI es s x.1.2.2.1 x.1.1 x.1.2.1) (fun x=>es.length - x.1.1) (fun _=>(.exit 0,⟨[(7,.uniq 52 7 (Vl.cs vs))],[],ec⟩)) ?_ ⟨(0,ea,[],vs),by simp,rfl,by simpa using h,rfl⟩
 ·exact this
 ·rintro ⟨⟨i,e1,out,rest⟩,hi,ho,hli,hvs⟩ cx hcx
  simp only at hi ho hli hvs ⊢
  rcases Nat.lt_or_ge i es.length with hlt | hge
  ·rw [drop_at hlt] at hli
   obtain ⟨v,e2,vs',⟨t,f,p,h1,h2,h3⟩,h4,rfl⟩:=hli
   refine clT es s out i e1 e2 hlt hn oM t f p h1 h2 v h3 cx hcx (.inl ⟨rfl,⟨(i+1,e2,out++[v],vs'),hlt,by simp [ho],h4,by simp [<-hvs]⟩,by simp only; omega,⟨⟨W,W,.inl ?_,W,W,W,tV⟩,trivial,rfl⟩,tV⟩)
   rw [Vl.cs_app]
   simp only [Vl.cs,Vl.c_eq]
  ·have he:i=es.length:=by omega
   subst he
   rw [List.drop_length] at hli
   obtain ⟨rfl,rfl⟩:=hli
   rw [List.append_nil] at hvs
   subst hvs
   exact clE es s out _ cx hcx (.inr ⟨by simp,rfl,⟨W,tV⟩,trivial,rfl⟩)
theorem cl_loopE(s:PV)(es:List Ex)(hn:es.length<=1000000000)(ea:Ext)(k:Int)(ec:Ext)(h:lxE s es ea k ec) :
  (Ob.loop 26 (loopF f229 0) (clI es s [] 0 ea) (.panic (hltP k)) ⟨[],[],ec⟩).ok prog:=by
 have:=Ob.loop_of (P:=prog) (n:=26) (c:=(loopF f229 0)) (α:={ x:Nat × Ext × List Vl // x.1<=es.length/\x.2.2.length=x.1/\lxE s (es.drop x.1) x.2.1 k ec })
  (fun x=>clI es s x.1.2.2 x.1.1 x.1.2.1) (fun x=>es.length - x.1.1) (fun _=>(.panic (hltP k),⟨[],[],ec⟩)) ?_ ⟨(0,ea,[]),by simp,rfl,by simpa using h⟩
 ·exact this
 ·rintro ⟨⟨i,e1,out⟩,hi,ho,hli⟩ cx hcx
  simp only at hi ho hli ⊢
  rcases Nat.lt_or_ge i es.length with hlt | hge
  ·rw [drop_at hlt] at hli
   rcases hli with ⟨t,f,p,h1,h2,h3⟩ | ⟨v,e2,⟨t,f,p,h1,h2,h3⟩,h4⟩
   ·exact clF es s out i e1 ec hlt hn t f p h1 h2 k h3 cx hcx (.inr ⟨by simp,rfl,trivial,trivial,rfl⟩)
   ·refine clT es s out i e1 e2 hlt hn oM t f p h1 h2 v h3 cx hcx (.inl ⟨rfl,⟨(i+1,e2,out++[v]),hlt,by simp [ho],h4⟩,by simp only; omega,⟨⟨W,W,.inl ?_,W,W,W,tV⟩,trivial,rfl⟩,tV⟩)
    rw [Vl.cs_app]
    simp only [Vl.cs,Vl.c_eq]
  ·have he:i=es.length:=by omega
   subst he
   rw [List.drop_length] at hli
   exact hli.elim
section
variable (es:List Ex) (s:PV) (hn:es.length<=1000000000) (ea:Ext)
include es s hn ea
theorem ceLi(vs:List Vl)(eb:Ext)(hl:lxO s es ea vs eb):Ef 229 [.xp 0 0,.sl 7 (Ex.cs es),s] (ea) (.ret (.sl 7 (Vl.cs vs))) (eb):=
 ef mdC [sl (Ex.cs_len es),lp (S.mk [(0,.v (.xp 0 0)),(1,vL 7 (Ex.cs es)),(2,.v s),(6,.v .nilsl),(7,.v .nilsl),(10,vL 7 (Ex.cs es)),(11,vI6 (es.length:Int)),(12,vI6 0)] [] ea) (@cl_loop (s) (es) hn (ea) (vs) (eb) hl) ⟨⟨W,W,Wq,W,W,W,tV⟩,trivial,rfl⟩] func229
theorem ceLe(k:Int)(eb:Ext)(hl:lxE s es ea k eb):Ef 229 [.xp 0 0,.sl 7 (Ex.cs es),s] (ea) (.panic (hltP k)) (eb):=
 ef mdC [sl (Ex.cs_len es),lp (S.mk [(0,.v (.xp 0 0)),(1,vL 7 (Ex.cs es)),(2,.v s),(6,.v .nilsl),(7,.v .nilsl),(10,vL 7 (Ex.cs es)),(11,vI6 (es.length:Int)),(12,vI6 0)] [] ea) (@cl_loopE (s) (es) hn (ea) (k) (eb) hl) ⟨⟨W,W,Wq,W,W,W,tV⟩,trivial,rfl⟩] func229
end
abbrev ccI(p0:PV)(db:List LV)(ps:List BA)(args:List Vl)(p:PV)(i:Int)(ext:Ext):S:=⟨[(0,.v p0),(2,.v (.sl 7 (Vl.cs args))),(6,.lp 6 0),(7,.lp 7 0),(9,.v p),(41,.v (.sl 1 (nmsC ps))),(42,.v (.int .i64 ps.length)),(43,.v (.int .i64 i))],[(6,List.replicate 7 jk),(7,db)],ext⟩
section
variable (p0:PV) (db:List LV) (ps:List BA) (args:List Vl)
include p0 db ps args
theorem ccB(q:PV)(i:Nat)(ext:Ext)(hi:i<ps.length)(ha:i<args.length)(hn:ps.length<=1000000000)(cx:Cx)(hcx:cx.n=61){Q:PExit->S->Prop}(hq:Q (.normal) (S.mk [(0,.v p0),(2,vL 7 (Vl.cs args)),(6,.lp 6 0),(7,.lp 7 0),(9,.v (.ro [.str (List.getD ps i nm0),pI (vlO (List.getD args i default)),pI (vlN (List.getD args i default)),.str (vlNm (List.getD args i default)),.sl 7 (Vl.cs (vlK (List.getD args i default))),.sl 1 (nmsC (vlP (List.getD args i default))),.sl 7 (Ex.cs (vlB (List.getD args i default))),.sl 8 (Bd.cs (vlBd (List.getD args i default))),PV.opq q] 0)),(41,vL 1 (nmsC ps)),(42,vI6 (ps.length:Int)),(43,vI6 ((i:Int)+1))] [(6,[jk,jk,jk,jk,jk,jk,jk]),(7,db)] ext)):PW prog cx (loopF f95 0) (ccI p0 db ps args (PV.opq q) (i:Int) ext) Q:=
 pw mdC 61 [dt ((i:Int)<(ps.length:Int)),am ((0:Int)<=(i:Int)/\(i:Int)<((nmsC ps).length:Int)) qZ,xNm ps i hi,am ((0:Int)<=(i:Int)/\(i:Int)<((Vl.cs args).length:Int)) qZ,xVl args i ha,wr ((i:Int)+1)] [0,2,6,7,9,41,42,43] [6,7] hcx hq
theorem ccE(p:PV)(ext:Ext)(cx:Cx)(hcx:cx.n=61){Q:PExit->S->Prop}(hq:Q (.exit 0) (S.mk [(0,.v p0),(2,vL 7 (Vl.cs args)),(6,.lp 6 0),(7,.lp 7 0),(9,.v p),(41,vL 1 (nmsC ps)),(42,vI6 (ps.length:Int)),(43,vI6 (ps.length:Int))] [(6,[jk,jk,jk,jk,jk,jk,jk]),(7,db)] ext)):PW prog cx (loopF f95 0) (ccI p0 db ps args p (ps.length:Int) ext) Q:=
 pw mdC 61 [df ((ps.length:Int)<(ps.length:Int))] [0,2,6,7,9,41,42,43] [6,7] hcx hq
end
theorem cc_loop(p0:PV)(db:List LV)(ps:List BA)(args:List Vl)(ext:Ext)(h:ps.length=args.length)(hn:ps.length<=1000000000):(Ob.loop 61 (loopF f95 0) (ccI p0 db ps args .nilp 0 ext) (.exit 0) ⟨[(0,.v p0),(6,.lp 6 0),(7,.lp 7 0),(9,.v (scQ (bnds ps args [])))],[(6,List.replicate 7 jk),(7,db)],ext⟩).ok prog:=by
 refine Ob.loop_le (s0:=ccI p0 db ps args (scQ []) 0 ext) ⟨⟨W,W,W,W,.inr ⟨rfl,rfl⟩,W,W,W,tV⟩,⟨WLs.refl _,WLs.refl _,tV⟩,rfl⟩ ?_
 have:=Ob.loop_idx (P:=prog) (n:=61) (c:=(loopF f95 0)) ps.length (fun i=>ccI p0 db ps args (scQ (bnds (ps.take i) (args.take i) [])) i ext) (fun _=>(.exit 0,⟨[(0,.v p0),(6,.lp 6 0),(7,.lp 7 0),(9,.v (scQ (bnds ps args [])))],[(6,List.replicate 7 jk),(7,db)],ext⟩)) ?_ ?_ 0 sM
 ·exact this
 ·intro i hlt cx hcx
  have hb:=bnds_take h hlt []
  have ha:i<args.length:=h ▸ hlt
  simp only [hb]
  exact ccB p0 db ps args (scR (bnds (ps.take i) (args.take i) [])) i ext hlt ha hn cx hcx (.inl ⟨rfl,⟨⟨W,W,W,W,.inr ⟨rfl,rfl⟩,W,W,W,tV⟩,⟨WLs.refl _,WLs.refl _,tV⟩,rfl⟩,tV⟩)
 ·intro cx hcx
  have e1:bnds (ps.take ps.length) (args.take ps.length) []=bnds ps args []:=by rw [List.take_length,h,List.take_length]
  simp only [e1]
  exact ccE p0 db ps args _ ext cx hcx ⟨by simp,rfl,⟨W,W,W,W,tV⟩,⟨WLs.refl _,WLs.refl _,tV⟩,rfl⟩
section
variable (cK:C5) (l:List Df) (fu n:Int) (wh:BA) (sp:PV) (wz:Int) (re:Ext) (h0:l.length<=1000000000) (nm:BA) (args:List Vl)
include cK l fu n wh sp wz re h0 nm args
theorem ceKu(h2:findD nm l=none):Ef 95 [.xp 0 0,.str nm,.sl 7 (Vl.cs args)] (EM cK l fu n wh sp wz re) (.panic (hltP 19)) (EM cK l fu n wh sp wz re):=
 ef mdC [cl (@sDef_2 cK (l) (nm) h0 h2),cl (@cMust_1 (false) rF)] func95
theorem ceKA(d:Df)(h2:findD nm l=some d)(h4:dfM d=1):Ef 95 [.xp 0 0,.str nm,.sl 7 (Vl.cs args)] (EM cK l fu n wh sp wz re) (.panic (hltP 26)) (EM cK l fu n wh sp wz re):=
 ef mdC [cl (@sDef_1 cK (l) (nm) h0 (d) h2),cl (@cMust_2 (true) rF),et1 h4,cl (@cRaise (26))] func95
theorem ceKn(d:Df)(h2:findD nm l=some d)(h4:¬dfM d=1)(hp:¬((dfP d).length:Int)>0):Ef 95 [.xp 0 0,.str nm,.sl 7 (Vl.cs args)] (EM cK l fu n wh sp wz re) (.panic (hltP 19)) (EM cK l fu n wh sp wz re):=
 ef mdC [cl (@sDef_1 cK (l) (nm) h0 (d) h2),cl (@cMust_2 (true) rF),en1 h4,sl (nmsC_len (dfP d)),rp 7 (df (((dfP d).length:Int)>0) hp),cl (@cMust_1 (false) rF)] func95
theorem ceKm(d:Df)(h2:findD nm l=some d)(h4:¬dfM d=1)(hp:((dfP d).length:Int)>0)(hq:¬((dfP d).length:Int)=args.length):Ef 95 [.xp 0 0,.str nm,.sl 7 (Vl.cs args)] (EM cK l fu n wh sp wz re) (.panic (hltP 19)) (EM cK l fu n wh sp wz re):=
 ef mdC [cl (@sDef_1 cK (l) (nm) h0 (d) h2),cl (@cMust_2 (true) rF),en1 h4,sl (nmsC_len (dfP d)),rp 3 (dt (((dfP d).length:Int)>0) hp),sl (nmsC_len (dfP d)),rp 2 (dt (((dfP d).length:Int)>0) hp),sl (Vl.cs_len args),rp 2 (dt (((dfP d).length:Int)>0) hp),cl (@cMust_1 (((dfP d).length:Int)==(args.length:Int)) sA)] func95
theorem ceKo(d:Df)(h2:findD nm l=some d)(h4:¬dfM d=1)(hp:((dfP d).length:Int)>0)(hq:((dfP d).length:Int)=args.length)(hn:(dfP d).length<=1000000000)(v:Vl)(eb:Ext)(hv:Ef 128 [.xp 0 0,.agg (dfL d),scQ (bnds (dfP d) args [])] (EM cK l fu n wh sp wz re) (.ret (.agg (vlL v))) eb):Ef 95 [.xp 0 0,.str nm,.sl 7 (Vl.cs args)] (EM cK l fu n wh sp wz re) (rA (vlL v)) (eb):=
 ef mdC [cl (@sDef_1 cK (l) (nm) h0 (d) h2),cl (@cMust_2 (true) rF),en1 h4,sl (nmsC_len (dfP d)),rp 3 (dt (((dfP d).length:Int)>0) hp),sl (nmsC_len (dfP d)),rp 2 (dt (((dfP d).length:Int)>0) hp),sl (Vl.cs_len args),rp 2 (dt (((dfP d).length:Int)>0) hp),cl (@cMust_2 (((dfP d).length:Int)==(args.length:Int)) sA),sl (nmsC_len (dfP d)),lp (S.mk [(0,.v (.xp 0 0)),(1,vS nm),(2,vL 7 (Vl.cs args)),(6,.lp 6 0),(13,.v (.xp 0 0)),(14,.v (.xp 0 0)),(15,.v (.xp 0 0)),(16,.v (.agg [cK.a,cK.b,cK.c,cK.d,cK.e,.sl 25 (dfsC l)])),(17,vS nm),(18,.v (.tup [.agg (dfL d),.bool true])),(12,.v (.tup [.agg (dfL d),.bool true])),(19,.v (.agg (dfL d))),(20,.v (.bool true)),(7,.lp 7 0),(8,.v (.bool true)),(21,.v (.bool true)),(22,.v (.tup [])),(23,.lp 7 9),(24,vI6 (dfM d)),(25,.v (.bool (dfM d==1))),(27,.lp 7 1),(28,vL 1 (nmsC (dfP d))),(29,vI6 ((dfP d).length:Int)),(30,.v (.bool (decide (((dfP d).length:Int)>0)))),(31,.v (.bool (decide (((dfP d).length:Int)>0)))),(32,.lp 7 1),(33,vL 1 (nmsC (dfP d))),(34,vI6 ((dfP d).length:Int)),(35,vL 7 (Vl.cs args)),(36,vI6 (args.length:Int)),(37,.v (.bool (((dfP d).length:Int)==(args.length:Int)))),(38,.v (.bool (((dfP d).length:Int)==(args.length:Int)))),(39,.v (.tup [])),(9,.v .nilp),(40,.lp 7 1),(41,vL 1 (nmsC (dfP d))),(42,vI6 ((dfP d).length:Int)),(43,vI6 0)] [(6,vZ),(7,dfV d)] (EM cK l fu n wh sp wz re)) (@cc_loop (.xp 0 0) (dfV d) (dfP d) (args) (EM cK l fu n wh sp wz re) oM hn) ⟨⟨W,W,W,W,W,W,W,W,tV⟩,⟨⟨Wq,Wq,Wq,Wq,Wq,Wq,Wq,tV⟩,⟨W,W,W,W,W,W,W,W,W,W,W,W,W,W,W,W,W,W,W,W,W,W,W,W,W,tV⟩,tV⟩,rfl⟩,ce hv] func95
theorem ceKe(d:Df)(h2:findD nm l=some d)(h4:¬dfM d=1)(hp:((dfP d).length:Int)>0)(hq:((dfP d).length:Int)=args.length)(hn:(dfP d).length<=1000000000)(k:Int)(eb:Ext)(hv:Ef 128 [.xp 0 0,.agg (dfL d),scQ (bnds (dfP d) args [])] (EM cK l fu n wh sp wz re) (.panic (hltP k)) eb):Ef 95 [.xp 0 0,.str nm,.sl 7 (Vl.cs args)] (EM cK l fu n wh sp wz re) (.panic (hltP k)) (eb):=
 ef mdC [cl (@sDef_1 cK (l) (nm) h0 (d) h2),cl (@cMust_2 (true) rF),en1 h4,sl (nmsC_len (dfP d)),rp 3 (dt (((dfP d).length:Int)>0) hp),sl (nmsC_len (dfP d)),rp 2 (dt (((dfP d).length:Int)>0) hp),sl (Vl.cs_len args),rp 2 (dt (((dfP d).length:Int)>0) hp),cl (@cMust_2 (((dfP d).length:Int)==(args.length:Int)) sA),sl (nmsC_len (dfP d)),lp (S.mk [(0,.v (.xp 0 0)),(1,vS nm),(2,vL 7 (Vl.cs args)),(6,.lp 6 0),(13,.v (.xp 0 0)),(14,.v (.xp 0 0)),(15,.v (.xp 0 0)),(16,.v (.agg [cK.a,cK.b,cK.c,cK.d,cK.e,.sl 25 (dfsC l)])),(17,vS nm),(18,.v (.tup [.agg (dfL d),.bool true])),(12,.v (.tup [.agg (dfL d),.bool true])),(19,.v (.agg (dfL d))),(20,.v (.bool true)),(7,.lp 7 0),(8,.v (.bool true)),(21,.v (.bool true)),(22,.v (.tup [])),(23,.lp 7 9),(24,vI6 (dfM d)),(25,.v (.bool (dfM d==1))),(27,.lp 7 1),(28,vL 1 (nmsC (dfP d))),(29,vI6 ((dfP d).length:Int)),(30,.v (.bool (decide (((dfP d).length:Int)>0)))),(31,.v (.bool (decide (((dfP d).length:Int)>0)))),(32,.lp 7 1),(33,vL 1 (nmsC (dfP d))),(34,vI6 ((dfP d).length:Int)),(35,vL 7 (Vl.cs args)),(36,vI6 (args.length:Int)),(37,.v (.bool (((dfP d).length:Int)==(args.length:Int)))),(38,.v (.bool (((dfP d).length:Int)==(args.length:Int)))),(39,.v (.tup [])),(9,.v .nilp),(40,.lp 7 1),(41,vL 1 (nmsC (dfP d))),(42,vI6 ((dfP d).length:Int)),(43,vI6 0)] [(6,vZ),(7,dfV d)] (EM cK l fu n wh sp wz re)) (@cc_loop (.xp 0 0) (dfV d) (dfP d) (args) (EM cK l fu n wh sp wz re) oM hn) ⟨⟨W,W,W,W,W,W,W,W,tV⟩,⟨⟨Wq,Wq,Wq,Wq,Wq,Wq,Wq,tV⟩,⟨W,W,W,W,W,W,W,W,W,W,W,W,W,W,W,W,W,W,W,W,W,W,W,W,W,tV⟩,tV⟩,rfl⟩,ce hv] func95
end
abbrev caI(fv:Vl)(args:List Vl)(bs:List Bd)(p:PV)(i:Int)(ext:Ext):S:=⟨[(0,.v (.xp 0 0)),(2,.v (.sl 7 (Vl.cs args))),(4,.lp 4 0),(6,.lp 6 0),(7,.v p),(40,.v (.sl 8 (Bd.cs bs))),(41,.v (.int .i64 bs.length)),(42,.v (.int .i64 i))],[(4,vlV fv),(6,jk7)],ext⟩
theorem caB(fv:Vl)(args:List Vl)(bs:List Bd)(q:PV)(i:Nat)(ext:Ext)(hi:i<bs.length)(hn:bs.length<=1000000000)(cx:Cx)(hcx:cx.n=79){Q:PExit->S->Prop}(hq:Q (.normal) (S.mk [(0,.v (.xp 0 0)),(2,vL 7 (Vl.cs args)),(4,.lp 4 0),(6,.lp 6 0),(7,.v (.ro [.str (bdNm (List.getD bs i default)),pI (vlO (bdV (List.getD bs i default))),pI (vlN (bdV (List.getD bs i default))),.str (vlNm (bdV (List.getD bs i default))),.sl 7 (Vl.cs (vlK (bdV (List.getD bs i default)))),.sl 1 (nmsC (vlP (bdV (List.getD bs i default)))),.sl 7 (Ex.cs (vlB (bdV (List.getD bs i default)))),.sl 8 (Bd.cs (vlBd (bdV (List.getD bs i default)))),PV.opq q] 0)),(40,vL 8 (Bd.cs bs)),(41,vI6 (bs.length:Int)),(42,vI6 ((i:Int)+1))] [(4,vlV fv),(6,[jk,jk,jk,jk,jk,jk,jk])] ext)):PW prog cx (loopF f231 0) (caI fv args bs (PV.opq q) (i:Int) ext) Q:=
 pw mdC 79 [dt ((i:Int)<(bs.length:Int)),am ((0:Int)<=(i:Int)/\(i:Int)<((Bd.cs bs).length:Int)) qZ,xBd bs i hi,wr ((i:Int)+1)] [0,2,4,6,7,40,41,42] [4,6] hcx hq
theorem caE(fv:Vl)(args:List Vl)(bs:List Bd)(p:PV)(ext:Ext)(cx:Cx)(hcx:cx.n=79){Q:PExit->S->Prop}(hq:Q (.exit 0) (S.mk [(0,.v (.xp 0 0)),(2,vL 7 (Vl.cs args)),(4,.lp 4 0),(6,.lp 6 0),(7,.v p),(40,vL 8 (Bd.cs bs)),(41,vI6 (bs.length:Int)),(42,vI6 (bs.length:Int))] [(4,vlV fv),(6,[jk,jk,jk,jk,jk,jk,jk])] ext)):PW prog cx (loopF f231 0) (caI fv args bs p (bs.length:Int) ext) Q:=
 pw mdC 79 [df ((bs.length:Int)<(bs.length:Int))] [0,2,4,6,7,40,41,42] [4,6] hcx hq
theorem ca_loop(fv:Vl)(args:List Vl)(bs:List Bd)(ext:Ext)(hn:bs.length<=1000000000):(Ob.loop 79 (loopF f231 0) (caI fv args bs .nilp 0 ext) (.exit 0) ⟨[(0,.v (.xp 0 0)),(2,.v (.sl 7 (Vl.cs args))),(4,.lp 4 0),(6,.lp 6 0),(7,.v (scQ bs.reverse))],[(4,vlV fv),(6,jk7)],ext⟩).ok prog:=by
 refine Ob.loop_le (s0:=caI fv args bs (scQ []) 0 ext) ⟨⟨W,W,W,W,.inr ⟨rfl,rfl⟩,W,W,W,tV⟩,⟨WLs.refl _,WLs.refl _,tV⟩,rfl⟩ ?_
 have:=Ob.loop_idx (P:=prog) (n:=79) (c:=(loopF f231 0)) bs.length (fun i=>caI fv args bs (scQ (bs.take i).reverse) i ext) (fun _=>(.exit 0,⟨[(0,.v (.xp 0 0)),(2,.v (.sl 7 (Vl.cs args))),(4,.lp 4 0),(6,.lp 6 0),(7,.v (scQ bs.reverse))],[(4,vlV fv),(6,jk7)],ext⟩)) ?_ ?_ 0 sM
 ·exact this
 ·intro i hlt cx hcx
  have hb:(bs.take (i+1)).reverse=bs.getD i default::(bs.take i).reverse:=by rw [take_at (d:=default) hlt]; simp
  simp only [hb]
  exact caB fv args bs (scR (bs.take i).reverse) i ext hlt hn cx hcx (.inl ⟨rfl,⟨⟨W,W,W,W,.inr ⟨rfl,rfl⟩,W,W,W,tV⟩,⟨WLs.refl _,WLs.refl _,tV⟩,rfl⟩,tV⟩)
 ·intro cx hcx
  simp only [List.take_length]
  exact caE fv args bs _ ext cx hcx ⟨by simp,rfl,⟨W,W,W,W,W,tV⟩,⟨WLs.refl _,WLs.refl _,tV⟩,rfl⟩
abbrev cbI(fv:Vl)(args:List Vl)(ps:List BA)(p:PV)(i:Int)(ext:Ext):S:=⟨[(0,.v (.xp 0 0)),(2,.v (.sl 7 (Vl.cs args))),(4,.lp 4 0),(6,.lp 6 0),(7,.v p),(55,.v (.sl 1 (nmsC ps))),(56,.v (.int .i64 ps.length)),(57,.v (.int .i64 i))],[(4,vlV fv),(6,jk7)],ext⟩
theorem cbB(fv:Vl)(args:List Vl)(ps:List BA)(q:PV)(i:Nat)(ext:Ext)(hi:i<ps.length)(ha:i<args.length)(hn:ps.length<=1000000000)(cx:Cx)(hcx:cx.n=79){Q:PExit->S->Prop}(hq:Q (.normal) (S.mk [(0,.v (.xp 0 0)),(2,vL 7 (Vl.cs args)),(4,.lp 4 0),(6,.lp 6 0),(7,.v (.ro [.str (List.getD ps i nm0),pI (vlO (List.getD args i default)),pI (vlN (List.getD args i default)),.str (vlNm (List.getD args i default)),.sl 7 (Vl.cs (vlK (List.getD args i default))),.sl 1 (nmsC (vlP (List.getD args i default))),.sl 7 (Ex.cs (vlB (List.getD args i default))),.sl 8 (Bd.cs (vlBd (List.getD args i default))),PV.opq q] 0)),(55,vL 1 (nmsC ps)),(56,vI6 (ps.length:Int)),(57,vI6 ((i:Int)+1))] [(4,vlV fv),(6,[jk,jk,jk,jk,jk,jk,jk])] ext)):PW prog cx (loopF f231 1) (cbI fv args ps (PV.opq q) (i:Int) ext) Q:=
 pw mdC 79 [dt ((i:Int)<(ps.length:Int)),am ((0:Int)<=(i:Int)/\(i:Int)<((nmsC ps).length:Int)) qZ,xNm ps i hi,am ((0:Int)<=(i:Int)/\(i:Int)<((Vl.cs args).length:Int)) qZ,xVl args i ha,wr ((i:Int)+1)] [0,2,4,6,7,55,56,57] [4,6] hcx hq
theorem cbE(fv:Vl)(args:List Vl)(ps:List BA)(p:PV)(ext:Ext)(cx:Cx)(hcx:cx.n=79){Q:PExit->S->Prop}(hq:Q (.exit 2) (S.mk [(0,.v (.xp 0 0)),(2,vL 7 (Vl.cs args)),(4,.lp 4 0),(6,.lp 6 0),(7,.v p),(55,vL 1 (nmsC ps)),(56,vI6 (ps.length:Int)),(57,vI6 (ps.length:Int))] [(4,vlV fv),(6,[jk,jk,jk,jk,jk,jk,jk])] ext)):PW prog cx (loopF f231 1) (cbI fv args ps p (ps.length:Int) ext) Q:=
 pw mdC 79 [df ((ps.length:Int)<(ps.length:Int))] [0,2,4,6,7,55,56,57] [4,6] hcx hq
theorem cb_loop(fv:Vl)(args:List Vl)(ps:List BA)(s:List Bd)(ext:Ext)(h:ps.length=args.length)(hn:ps.length<=1000000000):(Ob.loop 79 (loopF f231 1) (cbI fv args ps (scQ s) 0 ext) (.exit 2) ⟨[(0,.v (.xp 0 0)),(4,.lp 4 0),(6,.lp 6 0),(7,.v (scQ (bnds ps args s)))],[(4,vlV fv),(6,jk7)],ext⟩).ok prog:=by
 have:=Ob.loop_idx (P:=prog) (n:=79) (c:=(loopF f231 1)) ps.length (fun i=>cbI fv args ps (scQ (bnds (ps.take i) (args.take i) s)) i ext) (fun _=>(.exit 2,⟨[(0,.v (.xp 0 0)),(4,.lp 4 0),(6,.lp 6 0),(7,.v (scQ (bnds ps args s)))],[(4,vlV fv),(6,jk7)],ext⟩)) ?_ ?_ 0 sM
 ·exact this
 ·intro i hlt cx hcx
  have hb:=bnds_take h hlt s
  have ha:i<args.length:=h ▸ hlt
  simp only [hb]
  exact cbB fv args ps (scR (bnds (ps.take i) (args.take i) s)) i ext hlt ha hn cx hcx (.inl ⟨rfl,⟨⟨W,W,W,W,.inr ⟨rfl,rfl⟩,W,W,W,tV⟩,⟨WLs.refl _,WLs.refl _,tV⟩,rfl⟩,tV⟩)
 ·intro cx hcx
  have e1:bnds (ps.take ps.length) (args.take ps.length) s=bnds ps args s:=by rw [List.take_length,h,List.take_length]
  simp only [e1]
  exact cbE fv args ps _ ext cx hcx ⟨by simp,rfl,⟨W,W,W,W,tV⟩,⟨WLs.refl _,WLs.refl _,tV⟩,rfl⟩
section
variable (fv:Vl) (args:List Vl)
include fv args
theorem cePo(ea:Ext)(hf:¬vlO fv=5):Ef 231 [.xp 0 0,.agg (vlL fv),.sl 7 (Vl.cs args)] (ea) (.panic (hltP 19)) (ea):=
 ef mdC [cl (@cMust_1 (vlO fv==5) sA)] func231
theorem cePn(ea eb:Ext)(hf:vlO fv=5)(h1:¬vlNm fv=nm0)(v:Vl)(hv:Ef 95 [.xp 0 0,.str (vlNm fv),.sl 7 (Vl.cs args)] ea (.ret (.agg (vlL v))) eb):Ef 231 [.xp 0 0,.agg (vlL fv),.sl 7 (Vl.cs args)] (ea) (rA (vlL v)) (eb):=
 ef mdC [cl (@cMust_2 (vlO fv==5) sA),bt (!ByteArray.toList (vlNm fv)==ByteArray.toList nm0) (bnT (bsF h1)),ce hv] func231
theorem cePe(ea eb:Ext)(hf:vlO fv=5)(h1:¬vlNm fv=nm0)(k:Int)(hv:Ef 95 [.xp 0 0,.str (vlNm fv),.sl 7 (Vl.cs args)] ea (.panic (hltP k)) eb):Ef 231 [.xp 0 0,.agg (vlL fv),.sl 7 (Vl.cs args)] (ea) (.panic (hltP k)) (eb):=
 ef mdC [cl (@cMust_2 (vlO fv==5) sA),bt (!ByteArray.toList (vlNm fv)==ByteArray.toList nm0) (bnT (bsF h1)),ce hv] func231
theorem cePl(ea:Ext)(hf:vlO fv=5)(h1:vlNm fv=nm0)(h2:¬((vlB fv).length:Int)=1):Ef 231 [.xp 0 0,.agg (vlL fv),.sl 7 (Vl.cs args)] (ea) (.panic (hltP 19)) (ea):=
 ef mdC [cl (@cMust_2 (vlO fv==5) sA),bf (!ByteArray.toList (vlNm fv)==ByteArray.toList nm0) (bnF (bsT h1)),sl (Ex.cs_len (vlB fv)),rp 7 (en1 h2),cl (@cMust_1 (false) rF)] func231
theorem cePm(ea:Ext)(hf:vlO fv=5)(h1:vlNm fv=nm0)(h2:((vlB fv).length:Int)=1)(h3:¬((vlP fv).length:Int)=args.length):Ef 231 [.xp 0 0,.agg (vlL fv),.sl 7 (Vl.cs args)] (ea) (.panic (hltP 19)) (ea):=
 ef mdC [cl (@cMust_2 (vlO fv==5) sA),bf (!ByteArray.toList (vlNm fv)==ByteArray.toList nm0) (bnF (bsT h1)),sl (Ex.cs_len (vlB fv)),rp 3 (et1 h2),sl (nmsC_len (vlP fv)),rp 2 (et1 h2),sl (Vl.cs_len args),rp 2 (et1 h2),cl (@cMust_1 (((vlP fv).length:Int)==(args.length:Int)) sA)] func231
end
section
variable (cK:C5) (l:List Df) (fu n:Int) (wh:BA) (sp:PV) (wz:Int) (re:Ext) (h0:0<=n) (hF:fu<=1000000) (fv:Vl) (args:List Vl) (hf:vlO fv=5) (h1:vlNm fv=nm0) (h2:((vlB fv).length:Int)=1) (h3:((vlP fv).length:Int)=args.length)
include cK l fu n wh sp wz re h0 hF fv args hf h1 h2 h3
theorem cePf(hs:n>=fu):Ef 231 [.xp 0 0,.agg (vlL fv),.sl 7 (Vl.cs args)] (EM cK l fu n wh sp wz re) (.panic (hltP 24)) (EM cK l fu n wh sp wz re):=
 ef mdC [cl (@cMust_2 (vlO fv==5) sA),bf (!ByteArray.toList (vlNm fv)==ByteArray.toList nm0) (bnF (bsT h1)),sl (Ex.cs_len (vlB fv)),rp 3 (et1 h2),sl (nmsC_len (vlP fv)),rp 2 (et1 h2),sl (Vl.cs_len args),rp 2 (et1 h2),cl (@cMust_2 (((vlP fv).length:Int)==(args.length:Int)) sA),ce (@ceTick_1 cK (l) (fu) (n) (wh) (sp) (wz) (re) h0 hF hs)] func231
theorem cePT(hs:¬n>=fu)(hb:(vlBd fv).length<=1000000000)(hn:(vlP fv).length<=1000000000)(t f:Nat)(p:PV)(hc:cpA ((vlB fv).getD 0 default) t f p)(hm:mtA t f)(v:Vl)(eb:Ext)(hv:rnO (EM cK l fu (n+1) wh sp wz re) f p (scQ (bnds (vlP fv) args (vlBd fv).reverse)) v eb):Ef 231 [.xp 0 0,.agg (vlL fv),.sl 7 (Vl.cs args)] (EM cK l fu n wh sp wz re) (rA (vlL v)) (eb):=
 ef mdC [cl (@cMust_2 (vlO fv==5) sA),bf (!ByteArray.toList (vlNm fv)==ByteArray.toList nm0) (bnF (bsT h1)),sl (Ex.cs_len (vlB fv)),rp 3 (et1 h2),sl (nmsC_len (vlP fv)),rp 2 (et1 h2),sl (Vl.cs_len args),rp 2 (et1 h2),cl (@cMust_2 (((vlP fv).length:Int)==(args.length:Int)) sA),ce (@ceTick_2 cK (l) (fu) (n) (wh) (sp) (wz) (re) h0 hF hs),sl (Bd.cs_len (vlBd fv)),lp (S.mk [(0,.v (.xp 0 0)),(1,.v (.agg (vlL fv))),(2,vL 7 (Vl.cs args)),(4,.lp 4 0),(6,.lp 6 0),(12,.lp 4 0),(13,vI6 (vlO fv)),(14,.v (.bool (vlO fv==5))),(15,.v (.tup [])),(16,.lp 4 2),(17,vS (vlNm fv)),(18,.v (.bool !ByteArray.toList (vlNm fv)==ByteArray.toList nm0)),(24,.lp 4 5),(25,vL 7 (Ex.cs (vlB fv))),(26,vI6 ((vlB fv).length:Int)),(27,.v (.bool (((vlB fv).length:Int)==1))),(28,.v (.bool (((vlB fv).length:Int)==1))),(29,.lp 4 4),(30,vL 1 (nmsC (vlP fv))),(31,vI6 ((vlP fv).length:Int)),(32,vL 7 (Vl.cs args)),(33,vI6 (args.length:Int)),(34,.v (.bool (((vlP fv).length:Int)==(args.length:Int)))),(35,.v (.bool (((vlP fv).length:Int)==(args.length:Int)))),(36,.v (.tup [])),(37,.v (.xp 0 0)),(38,.v (.tup [])),(7,.v .nilp),(39,.lp 4 6),(40,vL 8 (Bd.cs (vlBd fv))),(41,vI6 ((vlBd fv).length:Int)),(42,vI6 0)] [(4,vlV fv),(6,vZ)] (EM cK l fu (n+1) wh sp wz re)) (@ca_loop (fv) (args) (vlBd fv) (EM cK l fu (n+1) wh sp wz re) hb) ⟨⟨W,W,W,W,W,W,W,W,tV⟩,⟨⟨W,W,W,W,W,W,W,tV⟩,⟨Wq,Wq,Wq,Wq,Wq,Wq,Wq,tV⟩,tV⟩,rfl⟩,sl (nmsC_len (vlP fv)),lp (S.mk [(0,.v (.xp 0 0)),(2,vL 7 (Vl.cs args)),(4,.lp 4 0),(6,.lp 6 0),(7,.v (PV.opq (scR (List.reverse (vlBd fv))))),(54,.lp 4 4),(55,vL 1 (nmsC (vlP fv))),(56,vI6 ((vlP fv).length:Int)),(57,vI6 0)] [(4,vlV fv),(6,[jk,jk,jk,jk,jk,jk,jk])] (EM cK l fu (n+1) wh sp wz re)) (@cb_loop (fv) (args) (vlP fv) (List.reverse (vlBd fv)) (EM cK l fu (n+1) wh sp wz re) oM hn) xr,am ((0:Int)<=0/\0<((Ex.cs (vlB fv)).length:Int)) qZ,xEx (vlB fv) 0,cl hc,am (methT prog t "liquidcheck/cells.run" = some f) hm,ce hv] func231
theorem cePE(hs:¬n>=fu)(hb:(vlBd fv).length<=1000000000)(hn:(vlP fv).length<=1000000000)(t f:Nat)(p:PV)(hc:cpA ((vlB fv).getD 0 default) t f p)(hm:mtA t f)(k:Int)(eb:Ext)(hv:rnE (EM cK l fu (n+1) wh sp wz re) f p (scQ (bnds (vlP fv) args (vlBd fv).reverse)) k eb):Ef 231 [.xp 0 0,.agg (vlL fv),.sl 7 (Vl.cs args)] (EM cK l fu n wh sp wz re) (.panic (hltP k)) (eb):=
 ef mdC [cl (@cMust_2 (vlO fv==5) sA),bf (!ByteArray.toList (vlNm fv)==ByteArray.toList nm0) (bnF (bsT h1)),sl (Ex.cs_len (vlB fv)),rp 3 (et1 h2),sl (nmsC_len (vlP fv)),rp 2 (et1 h2),sl (Vl.cs_len args),rp 2 (et1 h2),cl (@cMust_2 (((vlP fv).length:Int)==(args.length:Int)) sA),ce (@ceTick_2 cK (l) (fu) (n) (wh) (sp) (wz) (re) h0 hF hs),sl (Bd.cs_len (vlBd fv)),lp (S.mk [(0,.v (.xp 0 0)),(1,.v (.agg (vlL fv))),(2,vL 7 (Vl.cs args)),(4,.lp 4 0),(6,.lp 6 0),(12,.lp 4 0),(13,vI6 (vlO fv)),(14,.v (.bool (vlO fv==5))),(15,.v (.tup [])),(16,.lp 4 2),(17,vS (vlNm fv)),(18,.v (.bool !ByteArray.toList (vlNm fv)==ByteArray.toList nm0)),(24,.lp 4 5),(25,vL 7 (Ex.cs (vlB fv))),(26,vI6 ((vlB fv).length:Int)),(27,.v (.bool (((vlB fv).length:Int)==1))),(28,.v (.bool (((vlB fv).length:Int)==1))),(29,.lp 4 4),(30,vL 1 (nmsC (vlP fv))),(31,vI6 ((vlP fv).length:Int)),(32,vL 7 (Vl.cs args)),(33,vI6 (args.length:Int)),(34,.v (.bool (((vlP fv).length:Int)==(args.length:Int)))),(35,.v (.bool (((vlP fv).length:Int)==(args.length:Int)))),(36,.v (.tup [])),(37,.v (.xp 0 0)),(38,.v (.tup [])),(7,.v .nilp),(39,.lp 4 6),(40,vL 8 (Bd.cs (vlBd fv))),(41,vI6 ((vlBd fv).length:Int)),(42,vI6 0)] [(4,vlV fv),(6,vZ)] (EM cK l fu (n+1) wh sp wz re)) (@ca_loop (fv) (args) (vlBd fv) (EM cK l fu (n+1) wh sp wz re) hb) ⟨⟨W,W,W,W,W,W,W,W,tV⟩,⟨⟨W,W,W,W,W,W,W,tV⟩,⟨Wq,Wq,Wq,Wq,Wq,Wq,Wq,tV⟩,tV⟩,rfl⟩,sl (nmsC_len (vlP fv)),lp (S.mk [(0,.v (.xp 0 0)),(2,vL 7 (Vl.cs args)),(4,.lp 4 0),(6,.lp 6 0),(7,.v (PV.opq (scR (List.reverse (vlBd fv))))),(54,.lp 4 4),(55,vL 1 (nmsC (vlP fv))),(56,vI6 ((vlP fv).length:Int)),(57,vI6 0)] [(4,vlV fv),(6,[jk,jk,jk,jk,jk,jk,jk])] (EM cK l fu (n+1) wh sp wz re)) (@cb_loop (fv) (args) (vlP fv) (List.reverse (vlBd fv)) (EM cK l fu (n+1) wh sp wz re) oM hn) xr,am ((0:Int)<=0/\0<((Ex.cs (vlB fv)).length:Int)) qZ,xEx (vlB fv) 0,cl hc,am (methT prog t "liquidcheck/cells.run" = some f) hm,ce hv] func231
end
abbrev lsO(ea:Ext)(xs:List Ex)(s:PV)(vs:List Vl)(eb:Ext):Prop:=Ef 229 [.xp 0 0,.sl 7 (Ex.cs xs),s] ea (.ret (.sl 7 (Vl.cs vs))) eb
abbrev lsE(ea:Ext)(xs:List Ex)(s:PV)(k:Int)(eb:Ext):Prop:=Ef 229 [.xp 0 0,.sl 7 (Ex.cs xs),s] ea (.panic (hltP k)) eb
theorem ceBo(x:Ex)(s:PV)(ea eb:Ext)(vs:List Vl)(hl:lsO ea (exK x) s vs eb):Ef 228 [.agg (exL x),.xp 0 0,s] (ea) (rA (v4 3 0 (exNm x) (Vl.cs vs))) (eb):=
 Ob.eff_wk (Wk.a (kr (kr (kr (kr (kn 1 (kn 7 (kn 8 (WkL.r _))))))))) (ef mdC [ce hl] func228)
section
variable (x:Ex) (s:PV)
include x s
theorem ceBe(ea eb:Ext)(k:Int)(hl:lsE ea (exK x) s k eb):Ef 228 [.agg (exL x),.xp 0 0,s] (ea) (.panic (hltP k)) (eb):=
 ef mdC [ce hl] func228
theorem ceIe(ea eb:Ext)(k:Int)(hl:lsE ea (exK x) s k eb):Ef 230 [.agg (exL x),.xp 0 0,s] (ea) (.panic (hltP k)) (eb):=
 ef mdC [ce hl] func230
theorem ceIao(ea eb ec:Ext)(vs:List Vl)(hl:lsO ea (exK x) s vs eb)(fv:Vl)(hg:gtS s (exNm x) fv)(v:Vl)(hv:Ef 231 [.xp 0 0,.agg (vlL fv),.sl 7 (Vl.cs vs)] eb (.ret (.agg (vlL v))) ec):Ef 230 [.agg (exL x),.xp 0 0,s] (ea) (rA (vlL v)) (ec):=
 ef mdC [ce hl,cl hg,bt true,ce hv] func230
theorem ceIae(ea eb ec:Ext)(vs:List Vl)(hl:lsO ea (exK x) s vs eb)(fv:Vl)(hg:gtS s (exNm x) fv)(k:Int)(hv:Ef 231 [.xp 0 0,.agg (vlL fv),.sl 7 (Vl.cs vs)] eb (.panic (hltP k)) ec):Ef 230 [.agg (exL x),.xp 0 0,s] (ea) (.panic (hltP k)) (ec):=
 ef mdC [ce hl,cl hg,bt true,ce hv] func230
theorem ceIco(ea eb ec:Ext)(vs:List Vl)(hl:lsO ea (exK x) s vs eb)(hg:gtN s (exNm x))(v:Vl)(hv:Ef 95 [.xp 0 0,.str (exNm x),.sl 7 (Vl.cs vs)] eb (.ret (.agg (vlL v))) ec):Ef 230 [.agg (exL x),.xp 0 0,s] (ea) (rA (vlL v)) (ec):=
 ef mdC [ce hl,cl hg,bf false,ce hv] func230
theorem ceIce(ea eb ec:Ext)(vs:List Vl)(hl:lsO ea (exK x) s vs eb)(hg:gtN s (exNm x))(k:Int)(hv:Ef 95 [.xp 0 0,.str (exNm x),.sl 7 (Vl.cs vs)] eb (.panic (hltP k)) ec):Ef 230 [.agg (exL x),.xp 0 0,s] (ea) (.panic (hltP k)) (ec):=
 ef mdC [ce hl,cl hg,bf false,ce hv] func230
end
abbrev cmI(ab:List LV)(v:Vl)(ps:List BA)(p:PV)(i:Int)(ext:Ext):S:=⟨[(1,.v (.xp 0 0)),(2,.v p),(6,.lp 6 0),(7,.lp 7 0),(9,.lp 9 0),(47,.v (.sl 1 (nmsC ps))),(48,.v (.int .i64 ps.length)),(49,.v (.int .i64 i))],[(6,jk7),(7,vlV v),(9,ab)],ext⟩
theorem cmB(ab:List LV)(v:Vl)(ps:List BA)(q:PV)(i:Nat)(ext:Ext)(hi:i<ps.length)(ha:i<(vlK v).length)(hn:ps.length<=1000000000)(cx:Cx)(hcx:cx.n=73){Q:PExit->S->Prop}(hq:Q (.normal) (S.mk [(1,.v (.xp 0 0)),(2,.v (.ro [.str (List.getD ps i nm0),pI (vlO (List.getD (vlK v) i default)),pI (vlN (List.getD (vlK v) i default)),.str (vlNm (List.getD (vlK v) i default)),.sl 7 (Vl.cs (vlK (List.getD (vlK v) i default))),.sl 1 (nmsC (vlP (List.getD (vlK v) i default))),.sl 7 (Ex.cs (vlB (List.getD (vlK v) i default))),.sl 8 (Bd.cs (vlBd (List.getD (vlK v) i default))),PV.opq q] 0)),(6,.lp 6 0),(7,.lp 7 0),(9,.lp 9 0),(47,vL 1 (nmsC ps)),(48,vI6 (ps.length:Int)),(49,vI6 ((i:Int)+1))] [(6,[jk,jk,jk,jk,jk,jk,jk]),(7,vlV v),(9,ab)] ext)):PW prog cx (loopF f235 1) (cmI ab v ps (PV.opq q) (i:Int) ext) Q:=
 pw mdC 73 [dt ((i:Int)<(ps.length:Int)),am ((0:Int)<=(i:Int)/\(i:Int)<((nmsC ps).length:Int)) qZ,xNm ps i hi,am ((0:Int)<=(i:Int)/\(i:Int)<((Vl.cs (vlK v)).length:Int)) qZ,xVl (vlK v) i ha,wr ((i:Int)+1)] [1,2,6,7,9,47,48,49] [6,7,9] hcx hq
theorem cmE(ab:List LV)(v:Vl)(ps:List BA)(p:PV)(ext:Ext)(cx:Cx)(hcx:cx.n=73){Q:PExit->S->Prop}(hq:Q (.exit 2) (S.mk [(1,.v (.xp 0 0)),(2,.v p),(6,.lp 6 0),(7,.lp 7 0),(9,.lp 9 0),(47,vL 1 (nmsC ps)),(48,vI6 (ps.length:Int)),(49,vI6 (ps.length:Int))] [(6,[jk,jk,jk,jk,jk,jk,jk]),(7,vlV v),(9,ab)] ext)):PW prog cx (loopF f235 1) (cmI ab v ps p (ps.length:Int) ext) Q:=
 pw mdC 73 [df ((ps.length:Int)<(ps.length:Int))] [1,2,6,7,9,47,48,49] [6,7,9] hcx hq
theorem cm_loop(ab:List LV)(v:Vl)(ps:List BA)(s:List Bd)(ext:Ext)(h:ps.length=(vlK v).length)(hn:ps.length<=1000000000):(Ob.loop 73 (loopF f235 1) (cmI ab v ps (scQ s) 0 ext) (.exit 2) ⟨[(1,.v (.xp 0 0)),(2,.v (scQ (bnds ps (vlK v) s))),(6,.lp 6 0),(9,.lp 9 0)],[(6,jk7),(9,ab)],ext⟩).ok prog:=by
 have:=Ob.loop_idx (P:=prog) (n:=73) (c:=(loopF f235 1)) ps.length (fun i=>cmI ab v ps (scQ (bnds (ps.take i) ((vlK v).take i) s)) i ext) (fun _=>(.exit 2,⟨[(1,.v (.xp 0 0)),(2,.v (scQ (bnds ps (vlK v) s))),(6,.lp 6 0),(9,.lp 9 0)],[(6,jk7),(9,ab)],ext⟩)) ?_ ?_ 0 sM
 ·exact this
 ·intro i hlt cx hcx
  have hb:=bnds_take h hlt s
  have ha:i<(vlK v).length:=h ▸ hlt
  simp only [hb]
  exact cmB ab v ps (scR (bnds (ps.take i) ((vlK v).take i) s)) i ext hlt ha hn cx hcx (.inl ⟨rfl,⟨⟨W,.inr ⟨rfl,rfl⟩,W,W,W,W,W,W,tV⟩,⟨WLs.refl _,WLs.refl _,WLs.refl _,tV⟩,rfl⟩,tV⟩)
 ·intro cx hcx
  have e1:bnds (ps.take ps.length) ((vlK v).take ps.length) s=bnds ps (vlK v) s:=by rw [List.take_length,h,List.take_length]
  simp only [e1]
  exact cmE ab v ps _ ext cx hcx ⟨by simp,rfl,⟨W,W,W,W,tV⟩,⟨WLs.refl _,WLs.refl _,tV⟩,rfl⟩
abbrev cnI(v:Vl)(al:List Al)(p:PV)(i:Int)(ext:Ext):S:=⟨[(1,.v (.xp 0 0)),(2,.v p),(6,.lp 6 0),(7,.lp 7 0),(27,.v (.sl 9 (Al.cs al))),(28,.v (.int .i64 al.length)),(29,.v (.int .i64 i))],[(6,jk7),(7,vlV v)],ext⟩
section
variable (v:Vl) (al:List Al)
include v al
theorem cnN(p:PV)(i:Nat)(ext:Ext)(hi:i<al.length)(hn:al.length<=1000000000)(hc:¬alC (al.getD i default)=vlNm v)(cx:Cx)(hcx:cx.n=73){Q:PExit->S->Prop}(hq:Q (.normal) (S.mk [(1,.v (.xp 0 0)),(2,.v p),(6,.lp 6 0),(7,.lp 7 0),(27,vL 9 (Al.cs al)),(28,vI6 (al.length:Int)),(29,vI6 ((i:Int)+1))] [(6,[jk,jk,jk,jk,jk,jk,jk]),(7,vlV v)] ext)):PW prog cx (loopF f235 0) (cnI v al p (i:Int) ext) Q:=
 pw mdC 73 [dt ((i:Int)<(al.length:Int)),am ((0:Int)<=(i:Int)/\(i:Int)<((Al.cs al).length:Int)) qZ,xAl al i hi,bt (!ByteArray.toList (alC (List.getD al i default))==ByteArray.toList (vlNm v)) (bnT (bsF hc)),wr ((i:Int)+1)] [1,2,6,7,27,28,29] [6,7] hcx hq
theorem cnE(p:PV)(ext:Ext)(cx:Cx)(hcx:cx.n=73){Q:PExit->S->Prop}(hq:Q (.exit 0) (S.mk [(1,.v (.xp 0 0)),(2,.v p),(6,.lp 6 0),(7,.lp 7 0),(27,vL 9 (Al.cs al)),(28,vI6 (al.length:Int)),(29,vI6 (al.length:Int))] [(6,[jk,jk,jk,jk,jk,jk,jk]),(7,vlV v)] ext)):PW prog cx (loopF f235 0) (cnI v al p (al.length:Int) ext) Q:=
 pw mdC 73 [df ((al.length:Int)<(al.length:Int))] [1,2,6,7,27,28,29] [6,7] hcx hq
theorem cnM(p:PV)(i:Nat)(ext:Ext)(hi:i<al.length)(hn:al.length<=1000000000)(hc:alC (al.getD i default)=vlNm v)(hl:¬((alNs (al.getD i default)).length:Int)=(vlK v).length)(cx:Cx)(hcx:cx.n=73){Q:PExit->S->Prop}(hq:Q (PExit.panic (hltP 19)) (S.mk [(1,.v (.xp 0 0)),(2,.v p),(6,.lp 6 0),(7,.lp 7 0),(27,vL 9 (Al.cs al)),(28,vI6 (al.length:Int)),(29,vI6 (i:Int))] [(6,[jk,jk,jk,jk,jk,jk,jk]),(7,vlV v)] ext)):PW prog cx (loopF f235 0) (cnI v al p (i:Int) ext) Q:=
 pw mdC 73 [dt ((i:Int)<(al.length:Int)),am ((0:Int)<=(i:Int)/\(i:Int)<((Al.cs al).length:Int)) qZ,xAl al i hi,bf (!ByteArray.toList (alC (List.getD al i default))==ByteArray.toList (vlNm v)) (bnF (bsT hc)),sl (nmsC_len (alNs (List.getD al i default))),sl (Vl.cs_len (vlK v)),cl (@cMust_1 (((alNs (List.getD al i default)).length:Int)==((vlK v).length:Int)) sA)] [1,2,6,7,27,28,29] [6,7] hcx hq
theorem cnT(s:List Bd)(i:Nat)(ea eb:Ext)(hi:i<al.length)(hn:al.length<=1000000000)(hc:alC (al.getD i default)=vlNm v)(hl:((alNs (al.getD i default)).length:Int)=(vlK v).length)(hp:(alNs (al.getD i default)).length<=1000000000)(t f:Nat)(p:PV)(hk:cpA (alB (al.getD i default)) t f p)(hm:mtA t f)(u:Vl)(hv:rnO ea f p (scQ (bnds (alNs (al.getD i default)) (vlK v) s)) u eb)(cx:Cx)(hcx:cx.n=73){Q:PExit->S->Prop}(hq:Q (.ret) (S.mk [(1,.v (.xp 0 0)),(2,.v (PV.opq (scR (bnds (alNs (List.getD al i default)) (vlK v) s)))),(6,.lp 6 0)] [(6,vlV u)] eb)):PW prog cx (loopF f235 0) (cnI v al (scQ s) (i:Int) ea) Q:=
 pw mdC 73 [dt ((i:Int)<(al.length:Int)),am ((0:Int)<=(i:Int)/\(i:Int)<((Al.cs al).length:Int)) qZ,xAl al i hi,bf (!ByteArray.toList (alC (List.getD al i default))==ByteArray.toList (vlNm v)) (bnF (bsT hc)),sl (nmsC_len (alNs (List.getD al i default))),sl (Vl.cs_len (vlK v)),cl (@cMust_2 (((alNs (List.getD al i default)).length:Int)==((vlK v).length:Int)) sA),sl (nmsC_len (alNs (List.getD al i default))),lp (S.mk [(1,.v (.xp 0 0)),(2,.v (PV.opq (scR s))),(6,.lp 6 0),(7,.lp 7 0),(27,vL 9 (Al.cs al)),(28,vI6 (al.length:Int)),(29,vI6 (i:Int)),(30,.v (.bool (decide ((i:Int)<(al.length:Int))))),(31,.v (.ro (alL (List.getD al i default)) 0)),(32,.v (.agg (alL (List.getD al i default)))),(9,.lp 9 0),(33,.lp 9 0),(34,vS (alC (List.getD al i default))),(35,.lp 7 2),(36,vS (vlNm v)),(37,.v (.bool !ByteArray.toList (alC (List.getD al i default))==ByteArray.toList (vlNm v))),(38,.lp 9 1),(39,vL 1 (nmsC (alNs (List.getD al i default)))),(40,vI6 ((alNs (List.getD al i default)).length:Int)),(41,.lp 7 3),(42,vL 7 (Vl.cs (vlK v))),(43,vI6 ((vlK v).length:Int)),(44,.v (.bool (((alNs (List.getD al i default)).length:Int)==((vlK v).length:Int)))),(45,.v (.tup [])),(46,.lp 9 1),(47,vL 1 (nmsC (alNs (List.getD al i default)))),(48,vI6 ((alNs (List.getD al i default)).length:Int)),(49,vI6 0)] [(6,[jk,jk,jk,jk,jk,jk,jk]),(7,vlV v),(9,alV (List.getD al i default))] ea) (@cm_loop (alV (List.getD al i default)) (v) (alNs (List.getD al i default)) (s) (ea) oM hp) xr,cl hk,am (methT prog t "liquidcheck/cells.run" = some f) hm,ce hv] [1,2,6,7,27,28,29] [6,7] hcx hq
theorem cnF(s:List Bd)(i:Nat)(ea eb:Ext)(hi:i<al.length)(hn:al.length<=1000000000)(hc:alC (al.getD i default)=vlNm v)(hl:((alNs (al.getD i default)).length:Int)=(vlK v).length)(hp:(alNs (al.getD i default)).length<=1000000000)(t f:Nat)(p:PV)(hkk:cpA (alB (al.getD i default)) t f p)(hm:mtA t f)(k:Int)(hv:rnE ea f p (scQ (bnds (alNs (al.getD i default)) (vlK v) s)) k eb)(cx:Cx)(hcx:cx.n=73){Q:PExit->S->Prop}(hq:Q (PExit.panic (hltP k)) (S.mk [(1,.v (.xp 0 0)),(2,.v (PV.opq (scR (bnds (alNs (List.getD al i default)) (vlK v) s)))),(6,.lp 6 0)] [(6,[jk,jk,jk,jk,jk,jk,jk])] eb)):PW prog cx (loopF f235 0) (cnI v al (scQ s) (i:Int) ea) Q:=
 pw mdC 73 [dt ((i:Int)<(al.length:Int)),am ((0:Int)<=(i:Int)/\(i:Int)<((Al.cs al).length:Int)) qZ,xAl al i hi,bf (!ByteArray.toList (alC (List.getD al i default))==ByteArray.toList (vlNm v)) (bnF (bsT hc)),sl (nmsC_len (alNs (List.getD al i default))),sl (Vl.cs_len (vlK v)),cl (@cMust_2 (((alNs (List.getD al i default)).length:Int)==((vlK v).length:Int)) sA),sl (nmsC_len (alNs (List.getD al i default))),lp (S.mk [(1,.v (.xp 0 0)),(2,.v (PV.opq (scR s))),(6,.lp 6 0),(7,.lp 7 0),(27,vL 9 (Al.cs al)),(28,vI6 (al.length:Int)),(29,vI6 (i:Int)),(30,.v (.bool (decide ((i:Int)<(al.length:Int))))),(31,.v (.ro (alL (List.getD al i default)) 0)),(32,.v (.agg (alL (List.getD al i default)))),(9,.lp 9 0),(33,.lp 9 0),(34,vS (alC (List.getD al i default))),(35,.lp 7 2),(36,vS (vlNm v)),(37,.v (.bool !ByteArray.toList (alC (List.getD al i default))==ByteArray.toList (vlNm v))),(38,.lp 9 1),(39,vL 1 (nmsC (alNs (List.getD al i default)))),(40,vI6 ((alNs (List.getD al i default)).length:Int)),(41,.lp 7 3),(42,vL 7 (Vl.cs (vlK v))),(43,vI6 ((vlK v).length:Int)),(44,.v (.bool (((alNs (List.getD al i default)).length:Int)==((vlK v).length:Int)))),(45,.v (.tup [])),(46,.lp 9 1),(47,vL 1 (nmsC (alNs (List.getD al i default)))),(48,vI6 ((alNs (List.getD al i default)).length:Int)),(49,vI6 0)] [(6,[jk,jk,jk,jk,jk,jk,jk]),(7,vlV v),(9,alV (List.getD al i default))] ea) (@cm_loop (alV (List.getD al i default)) (v) (alNs (List.getD al i default)) (s) (ea) oM hp) xr,cl hkk,am (methT prog t "liquidcheck/cells.run" = some f) hm,ce hv] [1,2,6,7,27,28,29] [6,7] hcx hq
end
theorem cn_loop(v:Vl)(al:List Al)(p:PV)(ext:Ext)(hn:al.length<=1000000000)(i0:Nat)(hi:i0<=al.length)(pre:∀j,j<i0->¬alC (al.getD j default)=vlNm v)(pe:PExit)(s1:S)
  (fin:∀cx:Cx,cx.n=73->PW prog cx (loopF f235 0) (cnI v al p i0 ext) fun pe' s'=>pe' ≠ .normal/\pe'=pe/\LeX s1 s') :
  (Ob.loop 73 (loopF f235 0) (cnI v al p 0 ext) pe s1).ok prog:=by
 have:=Ob.loop_idx (P:=prog) (n:=73) (c:=(loopF f235 0)) i0 (fun i=>cnI v al p i ext) (fun _=>(pe,s1)) ?_ fin 0 sM
 ·exact this
 ·intro i hlt cx hcx
  exact cnN v al p i ext oM hn (pre i hlt) cx hcx (.inl ⟨rfl,⟨⟨W,W,W,W,W,W,W,tV⟩,⟨WLs.refl _,WLs.refl _,tV⟩,rfl⟩,rfl⟩)
theorem cn0(v:Vl)(al:List Al)(p:PV)(ext:Ext)(hn:al.length<=1000000000)(h:findA (vlNm v) al=none):(Ob.loop 73 (loopF f235 0) (cnI v al p 0 ext) (.exit 0) ⟨[(6,.lp 6 0)],[(6,jk7)],ext⟩).ok prog:=
 cn_loop v al p ext hn al.length (Nat.le_refl _) (findA_no h) _ _ fun cx hcx=>cnE v al p ext cx hcx ⟨by simp,rfl,⟨W,tV⟩,⟨WLs.refl _,tV⟩,rfl⟩
theorem cn1(v:Vl)(al:List Al)(p:PV)(ext:Ext)(hn:al.length<=1000000000)(a:Al)(h:findA (vlNm v) al=some a)(hl:¬(alNs a).length=(vlK v).length):(Ob.loop 73 (loopF f235 0) (cnI v al p 0 ext) (.panic (hltP 19)) ⟨[],[],ext⟩).ok prog:=by
 obtain ⟨i,h1,rfl,h3,h4⟩:=findA_at h
 exact cn_loop v al p ext hn i oM h4 _ _ fun cx hcx=>cnM v al p i ext h1 hn h3 oM cx hcx ⟨by simp,rfl,trivial,trivial,rfl⟩
theorem cn2(v:Vl)(al:List Al)(s:List Bd)(ea eb:Ext)(hn:al.length<=1000000000)(a:Al)(h:findA (vlNm v) al=some a)(hl:(alNs a).length=(vlK v).length)(hp:(alNs a).length<=1000000000)(u:Vl)(hv:rxO ea (alB a) (scQ (bnds (alNs a) (vlK v) s)) u eb):(Ob.loop 73 (loopF f235 0) (cnI v al (scQ s) 0 ea) .ret ⟨[(6,.lp 6 0)],[(6,vlV u)],eb⟩).ok prog:=by
 obtain ⟨i,h1,rfl,h3,h4⟩:=findA_at h
 obtain ⟨t,f,p,k1,k2,k3⟩:=hv
 exact cn_loop v al (scQ s) _ hn i oM h4 _ _ fun cx hcx=>cnT v al s i ea eb h1 hn h3 oM hp t f p k1 k2 u k3 cx hcx ⟨by simp,rfl,⟨W,tV⟩,⟨WLs.refl _,tV⟩,rfl⟩
theorem cn3(v:Vl)(al:List Al)(s:List Bd)(ea eb:Ext)(hn:al.length<=1000000000)(a:Al)(h:findA (vlNm v) al=some a)(hl:(alNs a).length=(vlK v).length)(hp:(alNs a).length<=1000000000)(k:Int)(hv:rxE ea (alB a) (scQ (bnds (alNs a) (vlK v) s)) k eb):(Ob.loop 73 (loopF f235 0) (cnI v al (scQ s) 0 ea) (.panic (hltP k)) ⟨[],[],eb⟩).ok prog:=by
 obtain ⟨i,h1,rfl,h3,h4⟩:=findA_at h
 obtain ⟨t,f,p,k1,k2,k3⟩:=hv
 exact cn_loop v al (scQ s) _ hn i oM h4 _ _ fun cx hcx=>cnF v al s i ea eb h1 hn h3 oM hp t f p k1 k2 k k3 cx hcx ⟨by simp,rfl,trivial,trivial,rfl⟩
section
variable (x:Ex) (s:List Bd) (hk:(exK x).length=1) (ea eb:Ext) (t f:Nat) (p:PV) (hc:cpA ((exK x).getD 0 default) t f p) (hm:mtA t f)
include x s hk ea eb t f p hc hm
theorem ceMe(k:Int)(hv:rnE ea f p (scQ s) k eb):Ef 235 [.agg (exL x),.xp 0 0,scQ s] (ea) (.panic (hltP k)) (eb):=
 ef mdC [am ((0:Int)<=0/\0<((Ex.cs (exK x)).length:Int)) qZ,xEx (exK x) 0,cl hc,am (methT prog t "liquidcheck/cells.run" = some f) hm,ce hv] func235
theorem ceMs(v:Vl)(hv:rnO ea f p (scQ s) v eb)(ho:¬vlO v=3):Ef 235 [.agg (exL x),.xp 0 0,scQ s] (ea) (.panic (hltP 19)) (eb):=
 ef mdC [am ((0:Int)<=0/\0<((Ex.cs (exK x)).length:Int)) qZ,xEx (exK x) 0,cl hc,am (methT prog t "liquidcheck/cells.run" = some f) hm,ce hv,cl (@cMust_1 (vlO v==3) sA)] func235
theorem ceMn(v:Vl)(hv:rnO ea f p (scQ s) v eb)(hn:(exA x).length<=1000000000)(ho:vlO v=3)(h:findA (vlNm v) (exA x)=none):Ef 235 [.agg (exL x),.xp 0 0,scQ s] (ea) (.panic (hltP 23)) (eb):=
 ef mdC [am ((0:Int)<=0/\0<((Ex.cs (exK x)).length:Int)) qZ,xEx (exK x) 0,cl hc,am (methT prog t "liquidcheck/cells.run" = some f) hm,ce hv,cl (@cMust_2 (vlO v==3) sA),sl (Al.cs_len (exA x)),lp (S.mk [(0,.v (.agg (exL x))),(1,.v (.xp 0 0)),(2,.v (PV.opq (scR s))),(3,.lp 3 0),(6,.lp 6 0),(12,.lp 3 0),(13,.lp 3 3),(14,vL 7 (Ex.cs (exK x))),(15,.v (.ro (exL (kid x 0)) 0)),(16,.v (.agg (exL (kid x 0)))),(17,.v (PV.ifm t f p)),(18,.v (.xp 0 0)),(19,.v (PV.opq (scR s))),(20,.v (.agg (vlL v))),(7,.lp 7 0),(21,.lp 7 0),(22,vI6 (vlO v)),(23,.v (.bool (vlO v==3))),(24,.v (.tup [])),(25,.lp 3 0),(26,.lp 3 5),(27,vL 9 (Al.cs (exA x))),(28,vI6 ((exA x).length:Int)),(29,vI6 0)] [(3,exV x),(6,vZ),(7,vlV v)] eb) (@cn0 (v) (exA x) (PV.opq (scR s)) (eb) hn h) ⟨⟨W,W,W,W,W,W,W,tV⟩,⟨⟨Wq,Wq,Wq,Wq,Wq,Wq,Wq,tV⟩,⟨W,W,W,W,W,W,W,tV⟩,tV⟩,rfl⟩,cl (@cRaise (23))] func235
theorem ceMl(v:Vl)(hv:rnO ea f p (scQ s) v eb)(hn:(exA x).length<=1000000000)(ho:vlO v=3)(a:Al)(h:findA (vlNm v) (exA x)=some a)(hl:¬(alNs a).length=(vlK v).length):Ef 235 [.agg (exL x),.xp 0 0,scQ s] (ea) (.panic (hltP 19)) (eb):=
 ef mdC [am ((0:Int)<=0/\0<((Ex.cs (exK x)).length:Int)) qZ,xEx (exK x) 0,cl hc,am (methT prog t "liquidcheck/cells.run" = some f) hm,ce hv,cl (@cMust_2 (vlO v==3) sA),sl (Al.cs_len (exA x)),lp (S.mk [(0,.v (.agg (exL x))),(1,.v (.xp 0 0)),(2,.v (PV.opq (scR s))),(3,.lp 3 0),(6,.lp 6 0),(12,.lp 3 0),(13,.lp 3 3),(14,vL 7 (Ex.cs (exK x))),(15,.v (.ro (exL (kid x 0)) 0)),(16,.v (.agg (exL (kid x 0)))),(17,.v (PV.ifm t f p)),(18,.v (.xp 0 0)),(19,.v (PV.opq (scR s))),(20,.v (.agg (vlL v))),(7,.lp 7 0),(21,.lp 7 0),(22,vI6 (vlO v)),(23,.v (.bool (vlO v==3))),(24,.v (.tup [])),(25,.lp 3 0),(26,.lp 3 5),(27,vL 9 (Al.cs (exA x))),(28,vI6 ((exA x).length:Int)),(29,vI6 0)] [(3,exV x),(6,vZ),(7,vlV v)] eb) (@cn1 (v) (exA x) (PV.opq (scR s)) (eb) hn (a) h hl) ⟨⟨W,W,W,W,W,W,W,tV⟩,⟨⟨Wq,Wq,Wq,Wq,Wq,Wq,Wq,tV⟩,⟨W,W,W,W,W,W,W,tV⟩,tV⟩,rfl⟩] func235
end
section
variable (x:Ex) (s:List Bd) (hk:(exK x).length=1) (ea eb ec:Ext) (t f:Nat) (p:PV) (hc:cpA ((exK x).getD 0 default) t f p) (hm:mtA t f) (v:Vl) (hv:rnO ea f p (scQ s) v eb) (hn:(exA x).length<=1000000000) (ho:vlO v=3) (a:Al) (h:findA (vlNm v) (exA x)=some a) (hl:(alNs a).length=(vlK v).length) (hp:(alNs a).length<=1000000000)
include x s hk ea eb ec t f p hc hm v hv hn ho a h hl hp
theorem ceMo(u:Vl)(hw:rxO eb (alB a) (scQ (bnds (alNs a) (vlK v) s)) u ec):Ef 235 [.agg (exL x),.xp 0 0,scQ s] (ea) (rA (vlL u)) (ec):=
 ef mdC [am ((0:Int)<=0/\0<((Ex.cs (exK x)).length:Int)) qZ,xEx (exK x) 0,cl hc,am (methT prog t "liquidcheck/cells.run" = some f) hm,ce hv,cl (@cMust_2 (vlO v==3) sA),sl (Al.cs_len (exA x)),lp (S.mk [(0,.v (.agg (exL x))),(1,.v (.xp 0 0)),(2,.v (PV.opq (scR s))),(3,.lp 3 0),(6,.lp 6 0),(12,.lp 3 0),(13,.lp 3 3),(14,vL 7 (Ex.cs (exK x))),(15,.v (.ro (exL (kid x 0)) 0)),(16,.v (.agg (exL (kid x 0)))),(17,.v (PV.ifm t f p)),(18,.v (.xp 0 0)),(19,.v (PV.opq (scR s))),(20,.v (.agg (vlL v))),(7,.lp 7 0),(21,.lp 7 0),(22,vI6 (vlO v)),(23,.v (.bool (vlO v==3))),(24,.v (.tup [])),(25,.lp 3 0),(26,.lp 3 5),(27,vL 9 (Al.cs (exA x))),(28,vI6 ((exA x).length:Int)),(29,vI6 0)] [(3,exV x),(6,vZ),(7,vlV v)] eb) (@cn2 (v) (exA x) (s) (eb) (ec) hn (a) h hl hp (u) hw) ⟨⟨W,W,W,W,W,W,W,tV⟩,⟨⟨Wq,Wq,Wq,Wq,Wq,Wq,Wq,tV⟩,⟨W,W,W,W,W,W,W,tV⟩,tV⟩,rfl⟩] func235
theorem ceMf(k:Int)(hw:rxE eb (alB a) (scQ (bnds (alNs a) (vlK v) s)) k ec):Ef 235 [.agg (exL x),.xp 0 0,scQ s] (ea) (.panic (hltP k)) (ec):=
 ef mdC [am ((0:Int)<=0/\0<((Ex.cs (exK x)).length:Int)) qZ,xEx (exK x) 0,cl hc,am (methT prog t "liquidcheck/cells.run" = some f) hm,ce hv,cl (@cMust_2 (vlO v==3) sA),sl (Al.cs_len (exA x)),lp (S.mk [(0,.v (.agg (exL x))),(1,.v (.xp 0 0)),(2,.v (PV.opq (scR s))),(3,.lp 3 0),(6,.lp 6 0),(12,.lp 3 0),(13,.lp 3 3),(14,vL 7 (Ex.cs (exK x))),(15,.v (.ro (exL (kid x 0)) 0)),(16,.v (.agg (exL (kid x 0)))),(17,.v (PV.ifm t f p)),(18,.v (.xp 0 0)),(19,.v (PV.opq (scR s))),(20,.v (.agg (vlL v))),(7,.lp 7 0),(21,.lp 7 0),(22,vI6 (vlO v)),(23,.v (.bool (vlO v==3))),(24,.v (.tup [])),(25,.lp 3 0),(26,.lp 3 5),(27,vL 9 (Al.cs (exA x))),(28,vI6 ((exA x).length:Int)),(29,vI6 0)] [(3,exV x),(6,vZ),(7,vlV v)] eb) (@cn3 (v) (exA x) (s) (eb) (ec) hn (a) h hl hp (k) hw) ⟨⟨W,W,W,W,W,W,W,tV⟩,⟨⟨Wq,Wq,Wq,Wq,Wq,Wq,Wq,tV⟩,⟨W,W,W,W,W,W,W,tV⟩,tV⟩,rfl⟩] func235
end
theorem cGetT(s:List Bd)(name:BA):Pu 222 [scQ s,.str name] (.ret (.tup [.agg (vlL (fbV name s)),.bool (fbO name s)])):=by
 unfold fbV fbO
 refine Ob.pur_arg (.c (.op _) (.c (.r _) (.r _))) ?_
 cases h:findB name s with
 | some v=>exact fGet_1 s name v h
 | none=>exact fGet_2 s name h
abbrev lc1_I(x:Ex)(s:List Bd)(j:Int)(out:List BA)(e:Ext):S:=S.mk [(2,.v (PV.opq (scR s))),(3,.lp 3 0),(6,.lp 6 0),(8,.lp 8 0),(25,vL 10 (pmsC (exP x))),(26,vI6 ((exP x).length:Int)),(27,vI6 j)] [(3,exV x),(6,vZ),(8,[vI6 5,vI6 0,vS nm0,.v .nilsl,.uniq 9 1 (nmsC out),vL 7 [exL (kid x 0)],.v .nilsl])] e
section
variable (x:Ex) (s:List Bd) (h1:(exK x).length=1) (i:Nat) (out:List BA) (e:Ext)
include x s h1 i out e
theorem lc1_b1(hi:i<(exP x).length)(hN:(exP x).length<=1000000000)(hv:(out.length<=i))(cx:Cx)(hcx:cx.n=64){Q:PExit->S->Prop}(hq:Q (.normal) (S.mk [(2,.v (PV.opq (scR s))),(3,.lp 3 0),(6,.lp 6 0),(8,.lp 8 0),(25,vL 10 (pmsC (exP x))),(26,vI6 ((exP x).length:Int)),(27,vI6 ((i:Int)+1))] [(3,exV x),(6,vZ),(8,[vI6 5,vI6 0,vS nm0,.v .nilsl,.uniq 9 1 (nmsC out++[[.str (pmNm (List.getD (exP x) i default))]]),vL 7 [exL (kid x 0)],.v .nilsl])] e)):PW prog cx (loopF f232 0) (lc1_I x s (i:Int) out e) Q:=
 pw mdC 64 [dt ((i:Int)<((exP x).length:Int)),am ((0:Int)<=(i:Int)/\(i:Int)<((pmsC (exP x)).length:Int)) qZ,xPm (exP x) i hi,am (List.length (nmsC out++(fun x=>Prod.snd x) (0+1,[[.str (pmNm (List.getD (exP x) i default))]])) * (15+1)<=140737488355328) qZ,wr ((i:Int)+1)] [2,3,6,8,25,26,27] [3,6,8] hcx hq
theorem lc1_z1(hi:i=(exP x).length)(hN:(exP x).length<=1000000000)(hv:(out.length<=i))(cx:Cx)(hcx:cx.n=64){Q:PExit->S->Prop}(hq:Q (.exit 0) (S.mk [(2,.v (PV.opq (scR s))),(3,.lp 3 0),(6,.lp 6 0),(8,.lp 8 0),(25,vL 10 (pmsC (exP x))),(26,vI6 ((exP x).length:Int)),(27,vI6 (i:Int))] [(3,exV x),(6,vZ),(8,[vI6 5,vI6 0,vS nm0,.v .nilsl,.uniq 9 1 (nmsC out),vL 7 [exL (kid x 0)],.v .nilsl])] e)):PW prog cx (loopF f232 0) (lc1_I x s (i:Int) out e) Q:=
 pw mdC 64 [df ((i:Int)<((exP x).length:Int))] [2,3,6,8,25,26,27] [3,6,8] hcx hq
end
def lc1_f  : List Pm->(List BA)->(List BA)
 | [],out=>(out)
 | el::r,out=>lc1_f  r (out++[pmNm el])
def lc1_q(x:Ex)(s:List Bd)(e:Ext)(p:(List BA)):PExit × S:=(.exit 0,S.mk [(2,.v (PV.opq (scR s))),(3,.lp 3 0),(6,.lp 6 0),(8,.lp 8 0),(25,vL 10 (pmsC (exP x))),(26,vI6 ((exP x).length:Int))] [(3,exV x),(6,vZ),(8,[vI6 5,vI6 0,vS nm0,.v .nilsl,.uniq 9 1 (nmsC p),vL 7 [exL (kid x 0)],.v .nilsl])] e)
theorem lc1_lp(x:Ex)(s:List Bd)(h1:(exK x).length=1)(e:Ext)(hN:(exP x).length<=1000000000)(i:Nat)(out:List BA)(hi0:i<=(exP x).length)(hv:(out.length<=i)):(Ob.loop 64 (loopF f232 0) (lc1_I x s (i:Int) out e) (lc1_q x s e (lc1_f  (List.drop i ((exP x)))  out)).1 (lc1_q x s e (lc1_f  (List.drop i ((exP x)))  out)).2).ok prog:=by
 refine Ob.loop_of (P:=prog) (α:={ zz:Nat × (List BA) // zz.1<=(exP x).length/\(fun (i:Nat) (out:List BA)=>(out.length<=i)) zz.1 zz.2 }) (fun zz=>lc1_I x s (zz.1.1:Int) zz.1.2 e) (fun zz=>(exP x).length - zz.1.1) (fun zz=>(lc1_q x s e (lc1_f  (List.drop zz.1.1 ((exP x)))  zz.1.2))) ?_ ⟨(i,out),hi0,hv⟩
 clear hi0 hv
 clear out i
 rintro ⟨⟨i,out⟩,hi,hv⟩ cx hcx
 simp only at hi hv ⊢
 rcases Nat.lt_or_ge i ((exP x).length) with hlt | hge
 ·have hd:=drop_at hlt
  have hr:(lc1_f  (List.drop i ((exP x)))  out)=(lc1_f  (List.drop (i+1) ((exP x)))  (out++[pmNm (List.getD (exP x) i default)])):=by rw [hd,lc1_f]
  exact lc1_b1 x s h1 i out e hlt hN hv  cx hcx (.inl ⟨rfl,⟨((i+1),(out++[pmNm (List.getD (exP x) i default)])),by simp only; omega,(by first | assumption | omega | (simp only [List.length_append,List.length_cons,List.length_nil] at *; omega) | simp_all)⟩,by simp only; omega,⟨⟨W,W,W,W,W,W,W,tV⟩,⟨Ws,Ws,⟨W,W,W,W,(.inl (by first | (simp only [nmsC_snoc,Ex.cs_snoc,Vl.cs_snoc,Bd.cs_snoc,Bd.cs_snoc2]; done) | (simp only [nmsC_snoc,Ex.cs_snoc,Vl.cs_snoc,Bd.cs_snoc,Bd.cs_snoc2]; rfl))),W,W,tV⟩,tV⟩,rfl⟩,by simp only; rw [hr]⟩)
 ·have he:i=(exP x).length:=by omega
  subst he
  have hr:(lc1_f  (List.drop ((exP x).length) ((exP x)))  out)=(out):=by rw [List.drop_length,lc1_f]
  refine lc1_z1 x s h1 ((exP x).length) out e rfl hN hv  cx hcx (.inr ?_)
  rw [hr]
  exact ⟨by simp,rfl,xr⟩
theorem lc1(x:Ex)(s:List Bd)(h1:(exK x).length=1)(out:List BA)(e:Ext)(hN:(exP x).length<=1000000000)(hv:List.length out<=0):(Ob.loop 64 (loopF f232 0) (lc1_I x s 0 out e) (lc1_q x s e (lc1_f  ((exP x))  out)).1 (lc1_q x s e (lc1_f  ((exP x))  out)).2).ok prog:=by
 have:=lc1_lp x s h1 e hN 0 out (Nat.zero_le _) hv
 rw [List.drop_zero] at this
 exact this
abbrev lc2_I(x:Ex)(s:List Bd)(j:Int)(out:List Bd)(e:Ext):S:=S.mk [(2,.v (PV.opq (scR s))),(6,.lp 6 0),(8,.lp 8 0),(41,vL 1 (nmsC (freeS x))),(42,vI6 ((freeS x).length:Int)),(43,vI6 j)] [(6,vZ),(8,[vI6 5,vI6 0,vS nm0,.v .nilsl,.uniq 9 1 (nmsC (lc1_f (exP x) [])),vL 7 [exL (kid x 0)],.uniq 66 8 (Bd.cs out)])] e
section
variable (x:Ex) (s:List Bd) (h1:(exK x).length=1) (hp:(exP x).length<=1000000000) (hb:szE x<=100000000) (i:Nat) (out:List Bd) (e:Ext)
include x s h1 hp hb i out e
theorem lc2_b1 (hi:i<(freeS x).length) (hN:(freeS x).length<=1000000000) (hv:(out.length<=i)) (hx0:fbO (List.getD (freeS x) i nm0) s=true) (cx:Cx) (hcx:cx.n=64) {Q:PExit->S->Prop} (hq:Q (.normal) (S.mk [(2,.v (PV.opq (scR s))),(6,.lp 6 0),(8,.lp 8 0),(41,vL 1 (nmsC (freeS x))),(42,vI6 ((freeS x).length:Int)),(43,vI6 ((i:Int)+1))] [(6,vZ),(8,[vI6 5,vI6 0,vS nm0,.v .nilsl,.uniq 9 1 (nmsC (lc1_f (exP x) [])),vL 7 [exL (kid x 0)],.uniq 66 8 (Bd.cs out++[splice (splice [.str nm0,pI 0,pI 0,.str nm0,.nilsl,.nilsl,.nilsl,.nilsl] (Field.offset (Field.mk "Name" 9 0 false "" "" 0)) [.str (List.getD (freeS x) i nm0)]) (Field.offset (Field.mk "Value" 52 1 false "" "" 16)) (vlL (fbV (List.getD (freeS x) i nm0) s))])])] e)):PW prog cx (loopF f232 1) (lc2_I x s (i:Int) out e) Q:=
 pw mdC 64 [dt ((i:Int)<((freeS x).length:Int)),am ((0:Int)<=(i:Int)/\(i:Int)<((nmsC (freeS x)).length:Int)) qZ,xNm (freeS x) i hi,cl (@cGetT (s) (List.getD (freeS x) i nm0)),bt1 hx0,am (List.length (Bd.cs out++(fun x=>Prod.snd x) (7+1,[splice (splice [.str nm0,pI 0,pI 0,.str nm0,.nilsl,.nilsl,.nilsl,.nilsl] (Field.offset (Field.mk "Name" 9 0 false "" "" 0)) [.str (List.getD (freeS x) i nm0)]) (Field.offset (Field.mk "Value" 52 1 false "" "" 16)) (vlL (fbV (List.getD (freeS x) i nm0) s))])) * (143+1)<=140737488355328) qZ,wr ((i:Int)+1)] [2,6,8,41,42,43] [6,8] hcx hq
theorem lc2_b2(hi:i<(freeS x).length)(hN:(freeS x).length<=1000000000)(hv:(out.length<=i))(hx0:fbO (List.getD (freeS x) i nm0) s=false)(cx:Cx)(hcx:cx.n=64){Q:PExit->S->Prop}(hq:Q (.normal) (S.mk [(2,.v (PV.opq (scR s))),(6,.lp 6 0),(8,.lp 8 0),(41,vL 1 (nmsC (freeS x))),(42,vI6 ((freeS x).length:Int)),(43,vI6 ((i:Int)+1))] [(6,vZ),(8,[vI6 5,vI6 0,vS nm0,.v .nilsl,.uniq 9 1 (nmsC (lc1_f (exP x) [])),vL 7 [exL (kid x 0)],.uniq 66 8 (Bd.cs out)])] e)):PW prog cx (loopF f232 1) (lc2_I x s (i:Int) out e) Q:=
 pw mdC 64 [dt ((i:Int)<((freeS x).length:Int)),am ((0:Int)<=(i:Int)/\(i:Int)<((nmsC (freeS x)).length:Int)) qZ,xNm (freeS x) i hi,cl (@cGetT (s) (List.getD (freeS x) i nm0)),bf1 hx0,wr ((i:Int)+1)] [2,6,8,41,42,43] [6,8] hcx hq
theorem lc2_z1(hi:i=(freeS x).length)(hN:(freeS x).length<=1000000000)(hv:(out.length<=i))(cx:Cx)(hcx:cx.n=64){Q:PExit->S->Prop}(hq:Q (.exit 2) (S.mk [(2,.v (PV.opq (scR s))),(6,.lp 6 0),(8,.lp 8 0),(41,vL 1 (nmsC (freeS x))),(42,vI6 ((freeS x).length:Int)),(43,vI6 (i:Int))] [(6,vZ),(8,[vI6 5,vI6 0,vS nm0,.v .nilsl,.uniq 9 1 (nmsC (lc1_f (exP x) [])),vL 7 [exL (kid x 0)],.uniq 66 8 (Bd.cs out)])] e)):PW prog cx (loopF f232 1) (lc2_I x s (i:Int) out e) Q:=
 pw mdC 64 [df ((i:Int)<((freeS x).length:Int))] [2,6,8,41,42,43] [6,8] hcx hq
end
def lc2_f(s:List Bd):List BA->(List Bd)->(List Bd)
 | [],out=>(out)
 | el::r,out=>(if fbO el s=true then lc2_f s r (out++[Bd.mk el (fbV el s)]) else lc2_f s r (out))
def lc2_q(x:Ex)(s:List Bd)(e:Ext)(p:(List Bd)):PExit × S:=(.exit 2,S.mk [(2,.v (PV.opq (scR s))),(6,.lp 6 0),(8,.lp 8 0),(41,vL 1 (nmsC (freeS x))),(42,vI6 ((freeS x).length:Int))] [(6,vZ),(8,[vI6 5,vI6 0,vS nm0,.v .nilsl,.uniq 9 1 (nmsC (lc1_f (exP x) [])),vL 7 [exL (kid x 0)],.uniq 66 8 (Bd.cs p)])] e)
theorem lc2_lp(x:Ex)(s:List Bd)(h1:(exK x).length=1)(hp:(exP x).length<=1000000000)(hb:szE x<=100000000)(e:Ext)(hN:(freeS x).length<=1000000000)(i:Nat)(out:List Bd)(hi0:i<=(freeS x).length)(hv:(out.length<=i)):(Ob.loop 64 (loopF f232 1) (lc2_I x s (i:Int) out e) (lc2_q x s e (lc2_f s (List.drop i ((freeS x)))  out)).1 (lc2_q x s e (lc2_f s (List.drop i ((freeS x)))  out)).2).ok prog:=by
 refine Ob.loop_of (P:=prog) (α:={ zz:Nat × (List Bd) // zz.1<=(freeS x).length/\(fun (i:Nat) (out:List Bd)=>(out.length<=i)) zz.1 zz.2 }) (fun zz=>lc2_I x s (zz.1.1:Int) zz.1.2 e) (fun zz=>(freeS x).length - zz.1.1) (fun zz=>(lc2_q x s e (lc2_f s (List.drop zz.1.1 ((freeS x)))  zz.1.2))) ?_ ⟨(i,out),hi0,hv⟩
 clear hi0 hv
 clear out i
 rintro ⟨⟨i,out⟩,hi,hv⟩ cx hcx
 simp only at hi hv ⊢
 rcases Nat.lt_or_ge i ((freeS x).length) with hlt | hge
 ·have hd:=drop_at0 hlt
  by_cases h0:fbO (List.getD (freeS x) i nm0) s=true
  ·have hr:(lc2_f s (List.drop i ((freeS x)))  out)=(lc2_f s (List.drop (i+1) ((freeS x)))  (out++[Bd.mk (List.getD (freeS x) i nm0) (fbV (List.getD (freeS x) i nm0) s)])):=by rw [hd,lc2_f,iP h0]
   exact lc2_b1 x s h1 hp hb i out e hlt hN hv h0 cx hcx (.inl ⟨rfl,⟨((i+1),(out++[Bd.mk (List.getD (freeS x) i nm0) (fbV (List.getD (freeS x) i nm0) s)])),by simp only; omega,(by first | assumption | omega | (simp only [List.length_append,List.length_cons,List.length_nil] at *; omega) | simp_all)⟩,by simp only; omega,⟨⟨W,W,W,W,W,W,tV⟩,⟨Ws,⟨W,W,W,W,W,W,(.inl (by first | (simp only [nmsC_snoc,Ex.cs_snoc,Vl.cs_snoc,Bd.cs_snoc,Bd.cs_snoc2]; done) | (simp only [nmsC_snoc,Ex.cs_snoc,Vl.cs_snoc,Bd.cs_snoc,Bd.cs_snoc2]; rfl))),tV⟩,tV⟩,rfl⟩,by simp only; rw [hr]⟩)
  ·have hr:(lc2_f s (List.drop i ((freeS x)))  out)=(lc2_f s (List.drop (i+1) ((freeS x)))  (out)):=by rw [hd,lc2_f,iN h0]
   exact lc2_b2 x s h1 hp hb i out e hlt hN hv (bFT h0) cx hcx (.inl ⟨rfl,⟨((i+1),(out)),by simp only; omega,(by first | assumption | omega | (simp only [List.length_append,List.length_cons,List.length_nil] at *; omega) | simp_all)⟩,by simp only; omega,xr,by simp only; rw [hr]⟩)
 ·have he:i=(freeS x).length:=by omega
  subst he
  have hr:(lc2_f s (List.drop ((freeS x).length) ((freeS x)))  out)=(out):=by rw [List.drop_length,lc2_f]
  refine lc2_z1 x s h1 hp hb ((freeS x).length) out e rfl hN hv  cx hcx (.inr ?_)
  rw [hr]
  exact ⟨by simp,rfl,xr⟩
theorem lc2(x:Ex)(s:List Bd)(h1:(exK x).length=1)(hp:(exP x).length<=1000000000)(hb:szE x<=100000000)(out:List Bd)(e:Ext)(hN:(freeS x).length<=1000000000)(hv:List.length out<=0):(Ob.loop 64 (loopF f232 1) (lc2_I x s 0 out e) (lc2_q x s e (lc2_f s ((freeS x))  out)).1 (lc2_q x s e (lc2_f s ((freeS x))  out)).2).ok prog:=by
 have:=lc2_lp x s h1 hp hb e hN 0 out (Nat.zero_le _) hv
 rw [List.drop_zero] at this
 exact this
theorem cFn(x:Ex)(s:List Bd)(h1:(exK x).length=1)(hp:(exP x).length<=1000000000)(hb:szE x<=100000000)(hf:(freeS x).length<=1000000000):Pu 232 [.agg (exL x),.xp 0 0,scQ s] (rA [pI 5,pI 0,.str nm0,.sl 7 [],.sl 1 (nmsC (lc1_f (exP x) [])),.sl 7 [exL (kid x 0)],.sl 8 (Bd.cs (lc2_f s (freeS x) []))]):=
 Ob.pur_wk (Wk.a (kr (kr (kr (kn 7 (WkL.r _)))))) (pu mdC (fun e=>[am ((0:Int)<=0/\0<((Ex.cs (exK x)).length:Int)) qZ,xEx (exK x) 0,sl (pmsC_len (exP x)),lp (S.mk [(0,.v (.agg (exL x))),(1,.v (.xp 0 0)),(2,.v (PV.opq (scR s))),(3,.lp 3 0),(6,.lp 6 0),(15,.lp 3 0),(16,.lp 3 3),(17,vL 7 (Ex.cs (exK x))),(18,.v (.ro (exL (kid x 0)) 0)),(19,.v (.agg (exL (kid x 0)))),(7,.lp 7 0),(20,.v (.agg (exL (kid x 0)))),(21,LV.full 7 [exL (kid x 0)]),(22,.v (.agg [pI 5,pI 0,.str nm0,.nilsl,.nilsl,.sl 7 [exL (kid x 0)],.nilsl])),(8,.lp 8 0),(23,.lp 3 0),(24,.lp 3 4),(25,vL 10 (pmsC (exP x))),(26,vI6 ((exP x).length:Int)),(27,vI6 0)] [(3,exV x),(6,vZ),(7,exV (kid x 0)),(8,[vI6 5,vI6 0,vS nm0,.v .nilsl,.v .nilsl,vL 7 [exL (kid x 0)],.v .nilsl])] e) (@lc1 (x) (s) h1 ([]) (e) hp qZ) ⟨⟨W,W,W,W,W,W,W,tV⟩,⟨⟨W,W,W,W,W,W,W,tV⟩,⟨W,W,W,W,W,W,W,tV⟩,⟨W,W,Wq,W,Wq,W,W,tV⟩,tV⟩,rfl⟩,cl (@sFree (x) hb),sl (nmsC_len (freeS x)),lp (S.mk [(2,.v (PV.opq (scR s))),(3,.lp 3 0),(6,.lp 6 0),(8,.lp 8 0),(25,vL 10 (pmsC (exP x))),(26,vI6 ((exP x).length:Int)),(39,.lp 3 0),(40,.v (.agg (exL x))),(41,vL 1 (nmsC (freeS x))),(42,vI6 ((freeS x).length:Int)),(43,vI6 0)] [(3,exV x),(6,vZ),(8,[vI6 5,vI6 0,vS nm0,.v .nilsl,.uniq 9 1 (nmsC (lc1_f (exP x) [])),vL 7 [exL (kid x 0)],.v .nilsl])] e) (@lc2 (x) (s) h1 hp hb ([]) (e) hf qZ) ⟨⟨W,W,W,W,W,W,tV⟩,⟨⟨W,W,W,W,W,W,W,tV⟩,⟨W,W,W,W,W,W,Wq,tV⟩,tV⟩,rfl⟩]) func232)
theorem lc1_eq:∀ (ps:List Pm) (out:List BA),lc1_f ps out=out++ps.map pmNm
 | [],out=>by simp [lc1_f]
 | p::r,out=>by simp [lc1_f,lc1_eq r]
theorem lc2_eq(s:List Bd):∀ (fs:List BA) (out:List Bd),lc2_f s fs out=out++lamB s fs
 | [],out=>by simp [lc2_f,lamB]
 | n::r,out=>by
  rw [lc2_f,lamB]
  unfold fbO fbV
  cases h:findB n s with
  | some v=>simp [lc2_eq s r]
  | none=>simp [lc2_eq s r]
theorem cFnT(x:Ex)(s:List Bd)(h1:(exK x).length=1)(hb:szE x<=100000000):Pu 232 [.agg (exL x),.xp 0 0,scQ s] (.ret (.agg (vlL (lamV freeS s x)))):=by
 have h2:=szE_eq x
 have h3:=pms_bulk (exP x)
 have h4:=freeS_len x
 have:=cFn x s h1 oM hb oM
 rw [lc1_eq,lc2_eq] at this
 simp only [List.nil_append] at this
 have e1:Ex.cs [(exK x).getD 0 default]=[exL ((exK x).getD 0 default)]:=by simp [Ex.cs_eq]
 simp only [vlL,lamV,vlO,vlN,vlNm,vlK,vlP,vlB,vlBd,e1]
 exact this
end Go.Proofs.YtgonmmckkikmaaaGreat
