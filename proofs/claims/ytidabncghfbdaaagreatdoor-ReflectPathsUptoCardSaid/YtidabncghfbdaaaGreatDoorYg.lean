/- Values of Go as plain data, an evaluator over them, and what the functions of the program return; part Yg. -/
import Derived.Test.YtidabncghfbdaaaGreatDoorYf
import Derived.Test.YtidabncghfbdaaaGreatDoorYc
import Derived.Test.YtidabncghfbdaaaGreatDoorYb
import Derived.Test.YtidabncghfbdaaaGreatDoorYd
import Derived.Test.YtidabncghfbdaaaGreatDoorYa
set_option linter.unusedSectionVars false
set_option linter.unusedSimpArgs false
set_option linter.unusedVariables false
namespace Go.Proofs.YtidabncghfbdaaaGreatDoor
open Go.Proofs.Tryz
open Go.Pv Go.Proofs.Tryz
set_option maxRecDepth 100000
theorem ctcT(l:List Al)(hN:l.length<=1000000000):Pu 156 [.sl 9 (Al.cs l),.fn (.func 157) [] []] (.ret (.bool (decide (fxE (fun w=>decide ((alNs w).length>(6:Int))) l>=0)))):=cfA l 157 [] _ (fun w _=>ct1 w) hN
def ctS_r0(u:Ex)(c:Int)(d:Int)(m:Bool)(o:Bool)(g:Int)(k:Int):Bool:=(if ((exK u).length:Int)<c then false else (if ((exK u).length:Int)>d then false else (if ((exT u).length:Int)<g then false else (if ((exT u).length:Int)>k then false else (if m=true then (if ((exP u).length:Int)<1 then false else (if ((exP u).length:Int)>6 then false else (if o=true then (if ((exA u).length:Int)<1 then false else (if ((exA u).length:Int)>8 then false else (!decide (fxE (fun w=>decide (((alNs w).length:Int)>6)) (exA u)>=0)))) else (!decide (fxE (fun w=>decide (((alNs w).length:Int)>6)) (exA u)>=0))))) else (if o=true then (if ((exA u).length:Int)<1 then false else (if ((exA u).length:Int)>8 then false else (!decide (fxE (fun w=>decide (((alNs w).length:Int)>6)) (exA u)>=0)))) else (!decide (fxE (fun w=>decide (((alNs w).length:Int)>6)) (exA u)>=0))))))))
theorem ctS(u:Ex)(a b:Bool)(c d:Int)(m o:Bool)(g k:Int)(t:Bool)(hN:(exA u).length<=1000000000):Pu 124 [.agg (exL u),.agg (shL a b c d m o g k t)] (rB (ctS_r0 u c d m o g k)):=by
 refine t0 ?_;refine tp [sl (Ex.cs_len (exK u))] ?_;by_cases h0:((exK u).length:Int)<c
 ·simp only [ctS_r0,iP h0]; exact tM mdL [rp 7 (dt1 h0),rp 15 (bt true)] func124
 ·refine tp [rp 3 (df1 h0),sl (Ex.cs_len (exK u)),rp 4 (df1 h0)] ?_;by_cases h1:((exK u).length:Int)>d
  ·simp only [ctS_r0,iN h0,iP h1]; exact tM mdL [rp 7 (dt1 h1),rp 8 (bt true)] func124
  ·refine tp [rp 3 (df1 h1),sl (Tp.cs_len (exT u)),rp 4 (df1 h1)] ?_;by_cases h2:((exT u).length:Int)<g
   ·simp only [ctS_r0,iN h0,iN h1,iP h2]; exact tM mdL [rp 7 (dt1 h2),bt true] func124
   ·refine tp [rp 3 (df1 h2),sl (Tp.cs_len (exT u)),rp 4 (df1 h2)] ?_;by_cases h3:((exT u).length:Int)>k
    ·simp only [ctS_r0,iN h0,iN h1,iN h2,iP h3]; exact tM mdL [dt1 h3] func124
    ·refine tp [df1 h3] ?_;by_cases h4:m=true
     ·refine tp [rp 3 (bt1 h4),sl (Pm.cs_len (exP u)),rp 2 (bt1 h4)] ?_;by_cases h5:((exP u).length:Int)<1
      ·simp only [ctS_r0,iN h0,iN h1,iN h2,iN h3,iP h4,iP h5]; exact tM mdL [rp 4 (dt1 h5),bt1 h4,dt1 h5,bt1 h4,rp 6 (bt true)] func124
      ·refine tp [rp 3 (df1 h5),sl (Pm.cs_len (exP u)),df1 h5,bt1 h4,df1 h5,bt1 h4] ?_;by_cases h6:((exP u).length:Int)>6
       ·simp only [ctS_r0,iN h0,iN h1,iN h2,iN h3,iP h4,iN h5,iP h6]; exact tM mdL [rp 5 (dt1 h6),bt true] func124
       ·refine tp [rp 3 (df1 h6)] ?_;by_cases h7:o=true
        ·refine tp [rp 3 (bt1 h7),sl (Al.cs_len (exA u)),rp 2 (bt1 h7)] ?_;by_cases h8:((exA u).length:Int)<1
         ·simp only [ctS_r0,iN h0,iN h1,iN h2,iN h3,iP h4,iN h5,iN h6,iP h7,iP h8]; exact tM mdL [rp 4 (dt1 h8),bt1 h7,dt1 h8,df1 h6,bt1 h7,df1 h6,bt true] func124
         ·refine tp [rp 3 (df1 h8),sl (Al.cs_len (exA u)),df1 h8,bt1 h7,df1 h8,df1 h6,bt1 h7,df1 h6] ?_;by_cases h9:((exA u).length:Int)>8
          ·simp only [ctS_r0,iN h0,iN h1,iN h2,iN h3,iP h4,iN h5,iN h6,iP h7,iN h8,iP h9]; exact tM mdL [dt1 h9] func124
          ·simp only [ctS_r0,iN h0,iN h1,iN h2,iN h3,iP h4,iN h5,iN h6,iP h7,iN h8,iN h9]; exact tM mdL [df1 h9,cl (@ctcT (exA u) hN)] func124
        ·simp only [ctS_r0,iN h0,iN h1,iN h2,iN h3,iP h4,iN h5,iN h6,iN h7]; exact tM mdL [rp 6 (bf1 (bFT h7)),df1 h6,bf1 (bFT h7),df1 h6,bf false,cl (@ctcT (exA u) hN)] func124
     ·refine tp [rp 7 (bf1 (bFT h4)),rp 3 (bf false)] ?_;by_cases h5:o=true
      ·refine tp [rp 3 (bt1 h5),sl (Al.cs_len (exA u)),rp 2 (bt1 h5)] ?_;by_cases h6:((exA u).length:Int)<1
       ·simp only [ctS_r0,iN h0,iN h1,iN h2,iN h3,iN h4,iP h5,iP h6]; exact tM mdL [rp 4 (dt1 h6),bt1 h5,dt1 h6,bf false,bt1 h5,bf false,bt true] func124
       ·refine tp [rp 3 (df1 h6),sl (Al.cs_len (exA u)),df1 h6,bt1 h5,df1 h6,bf false,bt1 h5,bf false] ?_;by_cases h7:((exA u).length:Int)>8
        ·simp only [ctS_r0,iN h0,iN h1,iN h2,iN h3,iN h4,iP h5,iN h6,iP h7]; exact tM mdL [dt1 h7] func124
        ·simp only [ctS_r0,iN h0,iN h1,iN h2,iN h3,iN h4,iP h5,iN h6,iN h7]; exact tM mdL [df1 h7,cl (@ctcT (exA u) hN)] func124
      ·simp only [ctS_r0,iN h0,iN h1,iN h2,iN h3,iN h4,iN h5]; exact tM mdL [rp 6 (bf1 (bFT h5)),bf false,bf1 (bFT h5),rp 2 (bf false),cl (@ctcT (exA u) hN)] func124
theorem nam1(w:BA):Pu 162 [.str w] (rB (erN (coreB w) != 0)):=
 pm mdL [cl (@nCoT w)] func162
theorem namT(l:List BA)(hN:l.length<=1000000000):Pu 161 [.sl 1 (nmsC l),.fn (.func 162) [] []] (.ret (.bool (decide (fxE (fun w=>erN (coreB w) != 0) l>=0)))):=cfN l 162 [] _ (fun w _=>nam1 w) hN
def altN:List Al->Nat
 | []=>0
 | a::r=>(alNs a).length+1+altN r
theorem altN_drop(l:List Al)(i:Nat)(h:i<l.length):altN (l.drop i)=(alNs (l.getD i default)).length+1+altN (l.drop (i+1)):=by
 rw [List.drop_eq_getElem_cons h,altN]; simp [List.getD,h]
theorem nm_step{u:Ex}{l:List BA}{i:Nat}(h:l.length+altN ((exA u).drop i)<=1000000000)(hi:i<(exA u).length):(l++[alC ((exA u).getD i default)]++alNs ((exA u).getD i default)).length+altN ((exA u).drop (i+1))<=1000000000:=by
 have:=altN_drop (exA u) i hi
 simp only [List.length_append,List.length_cons,List.length_nil]; omega
theorem nm_le{u:Ex}{l:List BA}{i:Nat}(h:l.length+altN ((exA u).drop i)<=1000000000)(hi:i<(exA u).length):(alNs ((exA u).getD i default)).length<=1000000000:=by
 have:=altN_drop (exA u) i hi; omega
theorem nm_p{u:Ex}{l:List BA}{i:Nat}(h:l.length+altN ((exA u).drop i)<=1000000000)(hi:i<(exA u).length):l.length+((alNs ((exA u).getD i default)).length+1)<=1000000000:=by
 have:=altN_drop (exA u) i hi; omega
theorem nm_q{u:Ex}{l:List BA}{i:Nat}(h:l.length+altN ((exA u).drop i)<=1000000000)(hi:i<(exA u).length):(nmsC l++[[PV.str (alC ((exA u).getD i default))]]++nmsC (alNs ((exA u).getD i default))).length * (15+1)<=140737488355328:=by
 have:=altN_drop (exA u) i hi
 simp only [List.length_append,List.length_cons,List.length_nil,nmsC_len]; omega
abbrev nmA_I(u:Ex)(a:Bool)(b:Bool)(c:Int)(d:Int)(m:Bool)(o:Bool)(g:Int)(k:Int)(t:Bool)(j:Int)(l:List BA)(z:Bool)(e:Ext):S:=S.mk [(4,vI6 0),(5,.uniq 9 1 (nmsC l)),(6,.v (.bool z)),(30,vL 9 (Al.cs (exA u))),(31,vI6 ((exA u).length:Int)),(32,vI6 j)] [] e
def nmA_f  : List Al->(List BA)->(Bool)->(List BA) × (Bool)
 | [],l,z=>(l,z)
 | el::r,l,z=>(if z=true then nmA_f  r (l++[alC el]++alNs el) (true) else nmA_f  r (l++[alC el]++alNs el) (!disB (alNs el)))
def nmA_q(u:Ex)(a:Bool)(b:Bool)(c:Int)(d:Int)(m:Bool)(o:Bool)(g:Int)(k:Int)(t:Bool)(e:Ext)(p:(List BA) × (Bool)):PExit × S:=(.exit 0,S.mk [(4,vI6 0),(5,.uniq 9 1 (nmsC (Prod.fst p))),(6,.v (.bool (Prod.snd p))),(30,vL 9 (Al.cs (exA u))),(31,vI6 ((exA u).length:Int))] [] e)
theorem nmA(u:Ex)(a b:Bool)(c d:Int)(m o:Bool)(g k:Int)(t:Bool)(hP:(exP u).length<=1000000000)(hP2:(bdA_f (exP u) []).length<=100000000)(hA2:(coA_f (exA u) []).length<=1000000000)(l:List BA)(z:Bool)(e:Ext)(hN:(exA u).length<=1000000000)(hv:List.length l+altN (List.drop 0 (exA u))<=1000000000):(Ob.loop 54 (loopF f125 0) (nmA_I u a b c d m o g k t 0 l z e) (nmA_q u a b c d m o g k t e (nmA_f  ((exA u))  l z)).1 (nmA_q u a b c d m o g k t e (nmA_f  ((exA u))  l z)).2).ok prog:=by
 refine rng ((exA u).length) (fun j zz=>nmA_I u a b c d m o g k t j zz.1 zz.2 e) (fun i zz=>nmA_f  (List.drop i ((exA u)))  zz.1 zz.2) (nmA_q u a b c d m o g k t e) (fun i zz=>(fun (i:Nat) (l:List BA) (z:Bool)=>(l.length+altN ((exA u).drop i)<=1000000000)) i zz.1 zz.2) kR ?_ (l,z) (by first | exact hv | omega)
 rintro i ⟨l,z⟩ hi hv
 try simp only at hv
 rcases Nat.lt_or_ge i ((exA u).length) with hlt | hge
 ·have hd:=drop_at hlt
  refine t0 ?_;refine tp [rgAl hlt,am (List.length (nmsC l++[[.str (alC (List.getD (exA u) i default))]]) * (15+1)<=140737488355328) (by (simp only [List.length_append,List.length_cons,List.length_nil,nmsC_len]; omega)),am (List.length (nmsC l++[[.str (alC (List.getD (exA u) i default))]]++(fun x=>Prod.snd x) (1,nmsC (alNs (List.getD (exA u) i default)))) * (15+1)<=140737488355328) (by (apply nm_q <;> first | assumption | omega | decide))] ?_;by_cases h0:z=true
  ·exact tS mdL [rp 4 (bt1 h0),wr ((i:Int)+1)] [4,5,6,30,31,32] [] hlt ((l++[alC (List.getD (exA u) i default)]++alNs (List.getD (exA u) i default)),(true)) (S.mk [(4,vI6 0),(5,.uniq 9 1 (nmsC l++[[PV.str (alC (List.getD (exA u) i default))]]++nmsC (alNs (List.getD (exA u) i default)))),(6,.v (.bool true)),(30,vL 9 (Al.cs (exA u))),(31,vI6 ((exA u).length:Int)),(32,vI6 ((i:Int)+1))] [] e) ⟨⟨W,(.inl (by first | (simp only [List.nil_append,nmsC_app,nmsC_snoc,Pr.cs_snoc,Tp.cs_snoc,Ex.cs_snoc,Vr.cs_snoc,Df.cs_snoc]; done) | (simp only [List.nil_append,nmsC_app,nmsC_snoc,Pr.cs_snoc,Tp.cs_snoc,Ex.cs_snoc,Vr.cs_snoc,Df.cs_snoc]; rfl))),W,W,W,W,tVv⟩,trivial,rfl⟩ (by first | assumption | omega | (apply nm_step <;> first | assumption | omega | decide) | (apply nm_le <;> first | assumption | omega | decide) | (apply nm_p <;> first | assumption | omega | decide) | (apply nm_q <;> first | assumption | omega | decide) | (simp only [List.length_append,List.length_cons,List.length_nil] at *; omega) | simp_all) (by rw [hd,nmA_f,iP h0])
  ·exact tS mdL [rp 3 (bf1 (bFT h0)),cl (@twL (alNs (List.getD (exA u) i default)) (by (apply nm_le <;> first | assumption | omega | decide))),bf1 (bFT h0),wr ((i:Int)+1)] [4,5,6,30,31,32] [] hlt ((l++[alC (List.getD (exA u) i default)]++alNs (List.getD (exA u) i default)),(!disB (alNs (List.getD (exA u) i default)))) (S.mk [(4,vI6 0),(5,.uniq 9 1 (nmsC l++[[PV.str (alC (List.getD (exA u) i default))]]++nmsC (alNs (List.getD (exA u) i default)))),(6,.v (.bool !disB (alNs (List.getD (exA u) i default)))),(30,vL 9 (Al.cs (exA u))),(31,vI6 ((exA u).length:Int)),(32,vI6 ((i:Int)+1))] [] e) ⟨⟨W,(.inl (by first | (simp only [List.nil_append,nmsC_app,nmsC_snoc,Pr.cs_snoc,Tp.cs_snoc,Ex.cs_snoc,Vr.cs_snoc,Df.cs_snoc]; done) | (simp only [List.nil_append,nmsC_app,nmsC_snoc,Pr.cs_snoc,Tp.cs_snoc,Ex.cs_snoc,Vr.cs_snoc,Df.cs_snoc]; rfl))),W,W,W,W,tVv⟩,trivial,rfl⟩ (by first | assumption | omega | (apply nm_step <;> first | assumption | omega | decide) | (apply nm_le <;> first | assumption | omega | decide) | (apply nm_p <;> first | assumption | omega | decide) | (apply nm_q <;> first | assumption | omega | decide) | (simp only [List.length_append,List.length_cons,List.length_nil] at *; omega) | simp_all) (by rw [hd,nmA_f,iN h0])
 ·have he:i=(exA u).length:=by omega
  exact lX mdL [df ((i:Int)<((exA u).length:Int))] (l,z) (by rw [he,List.drop_length,nmA_f])
theorem nmA_len:∀ (l:List Al) (x:List BA) (z:Bool),(nmA_f l x z).1.length=x.length+altN l
 | [],x,z=>by simp [nmA_f,altN]
 | w::r,x,z=>by
  have h1:∀y,(nmA_f r (x++[alC w]++alNs w) y).1.length=(x++[alC w]++alNs w).length+altN r:=fun y=>nmA_len r _ y
  simp only [nmA_f,altN]
  split <;> (rw [h1]; simp only [List.length_append,List.length_cons,List.length_nil]; omega)
theorem nm_0{u:Ex}(h:(bdA_f (exP u) []).length<=100000000)(h2:altN (exA u)<=100000000):(bdA_f (exP u) []).length+altN ((exA u).drop 0)<=1000000000:=by rw [List.drop_zero]; omega
theorem nm_1{u:Ex}(h:(bdA_f (exP u) []).length<=100000000)(h2:altN (exA u)<=100000000):(bdA_f (exP u) []++[exNm u]).length+altN ((exA u).drop 0)<=1000000000:=by rw [List.drop_zero,List.length_append,List.length_singleton]; omega
theorem nm_2{u:Ex}{z:Bool}(h:(bdA_f (exP u) []).length<=100000000)(h2:altN (exA u)<=100000000):(nmA_f (exA u) (bdA_f (exP u) []) z).1.length<=1000000000:=by rw [nmA_len]; omega
theorem nm_3{u:Ex}{z:Bool}(h:(bdA_f (exP u) []).length<=100000000)(h2:altN (exA u)<=100000000):(nmA_f (exA u) (bdA_f (exP u) []++[exNm u]) z).1.length<=1000000000:=by rw [nmA_len,List.length_append,List.length_singleton]; omega
section
variable (u:Ex) (a b:Bool) (c d:Int) (m o:Bool) (g k:Int) (t:Bool) (hP:(exP u).length<=1000000000) (hA:(exA u).length<=1000000000) (hP2:(bdA_f (exP u) []).length<=100000000) (hA2:(coA_f (exA u) []).length<=1000000000) (hA3:altN (exA u)<=100000000)
include u a b c d m o g k t hP hA hP2 hA2 hA3
theorem nam_1(hx0:b=true)(hx1:disB (bdA_f (exP u) [])=false)(hx2:fxE (fun w=>erN (coreB w) != 0) (Prod.fst (nmA_f (exA u) (bdA_f (exP u) []++[exNm u]) true))>=0):Pu 125 [.agg (exL u),.agg (shL a b c d m o g k t)] (rI 3):=
 pu mdL (fun e=>[cl (@bdL (exP u) hP),bt1 hx0,am (List.length (nmsC (bdA_f (exP u) [])++[[.str (exNm u)]]) * (15+1)<=140737488355328) (by (simp only [List.length_append,List.length_cons,List.length_nil,nmsC_len]; omega)),cl (@bdL (exP u) hP),cl (@twL (bdA_f (exP u) []) oM),rp 5 (bt1 (bnT hx1)),sl (Al.cs_len (exA u)),lp (S.mk [(4,vI6 0),(5,.uniq 9 1 (nmsC (bdA_f (exP u) [])++[[PV.str (exNm u)]])),(6,.v (.bool true)),(30,vL 9 (Al.cs (exA u))),(31,vI6 ((exA u).length:Int)),(32,vI6 0)] [] e) (@nmA u default default default default default default default default default hP hP2 hA2 (bdA_f (exP u) []++[exNm u]) true e hA (by (apply nm_1 <;> first | assumption | omega | decide))) ⟨⟨W,(by first | exact .inl rfl | exact .inr ⟨rfl,rfl⟩ | exact .inr rfl | exact .inr trivial | exact .inl (by first | (simp only [List.nil_append,nmsC_app,nmsC_snoc,Pr.cs_snoc,Tp.cs_snoc,Ex.cs_snoc,Vr.cs_snoc,Df.cs_snoc]; done) | (simp only [List.nil_append,nmsC_app,nmsC_snoc,Pr.cs_snoc,Tp.cs_snoc,Ex.cs_snoc,Vr.cs_snoc,Df.cs_snoc]; rfl))),W,W,W,W,tVv⟩,trivial,rfl⟩,cl (@namT (Prod.fst (nmA_f (exA u) (bdA_f (exP u) []++[exNm u]) true)) (by (apply nm_3 <;> first | assumption | omega | decide))),dt1 hx2]) func125
theorem nam_2(hx0:b=true)(hx1:disB (bdA_f (exP u) [])=false)(hx2:¬fxE (fun w=>erN (coreB w) != 0) (Prod.fst (nmA_f (exA u) (bdA_f (exP u) []++[exNm u]) true))>=0)(hx3:Prod.snd (nmA_f (exA u) (bdA_f (exP u) []++[exNm u]) true)=true):Pu 125 [.agg (exL u),.agg (shL a b c d m o g k t)] (rI 4):=
 pu mdL (fun e=>[cl (@bdL (exP u) hP),bt1 hx0,am (List.length (nmsC (bdA_f (exP u) [])++[[.str (exNm u)]]) * (15+1)<=140737488355328) (by (simp only [List.length_append,List.length_cons,List.length_nil,nmsC_len]; omega)),cl (@bdL (exP u) hP),cl (@twL (bdA_f (exP u) []) oM),rp 5 (bt1 (bnT hx1)),sl (Al.cs_len (exA u)),lp (S.mk [(4,vI6 0),(5,.uniq 9 1 (nmsC (bdA_f (exP u) [])++[[PV.str (exNm u)]])),(6,.v (.bool true)),(30,vL 9 (Al.cs (exA u))),(31,vI6 ((exA u).length:Int)),(32,vI6 0)] [] e) (@nmA u default default default default default default default default default hP hP2 hA2 (bdA_f (exP u) []++[exNm u]) true e hA (by (apply nm_1 <;> first | assumption | omega | decide))) ⟨⟨W,(by first | exact .inl rfl | exact .inr ⟨rfl,rfl⟩ | exact .inr rfl | exact .inr trivial | exact .inl (by first | (simp only [List.nil_append,nmsC_app,nmsC_snoc,Pr.cs_snoc,Tp.cs_snoc,Ex.cs_snoc,Vr.cs_snoc,Df.cs_snoc]; done) | (simp only [List.nil_append,nmsC_app,nmsC_snoc,Pr.cs_snoc,Tp.cs_snoc,Ex.cs_snoc,Vr.cs_snoc,Df.cs_snoc]; rfl))),W,W,W,W,tVv⟩,trivial,rfl⟩,cl (@namT (Prod.fst (nmA_f (exA u) (bdA_f (exP u) []++[exNm u]) true)) (by (apply nm_3 <;> first | assumption | omega | decide))),df1 hx2,bt1 hx3]) func125
theorem nam_3(hx0:b=true)(hx1:disB (bdA_f (exP u) [])=false)(hx2:¬fxE (fun w=>erN (coreB w) != 0) (Prod.fst (nmA_f (exA u) (bdA_f (exP u) []++[exNm u]) true))>=0)(hx3:Prod.snd (nmA_f (exA u) (bdA_f (exP u) []++[exNm u]) true)=false):Pu 125 [.agg (exL u),.agg (shL a b c d m o g k t)] (rI 0):=
 pu mdL (fun e=>[cl (@bdL (exP u) hP),bt1 hx0,am (List.length (nmsC (bdA_f (exP u) [])++[[.str (exNm u)]]) * (15+1)<=140737488355328) (by (simp only [List.length_append,List.length_cons,List.length_nil,nmsC_len]; omega)),cl (@bdL (exP u) hP),cl (@twL (bdA_f (exP u) []) oM),rp 5 (bt1 (bnT hx1)),sl (Al.cs_len (exA u)),lp (S.mk [(4,vI6 0),(5,.uniq 9 1 (nmsC (bdA_f (exP u) [])++[[PV.str (exNm u)]])),(6,.v (.bool true)),(30,vL 9 (Al.cs (exA u))),(31,vI6 ((exA u).length:Int)),(32,vI6 0)] [] e) (@nmA u default default default default default default default default default hP hP2 hA2 (bdA_f (exP u) []++[exNm u]) true e hA (by (apply nm_1 <;> first | assumption | omega | decide))) ⟨⟨W,(by first | exact .inl rfl | exact .inr ⟨rfl,rfl⟩ | exact .inr rfl | exact .inr trivial | exact .inl (by first | (simp only [List.nil_append,nmsC_app,nmsC_snoc,Pr.cs_snoc,Tp.cs_snoc,Ex.cs_snoc,Vr.cs_snoc,Df.cs_snoc]; done) | (simp only [List.nil_append,nmsC_app,nmsC_snoc,Pr.cs_snoc,Tp.cs_snoc,Ex.cs_snoc,Vr.cs_snoc,Df.cs_snoc]; rfl))),W,W,W,W,tVv⟩,trivial,rfl⟩,cl (@namT (Prod.fst (nmA_f (exA u) (bdA_f (exP u) []++[exNm u]) true)) (by (apply nm_3 <;> first | assumption | omega | decide))),df1 hx2,bf1 hx3]) func125
theorem nam_4(hx0:b=true)(hx1:disB (bdA_f (exP u) [])=true)(hx2:fxE (fun w=>erN (coreB w) != 0) (Prod.fst (nmA_f (exA u) (bdA_f (exP u) []++[exNm u]) !disB (coA_f (exA u) [])))>=0):Pu 125 [.agg (exL u),.agg (shL a b c d m o g k t)] (rI 3):=
 pu mdL (fun e=>[cl (@bdL (exP u) hP),bt1 hx0,am (List.length (nmsC (bdA_f (exP u) [])++[[.str (exNm u)]]) * (15+1)<=140737488355328) (by (simp only [List.length_append,List.length_cons,List.length_nil,nmsC_len]; omega)),cl (@bdL (exP u) hP),cl (@twL (bdA_f (exP u) []) oM),rp 3 (bf1 (bnF hx1)),cl (@coL (exA u) hA),bf1 (bnF hx1),cl (@twL (coA_f (exA u) []) hA2),bf1 (bnF hx1),sl (Al.cs_len (exA u)),lp (S.mk [(4,vI6 0),(5,.uniq 9 1 (nmsC (bdA_f (exP u) [])++[[PV.str (exNm u)]])),(6,.v (.bool !disB (coA_f (exA u) []))),(30,vL 9 (Al.cs (exA u))),(31,vI6 ((exA u).length:Int)),(32,vI6 0)] [] e) (@nmA u default default default default default default default default default hP hP2 hA2 (bdA_f (exP u) []++[exNm u]) (!disB (coA_f (exA u) [])) e hA (by (apply nm_1 <;> first | assumption | omega | decide))) ⟨⟨W,(by first | exact .inl rfl | exact .inr ⟨rfl,rfl⟩ | exact .inr rfl | exact .inr trivial | exact .inl (by first | (simp only [List.nil_append,nmsC_app,nmsC_snoc,Pr.cs_snoc,Tp.cs_snoc,Ex.cs_snoc,Vr.cs_snoc,Df.cs_snoc]; done) | (simp only [List.nil_append,nmsC_app,nmsC_snoc,Pr.cs_snoc,Tp.cs_snoc,Ex.cs_snoc,Vr.cs_snoc,Df.cs_snoc]; rfl))),W,W,W,W,tVv⟩,trivial,rfl⟩,cl (@namT (Prod.fst (nmA_f (exA u) (bdA_f (exP u) []++[exNm u]) !disB (coA_f (exA u) []))) (by (apply nm_3 <;> first | assumption | omega | decide))),dt1 hx2]) func125
theorem nam_5(hx0:b=true)(hx1:disB (bdA_f (exP u) [])=true)(hx2:¬fxE (fun w=>erN (coreB w) != 0) (Prod.fst (nmA_f (exA u) (bdA_f (exP u) []++[exNm u]) !disB (coA_f (exA u) [])))>=0)(hx3:Prod.snd (nmA_f (exA u) (bdA_f (exP u) []++[exNm u]) !disB (coA_f (exA u) []))=true):Pu 125 [.agg (exL u),.agg (shL a b c d m o g k t)] (rI 4):=
 pu mdL (fun e=>[cl (@bdL (exP u) hP),bt1 hx0,am (List.length (nmsC (bdA_f (exP u) [])++[[.str (exNm u)]]) * (15+1)<=140737488355328) (by (simp only [List.length_append,List.length_cons,List.length_nil,nmsC_len]; omega)),cl (@bdL (exP u) hP),cl (@twL (bdA_f (exP u) []) oM),rp 3 (bf1 (bnF hx1)),cl (@coL (exA u) hA),bf1 (bnF hx1),cl (@twL (coA_f (exA u) []) hA2),bf1 (bnF hx1),sl (Al.cs_len (exA u)),lp (S.mk [(4,vI6 0),(5,.uniq 9 1 (nmsC (bdA_f (exP u) [])++[[PV.str (exNm u)]])),(6,.v (.bool !disB (coA_f (exA u) []))),(30,vL 9 (Al.cs (exA u))),(31,vI6 ((exA u).length:Int)),(32,vI6 0)] [] e) (@nmA u default default default default default default default default default hP hP2 hA2 (bdA_f (exP u) []++[exNm u]) (!disB (coA_f (exA u) [])) e hA (by (apply nm_1 <;> first | assumption | omega | decide))) ⟨⟨W,(by first | exact .inl rfl | exact .inr ⟨rfl,rfl⟩ | exact .inr rfl | exact .inr trivial | exact .inl (by first | (simp only [List.nil_append,nmsC_app,nmsC_snoc,Pr.cs_snoc,Tp.cs_snoc,Ex.cs_snoc,Vr.cs_snoc,Df.cs_snoc]; done) | (simp only [List.nil_append,nmsC_app,nmsC_snoc,Pr.cs_snoc,Tp.cs_snoc,Ex.cs_snoc,Vr.cs_snoc,Df.cs_snoc]; rfl))),W,W,W,W,tVv⟩,trivial,rfl⟩,cl (@namT (Prod.fst (nmA_f (exA u) (bdA_f (exP u) []++[exNm u]) !disB (coA_f (exA u) []))) (by (apply nm_3 <;> first | assumption | omega | decide))),df1 hx2,bt1 hx3]) func125
theorem nam_6(hx0:b=true)(hx1:disB (bdA_f (exP u) [])=true)(hx2:¬fxE (fun w=>erN (coreB w) != 0) (Prod.fst (nmA_f (exA u) (bdA_f (exP u) []++[exNm u]) !disB (coA_f (exA u) [])))>=0)(hx3:Prod.snd (nmA_f (exA u) (bdA_f (exP u) []++[exNm u]) !disB (coA_f (exA u) []))=false):Pu 125 [.agg (exL u),.agg (shL a b c d m o g k t)] (rI 0):=
 pu mdL (fun e=>[cl (@bdL (exP u) hP),bt1 hx0,am (List.length (nmsC (bdA_f (exP u) [])++[[.str (exNm u)]]) * (15+1)<=140737488355328) (by (simp only [List.length_append,List.length_cons,List.length_nil,nmsC_len]; omega)),cl (@bdL (exP u) hP),cl (@twL (bdA_f (exP u) []) oM),rp 3 (bf1 (bnF hx1)),cl (@coL (exA u) hA),bf1 (bnF hx1),cl (@twL (coA_f (exA u) []) hA2),bf1 (bnF hx1),sl (Al.cs_len (exA u)),lp (S.mk [(4,vI6 0),(5,.uniq 9 1 (nmsC (bdA_f (exP u) [])++[[PV.str (exNm u)]])),(6,.v (.bool !disB (coA_f (exA u) []))),(30,vL 9 (Al.cs (exA u))),(31,vI6 ((exA u).length:Int)),(32,vI6 0)] [] e) (@nmA u default default default default default default default default default hP hP2 hA2 (bdA_f (exP u) []++[exNm u]) (!disB (coA_f (exA u) [])) e hA (by (apply nm_1 <;> first | assumption | omega | decide))) ⟨⟨W,(by first | exact .inl rfl | exact .inr ⟨rfl,rfl⟩ | exact .inr rfl | exact .inr trivial | exact .inl (by first | (simp only [List.nil_append,nmsC_app,nmsC_snoc,Pr.cs_snoc,Tp.cs_snoc,Ex.cs_snoc,Vr.cs_snoc,Df.cs_snoc]; done) | (simp only [List.nil_append,nmsC_app,nmsC_snoc,Pr.cs_snoc,Tp.cs_snoc,Ex.cs_snoc,Vr.cs_snoc,Df.cs_snoc]; rfl))),W,W,W,W,tVv⟩,trivial,rfl⟩,cl (@namT (Prod.fst (nmA_f (exA u) (bdA_f (exP u) []++[exNm u]) !disB (coA_f (exA u) []))) (by (apply nm_3 <;> first | assumption | omega | decide))),df1 hx2,bf1 hx3]) func125
theorem nam_7(hx0:b=false)(hx1:disB (bdA_f (exP u) [])=false)(hx2:fxE (fun w=>erN (coreB w) != 0) (Prod.fst (nmA_f (exA u) (bdA_f (exP u) []) true))>=0):Pu 125 [.agg (exL u),.agg (shL a b c d m o g k t)] (rI 3):=
 pu mdL (fun e=>[cl (@bdL (exP u) hP),bf1 hx0,cl (@bdL (exP u) hP),cl (@twL (bdA_f (exP u) []) oM),rp 5 (bt1 (bnT hx1)),sl (Al.cs_len (exA u)),lq (@nmA u default default default default default default default default default hP hP2 hA2 (bdA_f (exP u) []) true e hA (by (apply nm_0 <;> first | assumption | omega | decide))),cl (@namT (Prod.fst (nmA_f (exA u) (bdA_f (exP u) []) true)) (by (apply nm_2 <;> first | assumption | omega | decide))),dt1 hx2]) func125
theorem nam_8(hx0:b=false)(hx1:disB (bdA_f (exP u) [])=false)(hx2:¬fxE (fun w=>erN (coreB w) != 0) (Prod.fst (nmA_f (exA u) (bdA_f (exP u) []) true))>=0)(hx3:Prod.snd (nmA_f (exA u) (bdA_f (exP u) []) true)=true):Pu 125 [.agg (exL u),.agg (shL a b c d m o g k t)] (rI 4):=
 pu mdL (fun e=>[cl (@bdL (exP u) hP),bf1 hx0,cl (@bdL (exP u) hP),cl (@twL (bdA_f (exP u) []) oM),rp 5 (bt1 (bnT hx1)),sl (Al.cs_len (exA u)),lq (@nmA u default default default default default default default default default hP hP2 hA2 (bdA_f (exP u) []) true e hA (by (apply nm_0 <;> first | assumption | omega | decide))),cl (@namT (Prod.fst (nmA_f (exA u) (bdA_f (exP u) []) true)) (by (apply nm_2 <;> first | assumption | omega | decide))),df1 hx2,bt1 hx3]) func125
theorem nam_9(hx0:b=false)(hx1:disB (bdA_f (exP u) [])=false)(hx2:¬fxE (fun w=>erN (coreB w) != 0) (Prod.fst (nmA_f (exA u) (bdA_f (exP u) []) true))>=0)(hx3:Prod.snd (nmA_f (exA u) (bdA_f (exP u) []) true)=false):Pu 125 [.agg (exL u),.agg (shL a b c d m o g k t)] (rI 0):=
 pu mdL (fun e=>[cl (@bdL (exP u) hP),bf1 hx0,cl (@bdL (exP u) hP),cl (@twL (bdA_f (exP u) []) oM),rp 5 (bt1 (bnT hx1)),sl (Al.cs_len (exA u)),lq (@nmA u default default default default default default default default default hP hP2 hA2 (bdA_f (exP u) []) true e hA (by (apply nm_0 <;> first | assumption | omega | decide))),cl (@namT (Prod.fst (nmA_f (exA u) (bdA_f (exP u) []) true)) (by (apply nm_2 <;> first | assumption | omega | decide))),df1 hx2,bf1 hx3]) func125
theorem nam_10(hx0:b=false)(hx1:disB (bdA_f (exP u) [])=true)(hx2:fxE (fun w=>erN (coreB w) != 0) (Prod.fst (nmA_f (exA u) (bdA_f (exP u) []) !disB (coA_f (exA u) [])))>=0):Pu 125 [.agg (exL u),.agg (shL a b c d m o g k t)] (rI 3):=
 pu mdL (fun e=>[cl (@bdL (exP u) hP),bf1 hx0,cl (@bdL (exP u) hP),cl (@twL (bdA_f (exP u) []) oM),rp 3 (bf1 (bnF hx1)),cl (@coL (exA u) hA),bf1 (bnF hx1),cl (@twL (coA_f (exA u) []) hA2),bf1 (bnF hx1),sl (Al.cs_len (exA u)),lq (@nmA u default default default default default default default default default hP hP2 hA2 (bdA_f (exP u) []) (!disB (coA_f (exA u) [])) e hA (by (apply nm_0 <;> first | assumption | omega | decide))),cl (@namT (Prod.fst (nmA_f (exA u) (bdA_f (exP u) []) !disB (coA_f (exA u) []))) (by (apply nm_2 <;> first | assumption | omega | decide))),dt1 hx2]) func125
theorem nam_11(hx0:b=false)(hx1:disB (bdA_f (exP u) [])=true)(hx2:¬fxE (fun w=>erN (coreB w) != 0) (Prod.fst (nmA_f (exA u) (bdA_f (exP u) []) !disB (coA_f (exA u) [])))>=0)(hx3:Prod.snd (nmA_f (exA u) (bdA_f (exP u) []) !disB (coA_f (exA u) []))=true):Pu 125 [.agg (exL u),.agg (shL a b c d m o g k t)] (rI 4):=
 pu mdL (fun e=>[cl (@bdL (exP u) hP),bf1 hx0,cl (@bdL (exP u) hP),cl (@twL (bdA_f (exP u) []) oM),rp 3 (bf1 (bnF hx1)),cl (@coL (exA u) hA),bf1 (bnF hx1),cl (@twL (coA_f (exA u) []) hA2),bf1 (bnF hx1),sl (Al.cs_len (exA u)),lq (@nmA u default default default default default default default default default hP hP2 hA2 (bdA_f (exP u) []) (!disB (coA_f (exA u) [])) e hA (by (apply nm_0 <;> first | assumption | omega | decide))),cl (@namT (Prod.fst (nmA_f (exA u) (bdA_f (exP u) []) !disB (coA_f (exA u) []))) (by (apply nm_2 <;> first | assumption | omega | decide))),df1 hx2,bt1 hx3]) func125
theorem nam_12(hx0:b=false)(hx1:disB (bdA_f (exP u) [])=true)(hx2:¬fxE (fun w=>erN (coreB w) != 0) (Prod.fst (nmA_f (exA u) (bdA_f (exP u) []) !disB (coA_f (exA u) [])))>=0)(hx3:Prod.snd (nmA_f (exA u) (bdA_f (exP u) []) !disB (coA_f (exA u) []))=false):Pu 125 [.agg (exL u),.agg (shL a b c d m o g k t)] (rI 0):=
 pu mdL (fun e=>[cl (@bdL (exP u) hP),bf1 hx0,cl (@bdL (exP u) hP),cl (@twL (bdA_f (exP u) []) oM),rp 3 (bf1 (bnF hx1)),cl (@coL (exA u) hA),bf1 (bnF hx1),cl (@twL (coA_f (exA u) []) hA2),bf1 (bnF hx1),sl (Al.cs_len (exA u)),lq (@nmA u default default default default default default default default default hP hP2 hA2 (bdA_f (exP u) []) (!disB (coA_f (exA u) [])) e hA (by (apply nm_0 <;> first | assumption | omega | decide))),cl (@namT (Prod.fst (nmA_f (exA u) (bdA_f (exP u) []) !disB (coA_f (exA u) []))) (by (apply nm_2 <;> first | assumption | omega | decide))),df1 hx2,bf1 hx3]) func125
end
def nam_r0(u:Ex)(b:Bool):Int:=(if b=true then (if disB (bdA_f (exP u) [])=false then (if fxE (fun w=>erN (coreB w) != 0) (Prod.fst (nmA_f (exA u) (bdA_f (exP u) []++[exNm u]) true))>=0 then 3 else (if Prod.snd (nmA_f (exA u) (bdA_f (exP u) []++[exNm u]) true)=true then 4 else 0)) else (if fxE (fun w=>erN (coreB w) != 0) (Prod.fst (nmA_f (exA u) (bdA_f (exP u) []++[exNm u]) !disB (coA_f (exA u) [])))>=0 then 3 else (if Prod.snd (nmA_f (exA u) (bdA_f (exP u) []++[exNm u]) !disB (coA_f (exA u) []))=true then 4 else 0))) else (if disB (bdA_f (exP u) [])=false then (if fxE (fun w=>erN (coreB w) != 0) (Prod.fst (nmA_f (exA u) (bdA_f (exP u) []) true))>=0 then 3 else (if Prod.snd (nmA_f (exA u) (bdA_f (exP u) []) true)=true then 4 else 0)) else (if fxE (fun w=>erN (coreB w) != 0) (Prod.fst (nmA_f (exA u) (bdA_f (exP u) []) !disB (coA_f (exA u) [])))>=0 then 3 else (if Prod.snd (nmA_f (exA u) (bdA_f (exP u) []) !disB (coA_f (exA u) []))=true then 4 else 0))))
theorem nam(u:Ex)(a b:Bool)(c d:Int)(m o:Bool)(g k:Int)(t:Bool)(hP:(exP u).length<=1000000000)(hA:(exA u).length<=1000000000)(hP2:(bdA_f (exP u) []).length<=100000000)(hA2:(coA_f (exA u) []).length<=1000000000)(hA3:altN (exA u)<=100000000):Pu 125 [.agg (exL u),.agg (shL a b c d m o g k t)] (rI (nam_r0 u b)):=by
 by_cases h0:b=true
 ·by_cases h1:disB (bdA_f (exP u) [])=false
  ·by_cases h2:fxE (fun w=>erN (coreB w) != 0) (Prod.fst (nmA_f (exA u) (bdA_f (exP u) []++[exNm u]) true))>=0
   ·simp only [nam_r0,iP h0,iP h1,iP h2]; exact nam_1 u a b c d m o g k t hP hA hP2 hA2 hA3 h0 h1 h2
   ·by_cases h3:Prod.snd (nmA_f (exA u) (bdA_f (exP u) []++[exNm u]) true)=true
    ·simp only [nam_r0,iP h0,iP h1,iN h2,iP h3]; exact nam_2 u a b c d m o g k t hP hA hP2 hA2 hA3 h0 h1 h2 h3
    ·simp only [nam_r0,iP h0,iP h1,iN h2,iN h3]; exact nam_3 u a b c d m o g k t hP hA hP2 hA2 hA3 h0 h1 h2 (bFT h3)
  ·by_cases h2:fxE (fun w=>erN (coreB w) != 0) (Prod.fst (nmA_f (exA u) (bdA_f (exP u) []++[exNm u]) !disB (coA_f (exA u) [])))>=0
   ·simp only [nam_r0,iP h0,iN h1,iP h2]; exact nam_4 u a b c d m o g k t hP hA hP2 hA2 hA3 h0 (bTF h1) h2
   ·by_cases h3:Prod.snd (nmA_f (exA u) (bdA_f (exP u) []++[exNm u]) !disB (coA_f (exA u) []))=true
    ·simp only [nam_r0,iP h0,iN h1,iN h2,iP h3]; exact nam_5 u a b c d m o g k t hP hA hP2 hA2 hA3 h0 (bTF h1) h2 h3
    ·simp only [nam_r0,iP h0,iN h1,iN h2,iN h3]; exact nam_6 u a b c d m o g k t hP hA hP2 hA2 hA3 h0 (bTF h1) h2 (bFT h3)
 ·by_cases h1:disB (bdA_f (exP u) [])=false
  ·by_cases h2:fxE (fun w=>erN (coreB w) != 0) (Prod.fst (nmA_f (exA u) (bdA_f (exP u) []) true))>=0
   ·simp only [nam_r0,iN h0,iP h1,iP h2]; exact nam_7 u a b c d m o g k t hP hA hP2 hA2 hA3 (bFT h0) h1 h2
   ·by_cases h3:Prod.snd (nmA_f (exA u) (bdA_f (exP u) []) true)=true
    ·simp only [nam_r0,iN h0,iP h1,iN h2,iP h3]; exact nam_8 u a b c d m o g k t hP hA hP2 hA2 hA3 (bFT h0) h1 h2 h3
    ·simp only [nam_r0,iN h0,iP h1,iN h2,iN h3]; exact nam_9 u a b c d m o g k t hP hA hP2 hA2 hA3 (bFT h0) h1 h2 (bFT h3)
  ·by_cases h2:fxE (fun w=>erN (coreB w) != 0) (Prod.fst (nmA_f (exA u) (bdA_f (exP u) []) !disB (coA_f (exA u) [])))>=0
   ·simp only [nam_r0,iN h0,iN h1,iP h2]; exact nam_10 u a b c d m o g k t hP hA hP2 hA2 hA3 (bFT h0) (bTF h1) h2
   ·by_cases h3:Prod.snd (nmA_f (exA u) (bdA_f (exP u) []) !disB (coA_f (exA u) []))=true
    ·simp only [nam_r0,iN h0,iN h1,iN h2,iP h3]; exact nam_11 u a b c d m o g k t hP hA hP2 hA2 hA3 (bFT h0) (bTF h1) h2 h3
    ·simp only [nam_r0,iN h0,iN h1,iN h2,iN h3]; exact nam_12 u a b c d m o g k t hP hA hP2 hA2 hA3 (bFT h0) (bTF h1) h2 (bFT h3)
def nilB{α:Type}(l:List α):Bool:=decide ((l.length:Int)=0)
theorem qzN_1(l:List BA)(hx0:¬(l.length:Int)=(0:Int)):Pu 188 [.sl 1 (nmsC l),.nilsl] (rB false):=
 pm mdL [sl (nmsC_len l),kp,nt1 hx0] func188
theorem qzN_2(l:List BA)(hx0:(l.length:Int)=(0:Int)):Pu 188 [.sl 1 (nmsC l),.nilsl] (rB true):=
 pm mdL [sl (nmsC_len l),kp,nn1 hx0,sl (nmsC_len l),ur,df (0<(l.length:Int))] func188
theorem qzNT(l:List BA):Pu 188 [.sl 1 (nmsC l),.nilsl] (.ret (.bool (nilB l))):=by
 unfold nilB
 by_cases h:(l.length:Int)=0
 ·rw [decide_eq_true h]; first | exact qzN_2 l h | exact qzN_1 l h
 ·rw [decide_eq_false h]; first | exact qzN_1 l h | exact qzN_2 l h
theorem qzP_1(l:List Pr)(hx0:¬(l.length:Int)=(0:Int)):Pu 189 [.sl 4 (Pr.cs l),.nilsl,.fn (.func 30) [] []] (rB false):=
 pm mdL [sl (Pr.cs_len l),kp,nt1 hx0] func189
theorem qzP_2(l:List Pr)(hx0:(l.length:Int)=(0:Int)):Pu 189 [.sl 4 (Pr.cs l),.nilsl,.fn (.func 30) [] []] (rB true):=
 pm mdL [sl (Pr.cs_len l),kp,nn1 hx0,sl (Pr.cs_len l),ur,df (0<(l.length:Int))] func189
theorem qzPT(l:List Pr):Pu 189 [.sl 4 (Pr.cs l),.nilsl,.fn (.func 30) [] []] (.ret (.bool (nilB l))):=by
 unfold nilB
 by_cases h:(l.length:Int)=0
 ·rw [decide_eq_true h]; first | exact qzP_2 l h | exact qzP_1 l h
 ·rw [decide_eq_false h]; first | exact qzP_1 l h | exact qzP_2 l h
theorem qzT_1(l:List Tp)(hx0:¬(l.length:Int)=(0:Int)):Pu 190 [.sl 9 (Tp.cs l),.nilsl,.fn (.func 165) [] []] (rB false):=
 pm mdL [sl (Tp.cs_len l),kp,nt1 hx0] func190
theorem qzT_2(l:List Tp)(hx0:(l.length:Int)=(0:Int)):Pu 190 [.sl 9 (Tp.cs l),.nilsl,.fn (.func 165) [] []] (rB true):=
 pm mdL [sl (Tp.cs_len l),kp,nn1 hx0,sl (Tp.cs_len l),ur,df (0<(l.length:Int))] func190
theorem qzTT(l:List Tp):Pu 190 [.sl 9 (Tp.cs l),.nilsl,.fn (.func 165) [] []] (.ret (.bool (nilB l))):=by
 unfold nilB
 by_cases h:(l.length:Int)=0
 ·rw [decide_eq_true h]; first | exact qzT_2 l h | exact qzT_1 l h
 ·rw [decide_eq_false h]; first | exact qzT_1 l h | exact qzT_2 l h
def tyZ_r0(u:Tp):Bool:=(if tpO u=0 then (if tpNm u=nm0 then (if nilB (tpNs u)=true then (if psz_r0 (tpP u)=true then (if nilB (tpPs u)=true then (nilB (tpA u)) else false) else false) else false) else false) else false)
theorem tyZ(u:Tp):Pu 165 [.agg (tpL u),.agg [pI 0,.str nm0,.nilsl,.nilsl,pI 0,.str nm0,pI 0,.nilsl,.nilsl]] (rB (tyZ_r0 u)):=by
 refine t0 ?_;by_cases h0:tpO u=0
 ·refine tp [rp 6 (et1 h0)] ?_;by_cases h1:tpNm u=nm0
  ·refine tp [rp 5 (bt (ByteArray.toList (tpNm u)==ByteArray.toList nm0) (bsT h1)),cl (@qzNT (tpNs u)),bt (ByteArray.toList (tpNm u)==ByteArray.toList nm0) (bsT h1)] ?_;by_cases h2:nilB (tpNs u)=true
   ·refine tp [rp 5 (bt1 h2),cl (@psz (tpP u)),bt1 h2] ?_;by_cases h3:psz_r0 (tpP u)=true
    ·refine tp [rp 5 (bt1 h3),cl (@qzPT (tpPs u)),bt1 h3] ?_;by_cases h4:nilB (tpPs u)=true
     ·simp only [tyZ_r0,iP h0,iP h1,iP h2,iP h3,iP h4]; exact tM mdL [rp 5 (bt1 h4),cl (@qzTT (tpA u)),bt1 h4] func165
     ·simp only [tyZ_r0,iP h0,iP h1,iP h2,iP h3,iN h4]; exact tM mdL [rp 6 (bf1 (bFT h4))] func165
    ·simp only [tyZ_r0,iP h0,iP h1,iP h2,iN h3]; exact tM mdL [rp 6 (bf1 (bFT h3)),rp 6 (bf false)] func165
   ·simp only [tyZ_r0,iP h0,iP h1,iN h2]; exact tM mdL [rp 6 (bf1 (bFT h2)),rp 12 (bf false)] func165
  ·simp only [tyZ_r0,iP h0,iN h1]; exact tM mdL [rp 6 (bf (ByteArray.toList (tpNm u)==ByteArray.toList nm0) (bsF h1)),rp 18 (bf false)] func165
 ·simp only [tyZ_r0,iN h0]; exact tM mdL [rp 6 (en1 h0),rp 24 (bf false)] func165
theorem nnT(u:Tp):Pu 127 [.agg (tpL u)] (rB (tyZ_r0 u)):=
 pm mdL [cl (@tyZ u)] func127
theorem ex_bulk(x:Ex):bulkPss (Ex.cs (exK x))+bulkPss (Pm.cs (exP x))+bulkPss (Al.cs (exA x))+bulkPss (Tp.cs (exT x))<bulkPs (exL x):=by simp only [bulkPs,bulkP]; omega
theorem al_bulk(a:Al):bulkPs (exL (alB a))<bulkPs (alL a):=by simp only [bulkPs,bulkP]; omega
theorem pm_bulk(a:Pm):bulkPs (tpL (pmT a))<bulkPs (pmL a):=by simp only [bulkPs,bulkP]; omega
def wkS{α:Type}(f:α->Int->Bool × Int):List α->Int->Bool × Int
 | [],n=>(true,n)
 | x::r,n=>if (f x n).1=true then wkS f r (f x n).2 else (false,(f x n).2)
abbrev wkK_I(u:Ex)(g:Nat)(caps:List PV)(X:Int->Ext)(v:Ex->Int->Bool × Int)(f:Ex->Int->Bool × Int)(n0:Int)(j:Int)(n:Int)  : S:=S.mk [(1,.v (.fn (.func g) [] caps)),(2,.lp 2 0),(4,.v (.bool false)),(14,vL 7 (Ex.cs (exK u))),(15,vI6 ((exK u).length:Int)),(16,vI6 j)] [(2,exV u)] (X n)
inductive wkK_R where
 | e0 (el:Ex) (n:Int)
 | e1 (n:Int)
def wkK_f(f:Ex->Int->Bool × Int):List Ex->(Int)->wkK_R
 | [],n=>(wkK_R.e1 n)
 | el::r,n=>(if Prod.fst (f el n)=false then (wkK_R.e0 el n) else wkK_f f r (Prod.snd (f el n)))
noncomputable def wkK_q (u:Ex) (g:Nat) (caps:List PV) (X:Int->Ext) (v:Ex->Int->Bool × Int) (f:Ex->Int->Bool × Int) (n0:Int)  : wkK_R->PExit × S
 | .e0 el n=>(.ret,S.mk [(1,.v (.fn (.func g) [] caps)),(2,.lp 2 0),(4,.v (.bool false)),(14,vL 7 (Ex.cs (exK u))),(15,vI6 ((exK u).length:Int))] [(2,exV u)] (X (Prod.snd (f el n))))
 | .e1 n=>(.exit 0,S.mk [(1,.v (.fn (.func g) [] caps)),(2,.lp 2 0),(4,.v (.bool false)),(14,vL 7 (Ex.cs (exK u))),(15,vI6 ((exK u).length:Int))] [(2,exV u)] (X n))
theorem wkK_lp(u:Ex)(g:Nat)(caps:List PV)(X:Int->Ext)(v:Ex->Int->Bool × Int)(f:Ex->Int->Bool × Int)(hvs:∀ (n:Int),Ef g (.agg (exL u)::caps) (X n) (.ret (.bool (v u n).1)) (X (v u n).2))(hks:∀ (w:Ex) (n:Int),w∈exK u->Ef 82 [.agg (exL w),.fn (.func g) [] caps] (X n) (.ret (.bool (f w n).1)) (X (f w n).2))(n0:Int)(hN:(exK u).length<=1000000000)(n:Int):(Ob.loop 38 (loopF f82 0) (wkK_I u g caps X v f n0 0 n) (wkK_q u g caps X v f n0  (wkK_f f ((exK u))  n)).1 (wkK_q u g caps X v f n0  (wkK_f f ((exK u))  n)).2).ok prog:=by
 refine rng ((exK u).length) (fun j n=>wkK_I u g caps X v f n0 j n) (fun i n=>wkK_f f (List.drop i ((exK u)))  n) (wkK_q u g caps X v f n0) (fun i n=>True) kR ?_ n trivial
 rintro i n hi -
 rcases Nat.lt_or_ge i ((exK u).length) with hlt | hge
 ·have hd:=drop_at hlt
  refine t0 ?_;refine tp [rgEx hlt,ce (@hks (List.getD (exK u) i default) n (by simp_all [tn1]))] ?_;by_cases h0:Prod.fst (f (List.getD (exK u) i default) n)=false
  ·exact tX mdL [bt1 (bnT h0)] (wkK_R.e0 (List.getD ((exK u)) i default) n) (by rw [hd,wkK_f,iP h0])
  ·exact tS mdL [bf1 (bnF (bTF h0)),wr ((i:Int)+1)] [1,2,4,14,15,16] [2] hlt (Prod.snd (f (List.getD (exK u) i default) n)) (S.mk [(1,.v (.fn (.func g) [] caps)),(2,.lp 2 0),(4,.v (.bool false)),(14,vL 7 (Ex.cs (exK u))),(15,vI6 ((exK u).length:Int)),(16,vI6 ((i:Int)+1))] [(2,exV u)] (X (Prod.snd (f (List.getD (exK u) i default) n)))) ⟨⟨W,W,W,W,W,W,tVv⟩,⟨Ws,tVv⟩,(by first | rfl | (simp only [List.nil_append,nmsC_app,nmsC_snoc,Pr.cs_snoc,Tp.cs_snoc,Ex.cs_snoc,Vr.cs_snoc,Df.cs_snoc]; done) | (simp only [List.nil_append,nmsC_app,nmsC_snoc,Pr.cs_snoc,Tp.cs_snoc,Ex.cs_snoc,Vr.cs_snoc,Df.cs_snoc]; rfl))⟩ trivial (by rw [hd,wkK_f,iN h0])
 ·have he:i=(exK u).length:=by omega
  exact lX mdL [df ((i:Int)<((exK u).length:Int))] (wkK_R.e1 n) (by rw [he,List.drop_length,wkK_f])
abbrev wkA_I(u:Ex)(g:Nat)(caps:List PV)(X:Int->Ext)(v:Ex->Int->Bool × Int)(f:Ex->Int->Bool × Int)(n0:Int)(j:Int)(n:Int)  : S:=S.mk [(1,.v (.fn (.func g) [] caps)),(4,.v (.bool false)),(26,vL 9 (Al.cs (exA u))),(27,vI6 ((exA u).length:Int)),(28,vI6 j)] [] (X n)
inductive wkA_R where
 | e0 (el:Al) (n:Int)
 | e1 (n:Int)
def wkA_f(f:Ex->Int->Bool × Int):List Al->(Int)->wkA_R
 | [],n=>(wkA_R.e1 n)
 | el::r,n=>(if Prod.fst (f (alB el) n)=false then (wkA_R.e0 el n) else wkA_f f r (Prod.snd (f (alB el) n)))
noncomputable def wkA_q (u:Ex) (g:Nat) (caps:List PV) (X:Int->Ext) (v:Ex->Int->Bool × Int) (f:Ex->Int->Bool × Int) (n0:Int)  : wkA_R->PExit × S
 | .e0 el n=>(.ret,S.mk [(1,.v (.fn (.func g) [] caps)),(4,.v (.bool false)),(26,vL 9 (Al.cs (exA u))),(27,vI6 ((exA u).length:Int))] [] (X (Prod.snd (f (alB el) n))))
 | .e1 n=>(.exit 2,S.mk [(1,.v (.fn (.func g) [] caps)),(4,.v (.bool false)),(26,vL 9 (Al.cs (exA u))),(27,vI6 ((exA u).length:Int))] [] (X n))
theorem wkA_lp(u:Ex)(g:Nat)(caps:List PV)(X:Int->Ext)(v:Ex->Int->Bool × Int)(f:Ex->Int->Bool × Int)(hvs:∀ (n:Int),Ef g (.agg (exL u)::caps) (X n) (.ret (.bool (v u n).1)) (X (v u n).2))(hks:∀ (w:Ex) (n:Int),w∈exK u->Ef 82 [.agg (exL w),.fn (.func g) [] caps] (X n) (.ret (.bool (f w n).1)) (X (f w n).2))(has:∀ (w:Al) (n:Int),w∈exA u->Ef 82 [.agg (exL (alB w)),.fn (.func g) [] caps] (X n) (.ret (.bool (f (alB w) n).1)) (X (f (alB w) n).2))(hNK:(exK u).length<=1000000000)(n0:Int)(hN:(exA u).length<=1000000000)(n:Int):(Ob.loop 38 (loopF f82 1) (wkA_I u g caps X v f n0 0 n) (wkA_q u g caps X v f n0  (wkA_f f ((exA u))  n)).1 (wkA_q u g caps X v f n0  (wkA_f f ((exA u))  n)).2).ok prog:=by
 refine rng ((exA u).length) (fun j n=>wkA_I u g caps X v f n0 j n) (fun i n=>wkA_f f (List.drop i ((exA u)))  n) (wkA_q u g caps X v f n0) (fun i n=>True) kR ?_ n trivial
 rintro i n hi -
 rcases Nat.lt_or_ge i ((exA u).length) with hlt | hge
 ·have hd:=drop_at hlt
  refine t0 ?_;refine tp [rgAl hlt,ce (@has (List.getD (exA u) i default) n (by simp_all [tn1]))] ?_;by_cases h0:Prod.fst (f (alB (List.getD (exA u) i default)) n)=false
  ·exact tX mdL [bt1 (bnT h0)] (wkA_R.e0 (List.getD ((exA u)) i default) n) (by rw [hd,wkA_f,iP h0])
  ·exact tS mdL [bf1 (bnF (bTF h0)),wr ((i:Int)+1)] [1,4,26,27,28] [] hlt (Prod.snd (f (alB (List.getD (exA u) i default)) n)) (S.mk [(1,.v (.fn (.func g) [] caps)),(4,.v (.bool false)),(26,vL 9 (Al.cs (exA u))),(27,vI6 ((exA u).length:Int)),(28,vI6 ((i:Int)+1))] [] (X (Prod.snd (f (alB (List.getD (exA u) i default)) n)))) ⟨⟨W,W,W,W,W,tVv⟩,trivial,(by first | rfl | (simp only [List.nil_append,nmsC_app,nmsC_snoc,Pr.cs_snoc,Tp.cs_snoc,Ex.cs_snoc,Vr.cs_snoc,Df.cs_snoc]; done) | (simp only [List.nil_append,nmsC_app,nmsC_snoc,Pr.cs_snoc,Tp.cs_snoc,Ex.cs_snoc,Vr.cs_snoc,Df.cs_snoc]; rfl))⟩ trivial (by rw [hd,wkA_f,iN h0])
 ·have he:i=(exA u).length:=by omega
  exact lX mdL [df ((i:Int)<((exA u).length:Int))] (wkA_R.e1 n) (by rw [he,List.drop_length,wkA_f])
theorem wkL_1(u:Ex)(g:Nat)(caps:List PV)(X:Int->Ext)(v:Ex->Int->Bool × Int)(f:Ex->Int->Bool × Int)(hvs:∀ (n:Int),Ef g (.agg (exL u)::caps) (X n) (.ret (.bool (v u n).1)) (X (v u n).2))(hks:∀ (w:Ex) (n:Int),w∈exK u->Ef 82 [.agg (exL w),.fn (.func g) [] caps] (X n) (.ret (.bool (f w n).1)) (X (f w n).2))(has:∀ (w:Al) (n:Int),w∈exA u->Ef 82 [.agg (exL (alB w)),.fn (.func g) [] caps] (X n) (.ret (.bool (f (alB w) n).1)) (X (f (alB w) n).2))(hNK:(exK u).length<=1000000000)(hNA:(exA u).length<=1000000000)(n0:Int)(hx0:Prod.fst (v u n0)=false):Ef 82 [.agg (exL u),.fn (.func g) [] caps] (X n0) (rB false) (X (Prod.snd (v u n0))):=
 ef mdL [ce (@hvs n0),bt1 (bnT hx0)] func82
theorem wkK_x(f:Ex->Int->Bool × Int):∀ (l:List Ex) (n:Int),(∃m,wkK_f f l n = .e1 m/\wkS f l n=(true,m))∨(∃w m,wkK_f f l n = .e0 w m/\wkS f l n=(false,(f w m).2))
 | [],n => .inl ⟨n,rfl,rfl⟩
 | x::r,n=>by
  by_cases h:(f x n).1=true
  ·rcases wkK_x f r (f x n).2 with ⟨m,h1,h2⟩ | ⟨w,m,h1,h2⟩
   ·exact .inl ⟨m,by simp only [wkK_f]; rw [iN (by rw [h]; decide)]; exact h1,by simp only [wkS,iP h]; exact h2⟩
   ·exact .inr ⟨w,m,by simp only [wkK_f]; rw [iN (by rw [h]; decide)]; exact h1,by simp only [wkS,iP h]; exact h2⟩
  ·refine .inr ⟨x,n,?_,by simp only [wkS,iN h]⟩
   simp only [wkK_f]; rw [iP (by simpa using h)]
theorem wkA_x(f:Ex->Int->Bool × Int):∀ (l:List Al) (n:Int),(∃m,wkA_f f l n = .e1 m/\wkS (fun a=>f (alB a)) l n=(true,m))∨(∃w m,wkA_f f l n = .e0 w m/\wkS (fun a=>f (alB a)) l n=(false,(f (alB w) m).2))
 | [],n => .inl ⟨n,rfl,rfl⟩
 | x::r,n=>by
  by_cases h:(f (alB x) n).1=true
  ·rcases wkA_x f r (f (alB x) n).2 with ⟨m,h1,h2⟩ | ⟨w,m,h1,h2⟩
   ·exact .inl ⟨m,by simp only [wkA_f]; rw [iN (by rw [h]; decide)]; exact h1,by simp only [wkS,iP h]; exact h2⟩
   ·exact .inr ⟨w,m,by simp only [wkA_f]; rw [iN (by rw [h]; decide)]; exact h1,by simp only [wkS,iP h]; exact h2⟩
  ·refine .inr ⟨x,n,?_,by simp only [wkS,iN h]⟩
   simp only [wkA_f]; rw [iP (by simpa using h)]
def wkB(v f:Ex->Int->Bool × Int)(u:Ex)(n:Int):Bool × Int:=
 if (v u n).1=true then (if (wkS f (exK u) (v u n).2).1=true then wkS (fun a=>f (alB a)) (exA u) (wkS f (exK u) (v u n).2).2 else wkS f (exK u) (v u n).2) else v u n
def wkD(v:Ex->Int->Bool × Int):Nat->Ex->Int->Bool × Int
 | 0,_,n=>(true,n)
 | d+1,u,n=>wkB v (wkD v d) u n
theorem wk_one(u:Ex)(g:Nat)(caps:List PV)(X:Int->Ext)(v:Ex->Int->Bool × Int)(f:Ex->Int->Bool × Int)(hvs:∀ (n:Int),Ef g (.agg (exL u)::caps) (X n) (.ret (.bool (v u n).1)) (X (v u n).2))(hks:∀ (w:Ex) (n:Int),w∈exK u->Ef 82 [.agg (exL w),.fn (.func g) [] caps] (X n) (.ret (.bool (f w n).1)) (X (f w n).2))(has:∀ (w:Al) (n:Int),w∈exA u->Ef 82 [.agg (exL (alB w)),.fn (.func g) [] caps] (X n) (.ret (.bool (f (alB w) n).1)) (X (f (alB w) n).2))(hNK:(exK u).length<=1000000000)(hNA:(exA u).length<=1000000000)(n0:Int):Ef 82 [.agg (exL u),.fn (.func g) [] caps] (X n0) (.ret (.bool (wkB v f u n0).1)) (X (wkB v f u n0).2):=by
 unfold wkB
 cases h:(v u n0).1 with
 | false=>
  rw [iN dD]
  have:=wkL_1 u g caps X v f hvs hks has hNK hNA n0 h
  rw [h]; exact this
 | true=>
  rw [iP rfl]
  rcases wkK_x f (exK u) (v u n0).2 with ⟨m,h1,h2⟩ | ⟨w,m,h1,h2⟩
  ·rw [h2,iP rfl]
   rcases wkA_x f (exA u) m with ⟨k,h3,h4⟩ | ⟨w,k,h3,h4⟩
   ·rw [h4]; exact ef mdL [ce (@hvs n0),bf (!Prod.fst (v u n0)) (bnF h),sl (Ex.cs_len (exK u)),lq (rz (wkK_lp (u) (g) (caps) (X) (v) (f) hvs hks default hNK (Prod.snd (v u n0))) h1),sl (Al.cs_len (exA u)),lq (rz (wkA_lp (u) (g) (caps) (X) (v) (f) hvs hks has hNK default hNA (m)) h3)] func82
   ·rw [h4]; exact ef mdL [ce (@hvs n0),bf (!Prod.fst (v u n0)) (bnF h),sl (Ex.cs_len (exK u)),lq (rz (wkK_lp (u) (g) (caps) (X) (v) (f) hvs hks default hNK (Prod.snd (v u n0))) h1),sl (Al.cs_len (exA u)),lq (rz (wkA_lp (u) (g) (caps) (X) (v) (f) hvs hks has hNK default hNA (m)) h3)] func82
  ·rw [h2,iN sM]; exact ef mdL [ce (@hvs n0),bf (!Prod.fst (v u n0)) (bnF h),sl (Ex.cs_len (exK u)),lq (rz (wkK_lp (u) (g) (caps) (X) (v) (f) hvs hks default hNK (Prod.snd (v u n0))) h1)] func82
theorem wk_ok(g:Nat)(caps:List PV)(X:Int->Ext)(v:Ex->Int->Bool × Int)(hv:∀ (w:Ex) (n:Int),bulkPs (exL w)<=100000000->Ef g (.agg (exL w)::caps) (X n) (.ret (.bool (v w n).1)) (X (v w n).2)):∀ (d:Nat) (u:Ex) (n:Int),bulkPs (exL u)<d->d<=100000001->Ef 82 [.agg (exL u),.fn (.func g) [] caps] (X n) (.ret (.bool (wkD v d u n).1)) (X (wkD v d u n).2)
 | 0,_,_,h,_=>by omega
 | d+1,u,n,h,hs=>by
  have hb:=ex_bulk u
  have h1:=Ex.bulk (exK u)
  have h2:=Al.bulk (exA u)
  exact wk_one u g caps X v (wkD v d) (fun n=>hv u n oM) (fun w n hw=>wk_ok g caps X v hv d w n (by have:=Ex.mem hw; omega) oM)
   (fun w n hw=>wk_ok g caps X v hv d (alB w) n (by have:=Al.mem hw; have:=al_bulk w; omega) oM) oM oM n
def wkF(v:Ex->Int->Bool × Int)(u:Ex)(n:Int):Bool × Int:=wkD v (bulkPs (exL u)+1) u n
theorem wkT(u:Ex)(g:Nat)(caps:List PV)(X:Int->Ext)(v:Ex->Int->Bool × Int)(n:Int)(hv:∀ (w:Ex) (n:Int),bulkPs (exL w)<=100000000->Ef g (.agg (exL w)::caps) (X n) (.ret (.bool (v w n).1)) (X (v w n).2))(hs:bulkPs (exL u)<=100000000):Ef 82 [.agg (exL u),.fn (.func g) [] caps] (X n) (.ret (.bool (wkF v u n).1)) (X (wkF v u n).2):=wk_ok g caps X v hv _ u n oM oM
def mdI(t:Nat):Md:=⟨fun k=>if k=t then none else some false,fun _=>false⟩
abbrev cellI(n:Int):Ext:=[(0,[.v (.int .i64 n)])]
theorem no1(u:Ex)(n:Int):Ef 122 [.agg (exL u),.xp 0 0] (cellI n) (rB true) ([(0,[vI6 (IntKind.wrap .i64 (n+1))])]):=
 Ob.eff_of (mdI 3) 50 [Ans.keep] (sc':=[]) (l:=[]) mixed func122 kR kR trivial
def noV:Ex->Int->Bool × Int:=fun _ n=>(true,IntKind.i64.wrap (n+1))
theorem noW(u:Ex)(n:Int)(hs:bulkPs (exL u)<=100000000):Ef 82 [.agg (exL u),.fn (.func 122) [] [.xp 0 0]] (cellI n) (.ret (.bool (wkF noV u n).1)) (cellI (wkF noV u n).2):=wkT u _ _ cellI noV n (fun w n _=>no1 w n) hs
theorem noL(u:Ex)(hs:bulkPs (exL u)<=100000000):Ef 80 [.agg (exL u)] ([]) (rI (Prod.snd (wkF noV u 0))) ([(0,[vI6 (Prod.snd (wkF noV u 0))])]):=
 Ob.eff_of (mdI 3) 50 [Ans.eff (rB (Prod.fst (wkF noV u 0))) [(0,[vI6 (Prod.snd (wkF noV u 0))])]] (sc':=[]) (l:=[Ob.eff 82 [.agg (exL u),.fn (.func 122) [] [.xp 0 0]] [(0,[vI6 0])] (rB (Prod.fst (wkF noV u 0))) [(0,[vI6 (Prod.snd (wkF noV u 0))])]]) mixed func80 kR kR ⟨(@noW (u) (0) hs),tVv⟩
theorem nd_2(u:Ex)(a b:Bool)(c d:Int)(m o:Bool)(g k:Int)(t:Bool)(z:Bool)(xe:Ext)(cx:Cx)(hcx:cx.n=156){Q:PExit->S->Prop}(hq:Q (.normal) (S.mk [(1,.lp 1 0),(2,vI6 0),(3,.lp 3 0),(4,.v (.bool z)),(5,.v (.bool (!a&&exN u != 0 || !b && !ByteArray.toList (exNm u)==ByteArray.toList nm0||d==0&&decide (((exK u).length:Int)>0) || !m&&decide (((exP u).length:Int)>0) || !o&&decide (((exA u).length:Int)>0) || !t&&decide (((exT u).length:Int)>0))))] [(1,exV u),(3,[.v (.bool a),.v (.bool b),vI6 c,vI6 d,.v (.bool m),.v (.bool o),vI6 g,vI6 k,.v (.bool t)])] xe)):PW prog cx (regF f84 2) (S.mk [(1,.lp 1 0),(2,vI6 0),(3,.lp 3 0),(4,.v (.bool z))] [(1,exV u),(3,shV a b c d m o g k t)] xe) Q:=
 pw mdL 156 [mg,av (.v (.bool (bif !a then exN u != 0 else false))) (.v (.bool (!a&&exN u != 0))) (by (simp only [Bool.cond_false_right]; done)),mg,av (.v (.bool (bif !a&&exN u != 0 then true else bif !b then !ByteArray.toList (exNm u)==ByteArray.toList nm0 else false))) (.v (.bool (!a&&exN u != 0 || !b && !ByteArray.toList (exNm u)==ByteArray.toList nm0))) (by (simp only [Bool.cond_true_left,Bool.cond_false_right]; done)),mg,av (.v (.bool (bif !a&&exN u != 0 || !b && !ByteArray.toList (exNm u)==ByteArray.toList nm0 then true else bif d==0 then decide ((↑((fun x=>List.length (Prod.snd x)) (7,Ex.cs (exK u))):Int)>0) else false))) (.v (.bool (!a&&exN u != 0 || !b && !ByteArray.toList (exNm u)==ByteArray.toList nm0||d==0&&decide (((exK u).length:Int)>0)))) (by (simp only [List.length_nil,Ex.cs_len,Bool.cond_true_left,Bool.cond_false_right]; done)),mg,av (.v (.bool (bif !a&&exN u != 0 || !b && !ByteArray.toList (exNm u)==ByteArray.toList nm0||d==0&&decide (((exK u).length:Int)>0) then true else bif !m then decide ((↑((fun x=>List.length (Prod.snd x)) (10,Pm.cs (exP u))):Int)>0) else false))) (.v (.bool (!a&&exN u != 0 || !b && !ByteArray.toList (exNm u)==ByteArray.toList nm0||d==0&&decide (((exK u).length:Int)>0) || !m&&decide (((exP u).length:Int)>0)))) (by (simp only [List.length_nil,Pm.cs_len,Bool.cond_true_left,Bool.cond_false_right]; done)),mg,av (.v (.bool (bif !a&&exN u != 0 || !b && !ByteArray.toList (exNm u)==ByteArray.toList nm0||d==0&&decide (((exK u).length:Int)>0) || !m&&decide (((exP u).length:Int)>0) then true else bif !o then decide ((↑((fun x=>List.length (Prod.snd x)) (9,Al.cs (exA u))):Int)>0) else false))) (.v (.bool (!a&&exN u != 0 || !b && !ByteArray.toList (exNm u)==ByteArray.toList nm0||d==0&&decide (((exK u).length:Int)>0) || !m&&decide (((exP u).length:Int)>0) || !o&&decide (((exA u).length:Int)>0)))) (by (simp only [List.length_nil,Al.cs_len,Bool.cond_true_left,Bool.cond_false_right]; done)),mg,av (.v (.bool (bif !a&&exN u != 0 || !b && !ByteArray.toList (exNm u)==ByteArray.toList nm0||d==0&&decide (((exK u).length:Int)>0) || !m&&decide (((exP u).length:Int)>0) || !o&&decide (((exA u).length:Int)>0) then true else bif !t then decide ((↑((fun x=>List.length (Prod.snd x)) (9,Tp.cs (exT u))):Int)>0) else false))) (.v (.bool (!a&&exN u != 0 || !b && !ByteArray.toList (exNm u)==ByteArray.toList nm0||d==0&&decide (((exK u).length:Int)>0) || !m&&decide (((exP u).length:Int)>0) || !o&&decide (((exA u).length:Int)>0) || !t&&decide (((exT u).length:Int)>0)))) (by (simp only [List.length_nil,Tp.cs_len,Bool.cond_true_left,Bool.cond_false_right]; done))] [1,2,3,4,5] [1,3] hcx hq
def nd_2_v5(u:Ex)(a b:Bool)(c d:Int)(m o:Bool)(g k:Int)(t:Bool)(z:Bool):Bool:=((!a&&exN u != 0 || !b && !ByteArray.toList (exNm u)==ByteArray.toList nm0||d==0&&decide (((exK u).length:Int)>0) || !m&&decide (((exP u).length:Int)>0) || !o&&decide (((exA u).length:Int)>0) || !t&&decide (((exT u).length:Int)>0)))
theorem nd_2J(u:Ex)(a b:Bool)(c d:Int)(m o:Bool)(g k:Int)(t:Bool)(z:Bool)(xe:Ext):(Ob.frag 156 (regF f84 2) (S.mk [(1,.lp 1 0),(2,vI6 0),(3,.lp 3 0),(4,.v (.bool z))] [(1,exV u),(3,shV a b c d m o g k t)] xe) (.normal) (S.mk [(1,.lp 1 0),(2,vI6 0),(3,.lp 3 0),(4,.v (.bool z)),(5,.v (.bool (nd_2_v5 u a b c d m o g k t z)))] [(1,exV u),(3,[.v (.bool a),.v (.bool b),vI6 c,vI6 d,.v (.bool m),.v (.bool o),vI6 g,vI6 k,.v (.bool t)])] xe)).ok prog:=by
 intro cx hcx
 exact nd_2 u a b c d m o g k t z xe  cx hcx ⟨rfl,by rw [show nd_2_v5 u a b c d m o g k t z=((!a&&exN u != 0 || !b && !ByteArray.toList (exNm u)==ByteArray.toList nm0||d==0&&decide (((exK u).length:Int)>0) || !m&&decide (((exP u).length:Int)>0) || !o&&decide (((exA u).length:Int)>0) || !t&&decide (((exT u).length:Int)>0))) from rfl]⟩
section
variable (u:Ex) (a b:Bool) (c d:Int) (m o:Bool) (g k:Int) (t:Bool) (xe:Ext)
include u a b c d m o g k t xe
theorem nd_7_1(hx0:exO u=1)(cx:Cx)(hcx:cx.n=156){Q:PExit->S->Prop}(hq:Q (.normal) (S.mk [(1,.lp 1 0),(2,vI6 0),(3,.lp 3 0),(92,.v (.bool (!niS_r0 (exN u)||exO u==2&&exN u != 0&&exN u != 1)))] [(1,exV u),(3,[.v (.bool a),.v (.bool b),vI6 c,vI6 d,.v (.bool m),.v (.bool o),vI6 g,vI6 k,.v (.bool t)])] xe)):PW prog cx (regF f84 7) (S.mk [(1,.lp 1 0),(2,vI6 0),(3,.lp 3 0)] [(1,exV u),(3,shV a b c d m o g k t)] xe) Q:=
 pw mdL 156 [rp 3 (et1 hx0),cl (@niS (exN u)),rp 2 (et1 hx0),mg,av (.v (.bool (bif !niS_r0 (exN u) then true else bif bif exO u==2 then exN u != 0 else false then exN u != 1 else false))) (.v (.bool (!niS_r0 (exN u)||exO u==2&&exN u != 0&&exN u != 1))) (by (simp only [Bool.cond_true_left,Bool.cond_false_right]; done))] [1,2,3,92] [1,3] hcx hq
theorem nd_7_2(hx0:¬exO u=1)(hx1:exO u=2)(hx2:¬exN u=0)(cx:Cx)(hcx:cx.n=156){Q:PExit->S->Prop}(hq:Q (.normal) (S.mk [(1,.lp 1 0),(2,vI6 0),(3,.lp 3 0),(92,.v (.bool (exN u != 1)))] [(1,exV u),(3,[.v (.bool a),.v (.bool b),vI6 c,vI6 d,.v (.bool m),.v (.bool o),vI6 g,vI6 k,.v (.bool t)])] xe)):PW prog cx (regF f84 7) (S.mk [(1,.lp 1 0),(2,vI6 0),(3,.lp 3 0)] [(1,exV u),(3,shV a b c d m o g k t)] xe) Q:=
 pw mdL 156 [rp 5 (en1 hx0),rp 4 (bf false),rp 3 (et1 hx1),bf false,et1 hx1,bf false,rp 3 (nt1 hx2),bf false,nt1 hx2,bf false] [1,2,3,92] [1,3] hcx hq
theorem nd_7_3(hx0:¬exO u=1)(hx1:exO u=2)(hx2:exN u=0)(cx:Cx)(hcx:cx.n=156){Q:PExit->S->Prop}(hq:Q (.normal) (S.mk [(1,.lp 1 0),(2,vI6 0),(3,.lp 3 0),(92,.v (.bool false))] [(1,exV u),(3,[.v (.bool a),.v (.bool b),vI6 c,vI6 d,.v (.bool m),.v (.bool o),vI6 g,vI6 k,.v (.bool t)])] xe)):PW prog cx (regF f84 7) (S.mk [(1,.lp 1 0),(2,vI6 0),(3,.lp 3 0)] [(1,exV u),(3,shV a b c d m o g k t)] xe) Q:=
 pw mdL 156 [rp 5 (en1 hx0),rp 4 (bf false),rp 3 (et1 hx1),bf false,et1 hx1,bf false,rp 3 (nn1 hx2),bf false,nn1 hx2,bf false] [1,2,3,92] [1,3] hcx hq
theorem nd_7_4(hx0:¬exO u=1)(hx1:¬exO u=2)(cx:Cx)(hcx:cx.n=156){Q:PExit->S->Prop}(hq:Q (.normal) (S.mk [(1,.lp 1 0),(2,vI6 0),(3,.lp 3 0),(92,.v (.bool false))] [(1,exV u),(3,[.v (.bool a),.v (.bool b),vI6 c,vI6 d,.v (.bool m),.v (.bool o),vI6 g,vI6 k,.v (.bool t)])] xe)):PW prog cx (regF f84 7) (S.mk [(1,.lp 1 0),(2,vI6 0),(3,.lp 3 0)] [(1,exV u),(3,shV a b c d m o g k t)] xe) Q:=
 pw mdL 156 [rp 5 (en1 hx0),rp 4 (bf false),rp 3 (en1 hx1),bf false,en1 hx1,rp 7 (bf false)] [1,2,3,92] [1,3] hcx hq
end
def nd_7_v92(u:Ex)(a b:Bool)(c d:Int)(m o:Bool)(g k:Int)(t:Bool):Bool:=(if exO u=1 then ((!niS_r0 (exN u)||exO u==2&&exN u != 0&&exN u != 1)) else (if exO u=2 then (if exN u=0 then (false) else ((exN u != 1))) else (false)))
theorem nd_7J(u:Ex)(a b:Bool)(c d:Int)(m o:Bool)(g k:Int)(t:Bool)(xe:Ext):(Ob.frag 156 (regF f84 7) (S.mk [(1,.lp 1 0),(2,vI6 0),(3,.lp 3 0)] [(1,exV u),(3,shV a b c d m o g k t)] xe) (.normal) (S.mk [(1,.lp 1 0),(2,vI6 0),(3,.lp 3 0),(92,.v (.bool (nd_7_v92 u a b c d m o g k t)))] [(1,exV u),(3,[.v (.bool a),.v (.bool b),vI6 c,vI6 d,.v (.bool m),.v (.bool o),vI6 g,vI6 k,.v (.bool t)])] xe)).ok prog:=by
 intro cx hcx
 by_cases g0:exO u=1
 ·exact nd_7_1 u a b c d m o g k t xe g0 cx hcx ⟨rfl,by rw [show nd_7_v92 u a b c d m o g k t=((!niS_r0 (exN u)||exO u==2&&exN u != 0&&exN u != 1)) by unfold nd_7_v92; rw [iP g0]]⟩
 ·by_cases g1:exO u=2
  ·by_cases g2:exN u=0
   ·exact nd_7_3 u a b c d m o g k t xe g0 g1 g2 cx hcx ⟨rfl,by rw [show nd_7_v92 u a b c d m o g k t=(false) by unfold nd_7_v92; rw [iN g0,iP g1,iP g2]]⟩
   ·exact nd_7_2 u a b c d m o g k t xe g0 g1 g2 cx hcx ⟨rfl,by rw [show nd_7_v92 u a b c d m o g k t=((exN u != 1)) by unfold nd_7_v92; rw [iN g0,iP g1,iN g2]]⟩
  ·exact nd_7_4 u a b c d m o g k t xe g0 g1 cx hcx ⟨rfl,by rw [show nd_7_v92 u a b c d m o g k t=(false) by unfold nd_7_v92; rw [iN g0,iN g1]]⟩
abbrev dpK_I(u:Ex)(dfz:Ex->Int)(j:Int)(n:Int)(e:Ext):S:=S.mk [(1,.lp 1 0),(2,vI6 0),(3,vI6 n),(9,vL 7 (Ex.cs (exK u))),(10,vI6 ((exK u).length:Int)),(11,vI6 j)] [(1,exV u)] e
def dpK_f(dfz:Ex->Int):List Ex->(Int)->(Int)
 | [],n=>(n)
 | el::r,n=>dpK_f dfz r (mxI true n (dfz el))
def dpK_q(u:Ex)(dfz:Ex->Int)(e:Ext)(p:(Int)):PExit × S:=(.exit 0,S.mk [(1,.lp 1 0),(2,vI6 0),(3,vI6 p),(9,vL 7 (Ex.cs (exK u))),(10,vI6 ((exK u).length:Int))] [(1,exV u)] e)
theorem dpK(u:Ex)(dfz:Ex->Int)(hks:∀w:Ex,w∈exK u->Pu 81 [.agg (exL w)] (.ret (.int .i64 (dfz w))))(n:Int)(e:Ext)(hN:(exK u).length<=1000000000)  : (Ob.loop 35 (loopF f81 0) (dpK_I u dfz 0 n e) (dpK_q u dfz e (dpK_f dfz ((exK u))  n)).1 (dpK_q u dfz e (dpK_f dfz ((exK u))  n)).2).ok prog:=by
 refine rng ((exK u).length) (fun j n=>dpK_I u dfz j n e) (fun i n=>dpK_f dfz (List.drop i ((exK u)))  n) (dpK_q u dfz e) (fun i n=>True) kR ?_ n trivial
 rintro i n hi -
 rcases Nat.lt_or_ge i ((exK u).length) with hlt | hge
 ·have hd:=drop_at hlt
  exact lN mdL [rgEx hlt,cl (@hks (List.getD (exK u) i default) (by simp_all [tn1])),wr ((i:Int)+1)] hlt (mxI true n (dfz (List.getD (exK u) i default))) trivial (by rw [hd,dpK_f])
 ·have he:i=(exK u).length:=by omega
  exact lX mdL [df ((i:Int)<((exK u).length:Int))] (n) (by rw [he,List.drop_length,dpK_f])
abbrev dpA_I(u:Ex)(dfz:Ex->Int)(j:Int)(n:Int)(e:Ext):S:=S.mk [(2,vI6 0),(3,vI6 n),(21,vL 9 (Al.cs (exA u))),(22,vI6 ((exA u).length:Int)),(23,vI6 j)] [] e
def dpA_f(dfz:Ex->Int):List Al->(Int)->(Int)
 | [],n=>(n)
 | el::r,n=>dpA_f dfz r (mxI true n (dfz (alB el)))
def dpA_q(u:Ex)(dfz:Ex->Int)(e:Ext)(p:(Int)):PExit × S:=(.exit 2,S.mk [(2,vI6 0),(3,vI6 p),(21,vL 9 (Al.cs (exA u))),(22,vI6 ((exA u).length:Int))] [] e)
theorem dpA(u:Ex)(dfz:Ex->Int)(hks:∀w:Ex,w∈exK u->Pu 81 [.agg (exL w)] (.ret (.int .i64 (dfz w))))(has:∀w:Al,w∈exA u->Pu 81 [.agg (exL (alB w))] (.ret (.int .i64 (dfz (alB w)))))(hNK:(exK u).length<=1000000000)(n:Int)(e:Ext)(hN:(exA u).length<=1000000000)  : (Ob.loop 35 (loopF f81 1) (dpA_I u dfz 0 n e) (dpA_q u dfz e (dpA_f dfz ((exA u))  n)).1 (dpA_q u dfz e (dpA_f dfz ((exA u))  n)).2).ok prog:=by
 refine rng ((exA u).length) (fun j n=>dpA_I u dfz j n e) (fun i n=>dpA_f dfz (List.drop i ((exA u)))  n) (dpA_q u dfz e) (fun i n=>True) kR ?_ n trivial
 rintro i n hi -
 rcases Nat.lt_or_ge i ((exA u).length) with hlt | hge
 ·have hd:=drop_at hlt
  exact lN mdL [rgAl hlt,cl (@has (List.getD (exA u) i default) (by simp_all [tn1])),wr ((i:Int)+1)] hlt (mxI true n (dfz (alB (List.getD (exA u) i default)))) trivial (by rw [hd,dpA_f])
 ·have he:i=(exA u).length:=by omega
  exact lX mdL [df ((i:Int)<((exA u).length:Int))] (n) (by rw [he,List.drop_length,dpA_f])
def dpD:Nat->Ex->Int
 | 0,_=>0
 | d+1,u=>IntKind.i64.wrap (dpA_f (dpD d) (exA u) (dpK_f (dpD d) (exK u) 0)+1)
theorem dp_ok:∀ (d:Nat) (u:Ex),bulkPs (exL u)<d->d<=100000001->Pu 81 [.agg (exL u)] (.ret (.int .i64 (dpD d u)))
 | 0,_,h,_=>by omega
 | d+1,u,h,hs=>by
  have hb:=ex_bulk u
  have h1:=Ex.bulk (exK u)
  have h2:=Al.bulk (exA u)
  exact pu mdL (fun e=>[sl (Ex.cs_len (exK u)),lq (@dpK u ((dpD d)) (fun w hw=>dp_ok d w (by have:=Ex.mem hw; omega) oM) 0 e oM),sl (Al.cs_len (exA u)),lq (@dpA u ((dpD d)) (fun w hw=>dp_ok d w (by have:=Ex.mem hw; omega) oM) (fun w hw=>dp_ok d (alB w) (by have:=Al.mem hw; have:=al_bulk w; omega) oM) oM (dpK_f (dpD d) (exK u) 0) e oM),kp]) func81
def dpF(u:Ex):Int:=dpD (bulkPs (exL u)+1) u
theorem dpT(u:Ex)(hs:bulkPs (exL u)<=100000000):Pu 81 [.agg (exL u)] (.ret (.int .i64 (dpF u))):=dp_ok _ u oM oM
def mdF:Md:=⟨fun _=>some false,fun t=>t==1000001||t==1000002||t==1000003||t==1000011⟩
def sFm_r0(t:Tp)(ff:Tp->Int):Int:=(if fm3_v63 t (fm1_v3 t) (fm2_v4 t (fm1_v3 t))=true then 1 else (if arE t=0 then (if fm1_v3 t=true then (if erN (coreB (tpNm t))=0 then (if (if false=true then fm11_v6 t==(tpO t==4) else !fm11_v6 t==(tpO t==4))=true then 3 else (if frE ff (tpA t)=0 then 0 else (frE ff (tpA t)))) else 3) else (if frE ff (tpA t)=0 then 0 else (frE ff (tpA t)))) else (arE t)))
theorem sFm(t:Tp)(ff:Tp->Int)(hwk:∀w:Tp,w∈tpA t->Pu 164 [.agg (tpL w)] (.ret (.int .i64 (ff w))))(hN0:(tpA t).length<=1000000000):Pu 164 [.agg (tpL t)] (rI (sFm_r0 t ff)):=by
 by_cases h0:fm3_v63 t (fm1_v3 t) (fm2_v4 t (fm1_v3 t))=true
 ·simp only [sFm_r0,iP h0]; exact pu mdF (fun e=>[lg (@fm1J t e),lg (@fm2J t (fm1_v3 t) e),lg (@fm3J t (fm1_v3 t) (fm2_v4 t (fm1_v3 t)) e),bt1 h0]) func164
 ·by_cases h1:arE t=0
  ·by_cases h2:fm1_v3 t=true
   ·by_cases h3:erN (coreB (tpNm t))=0
    ·by_cases h4:(if false=true then fm11_v6 t==(tpO t==4) else !fm11_v6 t==(tpO t==4))=true
     ·simp only [sFm_r0,iN h0,iP h1,iP h2,iP h3,iP h4]; exact pu mdF (fun e=>[lg (@fm1J t e),lg (@fm2J t (fm1_v3 t) e),lg (@fm3J t (fm1_v3 t) (fm2_v4 t (fm1_v3 t)) e),bf1 (bFT h0),cl (@arT t),nn1 h1,bt1 h2,cl (@nCoT (tpNm t)),nn1 h3,lg (@fm11J t e h3),bt1 h4]) func164
     ·by_cases h5:frE ff (tpA t)=0
      ·simp only [sFm_r0,iN h0,iP h1,iP h2,iP h3,iN h4,iP h5]; exact pu mdF (fun e=>[lg (@fm1J t e),lg (@fm2J t (fm1_v3 t) e),lg (@fm3J t (fm1_v3 t) (fm2_v4 t (fm1_v3 t)) e),bf1 (bFT h0),cl (@arT t),nn1 h1,bt1 h2,cl (@nCoT (tpNm t)),nn1 h3,lg (@fm11J t e h3),bf1 (bFT h4),sl (Tp.cs_len (tpA t)),lq (@tfT t e ff hwk hN0 h5)]) func164
      ·simp only [sFm_r0,iN h0,iP h1,iP h2,iP h3,iN h4,iN h5]; exact pu mdF (fun e=>[lg (@fm1J t e),lg (@fm2J t (fm1_v3 t) e),lg (@fm3J t (fm1_v3 t) (fm2_v4 t (fm1_v3 t)) e),bf1 (bFT h0),cl (@arT t),nn1 h1,bt1 h2,cl (@nCoT (tpNm t)),nn1 h3,lg (@fm11J t e h3),bf1 (bFT h4),sl (Tp.cs_len (tpA t)),lq (@tfF t e ff hwk hN0 h5)]) func164
    ·simp only [sFm_r0,iN h0,iP h1,iP h2,iN h3]; exact pu mdF (fun e=>[lg (@fm1J t e),lg (@fm2J t (fm1_v3 t) e),lg (@fm3J t (fm1_v3 t) (fm2_v4 t (fm1_v3 t)) e),bf1 (bFT h0),cl (@arT t),nn1 h1,bt1 h2,cl (@nCoT (tpNm t)),nt1 h3]) func164
   ·by_cases h3:frE ff (tpA t)=0
    ·simp only [sFm_r0,iN h0,iP h1,iN h2,iP h3]; exact pu mdF (fun e=>[lg (@fm1J t e),lg (@fm2J t (fm1_v3 t) e),lg (@fm3J t (fm1_v3 t) (fm2_v4 t (fm1_v3 t)) e),bf1 (bFT h0),cl (@arT t),nn1 h1,bf1 (bFT h2),sl (Tp.cs_len (tpA t)),lq (@tfT t e ff hwk hN0 h3)]) func164
    ·simp only [sFm_r0,iN h0,iP h1,iN h2,iN h3]; exact pu mdF (fun e=>[lg (@fm1J t e),lg (@fm2J t (fm1_v3 t) e),lg (@fm3J t (fm1_v3 t) (fm2_v4 t (fm1_v3 t)) e),bf1 (bFT h0),cl (@arT t),nn1 h1,bf1 (bFT h2),sl (Tp.cs_len (tpA t)),lq (@tfF t e ff hwk hN0 h3)]) func164
  ·simp only [sFm_r0,iN h0,iN h1]; exact pu mdF (fun e=>[lg (@fm1J t e),lg (@fm2J t (fm1_v3 t) e),lg (@fm3J t (fm1_v3 t) (fm2_v4 t (fm1_v3 t)) e),bf1 (bFT h0),cl (@arT t),nt1 h1]) func164
def fmD:Nat->Tp->Int
 | 0,_=>0
 | d+1,t=>sFm_r0 t (fmD d)
theorem fm_ok:∀ (d:Nat) (t:Tp),bulkPs (tpL t)<d->d<=100000001->Pu 164 [.agg (tpL t)] (.ret (.int .i64 (fmD d t)))
 | 0,_,h,_=>by omega
 | d+1,t,h,hs=>sFm t (fmD d) (fun w hw=>fm_ok d w (by have:=tp_bulk t; have:=Tp.mem hw; omega) oM) (by have:=tp_bulk t; have:=Tp.bulk (tpA t); omega)
def fmF(t:Tp):Int:=fmD (bulkPs (tpL t)+1) t
theorem fmT(t:Tp)(hs:bulkPs (tpL t)<=100000000):Pu 164 [.agg (tpL t)] (.ret (.int .i64 (fmF t))):=fm_ok _ t oM oM
def tyC_r0(t:Tp):Int:=(if tdF t>40 then 8 else (fmF t))
theorem tyC(t:Tp)(hs:bulkPs (tpL t)<=100000000):Pu 126 [.agg (tpL t)] (rI (tyC_r0 t)):=by
 by_cases h0:tdF t>40
 ·simp only [tyC_r0,iP h0]; exact pm mdL [cl (@tdT t hs),dt1 h0] func126
 ·simp only [tyC_r0,iN h0]; exact pm mdL [cl (@tdT t hs),df1 h0,cl (@fmT t hs)] func126
def mdS:Md:=⟨fun _=>some false,fun t=>t==1000002||t==1000007⟩
abbrev ndT_I(y:Ex)(a:Bool)(b:Bool)(c:Int)(d:Int)(m:Bool)(o:Bool)(g:Int)(k:Int)(t:Bool)(z:Bool)(j:Int)(e:Ext):S:=S.mk [(1,.lp 1 0),(2,vI6 0),(124,vL 9 (Tp.cs (exT y))),(125,vI6 ((exT y).length:Int)),(126,vI6 j)] [(1,exV y)] e
inductive ndT_R where
 | e0 (el:Tp)
 | e1
def ndT_f  : List Tp->ndT_R
 | []=>(ndT_R.e1)
 | el::r=>(if tyC_r0 el=0 then ndT_f  r  else (ndT_R.e0 el))
def ndT_q(y:Ex)(a:Bool)(b:Bool)(c:Int)(d:Int)(m:Bool)(o:Bool)(g:Int)(k:Int)(t:Bool)(z:Bool)(e:Ext):ndT_R->PExit × S
 | .e0 el=>(.ret,S.mk [(1,.lp 1 0),(2,vI6 (tyC_r0 el)),(124,vL 9 (Tp.cs (exT y))),(125,vI6 ((exT y).length:Int))] [(1,exV y)] e)
 | .e1=>(.exit 1,S.mk [(1,.lp 1 0),(2,vI6 0),(124,vL 9 (Tp.cs (exT y))),(125,vI6 ((exT y).length:Int))] [(1,exV y)] e)
theorem ndT_lp(y:Ex)(a b:Bool)(c d:Int)(m o:Bool)(g k:Int)(t z:Bool)(hsh:Pu 123 [.int .i64 (exO y)] (.ret (.tup [.agg (shL a b c d m o g k t),.bool z])))(hP:(exP y).length<=1000000000)(hA:(exA y).length<=1000000000)(hP2:(bdA_f (exP y) []).length<=100000000)(hA2:(coA_f (exA y) []).length<=1000000000)(hA3:altN (exA y)<=100000000)(htk:∀w:Tp,w∈exT y->Pu 126 [.agg (tpL w)] (.ret (.int .i64 (tyC_r0 w))))(e:Ext)(hN:(exT y).length<=1000000000):(Ob.loop 156 (loopF f84 0) (ndT_I y a b c d m o g k t z 0  e) (ndT_q y a b c d m o g k t z e (ndT_f  ((exT y)))).1 (ndT_q y a b c d m o g k t z e (ndT_f  ((exT y)))).2).ok prog:=by
 refine rng ((exT y).length) (fun j _=>ndT_I y a b c d m o g k t z j  e) (fun i _=>ndT_f  (List.drop i ((exT y)))) (ndT_q y a b c d m o g k t z e) (fun i _=>True) kR ?_ () trivial
 rintro i u hi -
 rcases Nat.lt_or_ge i ((exT y).length) with hlt | hge
 ·have hd:=drop_at hlt
  refine t0 ?_;refine tp [rgTp hlt,cl (@htk (List.getD (exT y) i default) (by simp_all [tn1]))] ?_;by_cases h0:tyC_r0 (List.getD (exT y) i default)=0
  ·exact tN mdS [nn1 h0,wr ((i:Int)+1)] hlt () trivial (by rw [hd,ndT_f,iP h0])
  ·exact tX mdS [nt1 h0] (ndT_R.e0 (List.getD ((exT y)) i default)) (by rw [hd,ndT_f,iN h0])
 ·have he:i=(exT y).length:=by omega
  exact lX mdS [df ((i:Int)<((exT y).length:Int))] (ndT_R.e1) (by rw [he,List.drop_length,ndT_f])
abbrev ndP_I(y:Ex)(a:Bool)(b:Bool)(c:Int)(d:Int)(m:Bool)(o:Bool)(g:Int)(k:Int)(t:Bool)(z:Bool)(j:Int)(e:Ext):S:=S.mk [(2,vI6 0),(137,vL 10 (Pm.cs (exP y))),(138,vI6 ((exP y).length:Int)),(139,vI6 j)] [] e
inductive ndP_R where
 | e0 (el:Pm)
 | e1
def ndP_f  : List Pm->ndP_R
 | []=>(ndP_R.e1)
 | el::r=>(if tyC_r0 (pmT el)=0 then ndP_f  r  else (if tyZ_r0 (pmT el)=false then (ndP_R.e0 el) else ndP_f  r))
def ndP_q(y:Ex)(a:Bool)(b:Bool)(c:Int)(d:Int)(m:Bool)(o:Bool)(g:Int)(k:Int)(t:Bool)(z:Bool)(e:Ext):ndP_R->PExit × S
 | .e0 el=>(.ret,S.mk [(2,vI6 (tyC_r0 (pmT el))),(137,vL 10 (Pm.cs (exP y))),(138,vI6 ((exP y).length:Int))] [] e)
 | .e1=>(.exit 3,S.mk [(2,vI6 0),(137,vL 10 (Pm.cs (exP y))),(138,vI6 ((exP y).length:Int))] [] e)
theorem ndP_lp(y:Ex)(a b:Bool)(c d:Int)(m o:Bool)(g k:Int)(t z:Bool)(hsh:Pu 123 [.int .i64 (exO y)] (.ret (.tup [.agg (shL a b c d m o g k t),.bool z])))(hP:(exP y).length<=1000000000)(hA:(exA y).length<=1000000000)(hP2:(bdA_f (exP y) []).length<=100000000)(hA2:(coA_f (exA y) []).length<=1000000000)(hA3:altN (exA y)<=100000000)(htk:∀w:Tp,w∈exT y->Pu 126 [.agg (tpL w)] (.ret (.int .i64 (tyC_r0 w))))(hT:(exT y).length<=1000000000)(hpk:∀w:Pm,w∈exP y->Pu 126 [.agg (tpL (pmT w))] (.ret (.int .i64 (tyC_r0 (pmT w)))))(e:Ext)(hN:(exP y).length<=1000000000):(Ob.loop 156 (loopF f84 1) (ndP_I y a b c d m o g k t z 0  e) (ndP_q y a b c d m o g k t z e (ndP_f  ((exP y)))).1 (ndP_q y a b c d m o g k t z e (ndP_f  ((exP y)))).2).ok prog:=by
 refine rng ((exP y).length) (fun j _=>ndP_I y a b c d m o g k t z j  e) (fun i _=>ndP_f  (List.drop i ((exP y)))) (ndP_q y a b c d m o g k t z e) (fun i _=>True) kR ?_ () trivial
 rintro i u hi -
 rcases Nat.lt_or_ge i ((exP y).length) with hlt | hge
 ·have hd:=drop_at hlt
  refine t0 ?_;refine tp [rgPm hlt,cl (@hpk (List.getD (exP y) i default) (by simp_all [tn1]))] ?_;by_cases h0:tyC_r0 (pmT (List.getD (exP y) i default))=0
  ·exact tN mdS [rp 5 (nn1 h0),bf false,wr ((i:Int)+1)] hlt () trivial (by rw [hd,ndP_f,iP h0])
  ·refine tp [rp 3 (nt1 h0),cl (@nnT (pmT (List.getD (exP y) i default))),rp 2 (nt1 h0)] ?_;by_cases h1:tyZ_r0 (pmT (List.getD (exP y) i default))=false
   ·exact tX mdS [bt1 (bnT h1)] (ndP_R.e0 (List.getD ((exP y)) i default)) (by rw [hd,ndP_f,iN h0,iP h1])
   ·exact tN mdS [bf1 (bnF (bTF h1)),wr ((i:Int)+1)] hlt () trivial (by rw [hd,ndP_f,iN h0,iN h1])
 ·have he:i=(exP y).length:=by omega
  exact lX mdS [df ((i:Int)<((exP y).length:Int))] (ndP_R.e1) (by rw [he,List.drop_length,ndP_f])
def pmEr(p:Pm):Int:=if tyC_r0 (pmT p)=0 then 0 else if tyZ_r0 (pmT p)=false then tyC_r0 (pmT p) else 0
theorem ndT_x:∀l:List Tp,(frE tyC_r0 l=0->ndT_f l = .e1)/\(¬frE tyC_r0 l=0->∃w,ndT_f l = .e0 w/\tyC_r0 w=frE tyC_r0 l)
 | []=>⟨fun _=>rfl,fun h=>absurd rfl h⟩
 | x::r=>by
  have ih:=ndT_x r
  by_cases h:tyC_r0 x=0
  ·simp only [frE,ndT_f,h,if_true,not_true_eq_false,if_false]; exact ih
  ·simp only [frE,ndT_f,h,if_false,not_false_eq_true,if_true]; exact ⟨fun h'=>h'.elim,fun _=>⟨x,rfl,rfl⟩⟩
theorem ndP_x:∀l:List Pm,(frE pmEr l=0->ndP_f l = .e1)/\(¬frE pmEr l=0->∃w,ndP_f l = .e0 w/\tyC_r0 (pmT w)=frE pmEr l)
 | []=>⟨fun _=>rfl,fun h=>absurd rfl h⟩
 | x::r=>by
  have ih:=ndP_x r
  by_cases h:tyC_r0 (pmT x)=0
  ·have e:pmEr x=0:=by unfold pmEr; rw [iP h]
   simp only [frE,ndP_f,e,h,if_true,not_true_eq_false,if_false]; exact ih
  ·by_cases h2:tyZ_r0 (pmT x)=false
   ·have e:pmEr x=tyC_r0 (pmT x):=by unfold pmEr; rw [iN h,iP h2]
    simp only [frE,ndP_f,e,h,h2,if_false,not_false_eq_true,if_true]; exact ⟨fun h'=>h'.elim,fun _=>⟨x,rfl,rfl⟩⟩
   ·have e:pmEr x=0:=by unfold pmEr; rw [iN h,iN h2]
    simp only [frE,ndP_f,e,h,h2,if_true,if_false,not_false_eq_true]; exact ih
def sndE(y:Ex)(a b:Bool)(c d:Int)(m o:Bool)(g k:Int)(t z:Bool):Int:=
 if (!z||nd_2_v5 y a b c d m o g k t z)=true then 1 else if ctS_r0 y c d m o g k=false then 13 else if nd_7_v92 y a b c d m o g k t=true then 2
 else if nam_r0 y b=0 then (if frE tyC_r0 (exT y)=0 then frE pmEr (exP y) else frE tyC_r0 (exT y)) else nam_r0 y b
theorem sndT(y:Ex)(a b:Bool)(c d:Int)(m o:Bool)(g k:Int)(t z:Bool)(hsh:Pu 123 [.int .i64 (exO y)] (.ret (.tup [.agg (shL a b c d m o g k t),.bool z])))(hP:(exP y).length<=1000000000)(hA:(exA y).length<=1000000000)(hP2:(bdA_f (exP y) []).length<=100000000)(hA2:(coA_f (exA y) []).length<=1000000000)(hA3:altN (exA y)<=100000000)(htk:∀w:Tp,w∈exT y->Pu 126 [.agg (tpL w)] (.ret (.int .i64 (tyC_r0 w))))(hT:(exT y).length<=1000000000)(hpk:∀w:Pm,w∈exP y->Pu 126 [.agg (tpL (pmT w))] (.ret (.int .i64 (tyC_r0 (pmT w))))):Pu 84 [.agg (exL y)] (.ret (.int .i64 (sndE y a b c d m o g k t z))):=by
 unfold sndE
 by_cases h0:(!z||nd_2_v5 y a b c d m o g k t z)=true
 ·rw [iP h0]; exact pu mdS (fun e=>[cl hsh,lg (@nd_2J y a b c d m o g k t z e),mg,av (.v (.bool (bif !z then true else nd_2_v5 y a b c d m o g k t z))) (.v (.bool (!z||nd_2_v5 y a b c d m o g k t z))) rF,bt1 h0]) func84
 ·rw [iN h0]
  have h0:=bFT h0
  by_cases h1:ctS_r0 y c d m o g k=false
  ·rw [iP h1]; exact pu mdS (fun e=>[cl hsh,lg (@nd_2J y a b c d m o g k t z e),mg,av (.v (.bool (bif !z then true else nd_2_v5 y a b c d m o g k t z))) (.v (.bool (!z||nd_2_v5 y a b c d m o g k t z))) rF,bf1 h0,cl (@ctS y a b c d m o g k t hA),bt1 (bnT h1)]) func84
  ·rw [iN h1]
   have h1:=bTF h1
   by_cases h2:nd_7_v92 y a b c d m o g k t=true
   ·rw [iP h2]; exact pu mdS (fun e=>[cl hsh,lg (@nd_2J y a b c d m o g k t z e),mg,av (.v (.bool (bif !z then true else nd_2_v5 y a b c d m o g k t z))) (.v (.bool (!z||nd_2_v5 y a b c d m o g k t z))) rF,bf1 h0,cl (@ctS y a b c d m o g k t hA),bf1 (bnF h1),lg (@nd_7J y a b c d m o g k t e),bt1 h2]) func84
   ·rw [iN h2]
    have h2:=bFT h2
    by_cases h3:nam_r0 y b=0
    ·rw [iP h3]
     by_cases h4:frE tyC_r0 (exT y)=0
     ·rw [iP h4]
      have h4:=(ndT_x (exT y)).1 h4
      by_cases h5:frE pmEr (exP y)=0
      ·rw [h5]; exact pu mdS (fun e=>[cl hsh,lg (@nd_2J y a b c d m o g k t z e),mg,av (.v (.bool (bif !z then true else nd_2_v5 y a b c d m o g k t z))) (.v (.bool (!z||nd_2_v5 y a b c d m o g k t z))) rF,bf1 h0,cl (@ctS y a b c d m o g k t hA),bf1 (bnF h1),lg (@nd_7J y a b c d m o g k t e),bf1 h2,cl (@nam y a b c d m o g k t hP hA hP2 hA2 hA3),nn1 h3,sl (Tp.cs_len (exT y)),lq (rz (ndT_lp (y) (a) (b) (c) (d) (m) (o) (g) (k) (t) (z) hsh hP hA hP2 hA2 hA3 htk (e) hT) h4),sl (Pm.cs_len (exP y)),lq (rz (ndP_lp (y) (a) (b) (c) (d) (m) (o) (g) (k) (t) (z) hsh hP hA hP2 hA2 hA3 htk hT hpk (e) hP) ((ndP_x (exP y)).1 h5))]) func84
      ·obtain ⟨w,e1,e2⟩:=(ndP_x (exP y)).2 h5
       rw [<-e2]; exact pu mdS (fun e=>[cl hsh,lg (@nd_2J y a b c d m o g k t z e),mg,av (.v (.bool (bif !z then true else nd_2_v5 y a b c d m o g k t z))) (.v (.bool (!z||nd_2_v5 y a b c d m o g k t z))) rF,bf1 h0,cl (@ctS y a b c d m o g k t hA),bf1 (bnF h1),lg (@nd_7J y a b c d m o g k t e),bf1 h2,cl (@nam y a b c d m o g k t hP hA hP2 hA2 hA3),nn1 h3,sl (Tp.cs_len (exT y)),lq (rz (ndT_lp (y) (a) (b) (c) (d) (m) (o) (g) (k) (t) (z) hsh hP hA hP2 hA2 hA3 htk (e) hT) h4),sl (Pm.cs_len (exP y)),lq (rz (ndP_lp (y) (a) (b) (c) (d) (m) (o) (g) (k) (t) (z) hsh hP hA hP2 hA2 hA3 htk hT hpk (e) hP) e1)]) func84
     ·rw [iN h4]
      obtain ⟨w,e1,e2⟩:=(ndT_x (exT y)).2 h4
      rw [<-e2]; exact pu mdS (fun e=>[cl hsh,lg (@nd_2J y a b c d m o g k t z e),mg,av (.v (.bool (bif !z then true else nd_2_v5 y a b c d m o g k t z))) (.v (.bool (!z||nd_2_v5 y a b c d m o g k t z))) rF,bf1 h0,cl (@ctS y a b c d m o g k t hA),bf1 (bnF h1),lg (@nd_7J y a b c d m o g k t e),bf1 h2,cl (@nam y a b c d m o g k t hP hA hP2 hA2 hA3),nn1 h3,sl (Tp.cs_len (exT y)),lq (rz (ndT_lp (y) (a) (b) (c) (d) (m) (o) (g) (k) (t) (z) hsh hP hA hP2 hA2 hA3 htk (e) hT) e1)]) func84
    ·rw [iN h3]; exact pu mdS (fun e=>[cl hsh,lg (@nd_2J y a b c d m o g k t z e),mg,av (.v (.bool (bif !z then true else nd_2_v5 y a b c d m o g k t z))) (.v (.bool (!z||nd_2_v5 y a b c d m o g k t z))) rF,bf1 h0,cl (@ctS y a b c d m o g k t hA),bf1 (bnF h1),lg (@nd_7J y a b c d m o g k t e),bf1 h2,cl (@nam y a b c d m o g k t hP hA hP2 hA2 hA3),nt1 h3]) func84
def snE(y:Ex):Int:=sndE y (shS_r0 (exO y)) (shS_r1 (exO y)) (shS_r2 (exO y)) (shS_r3 (exO y)) (shS_r4 (exO y)) (shS_r5 (exO y)) (shS_r6 (exO y)) (shS_r7 (exO y)) (shS_r8 (exO y)) (shS_r9 (exO y))
theorem al_bulk2(a:Al):bulkPss (nmsC (alNs a))+bulkPs (exL (alB a))<bulkPs (alL a):=by simp only [bulkPs,bulkP]; omega
theorem altN_bulk:∀l:List Al,altN l<=bulkPss (Al.cs l)
 | []=>Nat.zero_le _
 | a::r=>by
  have h1:=altN_bulk r
  have h2:=al_bulk2 a
  have h3:=nms_bulk (alNs a)
  rw [altN,show Al.cs (a::r)=alL a::Al.cs r by rw [Al.cs,Al.c_eq],bulkPss]
  omega
theorem snT(y:Ex)(hs:bulkPs (exL y)<=100000000):Pu 84 [.agg (exL y)] (.ret (.int .i64 (snE y))):=by
 have hb:=ex_bulk y
 have h1:=Pm.bulk (exP y)
 have h2:=Al.bulk (exA y)
 have h3:=Tp.bulk (exT y)
 have h4:=altN_bulk (exA y)
 exact sndT y _ _ _ _ _ _ _ _ _ _ (shS (exO y)) oM oM (by rw [bdA_e]; simp only [List.nil_append,List.length_map]; omega) (by rw [coA_e]; simp only [List.nil_append,List.length_map]; omega) oM
  (fun w hw=>tyC w (by have:=Tp.mem hw; omega)) oM (fun w hw=>tyC (pmT w) (by have:=Pm.mem hw; have:=pm_bulk w; omega))
theorem sx1(y:Ex)(n:Int)(hsn:Pu 84 [.agg (exL y)] (.ret (.int .i64 (snE y)))):Ef 83 [.agg (exL y),.xp 0 0] (cellI n) (rB (snE y==0)) ([(0,[vI6 (snE y)])]):=
 Ob.eff_of (mdI 57) 50 [Ans.pur (rI (snE y))] (sc':=[]) (l:=[Ob.pur 84 [.agg (exL y)] (rI (snE y))]) mixed func83 kR kR ⟨(@hsn),tVv⟩
def sxV:Ex->Int->Bool × Int:=fun w _=>(snE w==0,snE w)
theorem sxW(y:Ex)(hs:bulkPs (exL y)<=100000000):Ef 82 [.agg (exL y),.fn (.func 83) [] [.xp 0 0]] (cellI 0) (.ret (.bool (wkF sxV y 0).1)) (cellI (wkF sxV y 0).2):=wkT y _ _ cellI sxV 0 (fun w n h=>sx1 w n (snT w h)) hs
theorem noT(y:Ex)(hs:bulkPs (exL y)<=100000000):Pu 80 [.agg (exL y)] (.ret (.int .i64 (wkF noV y 0).2)):=Ob.pur_of_eff (noXA (Ex.nx y)) rfl (noL y hs)
theorem sxK_1(y:Ex)(hs:bulkPs (exL y)<=100000000)(hx0:Prod.snd (wkF noV y 0)>400):Ef 47 [.agg (exL y)] ([]) (rI 7) ([]):=
 Ob.eff_of (mdI 57) 50 [Ans.pur (rI (Prod.snd (wkF noV y 0))),Ans.bit true] (sc':=[]) (l:=[Ob.pur 80 [.agg (exL y)] (rI (Prod.snd (wkF noV y 0))),Ob.bit (decide (Prod.snd (wkF noV y 0)>400)) true]) mixed func47 kR kR ⟨(@noT (y) hs),(ob_bit (dT hx0)),tVv⟩
theorem sxK_2(y:Ex)(hs:bulkPs (exL y)<=100000000)(hx0:¬Prod.snd (wkF noV y 0)>400)(hx1:dpF y>40):Ef 47 [.agg (exL y)] ([]) (rI 8) ([]):=
 Ob.eff_of (mdI 57) 50 [Ans.pur (rI (Prod.snd (wkF noV y 0))),Ans.bit false,Ans.pur (rI (dpF y)),Ans.bit true] (sc':=[]) (l:=[Ob.pur 80 [.agg (exL y)] (rI (Prod.snd (wkF noV y 0))),Ob.bit (decide (Prod.snd (wkF noV y 0)>400)) false,Ob.pur 81 [.agg (exL y)] (rI (dpF y)),Ob.bit (decide (dpF y>40)) true]) mixed func47 kR kR ⟨(@noT (y) hs),(ob_bit (dF hx0)),(@dpT (y) hs),(ob_bit (dT hx1)),tVv⟩
theorem sxK_3(y:Ex)(hs:bulkPs (exL y)<=100000000)(hx0:¬Prod.snd (wkF noV y 0)>400)(hx1:¬dpF y>40):Ef 47 [.agg (exL y)] ([]) (rI (Prod.snd (wkF sxV y 0))) ([(0,[vI6 (Prod.snd (wkF sxV y 0))])]):=
 Ob.eff_of (mdI 57) 50 [Ans.pur (rI (Prod.snd (wkF noV y 0))),Ans.bit false,Ans.pur (rI (dpF y)),Ans.bit false,Ans.eff (rB (Prod.fst (wkF sxV y 0))) [(0,[vI6 (Prod.snd (wkF sxV y 0))])]] (sc':=[]) (l:=[Ob.pur 80 [.agg (exL y)] (rI (Prod.snd (wkF noV y 0))),Ob.bit (decide (Prod.snd (wkF noV y 0)>400)) false,Ob.pur 81 [.agg (exL y)] (rI (dpF y)),Ob.bit (decide (dpF y>40)) false,Ob.eff 82 [.agg (exL y),.fn (.func 83) [] [.xp 0 0]] [(0,[vI6 0])] (rB (Prod.fst (wkF sxV y 0))) [(0,[vI6 (Prod.snd (wkF sxV y 0))])]]) mixed func47 kR kR ⟨(@noT (y) hs),(ob_bit (dF hx0)),(@dpT (y) hs),(ob_bit (dF hx1)),(@sxW (y) hs),tVv⟩
def syE(y:Ex):Int:=if (wkF noV y 0).2>400 then 7 else if dpF y>40 then 8 else (wkF sxV y 0).2
theorem syT(y:Ex)(hs:bulkPs (exL y)<=100000000):Pu 47 [.agg (exL y)] (.ret (.int .i64 (syE y))):=by
 unfold syE
 by_cases h:(wkF noV y 0).2>400
 ·rw [iP h]; exact Ob.pur_of_eff (noXA (Ex.nx y)) rfl (sxK_1 y hs h)
 ·rw [iN h]
  by_cases h2:dpF y>40
  ·rw [iP h2]; exact Ob.pur_of_eff (noXA (Ex.nx y)) rfl (sxK_2 y hs h h2)
  ·rw [iN h2]; exact Ob.pur_of_eff (noXA (Ex.nx y)) rfl (sxK_3 y hs h h2)
def frS_r0(bg:Bool)(se:Int)(ri:Bool):Bool:=(if bg=true then (if se=0 then ri else false) else false)
theorem frS(m:Mo)(d:Df)(s:Sc)(bg:Bool)(hbg:Pu 27 [.agg (dfL d)] (.ret (.tup [.agg (scL s),.bool bg])))(se:Int)(hsy:Pu 47 [.agg (exL (dfB d))] (.ret (.int .i64 se)))(ri:Bool)(hri:Pu 48 [.agg (moL m),.agg (exL (dfB d)),.agg (scL s)] (.ret (.bool ri))):Pu 25 [.agg (moL m),.agg (dfL d)] (rB (frS_r0 bg se ri)):=by
 refine t0 ?_;refine tp [cl hbg] ?_;by_cases h0:bg=true
 ·refine tp [rp 3 (bt1 h0),cl hsy,rp 2 (bt1 h0)] ?_;by_cases h1:se=0
  ·simp only [frS_r0,iP h0,iP h1]; exact tM mdL [rp 5 (et1 h1),cl hri,et1 h1] func25
  ·simp only [frS_r0,iP h0,iN h1]; exact tM mdL [rp 6 (en1 h1)] func25
 ·simp only [frS_r0,iN h0]; exact tM mdL [rp 5 (bf1 (bFT h0)),rp 6 (bf false)] func25
abbrev caA_I(m:Mo)(d:Df)(s:Sc)(bg:Bool)(ls:List Pa)(j:Int)(cs ts:List Pr)(e:Ext):S:=S.mk [(11,.uniq 46 4 (Pr.cs cs)),(12,.uniq 46 4 (Pr.cs ts)),(39,vL 8 (Pa.cs ls)),(40,vI6 (ls.length:Int)),(41,vI6 j)] [] e
section
variable (m:Mo) (d:Df) (hfr:Pu 25 [.agg (moL m),.agg (dfL d)] (.ret (.bool true))) (s:Sc) (bg:Bool) (hbg:Pu 27 [.agg (dfL d)] (.ret (.tup [.agg (scL s),.bool bg]))) (ls:List Pa) (hpk:Pu 28 [.agg (moL m),.agg (exL (dfB d)),.agg (scL s)] (.ret (.tup [.sl 8 (Pa.cs ls),.bool true]))) (hls:paS ls) (i:Nat) (cs ts:List Pr) (e:Ext)
include m d hfr s bg hbg ls hpk hls i cs ts e
theorem caA_b1(hi:i<ls.length)(hN:ls.length<=1000000000)(hv:(cs.length<=i/\ts.length<=i))(hx0:¬pcE (paC (List.getD ls i default))=0)(cx:Cx)(hcx:cx.n=68){Q:PExit->S->Prop}(hq:Q (.ret) (S.mk [(11,.uniq 46 4 (Pr.cs cs)),(12,.uniq 46 4 (Pr.cs ts)),(39,vL 8 (Pa.cs ls)),(40,vI6 (ls.length:Int)),(41,vI6 (i:Int)),(4,.v .nilsl),(5,.v .nilsl),(6,vI6 7)] [] e)):PW prog cx (loopF f10 0) (caA_I m d s bg ls (i:Int) cs ts e) Q:=
 pw mdL 68 [rgPa hi,cl (@pcS (paC (List.getD ls i default)) (by (apply gC1 <;> first | assumption | omega | decide))),rp 5 (nt1 hx0),bt true] [11,12,39,40,41,4,5,6] [] hcx hq
theorem caA_b2(hi:i<ls.length)(hN:ls.length<=1000000000)(hv:(cs.length<=i/\ts.length<=i))(hx0:pcE (paC (List.getD ls i default))=0)(hx1:¬pcE (paT (List.getD ls i default))=0)(cx:Cx)(hcx:cx.n=68){Q:PExit->S->Prop}(hq:Q (.ret) (S.mk [(11,.uniq 46 4 (Pr.cs cs)),(12,.uniq 46 4 (Pr.cs ts)),(39,vL 8 (Pa.cs ls)),(40,vI6 (ls.length:Int)),(41,vI6 (i:Int)),(4,.v .nilsl),(5,.v .nilsl),(6,vI6 7)] [] e)):PW prog cx (loopF f10 0) (caA_I m d s bg ls (i:Int) cs ts e) Q:=
 pw mdL 68 [rgPa hi,cl (@pcS (paC (List.getD ls i default)) (by (apply gC1 <;> first | assumption | omega | decide))),rp 3 (nn1 hx0),cl (@pcS (paT (List.getD ls i default)) (by (apply gC2 <;> first | assumption | omega | decide))),rp 2 (nn1 hx0),nt1 hx1] [11,12,39,40,41,4,5,6] [] hcx hq
theorem caA_b3(hi:i<ls.length)(hN:ls.length<=1000000000)(hv:(cs.length<=i/\ts.length<=i))(hx0:pcE (paC (List.getD ls i default))=0)(hx1:pcE (paT (List.getD ls i default))=0)(cx:Cx)(hcx:cx.n=68){Q:PExit->S->Prop}(hq:Q (.normal) (S.mk [(11,.uniq 46 4 (Pr.cs cs++[prL (paC (List.getD ls i default))])),(12,.uniq 46 4 (Pr.cs ts++[prL (paT (List.getD ls i default))])),(39,vL 8 (Pa.cs ls)),(40,vI6 (ls.length:Int)),(41,vI6 ((i:Int)+1))] [] e)):PW prog cx (loopF f10 0) (caA_I m d s bg ls (i:Int) cs ts e) Q:=
 pw mdL 68 [rgPa hi,cl (@pcS (paC (List.getD ls i default)) (by (apply gC1 <;> first | assumption | omega | decide))),rp 3 (nn1 hx0),cl (@pcS (paT (List.getD ls i default)) (by (apply gC2 <;> first | assumption | omega | decide))),rp 2 (nn1 hx0),nn1 hx1,am (List.length (Pr.cs cs++[prL (paC (List.getD ls i default))]) * (55+1)<=140737488355328) (by (simp only [List.length_append,List.length_cons,List.length_nil,Pr.cs_len]; omega)),am (List.length (Pr.cs ts++[prL (paT (List.getD ls i default))]) * (55+1)<=140737488355328) (by (simp only [List.length_append,List.length_cons,List.length_nil,Pr.cs_len]; omega)),wr ((i:Int)+1)] [11,12,39,40,41,4,5,6] [] hcx hq
theorem caA_z1(hi:i=ls.length)(hN:ls.length<=1000000000)(hv:(cs.length<=i/\ts.length<=i))(cx:Cx)(hcx:cx.n=68){Q:PExit->S->Prop}(hq:Q (.exit 0) (S.mk [(11,.uniq 46 4 (Pr.cs cs)),(12,.uniq 46 4 (Pr.cs ts)),(39,vL 8 (Pa.cs ls)),(40,vI6 (ls.length:Int)),(41,vI6 (i:Int))] [] e)):PW prog cx (loopF f10 0) (caA_I m d s bg ls (i:Int) cs ts e) Q:=
 pw mdL 68 [df ((i:Int)<(ls.length:Int))] [11,12,39,40,41,4,5,6] [] hcx hq
end
inductive caA_R where
 | e0 (cs:List Pr) (ts:List Pr)
 | e1 (cs:List Pr) (ts:List Pr)
def caA_f  : List Pa->(List Pr)->(List Pr)->caA_R
 | [],cs,ts=>(caA_R.e1 cs ts)
 | el::r,cs,ts=>(if pcE (paC el)=0 then (if pcE (paT el)=0 then caA_f  r (cs++[paC el]) (ts++[paT el]) else (caA_R.e0 cs ts)) else (caA_R.e0 cs ts))
def caA_q(m:Mo)(d:Df)(s:Sc)(bg:Bool)(ls:List Pa)(e:Ext):caA_R->PExit × S
 | .e0 cs ts=>(.ret,S.mk [(11,.uniq 46 4 (Pr.cs cs)),(12,.uniq 46 4 (Pr.cs ts)),(39,vL 8 (Pa.cs ls)),(40,vI6 (ls.length:Int)),(4,.v .nilsl),(5,.v .nilsl),(6,vI6 7)] [] e)
 | .e1 cs ts=>(.exit 0,S.mk [(11,.uniq 46 4 (Pr.cs cs)),(12,.uniq 46 4 (Pr.cs ts)),(39,vL 8 (Pa.cs ls)),(40,vI6 (ls.length:Int))] [] e)
theorem caA_lp(m:Mo)(d:Df)(hfr:Pu 25 [.agg (moL m),.agg (dfL d)] (.ret (.bool true)))(s:Sc)(bg:Bool)(hbg:Pu 27 [.agg (dfL d)] (.ret (.tup [.agg (scL s),.bool bg])))(ls:List Pa)(hpk:Pu 28 [.agg (moL m),.agg (exL (dfB d)),.agg (scL s)] (.ret (.tup [.sl 8 (Pa.cs ls),.bool true])))(hls:paS ls)(e:Ext)(hN:ls.length<=1000000000)(i:Nat)(cs ts:List Pr)(hi0:i<=ls.length)(hv:(cs.length<=i/\ts.length<=i)):(Ob.loop 68 (loopF f10 0) (caA_I m d s bg ls (i:Int) cs ts e) (caA_q m d s bg ls e (caA_f  (List.drop i (ls))  cs ts)).1 (caA_q m d s bg ls e (caA_f  (List.drop i (ls))  cs ts)).2).ok prog:=by
 refine Ob.loop_of (P:=prog) (α:={ zz:Nat × (List Pr) × (List Pr) // zz.1<=ls.length/\(fun (i:Nat) (cs ts:List Pr)=>(cs.length<=i/\ts.length<=i)) zz.1 zz.2.1 zz.2.2 }) (fun zz=>caA_I m d s bg ls (zz.1.1:Int) zz.1.2.1 zz.1.2.2 e) (fun zz=>ls.length - zz.1.1) (fun zz=>(caA_q m d s bg ls e (caA_f  (List.drop zz.1.1 (ls))  zz.1.2.1 zz.1.2.2))) ?_ ⟨(i,cs,ts),hi0,hv⟩
 clear hi0 hv
 clear cs ts i
 rintro ⟨⟨i,cs,ts⟩,hi,hv⟩ cx hcx
 simp only at hi hv ⊢
 rcases Nat.lt_or_ge i (ls.length) with hlt | hge
 ·have hd:=drop_at hlt
  by_cases h0:pcE (paC (List.getD ls i default))=0
  ·by_cases h1:pcE (paT (List.getD ls i default))=0
   ·have hr:(caA_f  (List.drop i (ls))  cs ts)=(caA_f  (List.drop (i+1) (ls))  (cs++[paC (List.getD ls i default)]) (ts++[paT (List.getD ls i default)])):=by rw [hd,caA_f,iP h0,iP h1]
    exact caA_b3 m d hfr s bg hbg ls hpk hls i cs ts e hlt hN hv h0 h1 cx hcx (.inl ⟨rfl,⟨((i+1),(cs++[paC (List.getD ls i default)]),(ts++[paT (List.getD ls i default)])),by simp only; omega,(by first | assumption | omega | (apply gDf <;> first | assumption | omega | decide) | (apply gPa <;> first | assumption | omega | decide) | (apply gC1 <;> first | assumption | omega | decide) | (apply gC2 <;> first | assumption | omega | decide) | (simp only [List.length_append,List.length_cons,List.length_nil] at *; omega) | simp_all)⟩,by simp only; omega,⟨⟨(.inl (by first | (simp only [List.nil_append,nmsC_app,nmsC_snoc,Pr.cs_snoc,Tp.cs_snoc,Ex.cs_snoc,Vr.cs_snoc,Df.cs_snoc,Pa.cs_snoc]; done) | (simp only [List.nil_append,nmsC_app,nmsC_snoc,Pr.cs_snoc,Tp.cs_snoc,Ex.cs_snoc,Vr.cs_snoc,Df.cs_snoc,Pa.cs_snoc]; rfl))),(.inl (by first | (simp only [List.nil_append,nmsC_app,nmsC_snoc,Pr.cs_snoc,Tp.cs_snoc,Ex.cs_snoc,Vr.cs_snoc,Df.cs_snoc,Pa.cs_snoc]; done) | (simp only [List.nil_append,nmsC_app,nmsC_snoc,Pr.cs_snoc,Tp.cs_snoc,Ex.cs_snoc,Vr.cs_snoc,Df.cs_snoc,Pa.cs_snoc]; rfl))),W,W,W,tVv⟩,trivial,rfl⟩,by simp only; rw [hr]⟩)
   ·have hr:(caA_f  (List.drop i (ls))  cs ts)=(caA_R.e0 cs ts):=by rw [hd,caA_f,iP h0,iN h1]
    refine caA_b2 m d hfr s bg hbg ls hpk hls i cs ts e hlt hN hv h0 h1 cx hcx (.inr ?_)
    rw [hr]
    exact ⟨by simp,rfl,xr⟩
  ·have hr:(caA_f  (List.drop i (ls))  cs ts)=(caA_R.e0 cs ts):=by rw [hd,caA_f,iN h0]
   refine caA_b1 m d hfr s bg hbg ls hpk hls i cs ts e hlt hN hv h0 cx hcx (.inr ?_)
   rw [hr]
   exact ⟨by simp,rfl,xr⟩
 ·have he:i=ls.length:=by omega
  subst he
  have hr:(caA_f  (List.drop (ls.length) (ls))  cs ts)=(caA_R.e1 cs ts):=by rw [List.drop_length,caA_f]
  refine caA_z1 m d hfr s bg hbg ls hpk hls (ls.length) cs ts e rfl hN hv  cx hcx (.inr ?_)
  rw [hr]
  exact ⟨by simp,rfl,xr⟩
theorem caA_0(m:Mo)(d:Df)(hfr:Pu 25 [.agg (moL m),.agg (dfL d)] (.ret (.bool true)))(s:Sc)(bg:Bool)(hbg:Pu 27 [.agg (dfL d)] (.ret (.tup [.agg (scL s),.bool bg])))(ls:List Pa)(hpk:Pu 28 [.agg (moL m),.agg (exL (dfB d)),.agg (scL s)] (.ret (.tup [.sl 8 (Pa.cs ls),.bool true])))(hls:paS ls)(cs ts:List Pr)(e:Ext)(hN:ls.length<=1000000000)(hv:List.length cs<=0/\List.length ts<=0)(p0:List Pr)(p1:List Pr)(hres:(caA_f  (ls)  cs ts)=(caA_R.e0 p0 p1)):(Ob.loop 68 (loopF f10 0) (caA_I m d s bg ls 0 cs ts e) (caA_q m d s bg ls e (caA_R.e0 p0 p1)).1 (caA_q m d s bg ls e (caA_R.e0 p0 p1)).2).ok prog:=by
 have:=caA_lp m d hfr s bg hbg ls hpk hls e hN 0 cs ts (Nat.zero_le _) hv
 rw [List.drop_zero] at this
 rw [hres] at this
 exact this
theorem caA_1(m:Mo)(d:Df)(hfr:Pu 25 [.agg (moL m),.agg (dfL d)] (.ret (.bool true)))(s:Sc)(bg:Bool)(hbg:Pu 27 [.agg (dfL d)] (.ret (.tup [.agg (scL s),.bool bg])))(ls:List Pa)(hpk:Pu 28 [.agg (moL m),.agg (exL (dfB d)),.agg (scL s)] (.ret (.tup [.sl 8 (Pa.cs ls),.bool true])))(hls:paS ls)(cs ts:List Pr)(e:Ext)(hN:ls.length<=1000000000)(hv:List.length cs<=0/\List.length ts<=0)(p0:List Pr)(p1:List Pr)(hres:(caA_f  (ls)  cs ts)=(caA_R.e1 p0 p1)):(Ob.loop 68 (loopF f10 0) (caA_I m d s bg ls 0 cs ts e) (caA_q m d s bg ls e (caA_R.e1 p0 p1)).1 (caA_q m d s bg ls e (caA_R.e1 p0 p1)).2).ok prog:=by
 have:=caA_lp m d hfr s bg hbg ls hpk hls e hN 0 cs ts (Nat.zero_le _) hv
 rw [List.drop_zero] at this
 rw [hres] at this
 exact this
end Go.Proofs.YtidabncghfbdaaaGreatDoor
